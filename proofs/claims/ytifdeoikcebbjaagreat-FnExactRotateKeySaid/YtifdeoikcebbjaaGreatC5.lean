/- Plain laws, no program in sight. -/
import Derived.Test.YtifdeoikcebbjaaGreatC4
set_option linter.unusedVariables false
set_option linter.unusedSimpArgs false
set_option maxRecDepth 20000
set_option maxHeartbeats 400000
namespace Go.Proofs.YtifdeoikcebbjaaGreat
open Go
open Flat (enc)
theorem Be {α : Type} {l : List α} {i : Nat} (h : i < l.length) : idx l (i : Int) = some l[i]:=by
 unfold idx
 rw [if_pos (by omega)]
 simp
theorem XF {i : Nat} (h : i < 9223372036854775807) : wr ((i : Int) + 1) = ((i + 1 : Nat) : Int):=by
 rw [YT (by omega)]; rfl

section
variable {S T : Type} {f : S → Option (Fl S T)}
theorem qf (g : Nat → S) (m n : Nat) (hmn : m ≤ n) (h : ∀ i, m ≤ i → i < n → f (g i) = some (.nx (g (i + 1)))) : ZG f (g m) = ZG f (g n) := by
  induction n with
  | zero => have : m = 0 := by omega
            subst this; rfl
  | succ n ih =>
    rcases Nat.lt_or_ge m (n + 1) with h1 | h1
    · rw [ih (by omega) (fun i h2 h3 => h i h2 (by omega)), Ws (h n (by omega) (by omega))]
    · have : m = n + 1 := by omega
      subst this; rfl
theorem Z8 (g : Nat → S) (m n : Nat) (hmn : m ≤ n) {t : T} (h : ∀ i,m ≤ i → i < n → f (g i) = some (.nx (g (i + 1)))) (he : f (g n) = some (.ex t)) : ZG f (g m) = some t:=by
 rw [qf g m n hmn h,Wf he]
theorem QK (g : Nat → S) (p : Nat → Bool) (t : Nat → T) {e : T} (n : Nat) : ∀ (k m : Nat),m + k = n → (∀ i,m ≤ i → i < n → f (g i) = some (if p i then .ex (t i) else .nx (g (i + 1)))) → f (g n) = some (.ex e) →
  ZG f (g m) = some (((List.range' m k).find? p).elim e t)
 | 0,m,hk,_,he=>by
  have : m = n:=by omega
  subst this
  rw [Wf he]; rfl
 | k + 1,m,hk,h,he=>by
  have h1:=h m (Nat.le_refl _) (by omega)
  rw [List.range'_succ,List.find?_cons]
  cases hp : p m with
  | true=>rw [hp] at h1; rw [Wf h1]; rfl
  | false =>
   rw [hp] at h1
   rw [Ws h1,QK g p t n k (m + 1) (by omega) (fun i h2 h3=>h i (by omega) h3) he]
end

theorem ye {T : Type} {f : Int → Option (Fl Int (Fl Unit T))} (p : Nat → Bool) {t : T} {n m : Nat} (hm : m ≤ n)
  (h : ∀ i,m ≤ i → i < n → f (i : Int) = some (if p i then .ex (.ex t) else .nx ((i + 1 : Nat) : Int))) (he : f (n : Int) = some (.ex (.nx ()))) :
  ZG f (m : Int) = some (if (List.range' m (n - m)).any p then .ex t else .nx ()):=by
 rw [QK (fun i : Nat=>(i : Int)) p (fun _=>.ex t) n (n - m) m (by omega) h he]
 cases hf : (List.range' m (n - m)).find? p with
 | none =>
  have : (List.range' m (n - m)).any p = false:=by
   rw [List.any_eq_false]
   rw [List.find?_eq_none] at hf
   exact hf
  rw [this]; rfl
 | some i =>
  have : (List.range' m (n - m)).any p = true:=by
   rw [List.any_eq_true]
   exact ⟨i,List.mem_of_find?_eq_some hf,List.find?_some hf⟩
  rw [this]; rfl
theorem jM {p : Nat → Bool} {m n : Nat} : (List.range' m (n - m)).any p = true ↔ ∃ i,m ≤ i ∧ i < n ∧ p i = true:=by
 rw [List.any_eq_true]
 simp only [List.mem_range'_1]
 constructor
 ·rintro ⟨i,⟨h1,h2⟩,h3⟩; exact ⟨i,h1,by omega,h3⟩
 ·rintro ⟨i,h1,h2,h3⟩; exact ⟨i,⟨h1,by omega⟩,h3⟩
theorem kP {α : Type} {q : α → Bool} {l : List α} {p : Nat → Bool} (hp : ∀ i (h : i < l.length),p i = q l[i]) : (List.range' 0 (l.length - 0)).any p = l.any q:=by
 rw [Bool.eq_iff_iff,jM,List.any_eq_true]
 constructor
 ·rintro ⟨i,_,h,h3⟩; exact ⟨l[i],List.getElem_mem h,by rw [← hp i h]; exact h3⟩
 ·rintro ⟨x,hx,h⟩
  obtain ⟨i,hi,rfl⟩:=List.mem_iff_getElem.1 hx
  exact ⟨i,Nat.zero_le _,hi,by rw [hp i hi]; exact h⟩

theorem AJ {T α : Type} {f : Int → Option (Fl Int (Fl Unit T))} (l : List α) (q : α → Bool) {t : T} (hl : l.length < 9223372036854775807)
  (h : ∀ i (hi : i < l.length),f (i : Int) = some (if q l[i] then .ex (.ex t) else .nx (wr ((i : Int) + 1)))) (he : f (l.length : Int) = some (.ex (.nx ()))) :
  ZG f 0 = some (if l.any q then .ex t else .nx ()):=by
 have:=ye (f:=f) (fun i=>if hi : i < l.length then q l[i] else false) (t:=t) (n:=l.length) (m:=0) (Nat.zero_le _) (fun i _ hi=>by
  rw [h i hi,XF (by omega)]; simp [hi]) he
 rw [kP (q:=q) (fun i hi=>by simp [hi])] at this
 exact this

class Wt (α : Type) [Dat α] where
 wt : α → Nat
 ln : α → Prop
 bdln : ∀ x,Dat.bd x → ln x
 wtln : ∀ x,wt x ≤ 1048576 → ln x
instance : Wt Int:=⟨fun _=>0,fun _=>True,fun _ _=>trivial,fun _ _=>trivial⟩
instance : Wt UInt8:=⟨fun _=>0,fun _=>True,fun _ _=>trivial,fun _ _=>trivial⟩
instance : Wt Bool:=⟨fun _=>0,fun _=>True,fun _ _=>trivial,fun _ _=>trivial⟩
instance : Wt Str:=⟨fun s=>s.l.length,fun s=>s.l.length ≤ 9223372036854775807,fun _ h=>h,fun _ h=>by omega⟩
instance {n : Nat} : Wt (Vector UInt8 n):=⟨fun _=>0,fun _=>True,fun _ _=>trivial,fun _ _=>trivial⟩
instance {n m : Nat} : Wt (Vector (Vector UInt8 m) n):=⟨fun _=>0,fun _=>True,fun _ _=>trivial,fun _ _=>trivial⟩
theorem y9 {α : Type} {f : α → Nat} {l : List α} {x : α} (h : x ∈ l) : f x ≤ (l.map f).sum:=by
 induction l with
 | nil=>cases h
 | cons y l ih =>
  rw [List.map_cons,List.sum_cons]
  rcases List.mem_cons.1 h with rfl | h
  ·omega
  ·have:=ih h; omega
instance {α : Type} [Dat α] [Wt α] : Wt (List α):=⟨fun l=>l.length + (l.map Wt.wt).sum,fun l=>l.length ≤ 9223372036854775807 ∧ ∀ x ∈ l,Wt.ln x,fun _ h=>⟨h.1,fun x hx=>Wt.bdln x (h.2 x hx)⟩,
 fun l h=>⟨by omega,fun x hx=>Wt.wtln x (by have:=y9 (f:=Wt.wt) hx; omega)⟩⟩
instance {α β : Type} [Dat α] [Dat β] [Wt α] [Wt β] : Wt (α × β):=⟨fun x=>Wt.wt x.1 + Wt.wt x.2,fun x=>Wt.ln x.1 ∧ Wt.ln x.2,fun x h=>⟨Wt.bdln x.1 h.1,Wt.bdln x.2 h.2⟩,fun x h=>⟨Wt.wtln x.1 (by omega),Wt.wtln x.2 (by omega)⟩⟩
theorem TZ {α : Type} [Dat α] [Wt α] (l : List α) : Wt.wt l = l.length + (l.map Wt.wt).sum:=rfl
theorem wt_mem {α : Type} [Dat α] [Wt α] {l : List α} {x : α} (h : x ∈ l) : Wt.wt x ≤ (l.map Wt.wt).sum:=y9 h
theorem kU {α : Type} [Dat α] [Wt α] {l : List α} {x : α} (h : x ∈ l) : Wt.wt x ≤ Wt.wt l:=by
 have:=wt_mem h; rw [TZ]; omega
theorem zt {α : Type} [Dat α] [Wt α] (l : List α) : l.length ≤ Wt.wt l:=by rw [TZ]; omega
theorem WY {α : Type} [Dat α] [Wt α] {l : List α} (h : Wt.ln l) : l.length ≤ 9223372036854775807:=h.1
theorem A6 {α : Type} [Dat α] [Wt α] {l : List α} {x : α} (h : Wt.ln l) (hx : x ∈ l) : Wt.ln x:=h.2 x hx

theorem KM {α β : Type} (p0 : List α) (c : α → Option β) (g : α → β) (by_ : Nat) (z : β) (L : List β × Int → Option (Fl (List β × Int) (List β)))
  (hL : ∀ s,L s = if (decide (s.2 < (p0.length : Int))) = true then ((idx p0 s.2).bind fun x=>(c x).bind fun r=>(idx s.1 s.2).bind fun _=>some (Fl.nx ((s.1.set (s.2).toNat r),wr (s.2 + 1)))) else (some (Fl.ex s.1)))
  (hc : ∀ x ∈ p0,c x = some (g x)) (hl : p0.length * by_ ≤ 140737488355328) (hl' : p0.length < 9223372036854775807) :
  ((mkS by_ z (p0.length : Int)).bind fun l1=>(ZG L (l1,0) : Option (List β)).bind fun j=>some j) = some (p0.map g):=by
 have hm : mkS by_ z (p0.length : Int) = some (List.replicate p0.length z):=by
  have h3 : ((p0.length * by_ : Nat) : Int) ≤ ((140737488355328 : Nat) : Int):=Int.ofNat_le.2 hl
  rw [Int.natCast_mul] at h3
  unfold mkS
  rw [if_pos ⟨by omega,h3⟩,Int.toNat_natCast]
 rw [hm]
 simp only [Option.bind_some]
 have hrun:=Z8 (f:=L) (fun i : Nat=>((p0.take i).map g ++ List.replicate (p0.length - i) z,(i : Int))) 0 p0.length (Nat.zero_le _) (t:=p0.map g) (fun i _ hi=>by
  rw [hL]
  simp only [Int.ofNat_lt,hi,decide_true,if_true,Be hi,Option.bind_some,hc _ (List.getElem_mem hi)]
  rw [Be (by simp; omega)]
  simp only [Option.bind_some,XF (show i < 9223372036854775807 by omega),Int.toNat_natCast]
  congr 3
  rw [List.set_append_right _ _ (by simp; omega)]
  have e1 : p0.length - i = (p0.length - (i + 1)) + 1:=by omega
  have e2 : i - ((p0.take i).map g).length = 0:=by simp; omega
  rw [e1,List.replicate_succ,e2,List.set_cons_zero]
  rw [List.take_succ_eq_append_getElem hi,List.map_append,List.append_assoc]
  rfl) (by
  rw [hL]
  simp)
 simp at hrun
 simp [hrun]

theorem H9 {α : Type} (p0 : List α) (ne : α → α → Option Bool) (L : Int → Option (Fl Int (Fl Unit Bool)))
  (hL : ∀ s,L s = if (decide (s < (p0.length : Int))) = true then (((idx p0 s).bind fun x=>(idx p0 s).bind fun y=>ne x y : Option Bool).bind fun j=>if j = true then (some (Fl.ex (Fl.ex false))) else (some (Fl.nx (wr (s + 1))))) else (some (Fl.ex (Fl.nx ()))))
  (hn : ∀ x ∈ p0,ne x x = some false) (hl : p0.length ≤ 9223372036854775807) :
  (if ((p0.length : Int) != (p0.length : Int)) = true then (some false) else ((ZG L 0 : Option (Fl Unit Bool)).bind fun j2=>j2.el (fun _=>some true) (fun r=>some r))) = some true:=by
 have:=Z8 (f:=L) (fun i : Nat=>(i : Int)) 0 p0.length (Nat.zero_le _) (t:=.nx ()) (fun i _ hi=>by
  rw [hL]
  simp only [Int.ofNat_lt,hi,decide_true,if_true,Be hi,Option.bind_some,hn _ (List.getElem_mem hi)]
  simp [XF (show i < 9223372036854775807 by omega)]) (by
  rw [hL]; simp)
 have h2 : ZG L 0 = some (.nx ()):=this
 simp [h2,Fl.el]

def TC {α : Type} [Dat α] [Wt α] (f : α → Int → Option Int) (x : α) : Prop:=∀ left : Int,0 ≤ left → left ≤ 1048576 → ∃ r,f x left = some r ∧ r ≤ 1048576 ∧ (0 ≤ r → r + Wt.wt x ≤ left)
theorem Jn {α : Type} [Dat α] [Wt α] {l : List α} (h0 : ∀ x : α,Wt.wt x = 0) (f : List α → Int → Option Int)
  (hf : ∀ left,f l left = if (decide ((wr (left - (l.length : Int))) < 0)) = true then (some (-1)) else (some (wr (left - (l.length : Int))))) (hl : l.length ≤ 9223372036854775807) : TC f l:=by
 intro left h1 h2
 have hs : (l.map Wt.wt).sum = 0:=by
  clear hf hl
  induction l with
  | nil=>rfl
  | cons x l ih=>rw [List.map_cons,List.sum_cons,h0,ih]
 have hw : Wt.wt l = l.length:=by rw [TZ,hs]; rfl
 rw [hf,YT (by omega),hw]
 by_cases h : left - (l.length : Int) < 0
 ·exact ⟨-1,by simp [h],by omega,by omega⟩
 ·exact ⟨left - l.length,by simp [h],by omega,by omega⟩
theorem yK {α : Type} [Dat α] [Wt α] {p0 : List α} (f : List α → Int → Option Int) (c : α → Int → Option Int) (L : Int × Int → Option (Fl (Int × Int) (Fl Int Int)))
  (hL : ∀ s,L s = if (decide (s.2 < (p0.length : Int))) = true then ((idx p0 s.2).bind fun x=>(c x s.1).bind fun r=>if (decide (r < 0)) = true then (some (Fl.ex (Fl.ex (-1)))) else (some (Fl.nx (r,wr (s.2 + 1))))) else (some (Fl.ex (Fl.nx s.1))))
  (hf : ∀ left,f p0 left = if (decide ((wr (left - (p0.length : Int))) < 0)) = true then (some (-1)) else ((ZG L (wr (left - (p0.length : Int)),0) : Option (Fl Int Int)).bind fun j2=>j2.el (fun s=>some s) (fun r=>some r)))
  (hl : p0.length ≤ 9223372036854775807) (hc : ∀ x ∈ p0,TC c x) : TC f p0:=by
 intro left h1 h2
 rw [hf,YT (by omega)]
 by_cases h : left - (p0.length : Int) < 0
 ·exact ⟨-1,by simp [h],by omega,by omega⟩
 simp only [h,decide_false,Bool.false_eq_true,if_false]
 have key : ∀ (k m : Nat) (a : Int),m + k = p0.length → 0 ≤ a → a ≤ 1048576 → ∃ o : Fl Int Int,ZG L (a,(m : Int)) = some o ∧ ((o = .ex (-1)) ∨ ∃ r,o = .nx r ∧ 0 ≤ r ∧ r + (((p0.drop m).map Wt.wt).sum : Nat) ≤ a):=by
  intro k
  induction k with
  | zero =>
   intro m a hm h0 h3
   have : m = p0.length:=by omega
   subst this
   refine ⟨.nx a,?_,.inr ⟨a,rfl,h0,?_⟩⟩
   ·rw [Wf (t:=.nx a)]; rw [hL]; simp
   ·simp
  | succ k ih =>
   intro m a hm h0 h3
   have hi : m < p0.length:=by omega
   obtain ⟨r,e1,e2,e3⟩:=hc _ (List.getElem_mem hi) a h0 h3
   have hst : L (a,(m : Int)) = (if (decide (r < 0)) = true then (some (Fl.ex (Fl.ex (-1)))) else (some (Fl.nx (r,((m + 1 : Nat) : Int))))):=by
    rw [hL]
    simp only [Int.ofNat_lt,hi,decide_true,if_true,Be hi,Option.bind_some,e1,XF (show m < 9223372036854775807 by omega)]
   by_cases hr : r < 0
   ·simp only [hr,decide_true,if_true] at hst
    exact ⟨_,Wf hst,.inl rfl⟩
   ·simp only [hr,decide_false,Bool.false_eq_true,if_false] at hst
    obtain ⟨o,k1,k2⟩:=ih (m + 1) r (by omega) (by omega) e2
    refine ⟨o,by rw [Ws hst]; exact k1,k2.imp id ?_⟩
    rintro ⟨q,rfl,q1,q2⟩
    refine ⟨q,rfl,q1,?_⟩
    have e3:=e3 (by omega)
    rw [List.drop_eq_getElem_cons hi,List.map_cons,List.sum_cons]
    omega
 obtain ⟨o,k1,k2⟩:=key p0.length 0 (left - p0.length) (by omega) (by omega) (by omega)
 have k1' : ZG L (left - (p0.length : Int),0) = some o:=k1
 rw [k1']
 rcases k2 with rfl | ⟨r,rfl,q1,q2⟩
 ·exact ⟨-1,rfl,by omega,by omega⟩
 ·refine ⟨r,rfl,by omega,fun _=>?_⟩
  rw [List.drop_zero] at q2
  rw [TZ]; omega
@[simp] theorem YE {α : Type} (l : List α) (i : Nat) : idx l (i : Int) = l[i]?:=by unfold idx; simp
@[simp] theorem idx_zero {α : Type} (l : List α) : idx l (0 : Int) = l[0]?:=YE l 0
theorem zX {T : Type} {f : Int → Option (Fl Int (Fl Unit T))} (n : Nat) (p : Nat → Bool) (t : Nat → T) (hn : n < 9223372036854775807)
  (h : ∀ i,i < n → f (i : Int) = some (if p i then .ex (.ex (t i)) else .nx (wr ((i : Int) + 1)))) (he : f (n : Int) = some (.ex (.nx ()))) (m : Nat) (hm : m ≤ n) :
  ZG f (m : Int) = some (match (List.range' m (n - m)).find? p with | some i=>.ex (t i) | none=>.nx ()):=by
 rw [QK (fun i : Nat=>(i : Int)) p (fun i=>.ex (t i)) n (n - m) m (by omega) (fun i _ hi=>by rw [h i hi,XF (by omega)]) he]
 cases (List.range' m (n - m)).find? p <;> rfl
theorem kk {T : Type} {f : Int → Option (Fl Int (Fl Unit T))} (n : Nat) (p : Nat → Bool) (t : T) (hn : n < 9223372036854775807)
  (h : ∀ i,i < n → f (i : Int) = some (if p i then .ex (.ex t) else .nx (wr ((i : Int) + 1)))) (he : f (n : Int) = some (.ex (.nx ()))) (m : Nat) (hm : m ≤ n) :
  ZG f (m : Int) = some (if (List.range' m (n - m)).any p then .ex t else .nx ()) :=
 ye p hm (fun i _ hi=>by rw [h i hi,XF (by omega)]) he
theorem QT {α β S T : Type} {f : S → Option (Fl S T)} (l : List α) (pack : β → Int → S) (g : β → α → β) (b0 : β) {t : T} (hn : l.length < 9223372036854775807)
  (h : ∀ i (hi : i < l.length),f (pack ((l.take i).foldl g b0) (i : Int)) = some (.nx (pack (g ((l.take i).foldl g b0) l[i]) (wr ((i : Int) + 1))))) (he : f (pack (l.foldl g b0) (l.length : Int)) = some (.ex t)) :
  ZG f (pack b0 0) = some t:=by
 have:=Z8 (f:=f) (fun i : Nat=>pack ((l.take i).foldl g b0) (i : Int)) 0 l.length (Nat.zero_le _) (t:=t) (fun i _ hi=>by
  rw [h i hi,XF (by omega)]
  congr 3
  rw [List.take_succ_eq_append_getElem hi,List.foldl_append]; rfl) (by rw [List.take_length]; exact he)
 simpa using this
theorem Ag {α β : Type} (g : α → β) (l : List α) (acc : List β) : l.foldl (fun b x=>b ++ [g x]) acc = acc ++ l.map g:=by
 induction l generalizing acc with
 | nil=>simp
 | cons x l ih=>simp [ih]
theorem Bt {α β T : Type} {f : List β × Int → Option (Fl (List β × Int) T)} (l : List α) (g : α → β) {t : T} (hn : l.length < 9223372036854775807)
  (h : ∀ i (hi : i < l.length),f ((l.take i).map g,(i : Int)) = some (.nx ((l.take i).map g ++ [g l[i]],wr ((i : Int) + 1)))) (he : f (l.map g,(l.length : Int)) = some (.ex t)) :
  ZG f ([],0) = some t:=by
 have e : ∀ m : List α,m.foldl (fun b x=>b ++ [g x]) [] = m.map g:=fun m=>by rw [Ag]; rfl
 exact QT (f:=f) l (fun b i=>(b,i)) (fun b x=>b ++ [g x]) [] hn (fun i hi=>by simp only [e]; exact h i hi) (by simp only [e]; exact he)
theorem XM {α : Type} {by_ : Nat} {l m : List α} (h : (l.length + m.length) * by_ ≤ 140737488355328) : app by_ l m = some (l ++ m):=by unfold app; rw [if_pos h]
theorem zb {α : Type} {l : List α} {i j : Nat} (h : i ≤ j) (h2 : j ≤ l.length) : slc l (i : Int) (j : Int) = some ((l.take j).drop i):=by
 unfold slc; rw [if_pos (by omega)]; simp

theorem TO {α : Type} {n : Nat} {v w : Vector α n} (h : ∀ i (hi : i < n),v[i] = w[i]) : v = w:=Vector.ext h
@[simp] theorem W9 {α : Type} {n : Nat} (v : Vector α n) (i : Nat) : ZM v (i : Int) = v[i]?:=by unfold ZM; simp
theorem zQ {n : Nat} (p0 : Vector UInt8 n) (L : Vector UInt8 n × Int → Option (Fl (Vector UInt8 n × Int) (Vector UInt8 n)))
  (hL : ∀ s,L s = if decide (s.2 < (n : Int)) = true then ((ZM p0 s.2).bind fun x=>(ZM s.1 s.2).bind fun _=>some (Fl.nx (s.1.setIfInBounds (s.2).toNat x,wr (s.2 + 1)))) else (some (Fl.ex s.1))) (hn : n < 9223372036854775807) (z : Vector UInt8 n) :
  ZG L (z,0) = some p0:=by
 have:=Z8 (f:=L) (fun i : Nat=>(Vector.ofFn fun j : Fin n=>if j.1 < i then p0[j] else z[j],(i : Int))) 0 n (Nat.zero_le _) (t:=p0) (fun i _ hi=>by
  rw [hL]
  simp only [Int.ofNat_lt,hi,decide_true,if_true,W9,Vector.getElem?_eq_getElem hi,Option.bind_some,Int.toNat_natCast,XF (show i < 9223372036854775807 by omega)]
  congr 3
  apply TO
  intro j hj
  rw [Vector.getElem_setIfInBounds]
  simp only [Vector.getElem_ofFn,Fin.getElem_fin]
  by_cases h : i = j
  ·subst h; simp
  ·by_cases h2 : j < i
   ·simp [h,h2,show j < i + 1 by omega]
   ·simp [h,h2,show ¬ j < i + 1 by omega]) (by
  rw [hL]
  simp only [Int.ofNat_lt,Nat.lt_irrefl,decide_false,Bool.false_eq_true,if_false]
  congr 2
  apply TO
  intro j hj
  simp [hj])
 have h0 : (Vector.ofFn fun j : Fin n=>if j.1 < 0 then p0[j] else z[j]) = z:=by
  apply TO
  intro j hj
  simp
 rw [h0] at this
 exact this
theorem kH {n : Nat} (p0 : Vector UInt8 n) (L : Int → Option (Fl Int (Fl Unit Bool)))
  (hL : ∀ s,L s = if decide (s < (n : Int)) = true then (((ZM p0 s).bind fun x=>(ZM p0 s).bind fun y=>some (x != y) : Option Bool).bind fun j=>if j = true then (some (Fl.ex (Fl.ex false))) else (some (Fl.nx (wr (s + 1))))) else (some (Fl.ex (Fl.nx ())))) (hn : n < 9223372036854775807) :
  ((ZG L 0 : Option (Fl Unit Bool)).bind fun j5=>j5.el (fun _=>some true) (fun r=>some r)) = some true:=by
 have:=Z8 (f:=L) (fun i : Nat=>(i : Int)) 0 n (Nat.zero_le _) (t:=.nx ()) (fun i _ hi=>by
  rw [hL]
  simp only [Int.ofNat_lt,hi,decide_true,if_true,W9,Vector.getElem?_eq_getElem hi,Option.bind_some]
  simp [XF (show i < 9223372036854775807 by omega)]) (by rw [hL]; simp)
 have h2 : ZG L 0 = some (.nx ()):=this
 rw [h2]; rfl

def Kj (n : Nat) (k : Int) : Vector UInt8 n:=Vector.ofFn fun j=>ZC (k + j)
theorem Al {k : Int} (h : 0 ≤ k) (h2 : k < 9223372036854775807) : wr (k + 1) = k + 1:=YT (by omega)
theorem JK {α : Type} {n : Nat} (get : α → Vector UInt8 n) (put : α → Vector UInt8 n → α) (i : Nat) (I : Int) (hI : I = i) (L : List α × Int × Int → Option (Fl (List α × Int × Int) (List α × Int)))
  (hL : ∀ s,L s = if decide (s.2.2 < (n : Int)) = true then ((idx s.1 I).bind fun x=>(ZM (get x) s.2.2).bind fun _=>some (Fl.nx (s.1.set (I).toNat (put x ((get x).setIfInBounds (s.2.2).toNat (ZC s.2.1))),wr (s.2.1 + 1),wr (s.2.2 + 1)))) else (some (Fl.ex (s.1,s.2.1))))
  (hgp : ∀ x v,get (put x v) = v) (hpp : ∀ x v w,put (put x v) w = put x w) (hpg : ∀ x,put x (get x) = x) (hn : n < 9223372036854775807)
  (l : List α) (hi : i < l.length) (k : Int) (h0 : 0 ≤ k) (hk : k + n ≤ 4611686018427387904) : ZG L (l,k,0) = some (l.set i (put l[i] (Kj n k)),k + n):=by
 subst hI
 have:=Z8 (f:=L) (fun j : Nat=>(l.set i (put l[i] (Vector.ofFn fun q : Fin n=>if q.1 < j then ZC (k + q) else (get l[i])[q])),k + j,(j : Int))) 0 n (Nat.zero_le _) (t:=(l.set i (put l[i] (Kj n k)),k + n)) (fun j _ hj=>by
  rw [hL]
  have hi' : i < (l.set i (put l[i] (Vector.ofFn fun q : Fin n=>if q.1 < j then ZC (k + q) else (get l[i])[q]))).length:=by simpa using hi
  simp only [Int.ofNat_lt,hj,decide_true,if_true,YE,W9,List.getElem?_eq_getElem hi',Vector.getElem?_eq_getElem hj,Option.bind_some,Int.toNat_natCast,XF (show j < 9223372036854775807 by omega),List.getElem_set_self,hgp,hpp,List.set_set]
  rw [Al (by omega) (by omega)]
  congr 3
  ·congr 2
   apply TO
   intro q hq
   rw [Vector.getElem_setIfInBounds]
   simp only [Vector.getElem_ofFn,Fin.getElem_fin]
   by_cases h : j = q
   ·subst h; simp
   ·by_cases h2 : q < j
    ·simp [h,h2,show q < j + 1 by omega]
    ·simp [h,h2,show ¬ q < j + 1 by omega]
  ·congr 1
   omega) (by
  rw [hL]
  simp only [Int.ofNat_lt,Nat.lt_irrefl,decide_false,Bool.false_eq_true,if_false]
  have e : (Vector.ofFn fun q : Fin n=>if q.1 < n then ZC (k + q) else (get l[i])[q]) = Kj n k:=by
   unfold Kj
   apply TO
   intro j hj
   simp [hj]
  rw [e])
 have h0' : (Vector.ofFn fun q : Fin n=>if q.1 < 0 then ZC (k + q) else (get l[i])[q]) = get l[i]:=by
  apply TO
  intro j hj
  simp
 rw [h0',hpg,List.set_getElem_self] at this
 simpa using this
theorem JV {α : Type} {n : Nat} (get : α → Vector UInt8 n) (l : List α) (i : Nat) (I : Int) (hI : I = i) (L : Int × Int → Option (Fl (Int × Int) (Fl Int Int)))
  (hL : ∀ s,L s = if decide (s.2 < (n : Int)) = true then ((idx l I).bind fun x=>(ZM (get x) s.2).bind fun b=>if (b != (ZC s.1)) = true then (some (Fl.ex (Fl.ex (-1)))) else (some (Fl.nx (wr (s.1 + 1),wr (s.2 + 1))))) else (some (Fl.ex (Fl.nx s.1))))
  {x : α} (hx : l[i]? = some x) (k : Int) (h0 : 0 ≤ k) (hk : k + n ≤ 4611686018427387904) (hg : get x = Kj n k) : ZG L (k,0) = some (.nx (k + n)):=by
 subst hI
 have:=Z8 (f:=L) (fun j : Nat=>(k + j,(j : Int))) 0 n (Nat.zero_le _) (t:=.nx (k + n)) (fun j _ hj=>by
  rw [hL]
  simp only [Int.ofNat_lt,hj,decide_true,if_true,YE,W9,hx,Vector.getElem?_eq_getElem hj,Option.bind_some,XF (show j < 9223372036854775807 by omega)]
  rw [Al (by omega) (by omega)]
  have : (get x)[j] = ZC (k + j):=by simp [hg,Kj]
  rw [this]
  simp only [bne_self_eq_false,Bool.false_eq_true,if_false]
  congr 3
  omega) (by rw [hL]; simp)
 simpa using this
def BC {α : Type} (Fm : α → Int → Option (α × Int)) (Fh : α → Int → Option Int) (x : α) (n : Nat) : Prop :=
 ∀ k : Int,0 ≤ k → k + n ≤ 4611686018427387904 → ∃ x',Fm x k = some (x',k + n) ∧ Fh x' k = some (k + n)
theorem KK {α : Type} (Fm : List α → Int → Option (List α × Int)) (Fh : List α → Int → Option Int) (Lm : List α × Int × Int → Option (Fl (List α × Int × Int) (List α × Int))) (Lh : List α → Int × Int → Option (Fl (Int × Int) (Fl Int Int))) (mk : α → Nat)
  (hFm : ∀ l k,Fm l k = (ZG Lm (l,k,0) : Option (List α × Int)).bind fun j1=>some (j1.1,j1.2)) (hFh : ∀ l k,Fh l k = (ZG (Lh l) (k,0) : Option (Fl Int Int)).bind fun j1=>j1.el (fun s=>some s) (fun r=>some r))
  (l : List α) (hl : l.length ≤ 9223372036854775807)
  (hm : ∀ (l' : List α) (i : Nat) (k : Int) (hi : i < l'.length),l'[i] ∈ l → i < 9223372036854775807 → 0 ≤ k → k + mk l'[i] ≤ 4611686018427387904 → ∃ x',Lm (l',k,(i : Int)) = some (.nx (l'.set i x',k + mk l'[i],wr ((i : Int) + 1))) ∧
   ∀ (m : List α),m[i]? = some x' → Lh m (k,(i : Int)) = some (.nx (k + mk l'[i],wr ((i : Int) + 1))))
  (hme : ∀ (l' : List α) k,Lm (l',k,(l'.length : Int)) = some (.ex (l',k))) (hhe : ∀ (m : List α) k,Lh m (k,(m.length : Int)) = some (.ex (.nx k))) : BC Fm Fh l (l.map mk).sum:=by
 have aux : ∀ (n i : Nat) (l' : List α) (k : Int),i + n = l'.length → l'.length = l.length → l'.drop i = l.drop i → 0 ≤ k → k + (((l.drop i).map mk).sum : Nat) ≤ 4611686018427387904 →
   ∃ l'',ZG Lm (l',k,(i : Int)) = some (l'',k + (((l.drop i).map mk).sum : Nat)) ∧ l''.length = l'.length ∧ (∀ j,j < i → l''[j]? = l'[j]?) ∧ ZG (Lh l'') (k,(i : Int)) = some (.nx (k + (((l.drop i).map mk).sum : Nat))):=by
  intro n
  induction n with
  | zero =>
   intro i l' k hi hll hd h0 hk
   have hi : i = l'.length:=by omega
   subst hi
   have e : l.drop l'.length = []:=by rw [hll]; simp
   rw [e]
   refine ⟨l',?_,rfl,fun _ _=>rfl,?_⟩
   ·rw [Wf (hme l' k)]; simp
   ·rw [Wf (hhe l' k)]; simp
  | succ n ih =>
   intro i l' k hi hll hd h0 hk
   have hil : i < l'.length:=by omega
   have hil2 : i < l.length:=by omega
   have e1 : l'[i] = l[i]:=by
    have h1:=List.drop_eq_getElem_cons hil
    have h2:=List.drop_eq_getElem_cons hil2
    rw [h1,h2] at hd
    exact (List.cons.inj hd).1
   have e2 : l.drop i = l[i] :: l.drop (i + 1):=List.drop_eq_getElem_cons hil2
   rw [e2,List.map_cons,List.sum_cons] at hk ⊢
   obtain ⟨x',h1,h2⟩:=hm l' i k hil (by rw [e1]; exact List.getElem_mem hil2) (by omega) h0 (by rw [e1]; omega)
   rw [e1] at h1 h2
   rw [XF (by omega)] at h1 h2
   obtain ⟨l'',k1,k2,k3,k4⟩:=ih (i + 1) (l'.set i x') (k + mk l[i]) (by simp; omega) (by simpa using hll) (by
    rw [List.drop_set_of_lt (by omega)]
    have h1:=List.drop_eq_getElem_cons hil
    rw [h1,e2] at hd
    exact (List.cons.inj hd).2) (by omega) (by omega)
   refine ⟨l'',?_,by simpa using k2,fun j hj=>?_,?_⟩
   ·rw [Ws h1,k1]; congr 2; omega
   ·rw [k3 j (by omega),List.getElem?_set_ne (by omega)]
   ·rw [Ws (h2 l'' (by rw [k3 i (by omega)]; simp [hil])),k4]; congr 2; omega
 intro k h0 hk
 obtain ⟨l'',k1,k2,k3,k4⟩:=aux l.length 0 l k (by omega) rfl rfl h0 (by simpa using hk)
 simp only [List.drop_zero] at k1 k4
 refine ⟨l'',?_,?_⟩
 ·rw [hFm]
  have : ZG Lm (l,k,0) = _:=k1
  rw [this]; rfl
 ·rw [hFh]
  have : ZG (Lh l'') (k,0) = _:=k4
  rw [this]; rfl
theorem Hi {α : Type} [Dat α] [Wt α] (mk : α → Nat) (c : Nat) (h : ∀ x,mk x ≤ c * (1 + Wt.wt x)) (l : List α) : (l.map mk).sum ≤ c * Wt.wt l:=by
 rw [TZ]
 induction l with
 | nil=>simp
 | cons x l ih =>
  have:=h x
  simp only [List.map_cons,List.sum_cons,List.length_cons]
  have e : c * (l.length + 1 + (Wt.wt x + (l.map Wt.wt).sum)) = c * (1 + Wt.wt x) + c * (l.length + (l.map Wt.wt).sum):=by
   rw [← Nat.mul_add]; congr 1; omega
  omega
theorem yc (l : List UInt8) : Wt.wt l = l.length:=by
 rw [TZ]
 have : (l.map Wt.wt).sum = 0:=by
  induction l with
  | nil=>rfl
  | cons x l ih=>rw [List.map_cons,List.sum_cons,ih]; rfl
 omega
theorem AT (l : List UInt8) (h : Wt.wt l ≤ 1048576) : VQ l = some l:=by
 have:=zt l
 unfold VQ
 have:=KM l (fun x=>some x) id 1 0 (Tw l) (fun s=>by unfold Tw; rfl) (fun _ _=>rfl) (by omega) (by omega)
 simpa using this
theorem Aw (l : List UInt8) (h : Wt.ln l) : VC l l = some true:=by
 unfold VC
 exact H9 l (fun x y=>some (x != y)) (Tv l l) (fun s=>by unfold Tv; rfl) (fun x _=>by simp) (WY h)
theorem AN (l : List UInt8) (h : Wt.ln l) : TC X1 l :=
 Jn (fun _=>rfl) X1 (fun left=>by unfold X1; rfl) (WY h)
theorem HI (l : List UInt8) (h : Wt.ln l) : BC YI Wy l (l.map fun _=>1).sum :=
 KK YI Wy Y3 Vi (fun _=>1) (fun _ _=>rfl) (fun _ _=>rfl) l (WY h) (fun l' i k hi _ _ h0 hk=>by
  have e:=Al (k:=k) h0 (by omega)
  refine ⟨ZC k,?_,fun m hm=>?_⟩
  ·unfold Y3
   simp only [Int.ofNat_lt,hi,decide_true,if_true,YE,List.getElem?_eq_getElem hi,Option.bind_some,Int.toNat_natCast,e]; rfl
  ·have hi':=(List.getElem?_eq_some_iff.1 hm).1
   unfold Vi
   simp only [Int.ofNat_lt,hi',decide_true,if_true,YE,hm,Option.bind_some,bne_self_eq_false,Bool.false_eq_true,if_false,e]; rfl) (fun l' k=>by unfold Y3; simp) (fun m k=>by unfold Vi; simp)
instance : Wt GRecord:=⟨fun x=>Wt.wt x.Label + Wt.wt x.Body,fun x=>Wt.ln x.Label ∧ Wt.ln x.Body,fun x h=>⟨Wt.bdln x.Label h.2.2.2.1,Wt.bdln x.Body h.2.2.2.2.1⟩,fun x h=>⟨Wt.wtln x.Label (by omega),Wt.wtln x.Body (by omega)⟩⟩
instance : Wt GEvent:=⟨fun _=>0,fun _=>True,fun _ _=>trivial,fun _ _=>trivial⟩
instance : Wt GVault:=⟨fun x=>Wt.wt x.Keys + (Wt.wt x.Records + Wt.wt x.Events),fun x=>Wt.ln x.Keys ∧ Wt.ln x.Records ∧ Wt.ln x.Events,fun x h=>⟨Wt.bdln x.Keys h.1,Wt.bdln x.Records h.2.2.1,Wt.bdln x.Events h.2.2.2.1⟩,
 fun x h=>⟨Wt.wtln x.Keys (by omega),Wt.wtln x.Records (by omega),Wt.wtln x.Events (by omega)⟩⟩
theorem Ha (x : Vector UInt8 16) : Xb x = some x:=by
 unfold Xb
 rw [zQ x (Tu x) (fun s=>by unfold Tu; rfl) (by omega)]; rfl
theorem Jo (x : Vector UInt8 32) : Wi x = some x:=by
 unfold Wi
 rw [zQ x (U7 x) (fun s=>by unfold U7; rfl) (by omega)]; rfl
theorem AP (x : Vector UInt8 16) : WX x x = some true:=by
 unfold WX
 exact kH x (Tx x x) (fun s=>by unfold Tx; rfl) (by omega)
theorem Jj (x : Vector UInt8 32) : Wk x x = some true:=by
 unfold Wk
 exact kH x (Ta x x) (fun s=>by unfold Ta; rfl) (by omega)
theorem yp (l : List (Vector UInt8 16)) (h : Wt.wt l ≤ 1048576) : Un l = some l:=by
 have:=zt l
 unfold Un
 have:=KM l Xb id 16 (Vector.replicate 16 0) (U4 l) (fun s=>by unfold U4; rfl) (fun x _=>Ha x) (by omega) (by omega)
 simpa using this
theorem ym (l : List (Vector UInt8 16)) (h : Wt.ln l) : Uq l l = some true:=by
 unfold Uq
 exact H9 l (fun x y=>(WX x y).bind fun r=>some (!r)) (Te l l) (fun s=>by unfold Te; rfl) (fun x _=>by simp [AP x]) (WY h)
theorem yA (l : List (Vector UInt8 16)) (h : Wt.ln l) : TC Va l :=
 Jn (fun _=>rfl) Va (fun left=>by unfold Va; rfl) (WY h)
theorem KW (l' : List (Vector UInt8 16)) (i : Nat) (k : Int) (hi : i < l'.length) (h0 : 0 ≤ k) (hk : k + 16 ≤ 4611686018427387904) :
  YV (l',k,(i : Int)) = some (.nx (l'.set i (Kj 16 k),k + 16,wr ((i : Int) + 1))):=by
 unfold YV
 have h1:=JK (n:=16) (fun x : Vector UInt8 16=>x) (fun _ v=>v) i i rfl (V7 (l',k,(i : Int))) (fun s=>by unfold V7; rfl) (fun _ _=>rfl) (fun _ _ _=>rfl) (fun _=>rfl) (by omega) l' hi k h0 hk
 simp only [Int.ofNat_lt,hi,decide_true,if_true,h1,Option.bind_some]
 rfl
theorem zf (l : List (Vector UInt8 16)) (h : Wt.ln l) : BC Xq Vl l (l.map fun _=>16).sum :=
 KK Xq Vl YV WP (fun _=>16) (fun _ _=>rfl) (fun _ _=>rfl) l (WY h) (fun l' i k hi _ _ h0 hk=>by
  refine ⟨Kj 16 k,KW l' i k hi h0 (by omega),fun m hm=>?_⟩
  have hi':=(List.getElem?_eq_some_iff.1 hm).1
  unfold WP
  have h1:=JV (n:=16) (fun x : Vector UInt8 16=>x) m i i rfl (Ue m (k,(i : Int))) (fun s=>by unfold Ue; rfl) hm k h0 (by omega) rfl
  simp only [Int.ofNat_lt,hi',decide_true,if_true,h1,Option.bind_some,Fl.el]
  try rfl) (fun l' k=>by unfold YV; simp) (fun m k=>by unfold WP; simp)
theorem yI (x : GRecord) (h : Wt.wt x ≤ 1048576) : W5 x = some x:=by
 have h : Wt.wt x.Label + Wt.wt x.Body ≤ 1048576:=h
 unfold W5
 simp [Ha,Jo,AT x.Label (by omega),AT x.Body (by omega)]
theorem yj (l : List GRecord) (h : Wt.wt l ≤ 1048576) : VL l = some l:=by
 have:=zt l
 unfold VL
 have:=KM l W5 id 112 ⟨0,0,Vector.replicate 16 0,[],[],Vector.replicate 32 0⟩ (UG l) (fun s=>by unfold UG; rfl) (fun x hx=>yI x (Nat.le_trans (kU hx) h)) (by omega) (by omega)
 simpa using this
theorem yD (x : GRecord) (h : Wt.ln x) : W3 x x = some true:=by
 unfold W3
 simp [AP,Jj,Aw x.Label h.1,Aw x.Body h.2]
theorem zC (l : List GRecord) (h : Wt.ln l) : VZ l l = some true:=by
 unfold VZ
 exact H9 l (fun x y=>(W3 x y).bind fun r=>some (!r)) (UE l l) (fun s=>by unfold UE; rfl) (fun x hx=>by simp [yD x (A6 h hx)]) (WY h)
theorem K7 {α β : Type} [Dat α] [Wt α] [Dat β] [Wt β] {f : α → Int → Option Int} {g : β → Int → Option Int} {x : α} {y : β} (hf : TC f x) (hg : TC g y) (left : Int) (h1 : 0 ≤ left) (h2 : left ≤ 1048576) :
  ∃ r,((f x left).bind fun r=>if decide (r < 0) = true then some (-1) else g y r) = some r ∧ r ≤ 1048576 ∧ (0 ≤ r → r + (Wt.wt x + Wt.wt y : Nat) ≤ left):=by
 obtain ⟨r,e1,e2,e3⟩:=hf left h1 h2
 rw [e1]
 by_cases hr : r < 0
 ·exact ⟨-1,by simp [hr],by omega,by omega⟩
 ·have e3:=e3 (by omega)
  obtain ⟨q,k1,k2,k3⟩:=hg r (by omega) e2
  refine ⟨q,by simp [hr,k1],k2,fun hq=>?_⟩
  have:=k3 hq
  omega
theorem Ax {f : Option Int} {left w : Int} (h : ∃ r,f = some r ∧ r ≤ 1048576 ∧ (0 ≤ r → r + w ≤ left)) : ∃ r,(f.bind fun r=>if decide (r < 0) = true then some (-1) else some r) = some r ∧ r ≤ 1048576 ∧ (0 ≤ r → r + w ≤ left):=by
 obtain ⟨r,e1,e2,e3⟩:=h
 by_cases hr : r < 0
 ·exact ⟨-1,by simp [e1,hr],by omega,by omega⟩
 ·exact ⟨r,by simp [e1,hr],e2,e3⟩
theorem yC (x : GRecord) (h : Wt.ln x) : TC Ut x:=by
 intro left h1 h2
 have h3 : TC (fun (y : List UInt8) r=>(X1 y r).bind fun r=>if decide (r < 0) = true then some (-1) else some r) x.Body:=fun left h1 h2=>Ax (AN x.Body h.2 left h1 h2)
 have:=K7 (AN x.Label h.1) h3 left h1 h2
 exact this
theorem yg (l : List GRecord) (h : Wt.ln l) : TC XN l :=
 yK XN Ut (UH l) (fun s=>by unfold UH; rfl) (fun left=>by unfold XN; rfl) (WY h) (fun x hx=>yC x (A6 h hx))
theorem jK (x : GEvent) : VY x = some x:=by
 unfold VY
 simp [Jo]
theorem yL (l : List GEvent) (h : Wt.wt l ≤ 1048576) : Uh l = some l:=by
 have:=zt l
 unfold Uh
 have:=KM l VY id 48 ⟨0,0,Vector.replicate 32 0⟩ (U3 l) (fun s=>by unfold U3; rfl) (fun x _=>jK x) (by omega) (by omega)
 simpa using this
theorem jt (x : GEvent) : VP x x = some true:=by
 unfold VP
 simp [Jj]
theorem yT (l : List GEvent) (h : Wt.ln l) : Uo l l = some true:=by
 unfold Uo
 exact H9 l (fun x y=>(VP x y).bind fun r=>some (!r)) (U6 l l) (fun s=>by unfold U6; rfl) (fun x _=>by simp [jt x]) (WY h)
theorem yH (l : List GEvent) (h : Wt.ln l) : TC XD l :=
 Jn (fun _=>rfl) XD (fun left=>by unfold XD; rfl) (WY h)
theorem B4 (x : GVault) : Wt.wt x = Wt.wt x.Keys + (Wt.wt x.Records + Wt.wt x.Events):=rfl
theorem jA (x : GVault) (h : Wt.wt x ≤ 1048576) : X3 x = some x:=by
 rw [B4] at h
 unfold X3
 simp [Jo,yp x.Keys (by omega),yj x.Records (by omega),yL x.Events (by omega)]
theorem Ar (x : GVault) (h : Wt.ln x) : XX x x = some true:=by
 unfold XX
 simp [Jj,ym x.Keys h.1,zC x.Records h.2.1,yT x.Events h.2.2]
theorem jD (x : GVault) (h : Wt.ln x) : TC TJ x:=by
 intro left h1 h2
 have h3 : TC (fun (y : List GEvent) r=>(XD y r).bind fun r=>if decide (r < 0) = true then some (-1) else some r) x.Events:=fun left h1 h2=>Ax (yH x.Events h.2.2 left h1 h2)
 have h4 : TC (α:=List GRecord × List GEvent) (fun y r=>(XN y.1 r).bind fun r=>if decide (r < 0) = true then some (-1) else (XD y.2 r).bind fun r=>if decide (r < 0) = true then some (-1) else some r) (x.Records,x.Events):=fun left h1 h2=>K7 (yg x.Records h.2.1) h3 left h1 h2
 exact K7 (yA x.Keys h.1) h4 left h1 h2
def J9 {α : Type} (Fm : α → Int → Option (α × Int)) (x : α) (n : Nat) : Prop :=
 ∀ k : Int,0 ≤ k → k + n ≤ 4611686018427387904 → ∃ x',Fm x k = some (x',k + n)
theorem Bb {α : Type} (Fm : List α → Int → Option (List α × Int)) (Lm : List α × Int × Int → Option (Fl (List α × Int × Int) (List α × Int))) (mk : α → Nat)
  (hFm : ∀ l k,Fm l k = (ZG Lm (l,k,0) : Option (List α × Int)).bind fun j1=>some (j1.1,j1.2)) (l : List α) (hl : l.length ≤ 9223372036854775807)
  (hm : ∀ (l' : List α) (i : Nat) (k : Int) (hi : i < l'.length),l'[i] ∈ l → i < 9223372036854775807 → 0 ≤ k → k + mk l'[i] ≤ 4611686018427387904 → ∃ x',Lm (l',k,(i : Int)) = some (.nx (l'.set i x',k + mk l'[i],wr ((i : Int) + 1))))
  (hme : ∀ (l' : List α) k,Lm (l',k,(l'.length : Int)) = some (.ex (l',k))) : J9 Fm l (l.map mk).sum:=by
 intro k h0 hk
 have aux : ∀ (n i : Nat) (l' : List α) (k : Int),i + n = l'.length → l'.length = l.length → l'.drop i = l.drop i → 0 ≤ k → k + (((l.drop i).map mk).sum : Nat) ≤ 4611686018427387904 →
   ∃ l'',ZG Lm (l',k,(i : Int)) = some (l'',k + (((l.drop i).map mk).sum : Nat)):=by
  intro n
  induction n with
  | zero =>
   intro i l' k hi hll hd h0 hk
   have hi : i = l'.length:=by omega
   subst hi
   have e : l.drop l'.length = []:=by rw [hll]; simp
   rw [e]
   exact ⟨l',by rw [Wf (hme l' k)]; simp⟩
  | succ n ih =>
   intro i l' k hi hll hd h0 hk
   have hil : i < l'.length:=by omega
   have hil2 : i < l.length:=by omega
   have h1:=List.drop_eq_getElem_cons hil
   have e2 : l.drop i = l[i] :: l.drop (i + 1):=List.drop_eq_getElem_cons hil2
   rw [h1,e2] at hd
   have e1:=(List.cons.inj hd).1
   rw [e2,List.map_cons,List.sum_cons] at hk ⊢
   obtain ⟨x',h1⟩:=hm l' i k hil (by rw [e1]; exact List.getElem_mem hil2) (by omega) h0 (by rw [e1]; omega)
   rw [e1,XF (by omega)] at h1
   obtain ⟨l'',k1⟩:=ih (i + 1) (l'.set i x') (k + mk l[i]) (by simp; omega) (by simpa using hll) (by
    rw [List.drop_set_of_lt (by omega)]
    exact (List.cons.inj hd).2) (by omega) (by omega)
   exact ⟨l'',by rw [Ws h1,k1]; congr 2; omega⟩
 obtain ⟨l'',k1⟩:=aux l.length 0 l k (by omega) rfl rfl h0 (by simpa using hk)
 simp only [List.drop_zero] at k1
 refine ⟨l'',?_⟩
 rw [hFm]
 have : ZG Lm (l,k,0) = _:=k1
 rw [this]; rfl
theorem Hz (l : List UInt8) (h : Wt.ln l) : J9 YI l (l.map fun _=>1).sum :=
 Bb YI Y3 (fun _=>1) (fun _ _=>rfl) l (WY h) (fun l' i k hi _ _ h0 hk=>by
  have e:=Al (k:=k) h0 (by omega)
  refine ⟨ZC k,?_⟩
  unfold Y3
  simp only [Int.ofNat_lt,hi,decide_true,if_true,YE,List.getElem?_eq_getElem hi,Option.bind_some,Int.toNat_natCast,e]; rfl) (fun l' k=>by unfold Y3; simp)
theorem zi (l : List (Vector UInt8 16)) (h : Wt.ln l) : J9 Xq l (l.map fun _=>16).sum :=
 Bb Xq YV (fun _=>16) (fun _ _=>rfl) l (WY h) (fun l' i k hi _ _ h0 hk=>⟨_,KW l' i k hi h0 (by omega)⟩) (fun l' k=>by unfold YV; simp)
def XK (x : GRecord) : Nat:=50 + ((x.Label.map fun _=>1).sum + (x.Body.map fun _=>1).sum)
theorem KH (l' : List GRecord) (i : Nat) (k : Int) (hi : i < l'.length) (h0 : 0 ≤ k) (hk : k + XK l'[i] ≤ 4611686018427387904) {la bo : List UInt8}
  (hla : YI l'[i].Label (k + 18) = some (la,k + 18 + ((l'[i].Label.map fun _=>1).sum : Nat))) (hbo : YI l'[i].Body (k + 18 + ((l'[i].Label.map fun _=>1).sum : Nat)) = some (bo,k + 18 + ((l'[i].Label.map fun _=>1).sum : Nat) + ((l'[i].Body.map fun _=>1).sum : Nat))) :
  YJ (l',k,(i : Int)) = some (.nx (l'.set i ⟨k,k + 1,Kj 16 (k + 2),la,bo,Kj 32 (k + 18 + ((l'[i].Label.map fun _=>1).sum : Nat) + ((l'[i].Body.map fun _=>1).sum : Nat))⟩,k + XK l'[i],wr ((i : Int) + 1))):=by
 unfold XK at hk
 have e1:=Al (k:=k) h0 (by omega)
 have e2:=Al (k:=k + 1) (by omega) (by omega)
 unfold YJ
 have hi2 : i < (l'.set i (⟨k,k + 1,l'[i].Nonce,l'[i].Label,l'[i].Body,l'[i].Tag⟩ : GRecord)).length:=by simpa using hi
 have h1:=JK (n:=16) (fun x : GRecord=>x.Nonce) (fun x v=>⟨x.Number,x.Version,v,x.Label,x.Body,x.Tag⟩) i i rfl (Vw (l',k,(i : Int))) (fun s=>by unfold Vw; rfl) (fun _ _=>rfl) (fun _ _ _=>rfl) (fun _=>rfl) (by omega) _ hi2 (k + 1 + 1) (by omega) (by omega)
 rw [show k + 1 + 1 + ((16 : Nat) : Int) = k + 18 by omega] at h1
 simp only [List.getElem_set_self,List.set_set] at h1
 simp only [Int.ofNat_lt,hi,decide_true,if_true,YE,List.getElem?_eq_getElem hi,Option.bind_some,Int.toNat_natCast,e1,List.getElem?_set_self hi,List.set_set,e2,h1,hla,hbo]
 have hi3 : i < (l'.set i (⟨k,k + 1,Kj 16 (k + 1 + 1),la,bo,l'[i].Tag⟩ : GRecord)).length:=by simpa using hi
 have h2:=JK (n:=32) (fun x : GRecord=>x.Tag) (fun x v=>⟨x.Number,x.Version,x.Nonce,x.Label,x.Body,v⟩) i i rfl (Vv (l',k,(i : Int))) (fun s=>by unfold Vv; rfl) (fun _ _=>rfl) (fun _ _ _=>rfl) (fun _=>rfl) (by omega) _ hi3
  (k + 18 + ((l'[i].Label.map fun _=>1).sum : Nat) + ((l'[i].Body.map fun _=>1).sum : Nat)) (by omega) (by omega)
 simp only [List.getElem_set_self,List.set_set] at h2
 rw [h2]
 simp only [Option.bind_some]
 rw [show k + 1 + 1 = k + 2 by omega]
 congr 3
 congr 1
 unfold XK
 omega
theorem Ab (l : List GRecord) (h : Wt.ln l) : J9 Xg l (l.map XK).sum :=
 Bb Xg YJ XK (fun _ _=>rfl) l (WY h) (fun l' i k hi hx _ h0 hk=>by
  have hk':=hk
  unfold XK at hk'
  have hln : Wt.ln l'[i]:=A6 h hx
  obtain ⟨la,h1⟩:=Hz l'[i].Label hln.1 (k + 18) (by omega) (by omega)
  obtain ⟨bo,h2⟩:=Hz l'[i].Body hln.2 (k + 18 + ((l'[i].Label.map fun _=>1).sum : Nat)) (by omega) (by omega)
  exact ⟨_,KH l' i k hi h0 hk h1 h2⟩) (fun l' k=>by unfold YJ; simp)
theorem KX (l' : List GEvent) (i : Nat) (k : Int) (hi : i < l'.length) (h0 : 0 ≤ k) (hk : k + 34 ≤ 4611686018427387904) :
  YS (l',k,(i : Int)) = some (.nx (l'.set i ⟨k,k + 1,Kj 32 (k + 2)⟩,k + 34,wr ((i : Int) + 1))):=by
 have e1:=Al (k:=k) h0 (by omega)
 have e2:=Al (k:=k + 1) (by omega) (by omega)
 unfold YS
 have hi2 : i < (l'.set i (⟨k,k + 1,l'[i].Tag⟩ : GEvent)).length:=by simpa using hi
 have h1:=JK (n:=32) (fun x : GEvent=>x.Tag) (fun x v=>⟨x.Kind,x.Number,v⟩) i i rfl (V6 (l',k,(i : Int))) (fun s=>by unfold V6; rfl) (fun _ _=>rfl) (fun _ _ _=>rfl) (fun _=>rfl) (by omega) _ hi2 (k + 1 + 1) (by omega) (by omega)
 rw [show k + 1 + 1 + ((32 : Nat) : Int) = k + 34 by omega] at h1
 simp only [List.getElem_set_self,List.set_set] at h1
 simp only [Int.ofNat_lt,hi,decide_true,if_true,YE,List.getElem?_eq_getElem hi,Option.bind_some,Int.toNat_natCast,e1,List.getElem?_set_self hi,List.set_set,e2,h1]
 rw [show k + 1 + 1 = k + 2 by omega]
theorem zq (l : List GEvent) (h : Wt.ln l) : J9 Xp l (l.map fun _=>34).sum :=
 Bb Xp YS (fun _=>34) (fun _ _=>rfl) l (WY h) (fun l' i k hi _ _ h0 hk=>⟨_,KX l' i k hi h0 (by omega)⟩) (fun l' k=>by unfold YS; simp)
def U2 (x : GVault) : Nat:=(x.Keys.map fun _=>16).sum + ((x.Records.map XK).sum + (x.Events.map fun _=>34).sum)
theorem jb (l : List UInt8) : (l.map fun _=>1).sum = l.length:=by
 induction l with
 | nil=>rfl
 | cons x l ih=>rw [List.map_cons,List.sum_cons,ih,List.length_cons]; omega
theorem Bm (x : GVault) : U2 x ≤ 50 * Wt.wt x:=by
 have h1:=Hi (fun _ : Vector UInt8 16=>16) 50 (fun _=>by omega) x.Keys
 have h2:=Hi XK 50 (fun x=>by
  unfold XK
  have e : Wt.wt x = Wt.wt x.Label + Wt.wt x.Body:=rfl
  rw [e,yc,yc,jb,jb]; omega) x.Records
 have h3:=Hi (fun _ : GEvent=>34) 50 (fun _=>by omega) x.Events
 rw [B4]; unfold U2; omega
theorem zZ (x : GVault) (h : Wt.ln x) : J9 Xj x (U2 x):=by
 intro k h0 hk
 unfold U2 at hk
 obtain ⟨a,h1⟩:=zi x.Keys h.1 k h0 (by omega)
 obtain ⟨b,h2⟩:=Ab x.Records h.2.1 _ (by omega : (0 : Int) ≤ k + ((x.Keys.map fun _=>16).sum : Nat)) (by omega)
 obtain ⟨c,h3⟩:=zq x.Events h.2.2 _ (by omega : (0 : Int) ≤ k + ((x.Keys.map fun _=>16).sum : Nat) + ((x.Records.map XK).sum : Nat)) (by omega)
 refine ⟨⟨a,x.Next,b,c,x.Head⟩,?_⟩
 unfold Xj
 rw [h1]; simp only [Option.bind_some]; rw [h2]; simp only [Option.bind_some]; rw [h3]; simp only [Option.bind_some]
 unfold U2
 congr 2
 omega
theorem Hm (n a b : Int) : Y8 n a b = some (decide (a ≤ n ∧ n ≤ b)):=by
 unfold Y8
 by_cases h1 : a ≤ n <;> by_cases h2 : n ≤ b <;> simp [h1,h2]
theorem AU (n a b : Int) : Vg n a b = some (decide (a ≤ n ∧ n ≤ b)):=by
 unfold Vg
 by_cases h1 : a ≤ n <;> by_cases h2 : n ≤ b <;> simp [h1,h2]
theorem y6 {α : Type} (l : List α) (p : α → Option Bool) (q : α → Bool) (L : Int → Option (Fl Int (Fl Unit Int)))
  (hL : ∀ s,L s = if (decide (s < (l.length : Int))) = true then ((idx l s).bind fun x=>((p x)).bind fun r=>if r = true then (some (Fl.ex (Fl.ex s))) else (some (Fl.nx (wr (s + 1))))) else (some (Fl.ex (Fl.nx ()))))
  (hl : l.length < 9223372036854775807) (hp : ∀ x ∈ l,p x = some (q x)) :
  ((ZG L 0 : Option (Fl Unit Int)).bind fun j1=>j1.el (fun _=>some (-1)) (fun r=>some r)) = some (match l.findIdx? q with | some i=>(i : Int) | none=>-1):=by
 have h:=zX (f:=L) l.length (fun i=>(l[i]?.map q).getD false) (fun i=>(i : Int)) hl (fun i hi=>by
  rw [hL]
  simp only [Int.ofNat_lt,hi,decide_true,if_true,YE,List.getElem?_eq_getElem hi,Option.bind_some,Option.map_some,Option.getD_some,hp _ (List.getElem_mem hi)]
  split <;> rfl) (by rw [hL]; simp) 0 (Nat.zero_le _)
 have h3 : ZG L 0 = _:=h
 rw [h3]
 have key : (List.range' 0 (l.length - 0)).find? (fun i=>(l[i]?.map q).getD false) = l.findIdx? q:=by
  rw [Nat.sub_zero,← List.range_eq_range']
  clear h h3 hL hp hl
  induction l with
  | nil=>rfl
  | cons x l ih =>
   rw [List.length_cons,List.range_succ_eq_map,List.find?_cons,List.findIdx?_cons]
   simp only [List.getElem?_cons_zero,Option.map_some,Option.getD_some]
   cases q x with
   | true=>rfl
   | false =>
    simp only [Bool.false_eq_true,if_false]
    rw [List.find?_map,← ih]
    congr 1
 rw [key]
 cases l.findIdx? q <;> rfl
theorem j0 {α : Type} (l : List α) (q : α → Bool) : decide ((match l.findIdx? q with | some i=>(i : Int) | none=>-1) ≥ 0) = l.any q:=by
 rw [Bool.eq_iff_iff,decide_eq_true_eq]
 cases h : l.findIdx? q with
 | none =>
  have:=List.findIdx?_eq_none_iff.1 h
  simp
  exact this
 | some i =>
  have h2:=List.findIdx?_eq_some_iff_getElem.1 h
  obtain ⟨hi,hq,_⟩:=h2
  simp
  exact ⟨_,List.getElem_mem hi,hq⟩
def UW (e : GEvent) : Bool:=decide ((1 ≤ e.Kind ∧ e.Kind ≤ 4) ∧ (0 ≤ e.Number ∧ e.Number ≤ 1000000))
theorem yJ (e : GEvent) : Us e = some (UW e):=by
 unfold Us UW
 simp only [AU,Option.bind_some]
 by_cases h1 : (1 ≤ e.Kind ∧ e.Kind ≤ 4) <;> by_cases h2 : (0 ≤ e.Number ∧ e.Number ≤ 1000000) <;> simp [h1,h2]
theorem jv (e : GEvent) : UK e = some (UW e):=by
 unfold UK UW Tz
 simp only [Hm,Option.bind_some]
 by_cases h1 : (1 ≤ e.Kind ∧ e.Kind ≤ 4) <;> by_cases h2 : (0 ≤ e.Number ∧ e.Number ≤ 1000000) <;> simp [h1,h2]
theorem HY (l : List GEvent) (p : GEvent → Option Bool) (q : GEvent → Bool) (hl : l.length < 9223372036854775807) (hp : ∀ x ∈ l,p x = some (q x)) : ZZ l p = some (l.any q):=by
 unfold ZZ Yl
 rw [y6 l p q _ (fun s=>by unfold YH; rfl) hl hp]
 simp only [Option.bind_some,j0]
def Qd (l : List GRecord) : Nat → Int
 | 0=>0
 | i + 1=>(l[i]?.map (·.Number)).getD 0
def J4 (v : GVault) (r : GRecord) : Bool:=!decide ((0 : Int) ≤ r.Version ∧ r.Version ≤ (v.Keys.length : Int) - 1) || decide (32 < r.Label.length) || decide (200 < r.Body.length)
def Jx (v : GVault) (i : Nat) : Bool:=match v.Records[i]? with
 | some r=>decide (r.Number ≤ Qd v.Records i) || decide (r.Number ≥ v.Next) || J4 v r
 | none=>false
def badI (v : GVault) (i : Nat) : Bool:=match v.Records[i]? with
 | some r=>!decide (1 ≤ r.Number ∧ r.Number ≤ v.Next - 1) || (decide (0 < i) && decide (Qd v.Records i ≥ r.Number)) || J4 v r
 | none=>false
def KY (v : GVault) : Bool:=decide (1 ≤ v.Keys.length ∧ v.Keys.length ≤ 8 ∧ 1 ≤ v.Next ∧ v.Next ≤ 1000000 ∧ v.Records.length ≤ 12 ∧ v.Events.length ≤ 60)
def WR (v : GVault) : Bool:=KY v && !((List.range' 0 (v.Records.length - 0)).any (Jx v)) && v.Events.all UW
theorem jV (v : GVault) : (List.range' 0 (v.Records.length - 0)).any (badI v) = (List.range' 0 (v.Records.length - 0)).any (Jx v):=by
 have h : ∀ b c : Bool,(b = false ↔ c = false) → b = c:=by intro b c; cases b <;> cases c <;> simp
 apply h
 rw [List.any_eq_false,List.any_eq_false]
 simp only [List.mem_range'_1,Nat.zero_le,true_and,Nat.sub_zero,Nat.zero_add,Bool.not_eq_true]
 constructor
 ·intro hI i hi
  have h1:=hI i hi
  unfold badI Jx at *
  rw [List.getElem?_eq_getElem hi] at h1 ⊢
  simp only [Bool.or_eq_false_iff,Bool.not_eq_false',decide_eq_true_eq,Bool.and_eq_false_iff,decide_eq_false_iff_not] at h1 ⊢
  refine ⟨⟨?_,by omega⟩,h1.2⟩
  cases i with
  | zero=>simp only [Qd]; omega
  | succ i =>
   rcases h1.1.2 with h2 | h2
   ·omega
   ·omega
 ·intro hS
  have pos : ∀ i,i < v.Records.length → 0 ≤ Qd v.Records i ∧ Qd v.Records i < (v.Records[i]?.map (·.Number)).getD 0:=by
   intro i
   induction i with
   | zero =>
    intro hi
    have h1:=hS 0 hi
    unfold Jx at h1
    rw [List.getElem?_eq_getElem hi] at h1 ⊢
    simp only [Bool.or_eq_false_iff,decide_eq_false_iff_not,Option.map_some,Option.getD_some] at h1 ⊢
    have e : Qd v.Records 0 = 0:=rfl
    have h2:=h1.1.1
    rw [e] at h2 ⊢
    omega
   | succ i ih =>
    intro hi
    have h0:=ih (by omega)
    have h1:=hS (i + 1) hi
    unfold Jx at h1
    have e : Qd v.Records (i + 1) = (v.Records[i]?.map (·.Number)).getD 0:=rfl
    rw [List.getElem?_eq_getElem hi] at h1 ⊢
    simp only [Bool.or_eq_false_iff,decide_eq_false_iff_not,Option.map_some,Option.getD_some] at h1 ⊢
    rw [e] at h1 ⊢
    omega
  intro i hi
  have h1:=hS i hi
  have h2:=pos i hi
  unfold badI Jx at *
  rw [List.getElem?_eq_getElem hi] at h1 h2 ⊢
  simp only [Bool.or_eq_false_iff,Bool.not_eq_false',decide_eq_true_eq,Bool.and_eq_false_iff,decide_eq_false_iff_not,Option.map_some,Option.getD_some] at h1 h2 ⊢
  exact ⟨⟨by omega,.inr (by omega)⟩,h1.2⟩
theorem qc (v : GVault) (hb : Wt.ln v) : TM v = some (WR v):=by
 have hb1:=WY hb.1; have hb2:=WY hb.2.1; have hb3:=WY hb.2.2
 unfold TM
 simp only [AU,Option.bind_some]
 by_cases hh : KY v = true
 ·have hh' : 1 ≤ v.Keys.length ∧ v.Keys.length ≤ 8 ∧ 1 ≤ v.Next ∧ v.Next ≤ 1000000 ∧ v.Records.length ≤ 12 ∧ v.Events.length ≤ 60:=by simpa [KY] using hh
  have c1 : ¬ ((v.Keys.length : Int) < 1):=by omega
  have c2 : ¬ ((v.Keys.length : Int) > 8):=by omega
  have c3 : 1 ≤ v.Next ∧ v.Next ≤ 1000000:=by omega
  have c4 : ¬ ((v.Records.length : Int) > 12):=by omega
  have c5 : ¬ ((v.Events.length : Int) > 60):=by omega
  simp only [c1,c2,c3,c4,c5,decide_false,decide_true,and_self,Bool.not_true,Bool.false_eq_true,if_false,Option.bind_some]
  have hw : wr ((v.Keys.length : Int) - 1) = (v.Keys.length : Int) - 1:=YT (by omega)
  have h1:=QK (f:=Ux v) (fun i : Nat=>(Qd v.Records i,(i : Int))) (Jx v) (fun _=>(.ex false : Fl Unit Bool)) (e:=.nx ()) v.Records.length v.Records.length 0 (by omega) (fun i _ hi=>by
   unfold Ux Jx
   simp only [Int.ofNat_lt,hi,decide_true,if_true,YE,List.getElem?_eq_getElem hi,Option.bind_some,AU,hw,XF (show i < 9223372036854775807 by omega)]
   have e : Qd v.Records (i + 1) = v.Records[i].Number:=by simp [Qd,List.getElem?_eq_getElem hi]
   rw [e]
   unfold J4
   by_cases d1 : v.Records[i].Number ≤ Qd v.Records i
   ·simp [d1]
   ·by_cases d2 : v.Records[i].Number ≥ v.Next
    ·simp [d1,d2]
    ·by_cases d3 : (0 : Int) ≤ v.Records[i].Version ∧ v.Records[i].Version ≤ (v.Keys.length : Int) - 1
     ·by_cases d4 : 32 < v.Records[i].Label.length
      ·have d4' : (v.Records[i].Label.length : Int) > 32:=by omega
       simp [d1,d2,d3,d4,d4']
      ·have d4' : ¬ ((v.Records[i].Label.length : Int) > 32):=by omega
       by_cases d5 : 200 < v.Records[i].Body.length
       ·have d5' : (v.Records[i].Body.length : Int) > 200:=by omega
        simp [d1,d2,d3,d4,d4',d5,d5']
       ·have d5' : ¬ ((v.Records[i].Body.length : Int) > 200):=by omega
        simp [d1,d2,d3,d4,d4',d5,d5']
     ·simp [d1,d2,d3]) (by unfold Ux; simp)
  have h2 : ZG (Ux v) (0,0) = _:=h1
  rw [h2]
  have h3:=AJ (f:=Tm v) v.Events (fun e=>!UW e) (t:=false) (by omega) (fun i hi=>by
   unfold Tm
   simp only [Int.ofNat_lt,hi,decide_true,if_true,YE,List.getElem?_eq_getElem hi,Option.bind_some,yJ]
   cases UW v.Events[i] <;> simp) (by unfold Tm; simp)
  rw [h3]
  unfold WR
  rw [hh,Nat.sub_zero]
  cases hf : (List.range' 0 v.Records.length).find? (Jx v) with
  | none =>
   have : (List.range' 0 v.Records.length).any (Jx v) = false:=by
    rw [List.any_eq_false]; exact List.find?_eq_none.1 hf
   rw [this,List.any_eq_not_all_not]
   simp only [Bool.not_not]
   cases v.Events.all UW <;> rfl
  | some i =>
   have : (List.range' 0 v.Records.length).any (Jx v) = true:=by
    rw [List.any_eq_true]; exact ⟨i,List.mem_of_find?_eq_some hf,List.find?_some hf⟩
   rw [this]; rfl
 ·have hf : KY v = false:=by simpa using hh
  unfold WR
  rw [hf]
  have hh' : ¬ (1 ≤ v.Keys.length ∧ v.Keys.length ≤ 8 ∧ 1 ≤ v.Next ∧ v.Next ≤ 1000000 ∧ v.Records.length ≤ 12 ∧ v.Events.length ≤ 60):=by simpa [KY] using hf
  by_cases c1 : ((v.Keys.length : Int) < 1)
  ·simp [c1]
  ·by_cases c2 : ((v.Keys.length : Int) > 8)
   ·simp [c1,c2]
   ·by_cases c3 : 1 ≤ v.Next ∧ v.Next ≤ 1000000
    ·by_cases c4 : ((v.Records.length : Int) > 12)
     ·simp [c1,c2,c3,c4]
     ·have c5 : ((v.Events.length : Int) > 60):=by omega
      simp [c1,c2,c3,c4,c5]
    ·simp [c1,c2,c3]
theorem BR (v : GVault) (hb : Wt.ln v) : UV v = some (WR v):=by
 have hb1:=WY hb.1; have hb2:=WY hb.2.1; have hb3:=WY hb.2.2
 unfold UV Yg
 simp only [Hm,Option.bind_some]
 by_cases hh : KY v = true
 ·have hh' : 1 ≤ v.Keys.length ∧ v.Keys.length ≤ 8 ∧ 1 ≤ v.Next ∧ v.Next ≤ 1000000 ∧ v.Records.length ≤ 12 ∧ v.Events.length ≤ 60:=by simpa [KY] using hh
  have c1 : (1 : Int) ≤ v.Keys.length ∧ (v.Keys.length : Int) ≤ 8:=by omega
  have c3 : 1 ≤ v.Next ∧ v.Next ≤ 1000000:=by omega
  have c4 : ¬ ((v.Records.length : Int) > 12):=by omega
  have c5 : ¬ ((v.Events.length : Int) > 60):=by omega
  simp only [c1,c3,c4,c5,decide_false,decide_true,and_self,Bool.not_true,Bool.false_eq_true,if_false,Option.bind_some]
  have hw : wr ((v.Keys.length : Int) - 1) = (v.Keys.length : Int) - 1:=YT (by omega)
  have hw2 : wr (v.Next - 1) = v.Next - 1:=YT (by omega)
  have h1:=kk (f:=Vd v) v.Records.length (badI v) false (by omega) (fun i hi=>by
   unfold Vd badI Yg
   simp only [Int.ofNat_lt,hi,decide_true,if_true,YE,List.getElem?_eq_getElem hi,Option.bind_some,Hm,hw,hw2]
   unfold J4
   by_cases d1 : 1 ≤ v.Records[i].Number ∧ v.Records[i].Number ≤ v.Next - 1
   ·have key : (if decide ((i : Int) > 0) = true then (idx v.Records (wr ((i : Int) - 1))).bind fun x=>some (decide (x.Number ≥ v.Records[i].Number)) else some false) = some (decide (0 < i) && decide (Qd v.Records i ≥ v.Records[i].Number)):=by
     cases i with
     | zero=>simp
     | succ i =>
      have e1 : wr (((i + 1 : Nat) : Int) - 1) = (i : Int):=by rw [YT (by omega)]; omega
      have hi' : i < v.Records.length:=by omega
      have e2 : Qd v.Records (i + 1) = v.Records[i].Number:=by simp [Qd,List.getElem?_eq_getElem hi']
      have e3 : ((i + 1 : Nat) : Int) > 0:=by omega
      simp only [e1,e2,e3,decide_true,if_true,YE,List.getElem?_eq_getElem hi',Option.bind_some]
      simp
    simp only [d1,decide_true,and_self,Bool.not_true,Bool.false_eq_true,if_false,key,Option.bind_some,Bool.false_or]
    by_cases d2 : (decide (0 < i) && decide (Qd v.Records i ≥ v.Records[i].Number)) = true
    ·simp [d2]
    ·have d2 : (decide (0 < i) && decide (Qd v.Records i ≥ v.Records[i].Number)) = false:=by simpa using d2
     rw [d2]
     by_cases d3 : (0 : Int) ≤ v.Records[i].Version ∧ v.Records[i].Version ≤ (v.Keys.length : Int) - 1
     ·by_cases d4 : 32 < v.Records[i].Label.length
      ·have d4' : (v.Records[i].Label.length : Int) > 32:=by omega
       simp [d3,d4,d4']
      ·have d4' : ¬ ((v.Records[i].Label.length : Int) > 32):=by omega
       by_cases d5 : 200 < v.Records[i].Body.length
       ·have d5' : (v.Records[i].Body.length : Int) > 200:=by omega
        simp [d3,d4,d4',d5,d5']
       ·have d5' : ¬ ((v.Records[i].Body.length : Int) > 200):=by omega
        simp [d3,d4,d4',d5,d5']
     ·simp [d3]
   ·simp [d1]) (by unfold Vd; simp) 0 (Nat.zero_le _)
  have h2 : ZG (Vd v) 0 = _:=h1
  rw [h2,jV,HY v.Events _ (fun e=>!UW e) (by omega) (fun x _=>by unfold VN; rw [jv]; rfl)]
  have ha : (v.Events.any fun e=>!UW e) = !(v.Events.all UW):=by rw [List.any_eq_not_all_not]; simp
  unfold WR
  rw [hh,ha]
  generalize (List.range' 0 (v.Records.length - 0)).any (Jx v) = z
  cases z <;> simp [Fl.el]
 ·have hf : KY v = false:=by simpa using hh
  unfold WR
  rw [hf]
  have hh' : ¬ (1 ≤ v.Keys.length ∧ v.Keys.length ≤ 8 ∧ 1 ≤ v.Next ∧ v.Next ≤ 1000000 ∧ v.Records.length ≤ 12 ∧ v.Events.length ≤ 60):=by simpa [KY] using hf
  by_cases c1 : (1 : Int) ≤ v.Keys.length ∧ (v.Keys.length : Int) ≤ 8
  ·by_cases c3 : 1 ≤ v.Next ∧ v.Next ≤ 1000000
   ·by_cases c4 : ((v.Records.length : Int) > 12)
    ·simp [c1,c3,c4]
    ·have c5 : ((v.Events.length : Int) > 60):=by omega
     simp [c1,c3,c4,c5]
   ·simp [c1,c3]
  ·simp [c1]
theorem kS {α : Type} [Dat α] [Wt α] {f : α → Int → Option Int} {x : α} {left : Int} {G : Int → Option Bool} (hf : TC f x) (h1 : 0 ≤ left) (h2 : left ≤ 1048576) (hG : ∀ r,0 ≤ r → r ≤ 1048576 → r + (Wt.wt x : Nat) ≤ left → G r = some true) :
  ((f x left).bind fun r=>if decide (r < 0) = true then some true else G r) = some true:=by
 obtain ⟨r,e1,e2,e3⟩:=hf left h1 h2
 rw [e1]
 by_cases hr : r < 0
 ·simp [hr]
 ·have:=hG r (by omega) e2 (e3 (by omega))
  simp [hr,this]
theorem QA {v : GVault} (h : WR v = true) : 1 ≤ v.Keys.length ∧ v.Keys.length ≤ 8 ∧ 1 ≤ v.Next ∧ v.Next ≤ 1000000 ∧ v.Records.length ≤ 12 ∧ v.Events.length ≤ 60:=by
 unfold WR KY at h
 simp only [Bool.and_eq_true,decide_eq_true_eq] at h
 exact h.1.1
theorem Hg (a : Nat) (h : a < 9223372036854775808) : (BitVec.ofInt 64 (a : Int)).toNat = a:=by
 rw [BitVec.toNat_ofInt]
 omega
theorem Kx (a b : Nat) (ha : a < 9223372036854775808) (hb : b < 9223372036854775808) : Q0 (a : Int) (b : Int) = ((a ^^^ b : Nat) : Int):=by
 unfold Q0
 rw [BitVec.toNat_xor,Hg a ha,Hg b hb]
 have : a ^^^ b < 2 ^ 63:=Nat.xor_lt_two_pow ha hb
 exact YT (by omega)
theorem kv (a b : Nat) (ha : a < 9223372036854775808) (hb : b < 9223372036854775808) : Qi (a : Int) (b : Int) = ((a &&& b : Nat) : Int):=by
 unfold Qi
 rw [BitVec.toNat_and,Hg a ha,Hg b hb]
 have : a &&& b < 2 ^ 63:=Nat.and_lt_two_pow _ hb
 exact YT (by omega)
theorem zT (a i : Nat) (hi : i ≤ 63) (h : a <<< i < 9223372036854775808) : Af (a : Int) (i : Int) = ((a <<< i : Nat) : Int):=by
 unfold Af
 rw [show min ((i : Int)).toNat 64 = i by omega]
 have : ((a : Int) * 2 ^ i) = ((a <<< i : Nat) : Int):=by rw [Nat.shiftLeft_eq]; simp
 rw [this]
 generalize a <<< i = x at h ⊢
 exact YT (by omega)
theorem kb (a i : Nat) (hi : i ≤ 63) : Tj (a : Int) (i : Int) = ((a >>> i : Nat) : Int):=by
 unfold Tj
 rw [show min ((i : Int)).toNat 64 = i by omega,Nat.shiftRight_eq_div_pow,Int.fdiv_eq_ediv_of_nonneg _ (by exact_mod_cast Nat.zero_le _)]
 simp
theorem zs (a i : Nat) : ((a >>> i) &&& 1 = 1) ↔ a.testBit i = true:=by
 rw [Nat.testBit,Nat.and_comm]
 have h:=Nat.and_one_is_mod (a >>> i)
 rw [Nat.and_comm] at h
 rw [h]
 rcases Nat.mod_two_eq_zero_or_one (a >>> i) with h | h <;> simp [h]
theorem kJ (a : Nat) : Int.tmod (a : Int) 2 = ((a % 2 : Nat) : Int):=by
 rw [Int.tmod_eq_emod_of_nonneg (by omega)]; simp
theorem kG (a : Nat) : Int.tdiv (a : Int) 2 = ((a / 2 : Nat) : Int):=by
 rw [Int.tdiv_eq_ediv_of_nonneg (by omega)]; simp
theorem y7 (a : Nat) (h : a < 9223372036854775808) : wr (a : Int) = (a : Int):=YT (by omega)
theorem jX (a : Nat) (h : a < 9223372036854775808) : IntKind.u64.wrap (a : Int) = (a : Int):=by
 simp only [IntKind.wrap,IntKind.bits,IntKind.signed]
 simp
 omega

def YU (m deg : Nat) : Nat → Nat → Nat
 | 0,a=>a
 | k + 1,a=>YU m deg k (if a.testBit (deg + k) then a ^^^ (m <<< k) else a)
theorem Kt {m k n : Nat} (h : m < 2 ^ n) : m <<< k < 2 ^ (n + k):=by
 rw [Nat.shiftLeft_eq,Nat.pow_add]
 exact Nat.mul_lt_mul_of_pos_right h (Nat.two_pow_pos _)
theorem AL {a n : Nat} (h : a < 2 ^ (n + 1)) (hb : a.testBit n = false) : a < 2 ^ n:=by
 apply Nat.lt_pow_two_of_testBit
 intro i hi
 rcases Nat.eq_or_lt_of_le hi with rfl | hi
 ·exact hb
 ·exact Nat.testBit_lt_two_pow (Nat.lt_of_lt_of_le h (Nat.pow_le_pow_right (by omega) hi))
theorem ji {m d : Nat} (h1 : 2 ^ d ≤ m) (h2 : m < 2 ^ (d + 1)) : m.testBit d = true:=by
 rw [Nat.testBit,Nat.shiftRight_eq_div_pow]
 have : m / 2 ^ d = 1:=by
  apply Nat.div_eq_of_lt_le
  ·simpa using h1
  ·rw [Nat.pow_succ] at h2; omega
 rw [this]; rfl
theorem qa {m d k a : Nat} (h1 : 2 ^ d ≤ m) (h2 : m < 2 ^ (d + 1)) (ha : a < 2 ^ (d + (k + 1))) (hb : a.testBit (d + k) = true) : a ^^^ (m <<< k) < 2 ^ (d + k):=by
 have hm : m <<< k < 2 ^ (d + (k + 1)):=by have:=Kt (k:=k) h2; rwa [show d + 1 + k = d + (k + 1) by omega] at this
 refine AL (Nat.xor_lt_two_pow (by rwa [show d + k + 1 = d + (k + 1) by omega]) (by rwa [show d + k + 1 = d + (k + 1) by omega])) ?_
 rw [Nat.testBit_xor,hb,Nat.testBit_shiftLeft]
 simp [ji h1 h2]
theorem JH {m d : Nat} (h1 : 2 ^ d ≤ m) (h2 : m < 2 ^ (d + 1)) : ∀ (k a : Nat),a < 2 ^ (d + k) → YU m d k a < 2 ^ d
 | 0,a,h=>by simpa [YU] using h
 | k + 1,a,h=>by
  unfold YU
  cases hb : a.testBit (d + k) with
  | true=>simp only [if_true]; exact JH h1 h2 k _ (qa h1 h2 h hb)
  | false=>simp only [Bool.false_eq_true,if_false]; exact JH h1 h2 k a (AL h hb)
theorem Ql (m d : Nat) : ∀ (k a b : Nat),YU m d k (a ^^^ b) = YU m d k a ^^^ YU m d k b
 | 0,_,_=>rfl
 | k + 1,a,b=>by
  simp only [YU]
  rw [Nat.testBit_xor]
  cases a.testBit (d + k) <;> cases b.testBit (d + k) <;> simp only [Bool.xor_false,Bool.false_xor,Bool.xor_self,Bool.xor_true,Bool.not_false,Bool.not_true,Bool.false_eq_true,if_true,if_false]
  ·exact Ql m d k a b
  ·rw [Nat.xor_assoc]; exact Ql m d k a _
  ·rw [← Ql m d k]; congr 1; rw [Nat.xor_assoc,Nat.xor_comm b,← Nat.xor_assoc]
  ·rw [← Ql m d k]; congr 1
   rw [Nat.xor_assoc,← Nat.xor_assoc (m <<< k),Nat.xor_comm (m <<< k) b,Nat.xor_assoc,Nat.xor_self,Nat.xor_zero]
theorem Tf {m d : Nat} : ∀ (k a : Nat),a < 2 ^ d → YU m d k a = a
 | 0,_,_=>rfl
 | k + 1,a,h=>by
  unfold YU
  rw [Nat.testBit_lt_two_pow (Nat.lt_of_lt_of_le h (Nat.pow_le_pow_right (by omega) (by omega)))]
  simp only [Bool.false_eq_true,if_false]
  exact Tf k a h
theorem AG {m d k a : Nat} (h : a < 2 ^ (d + k)) : YU m d (k + 1) a = YU m d k a:=by
 conv=>lhs; unfold YU
 rw [Nat.testBit_lt_two_pow h]; rfl
theorem QC (m d : Nat) : ∀ (k x : Nat),YU m d (k + 1) (x <<< 1) = (if ((YU m d k x) <<< 1).testBit d then ((YU m d k x) <<< 1) ^^^ m else (YU m d k x) <<< 1)
 | 0,x=>by simp [YU]
 | k + 1,x=>by
  conv=>lhs; unfold YU
  conv=>rhs; unfold YU
  have e : (x <<< 1).testBit (d + (k + 1)) = x.testBit (d + k):=by
   rw [Nat.testBit_shiftLeft]
   have : d + (k + 1) ≥ 1:=by omega
   simp only [this,decide_true,Bool.true_and]
   congr 1
  rw [e]
  cases x.testBit (d + k) with
  | false=>simp only [Bool.false_eq_true,if_false]; exact QC m d k x
  | true =>
   simp only [if_true]
   have e2 : x <<< 1 ^^^ m <<< (k + 1) = (x ^^^ m <<< k) <<< 1:=by
    rw [Nat.shiftLeft_xor_distrib,← Nat.shiftLeft_add]
   rw [e2]
   exact QC m d k _

def lenN (n : Nat) : Nat:=if n = 0 then 0 else n.log2 + 1
theorem v_rest (a m d : Nat) (hd : d ≤ 15) (ha : a < 2 ^ 16) (hm : m < 2 ^ 20) : TG (a : Int) (m : Int) (d : Int) = some ((YU m d (16 - d) a : Nat) : Int):=by
 have key : ∀ (k a : Nat),d + k ≤ 16 → a < 2 ^ 40 → ZG (Td (m : Int) (d : Int)) ((a : Int),((d + k : Nat) : Int) - 1) = some ((YU m d k a : Nat) : Int):=by
  intro k
  induction k with
  | zero =>
   intro a _ _
   rw [Wf (t:=(a : Int))]
   ·rfl
   ·unfold Td
    have : ¬ (((d + 0 : Nat) : Int) - 1 ≥ (d : Int)):=by omega
    simp only [this,decide_false,Bool.false_eq_true,if_false]
  | succ k ih =>
   intro a hk ha
   have e0 : ((d + (k + 1) : Nat) : Int) - 1 = ((d + k : Nat) : Int):=by omega
   have hsh : m <<< k < 2 ^ (20 + k):=Kt hm
   have hsh2 : m <<< k < 2 ^ 40:=Nat.lt_of_lt_of_le hsh (Nat.pow_le_pow_right (by omega) (by omega))
   have hst : Td (m : Int) (d : Int) ((a : Int),((d + (k + 1) : Nat) : Int) - 1) = some (.nx (((if a.testBit (d + k) then a ^^^ (m <<< k) else a : Nat) : Int),((d + k : Nat) : Int) - 1)):=by
    rw [e0]
    unfold Td
    have c1 : ((d + k : Nat) : Int) ≥ (d : Int):=by omega
    have c2 : XS ((d + k : Nat) : Int) = some ():=by unfold XS; rw [if_pos (by omega)]
    have c3 : wr (((d + k : Nat) : Int) - (d : Int)) = ((k : Nat) : Int):=by rw [show ((d + k : Nat) : Int) - (d : Int) = ((k : Nat) : Int) by omega,y7 _ (by omega)]
    have c4 : XS ((k : Nat) : Int) = some ():=by unfold XS; rw [if_pos (by omega)]
    have c5 : wr (((d + k : Nat) : Int) - 1) = ((d + k : Nat) : Int) - 1:=YT (by omega)
    simp only [c1,decide_true,if_true,c2,c3,c4,c5,Option.bind_some]
    have c6 : Qi (Tj (a : Int) ((d + k : Nat) : Int)) 1 = (((a >>> (d + k)) &&& 1 : Nat) : Int):=by
     rw [kb a (d + k) (by omega)]
     exact kv _ 1 (Nat.lt_of_le_of_lt (Nat.shiftRight_le _ _) (by omega)) (by omega)
    rw [c6,zT m k (by omega) (by omega),Kx a _ (by omega) (by omega)]
    cases hb : a.testBit (d + k) with
    | true =>
     have:=(zs a (d + k)).2 hb
     rw [this]; rfl
    | false =>
     have : ¬ ((a >>> (d + k)) &&& 1 = 1):=fun h=>by rw [(zs a (d + k)).1 h] at hb; cases hb
     have h2 : (((((a >>> (d + k)) &&& 1 : Nat) : Int)) == 1) = false:=by
      rw [beq_eq_false_iff_ne]; omega
     rw [h2]; rfl
   rw [Ws hst,ih _ (by omega) ?_]
   ·conv=>rhs; unfold YU
   ·split
    ·exact Nat.xor_lt_two_pow ha hsh2
    ·exact ha
 unfold TG
 have:=key (16 - d) a (by omega) (by omega)
 rw [show ((d + (16 - d) : Nat) : Int) - 1 = 15 by omega] at this
 rw [this]; rfl

def JM : Nat → Nat → Nat → Nat
 | 0,_,_=>0
 | n + 1,a,b=>(if b % 2 = 1 then a else 0) ^^^ JM n (a <<< 1) (b / 2)
theorem Hu : ∀ (n a : Nat),JM n a 0 = 0
 | 0,_=>rfl
 | n + 1,a=>by simp [JM,Hu n]
theorem y5 : ∀ (n a b p : Nat),a < 2 ^ p → JM n a b < 2 ^ (p + n)
 | 0,_,_,_,_=>by simp [JM]; exact Nat.two_pow_pos _
 | n + 1,a,b,p,h=>by
  unfold JM
  have h1 : a <<< 1 < 2 ^ (p + 1):=Kt h
  have h2:=y5 n (a <<< 1) (b / 2) (p + 1) h1
  rw [show p + 1 + n = p + (n + 1) by omega] at h2
  refine Nat.xor_lt_two_pow ?_ h2
  have h3 : 2 ^ p ≤ 2 ^ (p + (n + 1)):=Nat.pow_le_pow_right (by omega) (by omega)
  have h4:=Nat.two_pow_pos (p + (n + 1))
  split <;> omega
def prC : Nat → Nat → Nat → Nat
 | 0,_,_=>0
 | i + 1,a,b=>prC i a b ^^^ (if b.testBit i then a <<< i else 0)
theorem zP : ∀ (n a b : Nat),prC (n + 1) a b = (if b % 2 = 1 then a else 0) ^^^ prC n (a <<< 1) (b / 2)
 | 0,a,b=>by
  simp only [prC,Nat.zero_xor,Nat.xor_zero,Nat.shiftLeft_zero]
  have : b.testBit 0 = decide (b % 2 = 1):=by simp [Nat.testBit_zero]
  rw [this]; simp
 | n + 1,a,b=>by
  conv=>lhs; unfold prC
  rw [zP n a b]
  conv=>rhs; unfold prC
  rw [← Nat.xor_assoc]
  congr 1
  rw [Nat.testBit_succ,← Nat.shiftLeft_add,Nat.add_comm 1 n]
theorem jP : ∀ (n a b : Nat),prC n a b = JM n a b
 | 0,_,_=>rfl
 | n + 1,a,b=>by rw [zP,jP n]; rfl
theorem yS (a b : Nat) (h : a < 256) : ∀ i,i ≤ 8 → prC i a b < 2 ^ 16
 | 0,_=>by simp [prC]
 | i + 1,hi=>by
  unfold prC
  have h1 : a <<< i < 2 ^ (8 + i):=Kt h
  have h2 : 2 ^ (8 + i) ≤ 2 ^ 16:=Nat.pow_le_pow_right (by omega) (by omega)
  refine Nat.xor_lt_two_pow (yS a b h i (by omega)) ?_
  split
  ·omega
  ·omega
def Z7 (m : Nat) (a b : UInt8) : UInt8:=ZC ((YU m 8 8 (JM 8 a.toNat b.toNat) : Nat) : Int)
theorem Tq (m : Nat) (hm : m < 512) (a b : UInt8) : Z9 (m : Int) a b = some (Z7 m a b):=by
 have ha : a.toNat < 256:=a.toNat_lt
 have hb : b.toNat < 256:=b.toNat_lt
 have h:=Z8 (f:=Xz a b) (fun i : Nat=>(((prC i a.toNat b.toNat : Nat) : Int),(i : Int))) 0 8 (Nat.zero_le _) (t:=((prC 8 a.toNat b.toNat : Nat) : Int)) (fun i _ hi=>by
  unfold Xz
  have c1 : ((i : Int) < 8):=by omega
  have c2 : XS (i : Int) = some ():=by unfold XS; rw [if_pos (by omega)]
  have c3 : prC i a.toNat b.toNat < 2 ^ 16:=yS _ _ ha i (by omega)
  have c4 : a.toNat <<< i < 2 ^ (8 + i):=Kt ha
  have c5 : 2 ^ (8 + i) ≤ 2 ^ 16:=Nat.pow_le_pow_right (by omega) (by omega)
  have c6 : (((BF b (i : Int)) &&& 1) == 1) = b.toNat.testBit i:=by
   have e1 : (BF b (i : Int)).toNat = b.toNat >>> i:=by
    unfold BF ZC
    rw [show min ((i : Int)).toNat 8 = i by omega,Int.fdiv_eq_ediv_of_nonneg _ (by exact_mod_cast Nat.zero_le _)]
    have : ((b.toNat : Int) / 2 ^ i) = ((b.toNat >>> i : Nat) : Int):=by rw [Nat.shiftRight_eq_div_pow]; simp
    rw [this]
    have h3 : b.toNat >>> i ≤ b.toNat:=Nat.shiftRight_le _ _
    generalize b.toNat >>> i = q at h3 ⊢
    have h4 : (((q : Nat) : Int) % 256).toNat = q:=by omega
    rw [h4]
    simp
    omega
   rw [Bool.eq_iff_iff,beq_iff_eq,← zs,← UInt8.toNat_inj,UInt8.toNat_and,e1]
   simp
  simp only [c1,decide_true,if_true,c2,Option.bind_some,c6,XF (show i < 9223372036854775807 by omega)]
  rw [zT _ i (by omega) (by omega),Kx _ _ (by omega) (by omega)]
  cases hbit : b.toNat.testBit i with
  | true=>simp [prC,hbit]
  | false=>simp [prC,hbit]) (by unfold Xz; simp)
 have h2 : ZG (Xz a b) (0,0) = _:=h
 unfold Z9
 rw [h2]
 simp only [Option.bind_some]
 have h3:=v_rest (prC 8 a.toNat b.toNat) m 8 (by omega) (yS _ _ ha 8 (by omega)) (by omega)
 have h4 : TG ((prC 8 a.toNat b.toNat : Nat) : Int) (m : Int) 8 = _:=h3
 rw [h4,jP]
 rfl
theorem Jb (m : Nat) (hm : m < 512) (hm2 : 256 ≤ m) (a b : UInt8) : YW (m : Int) a b = some (Z7 m a b):=by
 have ha : a.toNat < 256:=a.toNat_lt
 have hb : b.toNat < 256:=b.toNat_lt
 have h1 : 2 ^ 8 ≤ m:=hm2
 have h2 : m < 2 ^ (8 + 1):=hm
 have hR : ∀ i,i ≤ 8 → YU m 8 8 (a.toNat <<< i) < 256:=fun i hi=>JH h1 h2 8 _ (by
  have:=Kt (k:=i) (show a.toNat < 2 ^ 8 from ha)
  exact Nat.lt_of_lt_of_le this (Nat.pow_le_pow_right (by omega) (by omega)))
 have hdbl : ∀ i,i ≤ 7 → YU m 8 8 (a.toNat <<< (i + 1)) = if 256 ≤ (YU m 8 8 (a.toNat <<< i)) * 2 then (YU m 8 8 (a.toNat <<< i)) * 2 ^^^ m else (YU m 8 8 (a.toNat <<< i)) * 2:=by
  intro i hi
  have hx : a.toNat <<< i < 2 ^ (8 + 7):=Nat.lt_of_lt_of_le (Kt (show a.toNat < 2 ^ 8 from ha)) (Nat.pow_le_pow_right (by omega) (by omega))
  have e : a.toNat <<< (i + 1) = (a.toNat <<< i) <<< 1:=by rw [← Nat.shiftLeft_add]
  rw [e,QC m 8 7,← AG hx]
  have hlt:=hR i (by omega)
  generalize YU m 8 8 (a.toNat <<< i) = y at hlt ⊢
  have e2 : y <<< 1 = y * 2:=by rw [Nat.shiftLeft_eq]
  rw [e2]
  have e3 : (y * 2).testBit 8 = decide (256 ≤ y * 2):=by
   by_cases hy : 256 ≤ y * 2
   ·rw [ji (d:=8) hy (by omega)]; simp [hy]
   ·rw [Nat.testBit_lt_two_pow (by omega : y * 2 < 2 ^ 8)]; simp [hy]
  rw [e3]
  by_cases hy : 256 ≤ y * 2 <;> simp [hy]
 have key : ∀ (n i o r : Nat),i + n ≤ 8 → r < 2 ^ n → o < 256 → ZG (Xk (m : Int)) ((o : Int),((YU m 8 8 (a.toNat <<< i) : Nat) : Int),(r : Int)) = some ((o ^^^ YU m 8 8 (JM n (a.toNat <<< i) r) : Nat) : Int):=by
  intro n
  induction n with
  | zero =>
   intro i o r _ hr ho
   have : r = 0:=by simpa using hr
   subst this
   rw [Wf (t:=(o : Int))]
   ·rw [Hu,Tf 8 0 (by omega),Nat.xor_zero]
   ·unfold Xk; simp
  | succ n ih =>
   intro i o r hi hr ho
   by_cases h0 : r = 0
   ·subst h0
    rw [Wf (t:=(o : Int))]
    ·rw [Hu,Tf 8 0 (by omega),Nat.xor_zero]
    ·unfold Xk; simp
   ·have hy:=hR i (by omega)
    have hst : Xk (m : Int) ((o : Int),((YU m 8 8 (a.toNat <<< i) : Nat) : Int),(r : Int)) = some (.nx (((o ^^^ YU m 8 8 (if r % 2 = 1 then a.toNat <<< i else 0) : Nat) : Int),((YU m 8 8 (a.toNat <<< (i + 1)) : Nat) : Int),((r / 2 : Nat) : Int))):=by
     rw [hdbl i (by omega)]
     unfold Xk
     have c1 : (r : Int) > 0:=by omega
     have hr2 : r < 512:=Nat.lt_of_lt_of_le hr (Nat.le_trans (Nat.pow_le_pow_right (by omega) (by omega : n + 1 ≤ 9)) (by omega))
     simp only [c1,decide_true,if_true,kJ,kG]
     have e1 : wr (((YU m 8 8 (a.toNat <<< i) : Nat) : Int) * 2) = (((YU m 8 8 (a.toNat <<< i)) * 2 : Nat) : Int):=by rw [YT (by omega)]; omega
     have e2 : wr ((r / 2 : Nat) : Int) = ((r / 2 : Nat) : Int):=y7 _ (by omega)
     rw [e1,e2,Kx _ _ (by omega) (by omega),Kx _ _ (by omega) (by omega)]
     have e3 : ((((r % 2 : Nat) : Int)) == 1) = decide (r % 2 = 1):=by
      rw [Bool.eq_iff_iff,beq_iff_eq,decide_eq_true_eq]; omega
     rw [e3]
     have e4 : decide ((((YU m 8 8 (a.toNat <<< i)) * 2 : Nat) : Int) ≥ 256) = decide (256 ≤ (YU m 8 8 (a.toNat <<< i)) * 2):=by rw [decide_eq_decide]; omega
     rw [e4]
     have e5 : YU m 8 8 0 = 0:=Tf 8 0 (by omega)
     by_cases c2 : r % 2 = 1 <;> by_cases c3 : 256 ≤ (YU m 8 8 (a.toNat <<< i)) * 2 <;> simp only [c2,c3,decide_true,decide_false,Bool.false_eq_true,if_true,if_false,Option.bind_some,e5,Nat.xor_zero]
    rw [Ws hst,ih (i + 1) _ (r / 2) (by omega) (by rw [Nat.pow_succ] at hr; omega) ?_]
    ·conv=>rhs; unfold JM
     rw [Ql,Nat.xor_assoc,Nat.shiftLeft_add]
    ·refine Nat.xor_lt_two_pow (n:=8) ho ?_
     split
     ·exact hR i (by omega)
     ·rw [Tf 8 0 (by omega)]; omega
 have:=key 8 0 0 b.toNat (by omega) hb (by omega)
 rw [Nat.shiftLeft_zero,Tf 8 a.toNat ha,Nat.zero_xor] at this
 have h3 : ZG (Xk (m : Int)) (0,bI a,bI b) = _:=this
 unfold YW
 rw [h3]
 rfl

def HV (m : Nat) : Nat → UInt8 → Nat → UInt8 → UInt8
 | 0,_,_,o=>o
 | f + 1,a,k,o=>if k = 0 then o else HV m f (Z7 m a a) (k / 2) (if k % 2 = 1 then Z7 m o a else o)
theorem z9 (m : Nat) (L : UInt8 × Int × UInt8 → Option (Fl (UInt8 × Int × UInt8) UInt8)) (T : UInt8 → UInt8 → Option UInt8) (hT : ∀ a b,T a b = some (Z7 m a b))
  (hL : ∀ s,L s = if (decide (s.2.1 > 0)) = true then (((if ((Int.tmod s.2.1 2) == 1) = true then ((T s.2.2 s.1).bind fun r=>some r) else (some s.2.2) : Option UInt8).bind fun j12=>(T s.1 s.1).bind fun r20=>some (r20,j12) : Option (UInt8 × UInt8)).bind fun j9=>some (Fl.nx (j9.1,wr (Int.tdiv s.2.1 2),j9.2))) else (some (Fl.ex s.2.2))) :
  ∀ (f k : Nat) (a o : UInt8),k < 2 ^ f → f ≤ 62 → ZG L (a,(k : Int),o) = some (HV m f a k o):=by
 intro f
 induction f with
 | zero =>
  intro k a o hk _
  have : k = 0:=by simpa using hk
  subst this
  exact Wf (by rw [hL]; simp [HV])
 | succ f ih =>
  intro k a o hk hf
  by_cases h0 : k = 0
  ·subst h0
   exact Wf (by rw [hL]; simp [HV])
  ·have hlt : k < 9223372036854775808:=Nat.lt_of_lt_of_le hk (Nat.pow_le_pow_right (by omega : 0 < 2) (by omega : f + 1 ≤ 63))
   have hst : L (a,(k : Int),o) = some (.nx (Z7 m a a,((k / 2 : Nat) : Int),if k % 2 = 1 then Z7 m o a else o)):=by
    rw [hL]
    have c1 : (k : Int) > 0:=by omega
    have e3 : ((((k % 2 : Nat) : Int)) == 1) = decide (k % 2 = 1):=by
     rw [Bool.eq_iff_iff,beq_iff_eq,decide_eq_true_eq]; omega
    simp only [c1,decide_true,if_true,kJ,kG,hT,e3,Option.bind_some,y7 (k / 2) (by omega)]
    by_cases c2 : k % 2 = 1 <;> simp [c2]
   rw [Ws hst,ih (k / 2) _ _ (by rw [Nat.pow_succ] at hk; omega) (by omega)]
   conv=>rhs; unfold HV
   rw [if_neg h0]
theorem Ai (m : Nat) (hm : m < 512) (a : UInt8) (k f : Nat) (hk : k < 2 ^ f) (hf : f ≤ 62) : XP (m : Int) a (k : Int) = some (HV m f a k 1):=by
 unfold XP
 rw [z9 m (Vz (m : Int)) _ (Tq m hm) (fun s=>by unfold Vz; rfl) f k a 1 hk hf]; rfl
theorem yw (m : Nat) (hm : m < 512) (hm2 : 256 ≤ m) (a : UInt8) (k f : Nat) (hk : k < 2 ^ f) (hf : f ≤ 62) : W7 (m : Int) a (k : Int) = some (HV m f a k 1):=by
 unfold W7
 rw [z9 m (Tb (m : Int)) _ (Jb m hm hm2) (fun s=>by unfold Tb; rfl) f k a 1 hk hf]; rfl
def Qu (m : Nat) (a : UInt8) : UInt8:=HV m 8 a 254 1
theorem Kg (m : Nat) (hm : m < 512) (a : UInt8) : Yp (m : Int) a = some (Qu m a):=by
 unfold Yp
 have:=Ai m hm a 254 8 (by omega) (by omega)
 have h2 : XP (m : Int) a 254 = _:=this
 rw [h2]; rfl
theorem kL (m : Nat) (hm : m < 512) (hm2 : 256 ≤ m) (a : UInt8) : Vs (m : Int) a = some (Qu m a):=by
 unfold Vs
 have:=yw m hm hm2 a 254 8 (by omega) (by omega)
 have h2 : W7 (m : Int) a 254 = _:=this
 rw [h2]; rfl

def redB (m d : Nat) : Bool:=YU d (lenN d - 1) (16 - (lenN d - 1)) m == 0
def JJ (m : Int) : Bool:=decide (256 ≤ m ∧ m ≤ 511) && !((List.range' 2 30).any (redB m.toNat))
theorem zU {m : Int} (h : JJ m = true) : ∃ n : Nat,m = n ∧ 256 ≤ n ∧ n < 512:=by
 unfold JJ at h
 simp only [Bool.and_eq_true,decide_eq_true_eq] at h
 exact ⟨m.toNat,by omega,by omega,by omega⟩
def jU (l : List UInt8) : Bool:=decide l.Nodup
def dbl (m y : Nat) : Nat:=if (y <<< 1).testBit 8 then (y <<< 1) ^^^ m else y <<< 1
theorem zI (a b c d : Nat) : (a ^^^ b) ^^^ (c ^^^ d) = (a ^^^ c) ^^^ (b ^^^ d):=by
 rw [Nat.xor_assoc,Nat.xor_assoc,← Nat.xor_assoc b,← Nat.xor_assoc c,Nat.xor_comm b c]
theorem yZ (m x y : Nat) : dbl m (x ^^^ y) = dbl m x ^^^ dbl m y:=by
 unfold dbl
 rw [Nat.shiftLeft_xor_distrib,Nat.testBit_xor]
 cases (x <<< 1).testBit 8 <;> cases (y <<< 1).testBit 8 <;> simp only [Bool.xor_false,Bool.false_xor,Bool.xor_self,Bool.xor_true,Bool.not_false,Bool.not_true,Bool.false_eq_true,if_true,if_false]
 ·rw [Nat.xor_assoc]
 ·rw [Nat.xor_assoc,Nat.xor_assoc,Nat.xor_comm m]
 ·rw [zI,Nat.xor_self,Nat.xor_zero]
theorem Bs (m : Nat) : dbl m 0 = 0:=by simp [dbl]
def opP (m : Nat) : Nat → Nat → Nat → Nat
 | 0,_,_=>0
 | n + 1,b,x=>(if b % 2 = 1 then x else 0) ^^^ opP m n (b / 2) (dbl m x)
theorem z6 (m n b x : Nat) : opP m (n + 1) b x = (if b % 2 = 1 then x else 0) ^^^ opP m n (b / 2) (dbl m x):=rfl
theorem za (m : Nat) : ∀ (n b x y : Nat),opP m n b (x ^^^ y) = opP m n b x ^^^ opP m n b y
 | 0,_,_,_=>by simp [opP]
 | n + 1,b,x,y=>by
  unfold opP
  rw [yZ,za m n,zI]
  congr 1
  split <;> simp
theorem Jz (m : Nat) : ∀ (n b : Nat),opP m n b 0 = 0
 | 0,_=>rfl
 | n + 1,b=>by unfold opP; rw [Bs,Jz m n]; simp
theorem jd (m : Nat) : ∀ (n b x : Nat),opP m n b (dbl m x) = dbl m (opP m n b x)
 | 0,_,_=>(Bs m).symm
 | n + 1,b,x=>by
  unfold opP
  rw [jd m n,yZ]
  congr 1
  split
  ·rfl
  ·exact (Bs m).symm
theorem zW (m : Nat) : ∀ (n b k c x : Nat),opP m n b (opP m k c x) = opP m k c (opP m n b x)
 | 0,_,k,c,_=>(Jz m k c).symm
 | n + 1,b,k,c,x=>by
  rw [z6,z6,← jd,zW m n,za]
  congr 1
  split
  ·rfl
  ·exact (Jz m k c).symm
theorem jz (a : Nat) : (if a % 2 = 1 then 1 else 0) ^^^ (a / 2) <<< 1 = a:=by
 rw [Nat.shiftLeft_eq]
 have h : (if a % 2 = 1 then 1 else 0) = a % 2:=by split <;> omega
 rw [h]
 apply Nat.eq_of_testBit_eq
 intro i
 rw [Nat.testBit_xor]
 cases i with
 | zero =>
  simp [Nat.testBit_zero]
 | succ i =>
  rw [Nat.testBit_succ,Nat.testBit_succ,Nat.testBit_succ]
  have h1 : a % 2 / 2 = 0:=by omega
  have h2 : a / 2 * 2 ^ 1 / 2 = a / 2:=by omega
  rw [h1,h2]; simp
theorem qs (m i : Nat) (hi : i < 7) : dbl m (1 <<< i) = 1 <<< (i + 1):=by
 unfold dbl
 rw [← Nat.shiftLeft_add]
 have : (1 <<< (i + 1)).testBit 8 = false:=by
  apply Nat.testBit_lt_two_pow
  rw [Nat.shiftLeft_eq,Nat.one_mul]
  exact Nat.pow_lt_pow_right (by omega) (by omega)
 rw [this]; rfl
theorem A7 (m : Nat) : ∀ (n i a : Nat), n + i ≤ 8 → a < 2 ^ n → opP m n a (1 <<< i) = a <<< i
  | 0, i, a, _, ha => by
    have : a = 0 := by simpa using ha
    subst this; simp [opP]
  | n + 1, i, a, hn, ha => by
    have e : a <<< i = (if a % 2 = 1 then 1 <<< i else 0) ^^^ (a / 2) <<< (i + 1) := by
      conv => lhs; rw [← jz a]
      rw [Nat.shiftLeft_xor_distrib, ← Nat.shiftLeft_add, Nat.add_comm 1 i]
      congr 1
      split <;> simp
    unfold opP
    rw [e]
    congr 1
    rcases Nat.eq_zero_or_pos n with rfl | hp
    · have : a / 2 = 0 := by have : a < 2 := by simpa using ha
                             omega
      rw [this]; simp [opP]
    · rw [qs m i (by omega)]
      exact A7 m n (i + 1) (a / 2) (by omega) (by rw [Nat.pow_succ] at ha; omega)

theorem jx (m x : Nat) (hx : x < 2 ^ 15) : YU m 8 8 (x <<< 1) = dbl m (YU m 8 8 x):=by
 rw [QC m 8 7,← AG (d:=8) (k:=7) hx]; rfl
theorem kr (m : Nat) : ∀ (n i a b : Nat),i + n ≤ 8 → a < 2 ^ 8 → YU m 8 8 (JM n (a <<< i) b) = opP m n b (YU m 8 8 (a <<< i))
 | 0,_,_,_,_,_=>by simp [JM,opP,Tf 8 0]
 | n + 1,i,a,b,hn,ha=>by
  unfold JM opP
  rw [Ql]
  have hx : a <<< i < 2 ^ 15:=Nat.lt_of_lt_of_le (Kt ha) (Nat.pow_le_pow_right (by omega) (by omega))
  rw [← jx m _ hx,← Nat.shiftLeft_add,kr m n (i + 1) a (b / 2) (by omega) ha]
  congr 1
  split
  ·rfl
  ·exact Tf 8 0 (by omega)
theorem Qk (m : Nat) (h1 : 256 ≤ m) (h2 : m < 512) (a b : UInt8) : (Z7 m a b).toNat = opP m 8 b.toNat a.toNat:=by
 have ha : a.toNat < 2 ^ 8:=a.toNat_lt
 have hr : YU m 8 8 (JM 8 a.toNat b.toNat) < 256:=JH (d:=8) h1 h2 8 _ (y5 8 a.toNat b.toNat 8 ha)
 have e:=kr m 8 0 a.toNat b.toNat (by omega) ha
 rw [Nat.shiftLeft_zero,Tf 8 _ ha] at e
 unfold Z7 ZC
 rw [e] at hr ⊢
 generalize opP m 8 b.toNat a.toNat = q at hr ⊢
 have : (((q : Nat) : Int) % 256).toNat = q:=by omega
 rw [this]
 simp
 omega
section
variable {m : Nat} (h1 : 256 ≤ m) (h2 : m < 512)
include h1 h2
theorem Q1 (a b : UInt8) : Z7 m a b = Z7 m b a:=by
 apply UInt8.toNat_inj.1
 rw [Qk m h1 h2,Qk m h1 h2]
 have ea:=A7 m 8 0 a.toNat (by omega) a.toNat_lt
 have eb:=A7 m 8 0 b.toNat (by omega) b.toNat_lt
 simp only [Nat.shiftLeft_zero] at ea eb
 rw [← ea,zW,eb,ea]
theorem jn (a b c : UInt8) : Z7 m (a ^^^ b) c = Z7 m a c ^^^ Z7 m b c:=by
 apply UInt8.toNat_inj.1
 rw [UInt8.toNat_xor,Qk m h1 h2,Qk m h1 h2,Qk m h1 h2,UInt8.toNat_xor,za]
theorem yB (a b c : UInt8) : Z7 m a (b ^^^ c) = Z7 m a b ^^^ Z7 m a c:=by
 rw [Q1 h1 h2,jn h1 h2,Q1 h1 h2 b,Q1 h1 h2 c]
theorem Jq (a : UInt8) : Z7 m 0 a = 0:=by
 apply UInt8.toNat_inj.1
 rw [Qk m h1 h2]
 exact Jz m 8 _
end
def vf {α : Type} (n : Nat) (f : Nat → α) : Vector α n:=Vector.ofFn fun i=>f i.1
theorem Kc {α : Type} {n i : Nat} (f : Nat → α) (h : i < n) : (vf n f)[i] = f i:=by simp [vf]
theorem JR {α : Type} {n i : Nat} (f : Nat → α) (h : i < n) : (vf n f)[i]? = some (f i):=by rw [Vector.getElem?_eq_getElem h,Kc f h]
theorem ZU {α : Type} {n i : Nat} (f : Nat → α) (h : i < n) : ZM (vf n f) (i : Int) = some (f i):=by rw [W9,JR f h]
theorem Xd {α : Type} {n : Nat} {f g : Nat → α} (h : ∀ i,i < n → f i = g i) : vf n f = vf n g:=by
 apply TO
 intro i hi
 rw [Kc f hi,Kc g hi,h i hi]
theorem TL {α : Type} {n : Nat} (f : Nat → α) (k : Nat) (x : α) : (vf n f).setIfInBounds k x = vf n (fun i=>if i = k then x else f i):=by
 apply TO
 intro i hi
 rw [Vector.getElem_setIfInBounds,Kc _ hi,Kc _ hi]
 by_cases h : k = i
 ·subst h; simp
 ·rw [if_neg h,if_neg (fun e=>h e.symm)]
theorem TD {α : Type} (n : Nat) (x : α) : Vector.replicate n x = vf n (fun _=>x):=by
 apply TO
 intro i hi
 rw [Kc _ hi]; simp
theorem y0 {α : Type} [Inhabited α] {n : Nat} (v : Vector α n) : v = vf n (fun i=>v[i]?.getD default):=by
 apply TO
 intro i hi
 rw [Kc _ hi,Vector.getElem?_eq_getElem hi]; rfl
abbrev Mat:=Vector (Vector UInt8 4) 4
def mf (f : Nat → Nat → UInt8) : Mat:=vf 4 fun i=>vf 4 (f i)
theorem WT {f g : Nat → Nat → UInt8} (h : ∀ i,i < 4 → ∀ j,j < 4 → f i j = g i j) : mf f = mf g:=Xd fun i hi=>Xd fun j hj=>h i hi j hj
theorem U5 {i : Nat} (f : Nat → Nat → UInt8) (h : i < 4) : ZM (mf f) (i : Int) = some (vf 4 (f i)):=ZU _ h
theorem K1 (f : Nat → Nat → UInt8) (k : Nat) (g : Nat → UInt8) : (mf f).setIfInBounds k (vf 4 g) = mf (fun i j=>if i = k then g j else f i j):=by
 unfold mf
 rw [TL]
 apply Xd
 intro i hi
 by_cases h : i = k
 ·simp [h]
 ·simp [h]
theorem A2 : Vector.replicate 4 (Vector.replicate 4 (0 : UInt8)) = mf (fun _ _=>0):=by rw [TD 4 (0 : UInt8),TD]; rfl
theorem lt4 {i : Nat} (h : i < 4) : decide ((i : Int) < 4) = true:=by simp; omega
theorem lt4' {i : Nat} (h : ¬ i < 4) : decide ((i : Int) < 4) = false:=by simp; omega
theorem wr4 {i : Nat} (h : i < 1000) : wr ((i : Int) + 1) = ((i + 1 : Nat) : Int):=XF (by omega)

def Jv (i j : Nat) : UInt8:=if i = j then 1 else 0
theorem jG (L : Mat × Int → Option (Fl (Mat × Int) Mat))
  (hL : ∀ s8,L s8 = if (decide (s8.2 < 4)) = true then ((ZM s8.1 s8.2).bind fun (x14 : (Vector UInt8 4))=>(ZM x14 s8.2).bind fun (x17 : UInt8)=>some (Fl.nx ((s8.1.setIfInBounds (s8.2).toNat (x14.setIfInBounds (s8.2).toNat 1)),wr (s8.2 + 1)))) else (some (Fl.ex s8.1))) :
  ZG L (Vector.replicate 4 (Vector.replicate 4 (0 : UInt8)),0) = some (mf Jv):=by
 have:=Z8 (f:=L) (fun i : Nat=>(mf fun r c=>if r < i then Jv r c else 0,(i : Int))) 0 4 (by omega) (t:=mf Jv) (fun i _ hi=>by
  rw [hL]
  simp only [lt4 hi,if_true,U5 _ hi,ZU _ hi,Option.bind_some,Int.toNat_natCast,TL,K1,wr4 (show i < 1000 by omega)]
  congr 3
  apply WT
  intro r hr c hc
  by_cases h1 : r = i
  ·subst h1; simp [Jv,eq_comm]
  ·simp only [h1,if_false]
   by_cases h2 : r < i
   ·rw [if_pos h2,if_pos (by omega)]
   ·rw [if_neg h2,if_neg (by omega)]) (by
  rw [hL]
  simp only [lt4' (show ¬ 4 < 4 by omega),Bool.false_eq_true,if_false]
  exact congrArg (fun z=>some (Fl.ex z)) (WT fun r hr c hc=>by rw [if_pos hr]))
 rw [A2]
 simpa using this
theorem JI : Vk = some (mf Jv):=by
 unfold Vk
 rw [jG TA fun s=>rfl]; rfl

abbrev MF:=Nat → Nat → UInt8
def K0 (f : MF) (k : Nat) : Nat:=((List.range' k (4 - k)).find? fun i=>!(f i k == 0)).getD 4
def kq (f : MF) (i k : Nat) : MF:=fun r c=>if r = k then f i c else if r = i then f k c else f r c
def zw (m : Nat) (f : MF) (k : Nat) (by_ : UInt8) : MF:=fun r c=>if r = k then Z7 m (f k c) by_ else f r c
def UF (m : Nat) (f g : MF) (k : Nat) : MF:=fun r c=>if r = k then g r c else g r c ^^^ Z7 m (f r k) (g k c)
structure Red where
 a : MF
 b : MF
 det : UInt8
def JW (m : Nat) (s : Red) (k : Nat) : Option Red :=
 let i:=K0 s.a k
 if i = 4 then none else
  let f:=kq s.a i k
  let g:=kq s.b i k
  let q:=Qu m (f k k)
  let f2:=zw m f k q
  let g2:=zw m g k q
  some ⟨UF m f2 f2 k,UF m f2 g2 k,Z7 m s.det (f k k)⟩
def J1 (m : Nat) : Nat → Nat → Red → Option Red
 | 0,_,s=>some s
 | n + 1,k,s=>(JW m s k).bind (J1 m n (k + 1))
def Bg (m : Nat) (a : MF) : UInt8 × Mat:=match J1 m 4 0 ⟨a,Jv,1⟩ with
 | some s=>(s.det,mf s.b)
 | none=>(0,mf fun _ _=>0)
theorem yE (L : Int → Option (Fl Int Int)) (f : MF) (k : Nat) (hk : k < 4)
  (hL : ∀ s,L s = (if (decide (s < 4)) = true then ((ZM (mf f) s).bind fun (x30 : (Vector UInt8 4))=>(ZM x30 (k : Int)).bind fun (x33 : UInt8)=>some (x33 == 0)) else (some false) : Option (Bool)).bind fun (j25 : Bool)=>if j25 = true then (some (Fl.nx (wr (s + 1)))) else (some (Fl.ex s))) :
  ZG L (k : Int) = some ((K0 f k : Nat) : Int):=by
 have:=QK (f:=L) (fun i : Nat=>(i : Int)) (fun i=>!(f i k == 0)) (fun i=>(i : Int)) (e:=(4 : Int)) 4 (4 - k) k (by omega) (fun i _ hi=>by
  rw [hL]
  simp only [lt4 hi,if_true,U5 _ hi,ZU _ hk,Option.bind_some]
  cases h : (f i k == 0)
  ·simp
  ·simp [wr4 (show i < 1000 by omega)]) (by rw [hL]; simp)
 rw [this]
 unfold K0
 cases (List.range' k (4 - k)).find? fun i=>!(f i k == 0) <;> rfl
theorem kI {f : MF} {k : Nat} (h : K0 f k ≠ 4) : K0 f k < 4:=by
 unfold K0 at h ⊢
 cases hf : (List.range' k (4 - k)).find? fun i=>!(f i k == 0) with
 | none=>rw [hf] at h; exact absurd rfl h
 | some i =>
  have:=List.mem_range'_1.1 (List.mem_of_find?_eq_some hf)
  simp only [Option.getD_some]
  omega
theorem AM (L : Mat × Mat × Int → Option (Fl (Mat × Mat × Int) (Mat × Mat))) (f g : MF) (k : Nat) (hk : k < 4) (p q : Nat → UInt8)
  (hL : ∀ c,c < 4 → ∀ a b : MF,(∀ r,r ≠ k → a r = f r) → (∀ r,r ≠ k → b r = g r) → a k c = f k c → b k c = g k c → L (mf a,mf b,(c : Int)) = some (Fl.nx ((mf a).setIfInBounds k ((vf 4 (a k)).setIfInBounds c (p c)),(mf b).setIfInBounds k ((vf 4 (b k)).setIfInBounds c (q c)),wr ((c : Int) + 1))))
  (he : ∀ a b : Mat,L (a,b,4) = some (Fl.ex (a,b))) :
  ZG L (mf f,mf g,0) = some (mf (fun r c=>if r = k then p c else f r c),mf (fun r c=>if r = k then q c else g r c)):=by
 have k1 : (mf fun r c=>if r = k then (if c < 4 then p c else f k c) else f r c) = mf fun r c=>if r = k then p c else f r c:=WT fun r _ c hc=>by rw [if_pos hc]
 have k2 : (mf fun r c=>if r = k then (if c < 4 then q c else g k c) else g r c) = mf fun r c=>if r = k then q c else g r c:=WT fun r _ c hc=>by rw [if_pos hc]
 have:=Z8 (f:=L) (fun i : Nat=>(mf fun r c=>if r = k then (if c < i then p c else f k c) else f r c,mf fun r c=>if r = k then (if c < i then q c else g k c) else g r c,(i : Int))) 0 4 (by omega)
  (t:=(mf (fun r c=>if r = k then p c else f r c),mf (fun r c=>if r = k then q c else g r c))) (fun i _ hi=>by
  rw [hL i hi _ _ (fun r hr=>by funext c; rw [if_neg hr]) (fun r hr=>by funext c; rw [if_neg hr]) (by simp) (by simp)]
  simp only [TL,K1,wr4 (show i < 1000 by omega)]
  congr 3
  ·apply WT
   intro r hr c hc
   by_cases h : r = k
   ·simp only [h,if_true]
    by_cases h2 : c = i
    ·subst h2; simp
    ·by_cases h3 : c < i
     ·rw [if_neg h2,if_pos h3,if_pos (by omega)]
     ·rw [if_neg h2,if_neg h3,if_neg (by omega)]
   ·simp only [h,if_false]
  ·congr 1
   apply WT
   intro r hr c hc
   by_cases h : r = k
   ·simp only [h,if_true]
    by_cases h2 : c = i
    ·subst h2; simp
    ·by_cases h3 : c < i
     ·rw [if_neg h2,if_pos h3,if_pos (by omega)]
     ·rw [if_neg h2,if_neg h3,if_neg (by omega)]
   ·simp only [h,if_false]) (by
  simp only [k1,k2]
  exact he _ _)
 have e1 : mf (fun r c=>if r = k then (if c < 0 then p c else f k c) else f r c) = mf f:=WT fun r hr c hc=>by
  by_cases h : r = k
  ·subst h; simp
  ·simp [h]
 have e2 : mf (fun r c=>if r = k then (if c < 0 then q c else g k c) else g r c) = mf g:=WT fun r hr c hc=>by
  by_cases h : r = k
  ·subst h; simp
  ·simp [h]
 simp only [e1,e2] at this
 exact this
theorem zB {S : Type} (m : Nat) (L : S → Option (Fl S (Fl (Mat × UInt8) (UInt8 × Mat)))) (pk : Red → Nat → S)
  (hstep : ∀ k,k < 4 → ∀ s,L (pk s k) = some (match JW m s k with | none=>.ex (.ex (0,mf fun _ _=>0)) | some s'=>.nx (pk s' (k + 1))))
  (hend : ∀ s,L (pk s 4) = some (.ex (.nx (mf s.b,s.det)))) : ∀ (n k : Nat) (s : Red),k + n = 4 → ZG L (pk s k) = some (match J1 m n k s with | some s'=>.nx (mf s'.b,s'.det) | none=>.ex (0,mf fun _ _=>0))
 | 0,k,s,h=>by
  have : k = 4:=by omega
  subst this
  rw [Wf (hend s)]; rfl
 | n + 1,k,s,h=>by
  have h1:=hstep k (by omega) s
  unfold J1
  cases hr : JW m s k with
  | none=>rw [hr] at h1; rw [Wf h1]; rfl
  | some s'=>rw [hr] at h1; rw [Ws h1]; exact zB m L pk hstep hend n (k + 1) s' (by omega)
theorem qd {i k : Nat} : (((i : Int)) != ((k : Nat) : Int)) = decide (i ≠ k):=by
 by_cases h : i = k
 ·subst h; simp
 ·have : (i : Int) ≠ (k : Int):=by omega
  simp [h,this]
theorem jw (m : Nat) (L : Mat × Mat × Int → Option (Fl (Mat × Mat × Int) (Mat × Mat))) (f g : MF) (k : Nat)
  (hL : ∀ i,i < 4 → ∀ a b : MF,(a i = f i) → (b i = g i) → (a k = f k) → (b k = g k) → L (mf a,mf b,(i : Int)) = some (Fl.nx (mf (fun r c=>if r = i then UF m f f k r c else a r c),mf (fun r c=>if r = i then UF m f g k r c else b r c),wr ((i : Int) + 1))))
  (he : ∀ a b : Mat,L (a,b,4) = some (Fl.ex (a,b))) : ZG L (mf f,mf g,0) = some (mf (UF m f f k),mf (UF m f g k)):=by
 have ek : ∀ h : MF,UF m f h k k = h k:=fun h=>by funext c; simp [UF]
 have k1 : (mf fun r c=>if r < 4 then UF m f f k r c else f r c) = mf (UF m f f k):=WT fun r hr c _=>by rw [if_pos hr]
 have k2 : (mf fun r c=>if r < 4 then UF m f g k r c else g r c) = mf (UF m f g k):=WT fun r hr c _=>by rw [if_pos hr]
 have:=Z8 (f:=L) (fun i : Nat=>(mf fun r c=>if r < i then UF m f f k r c else f r c,mf fun r c=>if r < i then UF m f g k r c else g r c,(i : Int))) 0 4 (by omega)
  (t:=(mf (UF m f f k),mf (UF m f g k))) (fun i _ hi=>by
  rw [hL i hi _ _ (by funext c; simp) (by funext c; simp) (by funext c; by_cases h : k < i <;> simp [h,ek]) (by funext c; by_cases h : k < i <;> simp [h,ek])]
  rw [wr4 (show i < 1000 by omega)]
  have e : ∀ (x y : MF),(mf fun r c=>if r = i then x r c else if r < i then x r c else y r c) = mf fun r c=>if r < i + 1 then x r c else y r c:=fun x y=>WT fun r _ c _=>by
   by_cases h1 : r = i
   ·subst h1; simp
   ·by_cases h2 : r < i
    ·rw [if_neg h1,if_pos h2,if_pos (by omega)]
    ·rw [if_neg h1,if_neg h2,if_neg (by omega)]
  rw [e,e]) (by
  simp only [k1,k2]
  exact he _ _)
 simpa using this

theorem kp (f : MF) {i k : Nat} : ((mf f).setIfInBounds i (vf 4 (f k))).setIfInBounds k (vf 4 (f i)) = mf (kq f i k):=by
 rw [K1,K1]; rfl
section
variable (m : Nat) (hm : m < 512) (hm2 : 256 ≤ m)
include hm
theorem yQ (A B : Mat) (det : UInt8) (q : UInt8) (f g : MF) (k : Nat) (hk : k < 4) : ZG (XV (m : Int) (A,B,(k : Int),det) q) (mf f,mf g,0) = some (mf (zw m f k q),mf (zw m g k q)):=by
 refine AM _ f g k hk (fun c=>Z7 m (f k c) q) (fun c=>Z7 m (g k c) q) (fun c hc a b _ _ ha hb=>?_) (fun a b=>?_)
 ·unfold XV
  simp only [lt4 hc,if_true,U5 _ hk,ZU _ hc,Option.bind_some,Tq m hm,ha,hb,Int.toNat_natCast]
 ·unfold XV; simp
theorem kO (A B : Mat) (det : UInt8) (s1 : Mat × Mat × Int) (x : UInt8) (f g : MF) (k i : Nat) (hk : k < 4) (hi : i < 4) (hik : i ≠ k) (hs : s1.2.2 = (i : Int)) :
  ZG (X2 (m : Int) (A,B,(k : Int),det) s1 x) (mf f,mf g,0) = some (mf (fun r c=>if r = i then f i c ^^^ Z7 m x (f k c) else f r c),mf (fun r c=>if r = i then g i c ^^^ Z7 m x (g k c) else g r c)):=by
 refine AM _ f g i hi (fun c=>f i c ^^^ Z7 m x (f k c)) (fun c=>g i c ^^^ Z7 m x (g k c)) (fun c hc a b ha' hb' ha hb=>?_) (fun a b=>?_)
 ·unfold X2
  have e1:=ha' k (Ne.symm hik)
  have e2:=hb' k (Ne.symm hik)
  simp only [hs,lt4 hc,if_true,U5 _ hk,U5 _ hi,ZU _ hc,Option.bind_some,Tq m hm,ha,hb,e1,e2,Int.toNat_natCast]
 ·unfold X2; simp
include hm2
theorem js (A B : Mat) (det : UInt8) (f g : MF) (k : Nat) (hk : k < 4) : ZG (X4 (m : Int) (A,B,(k : Int),det)) (mf f,mf g,0) = some (mf (UF m f f k),mf (UF m f g k)):=by
 refine jw m _ f g k (fun i hi a b hai hbi hak hbk=>?_) (fun a b=>by unfold X4; simp)
 unfold X4
 have hfi : a i k = f i k:=by rw [hai]
 simp only [lt4 hi,if_true,U5 _ hi,ZU _ hk,Option.bind_some,qd,hfi]
 by_cases h : i = k
 ·subst h
  simp only [ne_eq,not_true_eq_false,decide_false,Bool.false_eq_true,if_false,Option.bind_some]
  congr 3
  ·exact WT fun r _ c _=>by
    by_cases h : r = i
    ·subst h; simp [UF,hai]
    ·simp [h]
  ·congr 1
   exact WT fun r _ c _=>by
    by_cases h : r = i
    ·subst h; simp [UF,hbi]
    ·simp [h]
 ·have hd : decide (i ≠ k) = true:=by simpa using h
  simp only [hd,if_true,Option.bind_some]
  by_cases h0 : f i k = 0
  ·simp only [h0,bne_self_eq_false,Bool.false_eq_true,if_false,Option.bind_some]
   congr 3
   ·exact WT fun r _ c _=>by
     by_cases h2 : r = i
     ·subst h2; simp [UF,hai,h,h0,Jq hm2 hm]
     ·simp [h2]
   ·congr 1
    exact WT fun r _ c _=>by
     by_cases h2 : r = i
     ·subst h2; simp [UF,hbi,h,h0,Jq hm2 hm]
     ·simp [h2]
  ·have hb0 : (f i k != 0) = true:=by simpa using h0
   simp only [hb0,if_true,Option.bind_some]
   rw [kO m hm A B det _ _ a b k i hk hi h rfl]
   simp only [Option.bind_some]
   congr 3
   ·exact WT fun r _ c _=>by
     by_cases h2 : r = i
     ·subst h2; simp [UF,hai,hak,h]
     ·simp [h2]
   ·congr 1
    exact WT fun r _ c _=>by
     by_cases h2 : r = i
     ·subst h2; simp [UF,hbi,hbk,h]
     ·simp [h2]
theorem jO (k : Nat) (hk : k < 4) (s : Red) : YQ (m : Int) (mf s.a,mf s.b,(k : Int),s.det) = some (match JW m s k with | none=>.ex (.ex (0,mf fun _ _=>0)) | some s'=>.nx (mf s'.a,mf s'.b,((k + 1 : Nat) : Int),s'.det)):=by
 unfold YQ
 have hp:=yE (UR (mf s.a,mf s.b,(k : Int),s.det)) s.a k hk (fun x=>rfl)
 simp only [lt4 hk,if_true,hp,Option.bind_some]
 unfold JW
 by_cases h4 : K0 s.a k = 4
 ·have : ((4 : Nat) : Int) = 4:=rfl
  simp only [h4,this,beq_self_eq_true,if_true,A2]
 ·have hi:=kI h4
  have h5 : (((K0 s.a k : Nat) : Int) == 4) = false:=by
   have : ((K0 s.a k : Nat) : Int) ≠ 4:=by omega
   simpa using this
  generalize hpi : K0 s.a k = i at *
  simp only [h4,h5,Bool.false_eq_true,if_false]
  have x1 : ZM ((mf s.a).setIfInBounds i (vf 4 (s.a k))) (k : Int) = some (vf 4 (fun c=>if k = i then s.a k c else s.a k c)):=by rw [K1]; exact U5 _ hk
  have x2 : ZM ((mf s.b).setIfInBounds i (vf 4 (s.b k))) (k : Int) = some (vf 4 (fun c=>if k = i then s.b k c else s.b k c)):=by rw [K1]; exact U5 _ hk
  simp only [U5 _ hk,U5 _ hi,Option.bind_some,Int.toNat_natCast,x1,x2,kp,ZU _ hk,Tq m hm,Kg m hm,yQ m hm _ _ _ _ _ _ k hk,js m hm hm2 _ _ _ _ _ k hk,wr4 (show k < 1000 by omega)]
theorem BU (f : MF) : Xw (m : Int) (mf f) = some (Bg m f):=by
 unfold Xw
 have h:=zB m (YQ (m : Int)) (fun s k=>(mf s.a,mf s.b,(k : Int),s.det)) (jO m hm hm2) (fun s=>by unfold YQ; simp) 4 0 ⟨f,Jv,1⟩ rfl
 have h2 : ZG (YQ (m : Int)) (mf f,mf Jv,0,1) = _:=h
 rw [JI,Option.bind_some,h2]
 unfold Bg
 cases J1 m 4 0 ⟨f,Jv,1⟩ <;> rfl
end
theorem AF {n i : Nat} (v : Vector UInt8 n) (h : i < n) : ZM v (i : Int) = some (v.toList.getD i 0):=by
 rw [W9,Vector.getElem?_eq_getElem h]
 simp [List.getD_eq_getElem?_getD,h]
theorem zN (x : UInt8) : (bI x).toNat = x.toNat:=rfl
def Qh (p : Vector UInt8 16) : Bool:=p.toList.all (fun x=>decide (x < 16)) && jU p.toList
def H6 (a : Mat) : MF:=fun i j=>(a[i]?.getD default)[j]?.getD default
theorem Ba (a : Mat) : a = mf (H6 a):=calc a = vf 4 (fun i=>a[i]?.getD default):=y0 a
  _ = _:=Xd fun i _=>y0 _
def detC (m : Nat) (a : Mat) : UInt8:=(Bg m (H6 a)).1
def invM (m : Nat) (a : Mat) : Mat:=(Bg m (H6 a)).2
def YN (c : GCipher) : Bool:=JJ c.Field && jU c.Box.toList && Qh c.Places && decide (1 ≤ c.Rounds ∧ c.Rounds ≤ 20) && (detC c.Field.toNat c.Mix != 0)
theorem kE (m : Nat) (hm : m < 512) (hm2 : 256 ≤ m) (a : Mat) : Xw (m : Int) a = some (detC m a,invM m a):=by
 have:=BU m hm hm2 (H6 a)
 rw [← Ba] at this
 exact this
theorem Ju {c : GCipher} (h : YN c = true) : ∃ m : Nat,c.Field = m ∧ 256 ≤ m ∧ m < 512:=by
 unfold YN at h
 simp only [Bool.and_eq_true] at h
 exact zU h.1.1.1.1
theorem WI {n : Nat} (L : Vector UInt8 n × Int → Option (Fl (Vector UInt8 n × Int) (Vector UInt8 n))) (f h : Nat → UInt8) (hn : n < 9223372036854775807) (m : Nat) (hm : m ≤ n) (h0 : ∀ j,j < m → h j = f j)
  (hL : ∀ i,m ≤ i → i < n → ∀ a : Nat → UInt8,(∀ j,j < i → a j = h j) → (∀ j,i ≤ j → a j = f j) → L (vf n a,(i : Int)) = some (.nx ((vf n a).setIfInBounds i (h i),wr ((i : Int) + 1))))
  (he : ∀ v,L (v,(n : Int)) = some (.ex v)) : ZG L (vf n f,(m : Int)) = some (vf n h):=by
 have k1 : (vf n fun j=>if j < n then h j else f j) = vf n h:=Xd fun j hj=>by rw [if_pos hj]
 have k0 : (vf n fun j=>if j < m then h j else f j) = vf n f:=Xd fun j hj=>by
  by_cases h1 : j < m
  ·rw [if_pos h1,h0 j h1]
  ·rw [if_neg h1]
 have:=Z8 (f:=L) (fun i : Nat=>(vf n fun j=>if j < i then h j else f j,(i : Int))) m n hm (t:=vf n h) (fun i hmi hi=>by
  rw [hL i hmi hi _ (fun j hj=>by rw [if_pos hj]) (fun j hj=>by rw [if_neg (by omega)]),TL,XF (show i < 9223372036854775807 by omega)]
  refine congrArg (fun z=>some (Fl.nx (z,((i + 1 : Nat) : Int)))) (Xd fun j hj=>?_)
  by_cases h1 : j = i
  ·subst h1; simp
  ·by_cases h2 : j < i
   ·rw [if_neg h1,if_pos h2,if_pos (by omega)]
   ·rw [if_neg h1,if_neg h2,if_neg (by omega)]) (by
  simp only [k1]
  exact he _)
 simp only [k0] at this
 exact this
def AS (b : Vector UInt8 256) (x : UInt8) : UInt8:=b[x.toNat]'(UInt8.toNat_lt x)
theorem QZ (b : Vector UInt8 256) (x : UInt8) : ZM b (bI x) = some (AS b x):=by
 have : ZM b ((x.toNat : Nat) : Int) = _:=W9 b x.toNat
 rw [Vector.getElem?_eq_getElem (UInt8.toNat_lt x)] at this
 exact this
abbrev Blk:=Vector UInt8 16
def bf (v : Blk) (i : Nat) : UInt8:=v[i]?.getD default
theorem vf_bf (v : Blk) : v = vf 16 (bf v):=y0 v
theorem JF {i : Nat} (h : i < 16) : decide ((i : Int) < 16) = true:=by simp; omega
def JY (f g : Nat → UInt8) : Nat → UInt8:=fun i=>f i ^^^ g i
theorem JA (f g : Nat → UInt8) : Xo (vf 16 f) (vf 16 g) = some (vf 16 (JY f g)):=by
 unfold Xo
 have:=WI (VJ (vf 16 g)) f (JY f g) (by omega) 0 (by omega) (fun j hj=>by omega) (fun i _ hi a _ ha=>by
  unfold VJ
  simp only [JF hi,if_true,ZU _ hi,Option.bind_some,Int.toNat_natCast,ha i (Nat.le_refl _),JY]) (fun v=>by unfold VJ; simp)
 have h2 : ZG (VJ (vf 16 g)) (vf 16 f,0) = _:=this
 rw [h2]; rfl
theorem TE (f g : Nat → UInt8) : YB (vf 16 f) (vf 16 g) = some (vf 16 (JY f g)):=by
 unfold YB
 have:=WI (X7 (vf 16 g)) f (JY f g) (by omega) 0 (by omega) (fun j hj=>by omega) (fun i _ hi a _ ha=>by
  unfold X7
  simp only [JF hi,if_true,ZU _ hi,Option.bind_some,Int.toNat_natCast,ha i (Nat.le_refl _),JY]) (fun v=>by unfold X7; simp)
 have h2 : ZG (X7 (vf 16 g)) (vf 16 f,0) = _:=this
 rw [h2]; rfl
def BJ (b : Vector UInt8 256) (f : Nat → UInt8) : Nat → UInt8:=fun i=>AS b (f i)
theorem yN (b : Vector UInt8 256) (f : Nat → UInt8) : Uv b (vf 16 f) = some (vf 16 (BJ b f)):=by
 unfold Uv
 have:=WI (WC b) f (BJ b f) (by omega) 0 (by omega) (fun j hj=>by omega) (fun i _ hi a _ ha=>by
  unfold WC
  simp only [JF hi,if_true,ZU _ hi,Option.bind_some,Int.toNat_natCast,ha i (Nat.le_refl _),QZ,BJ]) (fun v=>by unfold WC; simp)
 have h2 : ZG (WC b) (vf 16 f,0) = _:=this
 rw [h2]; rfl
def KZ (p : Blk) (f : Nat → UInt8) : Nat → UInt8:=fun i=>f (bf p i).toNat
theorem Hk {p : Blk} (h : Qh p = true) {i : Nat} (hi : i < 16) : (bf p i).toNat < 16:=by
 unfold Qh at h
 simp only [Bool.and_eq_true,List.all_eq_true,decide_eq_true_eq] at h
 have e : bf p i = p[i]:=by unfold bf; rw [Vector.getElem?_eq_getElem hi]; rfl
 have:=h.1 p[i] (by simp)
 rw [UInt8.lt_iff_toNat_lt] at this
 rw [e]; exact this
theorem J2 (p : Blk) {i : Nat} (h : i < 16) : ZM p (i : Int) = some (bf p i):=by
 rw [W9]; unfold bf; rw [Vector.getElem?_eq_getElem h]; rfl
theorem zF (f : Nat → UInt8) {x : UInt8} (h : x.toNat < 16) : ZM (vf 16 f) (bI x) = some (f x.toNat):=ZU f h
theorem jm (p : Blk) (hp : Qh p = true) (f : Nat → UInt8) : UX p (vf 16 f) = some (vf 16 (KZ p f)):=by
 unfold UX
 have:=WI (W2 p (vf 16 f)) (fun _=>0) (KZ p f) (by omega) 0 (by omega) (fun j hj=>by omega) (fun i _ hi a _ ha=>by
  unfold W2
  simp only [JF hi,if_true,ZU _ hi,J2 _ hi,Option.bind_some,Int.toNat_natCast,zF f (Hk hp hi),KZ]) (fun v=>by unfold W2; simp)
 have h2 : ZG (W2 p (vf 16 f)) (vf 16 (fun _=>0),0) = _:=this
 rw [TD 16 (0 : UInt8),h2]; rfl
theorem v_move (p : Blk) (hp : Qh p = true) (f : Nat → UInt8) : WK p (vf 16 f) = some (vf 16 (KZ p f)):=by
 unfold WK
 have:=WI (Xv p (vf 16 f)) (fun _=>0) (KZ p f) (by omega) 0 (by omega) (fun j hj=>by omega) (fun i _ hi a _ ha=>by
  unfold Xv
  simp only [JF hi,if_true,ZU _ hi,J2 _ hi,Option.bind_some,Int.toNat_natCast,zF f (Hk hp hi),KZ]) (fun v=>by unfold Xv; simp)
 have h2 : ZG (Xv p (vf 16 f)) (vf 16 (fun _=>0),0) = _:=this
 rw [TD 16 (0 : UInt8),h2]; rfl

def QW (b : Vector UInt8 256) (f : Nat → UInt8) (r : Int) : Nat → UInt8
 | 0=>f 0 ^^^ AS b (f 15 ^^^ ZC r)
 | i + 1=>f (i + 1) ^^^ AS b (QW b f r i)
theorem jE (b : Vector UInt8 256) (f : Nat → UInt8) (r : Int) : US b (vf 16 f) r = some (vf 16 (QW b f r)) := by
  unfold US
  have := WI (W4 b r) f (QW b f r) (by omega) 0 (by omega) (fun j hj => by omega) (fun i _ hi a hb ha => by
    unfold W4
    cases i with
    | zero =>
      have e1 : Int.tmod (wr (((0 : Nat) : Int) + 15)) 16 = ((15 : Nat) : Int) := by decide
      simp only [e1, JF hi, if_true, ZU a (show 15 < 16 by omega), Option.bind_some]
      have e2 : (((0 : Nat) : Int) == 0) = true := rfl
      simp only [e2, if_true, Option.bind_some, QZ, ZU a hi, Int.toNat_natCast, ha 0 (by omega), ha 15 (by omega), QW]
    | succ i =>
      have e1 : Int.tmod (wr (((i + 1 : Nat) : Int) + 15)) 16 = ((i : Nat) : Int) := by
        rw [YT (by omega)]
        have : (((i + 1 : Nat) : Int) + 15) = ((i + 16 : Nat) : Int) := by omega
        rw [this]
        have : Int.tmod ((i + 16 : Nat) : Int) 16 = (((i + 16) % 16 : Nat) : Int) := rfl
        rw [this]
        omega
      have e2 : (((i + 1 : Nat) : Int) == 0) = false := by have : ((i + 1 : Nat) : Int) ≠ 0 := by omega
                                                           simpa using this
      simp only [e1, e2, JF hi, if_true, ZU a (show i < 16 by omega), Option.bind_some, Bool.false_eq_true, if_false, QZ, ZU a hi, Int.toNat_natCast, ha (i + 1) (Nat.le_refl _), hb i (by omega), QW]) (fun v => by unfold W4; simp)
  have h2 : ZG (W4 b r) (vf 16 f, 0) = _ := this
  rw [h2]; rfl
theorem jN (e : Ref Gengine) (f : Nat → UInt8) (r : Int) : XJ e (vf 16 f) r = some (vf 16 (QW e.v.box f r)):=by
 unfold XJ
 have x0 : ZM (vf 16 f) (0 : Int) = some (f 0):=ZU f (show 0 < 16 by omega)
 have x15 : ZM (vf 16 f) (15 : Int) = some (f 15):=ZU f (show 15 < 16 by omega)
 have z : (0 : Int).toNat = 0:=rfl
 simp only [x0,x15,Option.bind_some,QZ,z,TL]
 have:=WI (YX e) (fun i=>if i = 0 then f 0 ^^^ AS e.v.box (f 15 ^^^ ZC r) else f i) (QW e.v.box f r) (by omega) 1 (by omega) (fun j hj=>by
  have : j = 0:=by omega
  subst this; simp [QW]) (fun i h1 hi a hb ha=>by
  unfold YX
  obtain ⟨i,rfl⟩ : ∃ k,i = k + 1:=⟨i - 1,by omega⟩
  have e1 : wr (((i + 1 : Nat) : Int) - 1) = ((i : Nat) : Int):=by rw [YT (by omega)]; omega
  simp only [e1,JF hi,if_true,ZU a (show i < 16 by omega),ZU a hi,Option.bind_some,QZ,Int.toNat_natCast,ha (i + 1) (Nat.le_refl _),hb i (by omega),QW]
  simp) (fun v=>by unfold YX; simp)
 have h2 : ZG (YX e) (vf 16 (fun i=>if i = 0 then f 0 ^^^ AS e.v.box (f 15 ^^^ ZC r) else f i),1) = _:=this
 rw [h2]; rfl
def AX (b : Vector UInt8 256) (k : Nat → UInt8) : Nat → Nat → UInt8
 | 0=>k
 | r + 1=>QW b (AX b k r) ((r + 1 : Nat) : Int)
def Ul (b : Vector UInt8 256) (k : Nat → UInt8) (n : Nat) : List Blk:=(List.range (n + 1)).map fun r=>vf 16 (AX b k r)
theorem Az (b : Vector UInt8 256) (k : Nat → UInt8) (n : Nat) : Ul b k (n + 1) = Ul b k n ++ [vf 16 (QW b (AX b k n) ((n + 1 : Nat) : Int))]:=by
 unfold Ul
 rw [List.range_succ,List.map_append]; rfl
theorem Kr (b : Vector UInt8 256) (k : Nat → UInt8) (n : Nat) : (Ul b k n).length = n + 1:=by simp [Ul]
theorem JL (b : Vector UInt8 256) (k : Nat → UInt8) {n r : Nat} (h : r ≤ n) : idx (Ul b k n) (r : Int) = some (vf 16 (AX b k r)):=by
 rw [YE]; unfold Ul; rw [List.getElem?_map,List.getElem?_range (by omega)]; rfl
theorem jp (c : GCipher) (k : Nat → UInt8) (n : Nat) (hn : n ≤ 1000) : UO c (vf 16 k) (n : Int) = some (Ul c.Box k n):=by
 unfold UO
 have:=Z8 (f:=W0 c (n : Int)) (fun i : Nat=>(vf 16 (AX c.Box k (i - 1)),Ul c.Box k (i - 1),(i : Int))) 1 (n + 1) (by omega) (t:=Ul c.Box k n) (fun i h1 hi=>by
  unfold W0
  obtain ⟨i,rfl⟩ : ∃ q,i = q + 1:=⟨i - 1,by omega⟩
  have e1 : decide (((i + 1 : Nat) : Int) ≤ (n : Int)) = true:=by simp; omega
  have e2 : app 16 (Ul c.Box k i) [vf 16 (QW c.Box (AX c.Box k i) ((i + 1 : Nat) : Int))] = _:=XM (by rw [Kr]; simp; omega)
  simp only [Nat.add_sub_cancel,e1,if_true,jE,Option.bind_some,e2,XF (show i + 1 < 9223372036854775807 by omega),Az]
  rfl) (by
  unfold W0
  have e1 : decide (((n + 1 : Nat) : Int) ≤ (n : Int)) = false:=by simp; omega
  simp only [e1,Bool.false_eq_true,if_false,Nat.add_sub_cancel])
 have h2 : ZG (W0 c (n : Int)) (vf 16 k,[vf 16 k],1) = _:=this
 rw [h2]; rfl
theorem v_keys (e : Ref Gengine) (k : Nat → UInt8) (n : Nat) (hn : n ≤ 1000) : WS e (vf 16 k) (n : Int) = some (Ul e.v.box k n):=by
 unfold WS
 have:=Z8 (f:=Xx e (n : Int)) (fun i : Nat=>(vf 16 (AX e.v.box k (i - 1)),Ul e.v.box k (i - 1),(i : Int))) 1 (n + 1) (by omega) (t:=Ul e.v.box k n) (fun i h1 hi=>by
  unfold Xx
  obtain ⟨i,rfl⟩ : ∃ q,i = q + 1:=⟨i - 1,by omega⟩
  have e1 : decide (((i + 1 : Nat) : Int) ≤ (n : Int)) = true:=by simp; omega
  have e2 : app 16 (Ul e.v.box k i) [vf 16 (QW e.v.box (AX e.v.box k i) ((i + 1 : Nat) : Int))] = _:=XM (by rw [Kr]; simp; omega)
  simp only [Nat.add_sub_cancel,e1,if_true,jN,Option.bind_some,e2,XF (show i + 1 < 9223372036854775807 by omega),Az]
  rfl) (by
  unfold Xx
  have e1 : decide (((n + 1 : Nat) : Int) ≤ (n : Int)) = false:=by simp; omega
  simp only [e1,Bool.false_eq_true,if_false,Nat.add_sub_cancel])
 have h2 : ZG (Xx e (n : Int)) (vf 16 k,[vf 16 k],1) = _:=this
 rw [h2]; rfl

def rowF (m : Nat) (a : MF) (f : Nat → UInt8) (c r : Nat) : UInt8:=((Z7 m (a r 0) (f c) ^^^ Z7 m (a r 1) (f (c + 1))) ^^^ Z7 m (a r 2) (f (c + 2))) ^^^ Z7 m (a r 3) (f (c + 3))
def UJ (m : Nat) (a : MF) (f : Nat → UInt8) : Nat → UInt8:=fun i=>rowF m a f (i / 4 * 4) (i % 4)
theorem set_set (f : Nat → UInt8) (k : Nat) (x y : UInt8) : (fun i=>if i = k then y else if i = k then x else f i) = fun i=>if i = k then y else f i:=by
 funext i; by_cases h : i = k <;> simp [h]
theorem wr_at {c r : Nat} (hc : c < 4) (hr : r < 4) : wr (wr (4 * (c : Int)) + (r : Int)) = ((c * 4 + r : Nat) : Int):=by
 rw [YT (x:=4 * (c : Int)) (by omega),YT (by omega)]; omega
theorem kR (m : Nat) (hm : m < 512) (hm2 : 256 ≤ m) (a : MF) (f g : Nat → UInt8) (c r : Nat) (hc : c < 4) (hr : r < 4) (s1 s2 : Blk × Int) (h1 : s1.2 = (c : Int)) (h2 : s2.2 = (r : Int)) (hg : g (c * 4 + r) = 0) :
  ZG (XT (m : Int) (mf a) (vf 16 f) s1 s2) (vf 16 g,0) = some (vf 16 fun i=>if i = c * 4 + r then rowF m a f (c * 4) r else g i):=by
 have hcr : c * 4 + r < 16:=by omega
 have step : ∀ (j : Nat) (h : Nat → UInt8),j < 4 → XT (m : Int) (mf a) (vf 16 f) s1 s2 (vf 16 h,(j : Int)) = some (.nx (vf 16 (fun i=>if i = c * 4 + r then h (c * 4 + r) ^^^ Z7 m (a r j) (f (c * 4 + j)) else h i),((j + 1 : Nat) : Int))):=fun j h hj=>by
  unfold XT
  simp only [h1,h2,lt4 hj,if_true,wr_at hc hr,wr_at hc hj,ZU _ hcr,U5 _ hr,ZU _ hj,ZU f (show c * 4 + j < 16 by omega),Option.bind_some,Jb m hm hm2,Int.toNat_natCast,TL,wr4 (show j < 1000 by omega)]
 have e0:=step 0 g (by omega)
 have e1:=step 1 (fun i=>if i = c * 4 + r then g (c * 4 + r) ^^^ Z7 m (a r 0) (f (c * 4 + 0)) else g i) (by omega)
 have e2:=step 2 (fun i=>if i = c * 4 + r then (g (c * 4 + r) ^^^ Z7 m (a r 0) (f (c * 4 + 0))) ^^^ Z7 m (a r 1) (f (c * 4 + 1)) else g i) (by omega)
 have e3:=step 3 (fun i=>if i = c * 4 + r then ((g (c * 4 + r) ^^^ Z7 m (a r 0) (f (c * 4 + 0))) ^^^ Z7 m (a r 1) (f (c * 4 + 1))) ^^^ Z7 m (a r 2) (f (c * 4 + 2)) else g i) (by omega)
 have e4 : ∀ v : Blk,XT (m : Int) (mf a) (vf 16 f) s1 s2 (v,((4 : Nat) : Int)) = some (.ex v):=fun v=>by unfold XT; simp
 simp only [if_true,set_set] at e1 e2 e3
 have e0' : XT (m : Int) (mf a) (vf 16 f) s1 s2 (vf 16 g,0) = _:=e0
 rw [Ws e0',Ws e1,Ws e2,Ws e3,Wf (e4 _)]
 refine congrArg some (Xd fun i _=>?_)
 by_cases h : i = c * 4 + r
 ·simp [h,hg,rowF]
 ·simp [h]
theorem ko (m : Nat) (hm : m < 512) (hm2 : 256 ≤ m) (a : MF) (f : Nat → UInt8) : Ts (m : Int) (mf a) (vf 16 f) = some (vf 16 (UJ m a f)):=by
 unfold Ts
 -- after c columns and r rows of the next
 have inner : ∀ c : Nat,c < 4 → ∀ s1 : Blk × Int,s1.2 = (c : Int) → ZG (VD (m : Int) (mf a) (vf 16 f) s1) (vf 16 (fun i=>if i < c * 4 then UJ m a f i else 0),0) = some (vf 16 fun i=>if i < (c + 1) * 4 then UJ m a f i else 0):=fun c hc s1 h1=>by
  have k1 : (vf 16 fun i=>if i < c * 4 + 4 then UJ m a f i else 0) = vf 16 fun i=>if i < (c + 1) * 4 then UJ m a f i else 0:=by rw [show c * 4 + 4 = (c + 1) * 4 by omega]
  have:=Z8 (f:=VD (m : Int) (mf a) (vf 16 f) s1) (fun r : Nat=>(vf 16 fun i=>if i < c * 4 + r then UJ m a f i else 0,(r : Int))) 0 4 (by omega) (t:=vf 16 fun i=>if i < (c + 1) * 4 then UJ m a f i else 0) (fun r _ hr=>by
   unfold VD
   have h2:=kR m hm hm2 a f (fun i=>if i < c * 4 + r then UJ m a f i else 0) c r hc hr s1 (vf 16 fun i=>if i < c * 4 + r then UJ m a f i else 0,(r : Int)) h1 rfl (by simp)
   simp only [lt4 hr,if_true,h2,Option.bind_some,wr4 (show r < 1000 by omega)]
   refine congrArg (fun z=>some (Fl.nx (z,((r + 1 : Nat) : Int)))) (Xd fun i _=>?_)
   by_cases h : i = c * 4 + r
   ·subst h
    have q1 : (c * 4 + r) / 4 = c:=by omega
    have q2 : (c * 4 + r) % 4 = r:=by omega
    rw [if_pos rfl,if_pos (by omega)]
    unfold UJ; rw [q1,q2]
   ·by_cases h3 : i < c * 4 + r
    ·rw [if_neg h,if_pos h3,if_pos (by omega)]
    ·rw [if_neg h,if_neg h3,if_neg (by omega)]) (by
   unfold VD
   simp only [k1]
   simp)
  exact this
 have:=Z8 (f:=VV (m : Int) (mf a) (vf 16 f)) (fun c : Nat=>(vf 16 fun i=>if i < c * 4 then UJ m a f i else 0,(c : Int))) 0 4 (by omega) (t:=vf 16 (UJ m a f)) (fun c _ hc=>by
  unfold VV
  have h2:=inner c hc (vf 16 fun i=>if i < c * 4 then UJ m a f i else 0,(c : Int)) rfl
  simp only [lt4 hc,if_true,h2,Option.bind_some,wr4 (show c < 1000 by omega)]) (by
  unfold VV
  have : (vf 16 fun i=>if i < 4 * 4 then UJ m a f i else 0) = vf 16 (UJ m a f):=Xd fun i hi=>by rw [if_pos (by omega)]
  simp only [this]
  simp)
 have e0 : (vf 16 fun i=>if i < 0 * 4 then UJ m a f i else 0) = vf 16 fun _=>(0 : UInt8):=Xd fun i _=>by rw [if_neg (by omega)]
 simp only [e0] at this
 have h2 : ZG (VV (m : Int) (mf a) (vf 16 f)) (vf 16 fun _=>(0 : UInt8),0) = _:=this
 rw [TD 16 (0 : UInt8),h2]; rfl

abbrev Tab:=Vector (Vector (Vector UInt8 256) 4) 4
def H3 (m : Nat) (a : MF) : Tab:=vf 4 fun i=>vf 4 fun j=>vf 256 fun x=>Z7 m (a i j) (UInt8.ofNat x)
theorem kx (m : Nat) (a : MF) (i j : Nat) (x : UInt8) : ZM (vf 256 fun x=>Z7 m (a i j) (UInt8.ofNat x)) (bI x) = some (Z7 m (a i j) x):=by
 rw [show bI x = ((x.toNat : Nat) : Int) from rfl,ZU _ (UInt8.toNat_lt x)]
 simp
theorem v_mix (m : Nat) (a : MF) (f : Nat → UInt8) : VI ⟨H3 m a⟩ (vf 16 f) = some (vf 16 (UJ m a f)):=by
 unfold VI
 have i0 : ∀ (v : Vector (Vector UInt8 256) 4),ZM v (0 : Int) = v[0]?:=fun v=>W9 v 0
 have i1 : ∀ (v : Vector (Vector UInt8 256) 4),ZM v (1 : Int) = v[1]?:=fun v=>W9 v 1
 have i2 : ∀ (v : Vector (Vector UInt8 256) 4),ZM v (2 : Int) = v[2]?:=fun v=>W9 v 2
 have i3 : ∀ (v : Vector (Vector UInt8 256) 4),ZM v (3 : Int) = v[3]?:=fun v=>W9 v 3
 have inner : ∀ c : Nat,c < 4 → ∀ s1 : Blk × Int,s1.2 = ((c * 4 : Nat) : Int) → ZG (X6 ⟨H3 m a⟩ s1 (f (c * 4),f (c * 4 + 1),f (c * 4 + 2),f (c * 4 + 3))) (vf 16 (fun i=>if i < c * 4 then UJ m a f i else f i),0) = some (vf 16 fun i=>if i < (c + 1) * 4 then UJ m a f i else f i):=fun c hc s1 h1=>by
  have k1 : (vf 16 fun i=>if i < c * 4 + 4 then UJ m a f i else f i) = vf 16 fun i=>if i < (c + 1) * 4 then UJ m a f i else f i:=by rw [show c * 4 + 4 = (c + 1) * 4 by omega]
  have:=Z8 (f:=X6 ⟨H3 m a⟩ s1 (f (c * 4),f (c * 4 + 1),f (c * 4 + 2),f (c * 4 + 3))) (fun r : Nat=>(vf 16 fun i=>if i < c * 4 + r then UJ m a f i else f i,(r : Int))) 0 4 (by omega) (t:=vf 16 fun i=>if i < (c + 1) * 4 then UJ m a f i else f i) (fun r _ hr=>by
   unfold X6
   have e1 : wr (s1.2 + (r : Int)) = ((c * 4 + r : Nat) : Int):=by rw [h1,YT (by omega)]; omega
   have et : ZM (H3 m a) (r : Int) = some (vf 4 fun j=>vf 256 fun x=>Z7 m (a r j) (UInt8.ofNat x)):=ZU _ hr
   simp only [lt4 hr,if_true,et,i0,i1,i2,i3,JR _ (show 0 < 4 by omega),JR _ (show 1 < 4 by omega),JR _ (show 2 < 4 by omega),JR _ (show 3 < 4 by omega),kx,e1,ZU _ (show c * 4 + r < 16 by omega),Option.bind_some,Int.toNat_natCast,TL,wr4 (show r < 1000 by omega)]
   refine congrArg (fun z=>some (Fl.nx (z,((r + 1 : Nat) : Int)))) (Xd fun i _=>?_)
   by_cases h : i = c * 4 + r
   ·subst h
    have q1 : (c * 4 + r) / 4 = c:=by omega
    have q2 : (c * 4 + r) % 4 = r:=by omega
    rw [if_pos rfl,if_pos (by omega)]
    unfold UJ; rw [q1,q2]; rfl
   ·by_cases h3 : i < c * 4 + r
    ·rw [if_neg h,if_pos h3,if_pos (by omega)]
    ·rw [if_neg h,if_neg h3,if_neg (by omega)]) (by
   unfold X6
   simp only [k1]
   simp)
  exact this
 have:=Z8 (f:=Wa ⟨H3 m a⟩) (fun c : Nat=>(vf 16 fun i=>if i < c * 4 then UJ m a f i else f i,((c * 4 : Nat) : Int))) 0 4 (by omega) (t:=vf 16 (UJ m a f)) (fun c _ hc=>by
  unfold Wa
  have hd : decide (((c * 4 : Nat) : Int) < ((vf 16 fun i=>if i < c * 4 then UJ m a f i else f i).toList.length : Int)) = true:=by rw [Vector.length_toList]; simp; omega
  have x0:=ZU (n:=16) (fun i=>if i < c * 4 then UJ m a f i else f i) (show c * 4 < 16 by omega)
  have x1:=ZU (n:=16) (fun i=>if i < c * 4 then UJ m a f i else f i) (show c * 4 + 1 < 16 by omega)
  have x2:=ZU (n:=16) (fun i=>if i < c * 4 then UJ m a f i else f i) (show c * 4 + 2 < 16 by omega)
  have x3:=ZU (n:=16) (fun i=>if i < c * 4 then UJ m a f i else f i) (show c * 4 + 3 < 16 by omega)
  have w1 : wr (((c * 4 : Nat) : Int) + 1) = ((c * 4 + 1 : Nat) : Int):=by rw [YT (by omega)]; omega
  have w2 : wr (((c * 4 : Nat) : Int) + 2) = ((c * 4 + 2 : Nat) : Int):=by rw [YT (by omega)]; omega
  have w3 : wr (((c * 4 : Nat) : Int) + 3) = ((c * 4 + 3 : Nat) : Int):=by rw [YT (by omega)]; omega
  have w4 : wr (((c * 4 : Nat) : Int) + 4) = (((c + 1) * 4 : Nat) : Int):=by rw [YT (by omega)]; omega
  rw [if_neg (by omega)] at x0 x1 x2 x3
  have h2:=inner c hc (vf 16 fun i=>if i < c * 4 then UJ m a f i else f i,((c * 4 : Nat) : Int)) rfl
  simp only [hd,if_true,x0,w1,x1,w2,x2,w3,x3,Option.bind_some,h2,w4]) (by
  unfold Wa
  have : (vf 16 fun i=>if i < 4 * 4 then UJ m a f i else f i) = vf 16 (UJ m a f):=Xd fun i hi=>by rw [if_pos (by omega)]
  simp only [this]
  simp)
 have e0 : (vf 16 fun i=>if i < 0 * 4 then UJ m a f i else f i) = vf 16 f:=Xd fun i _=>by rw [if_neg (by omega)]
 simp only [e0] at this
 have h2 : ZG (Wa ⟨H3 m a⟩) (vf 16 f,0) = _:=this
 rw [h2]; rfl

def tb (g : Nat → Nat → Nat → UInt8) : Tab:=vf 4 fun i=>vf 4 fun j=>vf 256 (g i j)
theorem Hl {g h : Nat → Nat → Nat → UInt8} (e : ∀ i,i < 4 → ∀ j,j < 4 → ∀ x,x < 256 → g i j x = h i j x) : tb g = tb h :=
 Xd fun i hi=>Xd fun j hj=>Xd fun x hx=>e i hi j hj x hx
theorem qg (g : Nat → Nat → Nat → UInt8) {i : Nat} (hi : i < 4) : ZM (tb g) (i : Int) = some (vf 4 fun j=>vf 256 (g i j)):=ZU _ hi
theorem kN (g : Nat → Nat → Nat → UInt8) (i : Nat) {j : Nat} (hj : j < 4) : ZM (vf 4 fun j=>vf 256 (g i j)) (j : Int) = some (vf 256 (g i j)):=ZU _ hj
theorem tb_set (g : Nat → Nat → Nat → UInt8) (i j : Nat) (h : Nat → UInt8) : (tb g).setIfInBounds i ((vf 4 fun j=>vf 256 (g i j)).setIfInBounds j (vf 256 h)) = tb (fun i' j'=>if i' = i ∧ j' = j then h else g i' j'):=by
 unfold tb
 rw [TL,TL]
 refine Xd fun i' _=>?_
 by_cases h1 : i' = i
 ·subst h1
  rw [if_pos rfl]
  refine Xd fun j' _=>?_
  by_cases h2 : j' = j
  ·subst h2; simp
  ·simp [h2]
 ·rw [if_neg h1]
  refine Xd fun j' _=>?_
  simp [h1]
theorem qw (a b : Nat) (ha : a < 9223372036854775808) (hb : b < 9223372036854775808) : orI (a : Int) (b : Int) = ((a ||| b : Nat) : Int):=by
 unfold orI
 rw [BitVec.toNat_or,Hg a ha,Hg b hb]
 have : a ||| b < 2 ^ 63:=Nat.or_lt_two_pow ha hb
 exact YT (by omega)
theorem V2 (n : Nat) : ZC (n : Int) = UInt8.ofNat n:=by
 unfold ZC
 have : ((n : Int) % 256).toNat = n % 256:=by omega
 rw [this]
 apply UInt8.toNat_inj.1
 simp
theorem qh (g : Nat → Nat → Nat → UInt8) (i j : Nat) (h : Nat → UInt8) : (tb g).setIfInBounds i (vf 4 fun j'=>if j' = j then vf 256 h else vf 256 (g i j')) = tb (fun i' j'=>if i' = i ∧ j' = j then h else g i' j'):=by
 have:=tb_set g i j h
 rw [TL] at this
 exact this
theorem jQ {p low : Nat} (h : low < 2 ^ p) : 2 ^ p ||| low = 2 ^ p + low:=by
 have:=Nat.two_pow_add_eq_or_of_lt h 1
 simpa using this.symm
theorem ke {p low : Nat} (hp : p < 8) (h : low < 2 ^ p) : UInt8.ofNat (2 ^ p + low) = UInt8.ofNat (2 ^ p) ^^^ UInt8.ofNat low:=by
 apply UInt8.toNat_inj.1
 have h7 : 2 ^ p ≤ 2 ^ 7:=Nat.pow_le_pow_right (by omega) (by omega)
 rw [UInt8.toNat_xor]
 simp only [UInt8.toNat_ofNat']
 rw [Nat.mod_eq_of_lt (by omega),Nat.mod_eq_of_lt (by omega),Nat.mod_eq_of_lt (by omega)]
 rw [← jQ h]
 apply Nat.eq_of_testBit_eq
 intro i
 rw [Nat.testBit_or,Nat.testBit_xor,Nat.testBit_two_pow]
 by_cases hi : p = i
 ·subst hi
  rw [Nat.testBit_lt_two_pow h]; simp
 ·simp [hi]
section
variable (m : Nat) (hm : m < 512) (hm2 : 256 ≤ m) (a : MF)
include hm hm2
def Kz (m : Nat) (a : MF) (i j n : Nat) (g : Nat → Nat → Nat → UInt8) : Nat → Nat → Nat → UInt8:=fun i' j'=>if i' = i ∧ j' = j then (fun x=>if x < n then Z7 m (a i j) (UInt8.ofNat x) else 0) else g i' j'
theorem kh (i j p : Nat) (hi : i < 4) (hj : j < 4) (hp : p < 8) (g : Nat → Nat → Nat → UInt8) (s0 s1 s2 : Tab × Int) (h0 : s0.2 = (i : Int)) (h1 : s1.2 = (j : Int)) (h2 : s2.2 = ((2 ^ p : Nat) : Int)) :
  ZG (WB s0 s1 s2 (Z7 m (a i j) (UInt8.ofNat (2 ^ p)))) (tb (Kz m a i j (2 ^ p) g),0) = some (tb (Kz m a i j (2 ^ (p + 1)) g)):=by
 have h7 : 2 ^ p ≤ 2 ^ 7:=Nat.pow_le_pow_right (by omega) (by omega)
 have k1 : 2 ^ p + 2 ^ p = 2 ^ (p + 1):=by rw [Nat.pow_succ]; omega
 have:=Z8 (f:=WB s0 s1 s2 (Z7 m (a i j) (UInt8.ofNat (2 ^ p)))) (fun low : Nat=>(tb (Kz m a i j (2 ^ p + low) g),(low : Int))) 0 (2 ^ p) (Nat.zero_le _) (t:=tb (Kz m a i j (2 ^ (p + 1)) g)) (fun low _ hl=>by
  unfold WB
  have hd : decide ((low : Int) < ((2 ^ p : Nat) : Int)) = true:=by simp only [decide_eq_true_eq]; omega
  have ho : orI ((2 ^ p : Nat) : Int) (low : Int) = ((2 ^ p + low : Nat) : Int):=by rw [qw _ _ (by omega) (by omega),jQ hl]
  have eg : Kz m a i j (2 ^ p + low) g i j = fun x=>if x < 2 ^ p + low then Z7 m (a i j) (UInt8.ofNat x) else 0:=by simp [Kz]
  simp only [h0,h1,h2,hd,if_true,qg _ hi,kN _ i hj,eg,ZU _ (show low < 256 by omega),ho,ZU _ (show 2 ^ p + low < 256 by omega),Option.bind_some,Int.toNat_natCast,TL,XF (show low < 9223372036854775807 by omega)]
  rw [if_pos (show low < 2 ^ p + low from Nat.lt_add_of_pos_left (Nat.two_pow_pos p)),← yB hm2 hm,← ke hp hl]
  have:=qh (Kz m a i j (2 ^ p + low) g) i j (fun x=>if x = 2 ^ p + low then Z7 m (a i j) (UInt8.ofNat (2 ^ p + low)) else if x < 2 ^ p + low then Z7 m (a i j) (UInt8.ofNat x) else 0)
  rw [this]
  refine congrArg (fun z=>some (Fl.nx (z,((low + 1 : Nat) : Int)))) (Hl fun i' _ j' _ x _=>?_)
  unfold Kz
  by_cases h : i' = i ∧ j' = j
  ·simp only [h,and_self,if_true]
   by_cases hx : x = 2 ^ p + low
   ·subst hx; simp
   ·by_cases hx2 : x < 2 ^ p + low
    ·rw [if_neg hx,if_pos hx2,if_pos (by omega)]
    ·rw [if_neg hx,if_neg hx2,if_neg (by omega)]
  ·simp only [h,if_false]) (by
  unfold WB
  simp only [h2,k1]
  simp)
 exact this
theorem ku (i j : Nat) (hi : i < 4) (hj : j < 4) (g : Nat → Nat → Nat → UInt8) (s0 s1 : Tab × Int) (h0 : s0.2 = (i : Int)) (h1 : s1.2 = (j : Int)) :
  ZG (WG (m : Int) s0 s1 (a i j)) (tb (Kz m a i j 1 g),1) = some (tb (Kz m a i j 256 g)):=by
 have:=Z8 (f:=WG (m : Int) s0 s1 (a i j)) (fun p : Nat=>(tb (Kz m a i j (2 ^ p) g),((2 ^ p : Nat) : Int))) 0 8 (by omega) (t:=tb (Kz m a i j 256 g)) (fun p _ hp=>by
  unfold WG
  have h7 : 2 ^ p ≤ 2 ^ 7:=Nat.pow_le_pow_right (by omega) (by omega)
  have hd : decide (((2 ^ p : Nat) : Int) < 256) = true:=by simp only [decide_eq_true_eq]; omega
  have hb : ZC ((2 ^ p : Nat) : Int) = UInt8.ofNat (2 ^ p):=by rw [V2]
  have hw : wr (((2 ^ p : Nat) : Int) * 2) = ((2 ^ (p + 1) : Nat) : Int):=by
   rw [Nat.pow_succ]
   generalize 2 ^ p = q at h7 ⊢
   rw [YT (by omega)]; omega
  have h3:=kh m hm hm2 a i j p hi hj hp g s0 s1 (tb (Kz m a i j (2 ^ p) g),((2 ^ p : Nat) : Int)) h0 h1 rfl
  simp only [hd,if_true,hb,Tq m hm,Option.bind_some,h3,hw]) (by unfold WG; simp)
 exact this
theorem BK (A : Mat) (hA : A = mf a) : W1 (m : Int) A = some ⟨H3 m a⟩:=by
 subst hA
 unfold W1
 let G : Nat → Nat → Nat → Nat → Nat → UInt8:=fun r c i j x=>if i < r ∨ (i = r ∧ j < c) then Z7 m (a i j) (UInt8.ofNat x) else 0
 have hGt : ∀ r c i j x,(i < r ∨ (i = r ∧ j < c)) → G r c i j x = Z7 m (a i j) (UInt8.ofNat x):=fun r c i j x h=>if_pos h
 have hGf : ∀ r c i j x,¬ (i < r ∨ (i = r ∧ j < c)) → G r c i j x = 0:=fun r c i j x h=>if_neg h
 have hGe : ∀ r c r' c' i j x,((i < r ∨ (i = r ∧ j < c)) ↔ (i < r' ∨ (i = r' ∧ j < c'))) → G r c i j x = G r' c' i j x:=fun r c r' c' i j x h=>by show (if _ then _ else _) = (if _ then _ else _); simp only [h]
 have z0 : ∀ i j,Z7 m (a i j) (UInt8.ofNat 0) = 0:=fun i j=>by rw [Q1 hm2 hm]; exact Jq hm2 hm _
 have col : ∀ r : Nat,r < 4 → ∀ s0 : Tab × Int,s0.2 = (r : Int) → ZG (Wv (m : Int) s0 (vf 4 (a r))) (tb (G r 0),0) = some (tb (G (r + 1) 0)):=fun r hr s0 h0=>by
  have k1 : tb (G r 4) = tb (G (r + 1) 0):=Hl fun i hi j hj x _=>by
   exact hGe _ _ _ _ _ _ _ (by omega)
  have:=Z8 (f:=Wv (m : Int) s0 (vf 4 (a r))) (fun c : Nat=>(tb (G r c),(c : Int))) 0 4 (by omega) (t:=tb (G (r + 1) 0)) (fun c _ hc=>by
   unfold Wv
   have e1 : tb (G r c) = tb (Kz m a r c 1 (G r c)):=Hl fun i _ j _ x _=>by
    unfold Kz
    by_cases h : i = r ∧ j = c
    ·obtain ⟨rfl,rfl⟩:=h
     simp only [and_self,if_true]
     rw [hGf _ _ _ _ _ (by omega)]
     by_cases hx : x < 1
     ·have : x = 0:=by omega
      subst this; rw [if_pos hx,z0]
     ·rw [if_neg hx]
    ·simp only [h,if_false]
   have e2 : tb (Kz m a r c 256 (G r c)) = tb (G r (c + 1)):=Hl fun i _ j _ x hx=>by
    unfold Kz
    by_cases h : i = r ∧ j = c
    ·obtain ⟨rfl,rfl⟩:=h
     simp only [and_self,if_true,hx]
     rw [hGt _ _ _ _ _ (by omega)]
    ·simp only [h,if_false]
     exact hGe _ _ _ _ _ _ _ (by omega)
   have h3:=ku m hm hm2 a r c hr hc (G r c) s0 (tb (G r c),(c : Int)) h0 rfl
   rw [← e1,e2] at h3
   simp only [lt4 hc,if_true,ZU _ hc,h3,Option.bind_some,wr4 (show c < 1000 by omega)]) (by
   unfold Wv
   simp only [k1]
   simp)
  exact this
 have kz : tb (G 0 0) = Vector.replicate 4 (Vector.replicate 4 (Vector.replicate 256 (0 : UInt8))):=by
  rw [TD 256 (0 : UInt8),TD 4,TD 4]
  exact Hl fun i _ j _ x _=>by
   exact hGf _ _ _ _ _ (by omega)
 have k4 : tb (G 4 0) = H3 m a:=Hl fun i hi j _ x _=>by
  exact hGt _ _ _ _ _ (by omega)
 have:=Z8 (f:=Wz (m : Int) (mf a)) (fun r : Nat=>(tb (G r 0),(r : Int))) 0 4 (by omega) (t:=H3 m a) (fun r _ hr=>by
  unfold Wz
  have h3:=col r hr (tb (G r 0),(r : Int)) rfl
  simp only [lt4 hr,if_true,U5 _ hr,h3,Option.bind_some,wr4 (show r < 1000 by omega)]) (by
  unfold Wz
  simp only [k4]
  simp)
 have h2 : ZG (Wz (m : Int) (mf a)) (tb (G 0 0),0) = _:=this
 rw [← kz,h2]; rfl
end

def B6 (n : Nat) (p : Vector UInt8 n) : Nat → Vector UInt8 n
 | 0=>Vector.replicate n 0
 | i + 1=>(B6 n p i).setIfInBounds (p.toList.getD i 0).toNat (ZC (i : Int))
theorem Aa (p : Vector UInt8 256) : WM p = some (B6 256 p 256):=by
 unfold WM
 have:=Z8 (f:=Xy p) (fun i : Nat=>(B6 256 p i,(i : Int))) 0 256 (by omega) (t:=B6 256 p 256) (fun i _ hi=>by
  unfold Xy
  have hd : decide ((i : Int) < 256) = true:=by simp; omega
  simp only [hd,if_true,AF p hi,QZ,Option.bind_some,zN,XF (show i < 9223372036854775807 by omega)]
  rfl) (by unfold Xy; simp)
 have h2 : ZG (Xy p) (Vector.replicate 256 0,0) = _:=this
 rw [h2]; rfl
theorem kW (p : Blk) {i : Nat} (h : i < 16) : p.toList.getD i 0 = bf p i:=by
 have h1:=AF p h
 rw [J2 p h] at h1
 exact (Option.some.inj h1).symm
theorem Hs (p : Blk) (hp : Qh p = true) : XH p = some (B6 16 p 16):=by
 unfold XH
 have:=Z8 (f:=YY p) (fun i : Nat=>(B6 16 p i,(i : Int))) 0 16 (by omega) (t:=B6 16 p 16) (fun i _ hi=>by
  unfold YY
  have hlt:=Hk hp hi
  have hv : ZM (B6 16 p i) (bI (bf p i)) = some (bf (B6 16 p i) (bf p i).toNat):=J2 _ hlt
  simp only [JF hi,if_true,J2 p hi,hv,Option.bind_some,zN,XF (show i < 9223372036854775807 by omega)]
  rw [← kW p hi]
  rfl) (by unfold YY; simp)
 have h2 : ZG (YY p) (Vector.replicate 16 0,0) = _:=this
 rw [h2]; rfl

def Y2 (c : GCipher) : Gengine:=⟨c.Box,B6 256 c.Box 256,c.Places,B6 16 c.Places 16,⟨H3 c.Field.toNat (H6 c.Mix)⟩,⟨H3 c.Field.toNat (H6 (invM c.Field.toNat c.Mix))⟩,c.Rounds⟩
theorem QF {c : GCipher} (h : YN c = true) : Qh c.Places = true:=by
 unfold YN at h
 simp only [Bool.and_eq_true] at h
 exact h.1.1.2
theorem KT {c : GCipher} (h : YN c = true) : 1 ≤ c.Rounds ∧ c.Rounds ≤ 20:=by
 unfold YN at h
 simp only [Bool.and_eq_true,decide_eq_true_eq] at h
 exact h.1.2
theorem z7 (c : GCipher) (h : YN c = true) : VE c = some ⟨Y2 c⟩:=by
 obtain ⟨m,hm,h1,h2⟩:=Ju h
 have e : c.Field.toNat = m:=by omega
 unfold VE Y2
 rw [e]
 simp only [hm,kE m h2 h1,Option.bind_some,Aa,Hs _ (QF h),BK m h2 h1 (H6 c.Mix) c.Mix (Ba _),BK m h2 h1 (H6 (invM m c.Mix)) (invM m c.Mix) (Ba _)]

def B2 (c : GCipher) (n r : Nat) (k f : Nat → UInt8) : Nat → UInt8 :=
 JY (if r < n then UJ c.Field.toNat (H6 c.Mix) (KZ c.Places (BJ c.Box f)) else KZ c.Places (BJ c.Box f)) k
def Hf (c : GCipher) (k f : Nat → UInt8) (n : Nat) : Nat → Nat → UInt8
 | 0=>JY f k
 | r + 1=>B2 c n (r + 1) (AX c.Box k (r + 1)) (Hf c k f n r)
def A3 (c : GCipher) (k f : Nat → UInt8) (n : Nat) : Nat → UInt8:=Hf c k f n n
theorem Ap (c : GCipher) (h : YN c = true) (k f : Nat → UInt8) (n : Nat) (hn : n ≤ 1000) : Xh c (vf 16 k) (vf 16 f) (n : Int) = some (vf 16 (A3 c k f n)):=by
 obtain ⟨m,hm,h1,h2⟩:=Ju h
 have e : c.Field.toNat = m:=by omega
 have hp:=QF h
 unfold Xh
 have i0 : idx (Ul c.Box k n) (0 : Int) = some (vf 16 k):=JL c.Box k (Nat.zero_le n)
 simp only [jp c k n hn,Option.bind_some,i0,JA]
 have:=Z8 (f:=Xu c (n : Int) (Ul c.Box k n)) (fun i : Nat=>(vf 16 (Hf c k f n (i - 1)),(i : Int))) 1 (n + 1) (by omega) (t:=vf 16 (A3 c k f n)) (fun i hi1 hi=>by
  unfold Xu
  obtain ⟨r,rfl⟩ : ∃ q,i = q + 1:=⟨i - 1,by omega⟩
  have e1 : decide (((r + 1 : Nat) : Int) ≤ (n : Int)) = true:=by simp only [decide_eq_true_eq]; omega
  have Y0:=ko m h2 h1 (H6 c.Mix) (KZ c.Places (BJ c.Box (Hf c k f n r)))
  rw [← Ba] at Y0
  simp only [Nat.add_sub_cancel,e1,if_true,yN,Option.bind_some,jm c.Places hp,hm,Y0,JL c.Box k (show r + 1 ≤ n by omega),XF (show r + 1 < 9223372036854775807 by omega)]
  by_cases hr : r + 1 < n
  ·have e2 : decide (((r + 1 : Nat) : Int) < (n : Int)) = true:=by simp only [decide_eq_true_eq]; omega
   simp only [e2,if_true,Option.bind_some,JA,Hf,B2,hr,e]
  ·have e2 : decide (((r + 1 : Nat) : Int) < (n : Int)) = false:=by simp only [decide_eq_false_iff_not]; omega
   simp only [e2,Bool.false_eq_true,if_false,Option.bind_some,JA,Hf,B2,hr]) (by
  unfold Xu
  have e1 : decide (((n + 1 : Nat) : Int) ≤ (n : Int)) = false:=by simp only [decide_eq_false_iff_not]; omega
  simp only [e1,Bool.false_eq_true,if_false,Nat.add_sub_cancel,A3])
 have h3 : ZG (Xu c (n : Int) (Ul c.Box k n)) (vf 16 (JY f k),1) = _:=this
 rw [h3]; rfl
theorem yV (e : Ref Gengine) (s : Blk × Int) (f : Nat → UInt8) (hs : s.1 = vf 16 f) : ZG (Ys e s) (vf 16 f,0) = some (vf 16 (BJ e.v.box f)):=by
 have:=WI (Ys e s) f (BJ e.v.box f) (by omega) 0 (by omega) (fun j hj=>by omega) (fun i _ hi a _ ha=>by
  unfold Ys
  simp only [hs,JF hi,if_true,ZU _ hi,Option.bind_some,Int.toNat_natCast,QZ,BJ]) (fun v=>by unfold Ys; simp)
 exact this
theorem BE (c : GCipher) (h : YN c = true) (k f : Nat → UInt8) (n : Nat) (hn : n ≤ 1000) : YP ⟨Y2 c⟩ (Ul c.Box k n) (vf 16 f) = some (vf 16 (A3 c k f n)):=by
 have hp:=QF h
 unfold YP
 have i0 : idx (Ul c.Box k n) (0 : Int) = some (vf 16 k):=JL c.Box k (Nat.zero_le n)
 simp only [Option.bind_some,i0,TE]
 have:=Z8 (f:=Yu ⟨Y2 c⟩ (Ul c.Box k n)) (fun i : Nat=>(vf 16 (Hf c k f n (i - 1)),(i : Int))) 1 (n + 1) (by omega) (t:=vf 16 (A3 c k f n)) (fun i hi1 hi=>by
  unfold Yu
  obtain ⟨r,rfl⟩ : ∃ q,i = q + 1:=⟨i - 1,by omega⟩
  have e1 : decide (((r + 1 : Nat) : Int) < ((Ul c.Box k n).length : Int)) = true:=by rw [Kr]; simp only [decide_eq_true_eq]; omega
  have e3 : wr (((Ul c.Box k n).length : Int) - 1) = (n : Int):=by rw [Kr,YT (by omega)]; omega
  have hb:=yV ⟨Y2 c⟩ (vf 16 (Hf c k f n r),((r + 1 : Nat) : Int)) (Hf c k f n r) rfl
  have hmv:=v_move c.Places hp (BJ c.Box (Hf c k f n r))
  have Y0:=v_mix c.Field.toNat (H6 c.Mix) (KZ c.Places (BJ c.Box (Hf c k f n r)))
  have hsl : ∀ g : Nat → UInt8,slc (vf 16 g).toList (0 : Int) (16 : Int) = some (vf 16 g).toList:=fun g=>by
   have:=zb (l:=(vf 16 g).toList) (i:=0) (j:=16) (by omega) (by simp)
   simp only [List.drop_zero] at this
   rw [List.take_of_length_le (by simp)] at this
   exact this
  have q1 : (Y2 c).box = c.Box:=rfl
  have q2 : (Y2 c).places = c.Places:=rfl
  have q3 : (Y2 c).mixer = ⟨H3 c.Field.toNat (H6 c.Mix)⟩:=rfl
  simp only [q1] at hb
  simp only [Nat.add_sub_cancel,e1,if_true,hb,Option.bind_some,q2,q3,hmv,e3,hsl,Y0,JL c.Box k (show r + 1 ≤ n by omega),XF (show r + 1 < 9223372036854775807 by omega)]
  by_cases hr : r + 1 < n
  ·have e2 : decide (((r + 1 : Nat) : Int) < (n : Int)) = true:=by simp only [decide_eq_true_eq]; omega
   simp only [e2,if_true,Option.bind_some,TE,Hf,B2,hr]
  ·have e2 : decide (((r + 1 : Nat) : Int) < (n : Int)) = false:=by simp only [decide_eq_false_iff_not]; omega
   simp only [e2,Bool.false_eq_true,if_false,Option.bind_some,TE,Hf,B2,hr]) (by
  unfold Yu
  have e1 : decide (((n + 1 : Nat) : Int) < ((Ul c.Box k n).length : Int)) = false:=by rw [Kr]; simp only [decide_eq_false_iff_not]; omega
  simp only [e1,Bool.false_eq_true,if_false,Nat.add_sub_cancel,A3])
 have h3 : ZG (Yu ⟨Y2 c⟩ (Ul c.Box k n)) (vf 16 (JY f k),1) = _:=this
 rw [h3]; rfl
theorem J0 (c : GCipher) (h : YN c = true) (k f : Nat → UInt8) : YF ⟨Y2 c⟩ (vf 16 k) (vf 16 f) = some (vf 16 (A3 c k f c.Rounds.toNat)):=by
 have hr:=KT h
 obtain ⟨n,hn⟩ : ∃ n : Nat,c.Rounds = n:=⟨c.Rounds.toNat,by omega⟩
 have e1 : (Y2 c).rounds = (n : Int):=hn
 have e2 : (Y2 c).box = c.Box:=rfl
 have hk:=v_keys ⟨Y2 c⟩ k n (by omega)
 rw [e2] at hk
 unfold YF
 simp only [e1,hk,Option.bind_some,BE c h k f n (by omega),hn,Int.toNat_natCast]
theorem JG (c : GCipher) (h : YN c = true) (k f : Nat → UInt8) : Xh c (vf 16 k) (vf 16 f) c.Rounds = some (vf 16 (A3 c k f c.Rounds.toNat)):=by
 have hr:=KT h
 obtain ⟨n,hn⟩ : ∃ n : Nat,c.Rounds = n:=⟨c.Rounds.toNat,by omega⟩
 rw [hn]
 exact Ap c h k f n (by omega)
theorem jq (x : Nat) : UInt8.ofNat (x % 256) = UInt8.ofNat x:=by
 apply UInt8.toNat_inj.1; simp
def tab (n : Nat) (f : Nat → UInt8) : List UInt8:=(List.range n).map f
@[simp] theorem tab_len (n : Nat) (f : Nat → UInt8) : (tab n f).length = n:=by simp [tab]
theorem kj {α : Type} (by_ : Nat) (z : α) (n : Nat) (h : n * by_ ≤ 140737488355328) (hby : 0 < by_) :
  ((if (decide ((n : Int) < 0)) = true then (none) else (some ()) : Option (Unit)).bind fun (_ : Unit)=>(if (decide ((wr ((n : Int) - (wr (0 - 0)))) > 0)) = true then ((mkS by_ z (wr ((n : Int) - (wr (0 - 0))))).bind fun (l14 : List α)=>(slc l14 (0 : Int) (0 : Int)).bind fun (l16 : List α)=>some l16) else (some ([])) : Option (List α)).bind fun (j6 : List α)=>some j6) = some []:=by
 have hn : n ≤ 140737488355328:=Nat.le_trans (Nat.le_mul_of_pos_right _ hby) h
 have e0 : wr (0 - 0) = 0:=by decide
 have e1 : wr ((n : Int) - (wr (0 - 0))) = (n : Int):=by rw [e0,YT (by omega)]; omega
 have e2 : ¬ ((n : Int) < 0):=by omega
 rw [e1]
 simp only [e2,decide_false,Bool.false_eq_true,if_false,Option.bind_some]
 by_cases h3 : (n : Int) > 0
 ·have hm : mkS by_ z (n : Int) = some (List.replicate n z):=by
   have h4 : ((n * by_ : Nat) : Int) ≤ 140737488355328:=by omega
   rw [Int.natCast_mul] at h4
   unfold mkS
   rw [if_pos ⟨by omega,h4⟩,Int.toNat_natCast]
  have hs : slc (List.replicate n z) (0 : Int) (0 : Int) = some []:=by
   have:=zb (l:=List.replicate n z) (i:=0) (j:=0) (Nat.le_refl _) (Nat.zero_le _)
   simpa using this
  simp [h3,hm,hs]
 ·have h4 : decide ((n : Int) > 0) = false:=by simp only [decide_eq_false_iff_not]; exact h3
  simp only [h4,Bool.false_eq_true,if_false,Option.bind_some]
theorem zm {α : Type} (by_ : Nat) (p0 : List (List α)) (L0 : Int × Int → Option (Fl (Int × Int) Int)) (L1 : Int × List α → Option (Fl (Int × List α) (List α)))
  (h0 : ∀ s,L0 s = if (decide (s.1 < (p0.length : Int))) = true then (((idx p0 s.1).bind fun (x : List α)=>(if (decide ((wr (s.2 + (x.length : Int))) < 0)) = true then (none) else (some ()) : Option (Unit)).bind fun (_ : Unit)=>some (wr (s.2 + (x.length : Int))) : Option (Int)).bind fun (j : Int)=>some (Fl.nx (wr (s.1 + 1),j))) else (some (Fl.ex s.2)))
  (h1 : ∀ s,L1 s = if (decide (s.1 < (p0.length : Int))) = true then ((idx p0 s.1).bind fun (x : List α)=>(app by_ s.2 x).bind fun (_ : List α)=>some (Fl.nx (wr (s.1 + 1),(s.2 ++ x)))) else (some (Fl.ex s.2)))
  (hl : p0.flatten.length * by_ ≤ 140737488355328) (hby : 0 < by_) (hn : p0.length < 9223372036854775807) :
  ZG L0 (0,0) = some (p0.flatten.length : Int) ∧ ZG L1 (0,[]) = some p0.flatten:=by
 have hlen : p0.flatten.length ≤ 140737488355328:=Nat.le_trans (Nat.le_mul_of_pos_right _ hby) hl
 have hstep : ∀ i (hi : i < p0.length),(p0.take (i + 1)).flatten = (p0.take i).flatten ++ p0[i]:=fun i hi=>by
  rw [List.take_succ_eq_append_getElem hi,List.flatten_append]; simp
 have hle : ∀ i,(p0.take i).flatten.length ≤ p0.flatten.length:=fun i=>by
  have : p0.flatten = (p0.take i).flatten ++ (p0.drop i).flatten:=by rw [← List.flatten_append,List.take_append_drop]
  rw [this,List.length_append]; omega
 constructor
 ·have:=Z8 (f:=L0) (fun i : Nat=>((i : Int),((p0.take i).flatten.length : Int))) 0 p0.length (Nat.zero_le _) (t:=(p0.flatten.length : Int)) (fun i _ hi=>by
   have hs:=congrArg List.length (hstep i hi)
   rw [List.length_append] at hs
   have h3:=hle (i + 1)
   have e1 : wr (((p0.take i).flatten.length : Int) + (p0[i].length : Int)) = ((p0.take (i + 1)).flatten.length : Int):=by rw [YT (by omega)]; omega
   have e2 : ¬ (((p0.take (i + 1)).flatten.length : Int) < 0):=by omega
   rw [h0]
   simp only [Int.ofNat_lt,hi,decide_true,if_true,YE,List.getElem?_eq_getElem hi,Option.bind_some,e1,e2,decide_false,Bool.false_eq_true,if_false,XF (show i < 9223372036854775807 by omega)]) (by
   rw [h0]; simp)
  exact this
 ·have:=Z8 (f:=L1) (fun i : Nat=>((i : Int),(p0.take i).flatten)) 0 p0.length (Nat.zero_le _) (t:=p0.flatten) (fun i _ hi=>by
   have hs:=congrArg List.length (hstep i hi)
   rw [List.length_append] at hs
   have h3:=hle (i + 1)
   have hap : app by_ (p0.take i).flatten p0[i] = some ((p0.take i).flatten ++ p0[i]):=XM (by
    have : ((p0.take i).flatten.length + p0[i].length) * by_ ≤ p0.flatten.length * by_:=Nat.mul_le_mul_right _ (by omega)
    omega)
   rw [h1]
   simp only [Int.ofNat_lt,hi,decide_true,if_true,YE,List.getElem?_eq_getElem hi,Option.bind_some,hap,XF (show i < 9223372036854775807 by omega),hstep i hi]) (by
   rw [h1]; simp)
  exact this
def K6 (k : Nat) (b : UInt8) : UInt8:=shlB b (k : Int) ||| BF b ((8 - k : Nat) : Int)
theorem v_rot1 (b : UInt8) : Ym b 1 = some (K6 1 b):=by
 have e1 : wru (BitVec.ofInt 64 (IntKind.u64.wrap 1) &&& BitVec.ofInt 64 7).toNat = 1:=by decide +kernel
 have e2 : IntKind.u64.wrap (8 - 1) = 7:=by decide +kernel
 have e3 : XS 1 = some ():=rfl
 have e4 : XS 7 = some ():=rfl
 unfold Ym
 simp only [e1,e2,e3,e4,Option.bind_some]
 rfl
theorem v_rot4 (b : UInt8) : Ym b 4 = some (K6 4 b):=by
 have e1 : wru (BitVec.ofInt 64 (IntKind.u64.wrap 4) &&& BitVec.ofInt 64 7).toNat = 4:=by decide +kernel
 have e2 : IntKind.u64.wrap (8 - 4) = 4:=by decide +kernel
 have e3 : XS 4 = some ():=rfl
 unfold Ym
 simp only [e1,e2,e3,Option.bind_some]
 rfl
def Bx (k : Nat) (b : UInt8) : UInt8:=ZC (Qi (orI (Af (bI b) (k : Int)) (Tj (Af (bI b) (k : Int)) 8)) 255)
theorem Bq {p : UInt8 → Bool} (h : ((List.range 256).all fun n=>p (UInt8.ofNat n)) = true) (b : UInt8) : p b = true:=by
 have:=List.all_eq_true.1 h b.toNat (by simpa using UInt8.toNat_lt b)
 simpa using this
theorem turn0 (b : UInt8) : Bx 0 b = b:=by
 have:=Bq (p:=fun b=>Bx 0 b == b) (by decide +kernel) b
 simpa using this
theorem turn1 (b : UInt8) : Bx 1 b = K6 1 b:=by
 have:=Bq (p:=fun b=>Bx 1 b == K6 1 b) (by decide +kernel) b
 simpa using this
theorem turn4 (b : UInt8) : Bx 4 b = K6 4 b:=by
 have:=Bq (p:=fun b=>Bx 4 b == K6 4 b) (by decide +kernel) b
 simpa using this
theorem yM (b : UInt8) (k : Nat) (h : k < 64) : XR b (k : Int) = some (Bx k b):=by
 have e1 : IntKind.u64.wrap (k : Int) = (k : Int):=jX k (by omega)
 unfold XR
 rw [e1]
 have e2 : XS (k : Int) = some ():=by unfold XS; rw [if_pos (by omega)]
 rw [e2]; rfl
def Bo (x : UInt8) : UInt8:=((Qu 285 x ^^^ K6 1 (Qu 285 x)) ^^^ K6 4 (Qu 285 x)) ^^^ 90
def WZ (n : Int) : GCipher:=⟨285,vf 256 fun x=>Bo (UInt8.ofNat x),mf fun i j=>Qu 285 (UInt8.ofNat (i ^^^ (4 + j))),vf 16 fun i=>UInt8.ofNat ((13 * i + 4) % 16),n⟩
theorem zl {i : Nat} (h : i < 256) : decide ((i : Int) < 256) = true:=by simp; omega
theorem Bh (L : Vector UInt8 256 × Int → Option (Fl (Vector UInt8 256 × Int) (Vector UInt8 256))) (h : Nat → UInt8) (hL : ∀ i : Nat,i < 256 → ∀ a : Nat → UInt8,L (vf 256 a,(i : Int)) = some (.nx ((vf 256 a).setIfInBounds i (h i),wr ((i : Int) + 1))))
  (he : ∀ v,L (v,256) = some (.ex v)) : ZG L (Vector.replicate 256 0,0) = some (vf 256 h):=by
 rw [TD]
 exact WI L (fun _=>0) h (by omega) 0 (by omega) (fun j hj=>by omega) (fun i _ hi a _ _=>hL i hi a) he
theorem zD (E : UInt8 → Option UInt8) (hE : ∀ a,E a = some (Qu 285 a)) (L1 : Mat × Int → Mat × Int → Option (Fl (Mat × Int) Mat)) (L0 : Mat × Int → Option (Fl (Mat × Int) Mat))
  (h1 : ∀ s t,L1 s t = if (decide (t.2 < 4)) = true then ((E (ZC (Q0 s.2 (wr (4 + t.2))))).bind fun r=>(ZM t.1 s.2).bind fun x=>(ZM x t.2).bind fun _=>some (Fl.nx ((t.1.setIfInBounds (s.2).toNat (x.setIfInBounds (t.2).toNat r)),wr (t.2 + 1)))) else (some (Fl.ex t.1)))
  (h0 : ∀ s,L0 s = if (decide (s.2 < 4)) = true then ((ZG (L1 s) (s.1,0) : Option Mat).bind fun j=>some (Fl.nx (j,wr (s.2 + 1)))) else (some (Fl.ex s.1))) :
  ZG L0 (Vector.replicate 4 (Vector.replicate 4 (0 : UInt8)),0) = some (mf fun i j=>Qu 285 (UInt8.ofNat (i ^^^ (4 + j)))):=by
 have inner : ∀ (i : Nat) (hi : i < 4) (g : MF),ZG (L1 (mf g,(i : Int))) (mf g,0) = some (mf fun r c=>if r = i then Qu 285 (UInt8.ofNat (i ^^^ (4 + c))) else g r c):=by
  intro i hi g
  have:=Z8 (f:=L1 (mf g,(i : Int))) (fun j : Nat=>(mf fun r c=>if r = i ∧ c < j then Qu 285 (UInt8.ofNat (i ^^^ (4 + c))) else g r c,(j : Int))) 0 4 (by omega) (t:=mf fun r c=>if r = i then Qu 285 (UInt8.ofNat (i ^^^ (4 + c))) else g r c) (fun j _ hj=>by
   have e1 : wr (4 + (j : Int)) = ((4 + j : Nat) : Int):=by rw [YT (by omega)]; omega
   rw [h1]
   simp only [lt4 hj,if_true,e1,Kx i (4 + j) (by omega) (by omega),V2,hE,Option.bind_some,U5 _ hi,ZU _ hj,Int.toNat_natCast,TL,K1,wr4 (show j < 1000 by omega)]
   refine congrArg (fun z=>some (Fl.nx (z,((j + 1 : Nat) : Int)))) (WT fun r _ c _=>?_)
   by_cases hr : r = i
   ·subst hr
    by_cases hc : c = j
    ·subst hc; simp
    ·by_cases hc2 : c < j
     ·simp [hc,hc2,show c < j + 1 by omega]
     ·simp [hc,hc2,show ¬ c < j + 1 by omega]
   ·simp [hr]) (by
   rw [h1]
   simp only [show decide (((4 : Nat) : Int) < 4) = false from rfl,Bool.false_eq_true,if_false]
   refine congrArg (fun z=>some (Fl.ex z)) (WT fun r _ c hc=>?_)
   by_cases hr : r = i <;> simp [hr,hc])
  have e0 : (mf fun r c=>if r = i ∧ c < 0 then Qu 285 (UInt8.ofNat (i ^^^ (4 + c))) else g r c) = mf g:=WT fun r _ c _=>by simp
  simp only [e0] at this
  exact this
 have:=Z8 (f:=L0) (fun i : Nat=>(mf fun r c=>if r < i then Qu 285 (UInt8.ofNat (r ^^^ (4 + c))) else 0,(i : Int))) 0 4 (by omega) (t:=mf fun i j=>Qu 285 (UInt8.ofNat (i ^^^ (4 + j)))) (fun i _ hi=>by
  rw [h0]
  simp only [lt4 hi,if_true,inner i hi,Option.bind_some,wr4 (show i < 1000 by omega)]
  refine congrArg (fun z=>some (Fl.nx (z,((i + 1 : Nat) : Int)))) (WT fun r _ c _=>?_)
  by_cases hr : r = i
  ·subst hr; simp
  ·by_cases hc2 : r < i
   ·simp [hr,hc2,show r < i + 1 by omega]
   ·simp [hr,hc2,show ¬ r < i + 1 by omega]) (by
  rw [h0]
  simp only [show decide (((4 : Nat) : Int) < 4) = false from rfl,Bool.false_eq_true,if_false]
  exact congrArg (fun z=>some (Fl.ex z)) (WT fun r hr c hc=>by simp [hr]))
 have e0 : (mf fun r c=>if r < 0 then Qu 285 (UInt8.ofNat (r ^^^ (4 + c))) else 0) = mf fun _ _=>0:=WT fun r _ c _=>by simp
 simp only [e0] at this
 rw [A2]
 exact this
theorem BB (L : Blk × Int → Option (Fl (Blk × Int) Blk))
  (hL : ∀ s,L s = if (decide (s.2 < 16)) = true then ((ZM s.1 s.2).bind fun _=>some (Fl.nx ((s.1.setIfInBounds (s.2).toNat (ZC (Int.tmod (wr ((wr (13 * s.2)) + 4)) 16))),wr (s.2 + 1)))) else (some (Fl.ex s.1))) :
  ZG L (Vector.replicate 16 0,0) = some (vf 16 fun i=>UInt8.ofNat ((13 * i + 4) % 16)):=by
 rw [TD]
 exact WI L (fun _=>0) (fun i=>UInt8.ofNat ((13 * i + 4) % 16)) (by omega) 0 (by omega) (fun j hj=>by omega) (fun i _ hi a _ _=>by
  have e1 : wr (13 * (i : Int)) = 13 * (i : Int):=YT (by omega)
  have e2 : wr (13 * (i : Int) + 4) = ((13 * i + 4 : Nat) : Int):=by rw [YT (by omega)]; omega
  have e3 : Int.tmod ((13 * i + 4 : Nat) : Int) 16 = (((13 * i + 4) % 16 : Nat) : Int):=by rw [Int.tmod_eq_emod_of_nonneg (by omega)]; omega
  rw [hL]
  simp only [JF hi,if_true,ZU _ hi,Option.bind_some,e1,e2,e3,V2,Int.toNat_natCast]) (fun v=>by rw [hL]; simp)
theorem Ak (n : Int) : WU n = some (WZ n):=by
 have hinv : ∀ a,Yp 285 a = some (Qu 285 a):=fun a=>Kg 285 (by omega) a
 have h1:=Bh Wm (fun x=>Bo (UInt8.ofNat x)) (fun i hi a=>by
  unfold Wm
  simp only [zl hi,if_true,V2,hinv,v_rot1,v_rot4,Option.bind_some,ZU _ hi,Int.toNat_natCast]
  rfl) (fun v=>by unfold Wm; simp)
 have h2:=zD (Yp 285) hinv Vu Vx (fun s t=>by unfold Vu; rfl) (fun s=>by unfold Vx; rfl)
 have h3:=BB VB (fun s=>by unfold VB; rfl)
 unfold WU WZ
 simp only [h1,h2,h3,Option.bind_some]
theorem kl (L : UInt8 × UInt8 × Int → Option (Fl (UInt8 × UInt8 × Int) UInt8)) (T : UInt8 → UInt8 → Option UInt8) (hT : ∀ a b,T a b = some (Z7 285 a b))
  (hL : ∀ s,L s = if (decide (s.2.2 > 0)) = true then (((if ((Int.tmod s.2.2 2) == 1) = true then ((T s.1 s.2.1).bind fun r=>some r) else (some s.1) : Option UInt8).bind fun j24=>(T s.2.1 s.2.1).bind fun r32=>some (j24,r32) : Option (UInt8 × UInt8)).bind fun j21=>some (Fl.nx (j21.1,j21.2,wr (Int.tdiv s.2.2 2)))) else (some (Fl.ex s.1))) :
  ∀ (f k : Nat) (a o : UInt8),k < 2 ^ f → f ≤ 62 → ZG L (o,a,(k : Int)) = some (HV 285 f a k o):=by
 intro f
 induction f with
 | zero =>
  intro k a o hk _
  have : k = 0:=by simpa using hk
  subst this
  exact Wf (by rw [hL]; simp [HV])
 | succ f ih =>
  intro k a o hk hf
  by_cases h0 : k = 0
  ·subst h0
   exact Wf (by rw [hL]; simp [HV])
  ·have hlt : k < 9223372036854775808:=Nat.lt_of_lt_of_le hk (Nat.pow_le_pow_right (by omega : 0 < 2) (by omega : f + 1 ≤ 63))
   have hst : L (o,a,(k : Int)) = some (.nx (if k % 2 = 1 then Z7 285 o a else o,Z7 285 a a,((k / 2 : Nat) : Int))):=by
    rw [hL]
    have c1 : (k : Int) > 0:=by omega
    have e3 : ((((k % 2 : Nat) : Int)) == 1) = decide (k % 2 = 1):=by
     rw [Bool.eq_iff_iff,beq_iff_eq,decide_eq_true_eq]; omega
    simp only [c1,decide_true,if_true,kJ,kG,hT,e3,Option.bind_some,y7 (k / 2) (by omega)]
    by_cases c2 : k % 2 = 1 <;> simp [c2]
   rw [Ws hst,ih (k / 2) _ _ (by rw [Nat.pow_succ] at hk; omega) (by omega)]
   conv=>rhs; unfold HV
   rw [if_neg h0]
theorem yv : Um 285 254 = some (vf 256 fun x=>Qu 285 (UInt8.ofNat x)):=by
 have hp:=kl (VG 285) (YW 285) (Jb 285 (by omega) (by omega)) (fun s=>by unfold VG; rfl)
 have hp2 : ∀ a,ZG (VG 285) (1,a,254) = some (Qu 285 a):=fun a=>hp 8 254 a 1 (by omega) (by omega)
 have h1:=Bh (VO 285 254) (fun x=>Qu 285 (UInt8.ofNat x)) (fun i hi a=>by
  unfold VO
  simp only [zl hi,if_true,V2,hp2,Option.bind_some,ZU _ hi,Int.toNat_natCast]) (fun v=>by unfold VO; simp)
 unfold Um
 simp only [h1,Option.bind_some]
def rots (x : UInt8) : UInt8:=((90 ^^^ x) ^^^ K6 1 x) ^^^ K6 4 x
theorem BV : Wq ([0,1,4] : List Int) 90 = some (vf 256 fun x=>rots (UInt8.ofNat x)):=by
 have t0 : ∀ b,XR b 0 = some b:=fun b=>by have:=yM b 0 (by omega); rw [turn0] at this; exact this
 have t1 : ∀ b,XR b 1 = some (K6 1 b):=fun b=>by have:=yM b 1 (by omega); rw [turn1] at this; exact this
 have t4 : ∀ b,XR b 4 = some (K6 4 b):=fun b=>by have:=yM b 4 (by omega); rw [turn4] at this; exact this
 have w1 : wr 1 = 1:=by decide
 have w2 : wr 2 = 2:=by decide
 have w3 : wr 3 = 3:=by decide
 have hin : ∀ (s : Vector UInt8 256 × Int),ZG (Yh [0,1,4] s) (90,0) = some (rots (ZC s.2)):=by
  intro s
  rw [Ws (f:=Yh [0,1,4] s) (s:=(90,0)) (s':=(90 ^^^ ZC s.2,1)) (by unfold Yh; simp [t0,w1,idx])]
  rw [Ws (f:=Yh [0,1,4] s) (s':=((90 ^^^ ZC s.2) ^^^ K6 1 (ZC s.2),2)) (by unfold Yh; simp [t1,w2,idx])]
  rw [Ws (f:=Yh [0,1,4] s) (s':=(((90 ^^^ ZC s.2) ^^^ K6 1 (ZC s.2)) ^^^ K6 4 (ZC s.2),3)) (by unfold Yh; simp [t4,w3,idx])]
  exact Wf (by unfold Yh; simp; rfl)
 have h1:=Bh (XU [0,1,4] 90) (fun x=>rots (UInt8.ofNat x)) (fun i hi a=>by
  unfold XU
  simp only [zl hi,if_true,hin,V2,Option.bind_some,ZU _ hi,Int.toNat_natCast]) (fun v=>by unfold XU; simp)
 unfold Wq
 simp only [h1,Option.bind_some]
theorem jo (f g : Nat → UInt8) : UL (vf 256 f) (vf 256 g) = some (vf 256 fun x=>g (f x).toNat):=by
 have hv : ∀ x : UInt8,ZM (vf 256 g) (bI x) = some (g x.toNat):=fun x=>ZU g (UInt8.toNat_lt x)
 have h1:=Bh (Up (vf 256 f) (vf 256 g)) (fun x=>g (f x).toNat) (fun i hi a=>by
  unfold Up
  simp only [zl hi,if_true,Option.bind_some,ZU _ hi,hv,Int.toNat_natCast]) (fun v=>by unfold Up; simp)
 unfold UL
 simp only [h1,Option.bind_some]
theorem yt (x : UInt8) : rots (UInt8.ofNat (Qu 285 x).toNat) = Bo x:=by
 rw [UInt8.ofNat_toNat]
 unfold rots Bo
 ac_rfl
theorem yq (n : Int) : Uf n = some (WZ n):=by
 have hinv : ∀ a,Vs 285 a = some (Qu 285 a):=fun a=>kL 285 (by omega) (by omega) a
 have h2:=zD (Vs 285) hinv U8 Tc (fun s t=>by unfold U8; rfl) (fun s=>by unfold Tc; rfl)
 have h3:=BB U9 (fun s=>by unfold U9; rfl)
 unfold Uf WZ
 simp only [yv,BV,jo,yt,h2,h3,Option.bind_some]

theorem Bc {α : Type} (n : Nat) (f : Nat → α) : (vf n f).toList = (List.range n).map f:=by
 apply List.ext_getElem
 ·simp
 ·intro i h1 h2
  simp at h1
  rw [Vector.getElem_toList,Kc f h1]; simp
theorem jy : jU ((List.range 256).map fun x=>Bo (UInt8.ofNat x)) = true:=by decide +kernel
theorem z3 : Qh (vf 16 fun i=>UInt8.ofNat ((13 * i + 4) % 16)) = true:=by
 unfold Qh
 rw [Bc]
 decide +kernel
theorem z2 : JJ 285 = true:=by decide +kernel
theorem jI : (detC 285 (mf fun i j=>Qu 285 (UInt8.ofNat (i ^^^ (4 + j)))) != 0) = true:=by decide +kernel
theorem yi (n : Int) (h : 1 ≤ n ∧ n ≤ 20) : YN (WZ n) = true:=by
 unfold YN WZ
 simp only [Bc,jy,z3,z2,Bool.true_and,h,decide_true,Bool.and_true,and_self]
 exact jI
theorem JZ (p0 : List (List UInt8)) (hl : p0.flatten.length ≤ 140737488355328) (hn : p0.length < 9223372036854775807) : Ya p0 = some p0.flatten:=by
 obtain ⟨a1,a2⟩:=zm 1 p0 (Xt p0) (Xr p0) (fun s=>by unfold Xt; rfl) (fun s=>by unfold Xr; rfl) (by omega) (by omega) hn
 have hg : YL (p0.flatten.length : Int) = some []:=by
  unfold YL
  exact kj 1 _ _ (by omega) (by omega)
 unfold Ya
 simp only [a1,a2,hg,Option.bind_some]
theorem Kw (l : List UInt8) (h : l.length ≤ 140737488355328) : Yq l = some l:=by
 unfold Yq
 rw [XM (by simp; omega)]; rfl
theorem Hq (l : List UInt8) (h : l.length ≤ 140737488355328) : WQ l = some l:=by
 unfold WQ
 rw [XM (by simp; omega)]; rfl
theorem B8 {l : List UInt8} {n : Nat} (h : n ≤ l.length) : Qy n l = some (vf n fun j=>l.getD j 0):=by
 unfold Qy
 rw [dif_pos h]
 refine congrArg some (TO fun i hi=>?_)
 rw [Kc _ hi,List.getD_eq_getElem?_getD,List.getElem?_eq_getElem (by omega)]
 simp
theorem zy {l : List UInt8} {i j : Nat} (h : i ≤ j) (h2 : j ≤ l.length) : ∃ r,slc l (i : Int) (j : Int) = some r ∧ r.length = j - i ∧ ∀ k,k < j - i → r.getD k 0 = l.getD (i + k) 0:=by
 refine ⟨_,zb h h2,by simp; omega,fun k hk=>?_⟩
 rw [List.getD_eq_getElem?_getD,List.getD_eq_getElem?_getD,List.getElem?_drop,List.getElem?_take,if_pos (by omega)]

def beL (n : Int) : Nat → List UInt8
 | 0=>[]
 | k + 1=>ZC (Tj n ((8 * k : Nat) : Int)) :: beL n k
theorem Ke (n : Int) : ∀ k,(beL n k).length = k
 | 0=>rfl
 | k + 1=>by rw [beL,List.length_cons,Ke n k]
theorem jh (n : Int) (L : List UInt8 × Int → Option (Fl (List UInt8 × Int) (List UInt8))) (K : Nat)
  (hL : ∀ (k : Nat) (acc : List UInt8),k < K → acc.length ≤ 100000000 → L (acc,(k : Int)) = some (.nx (acc ++ [ZC (Tj n ((8 * k : Nat) : Int))],(k : Int) - 1))) (he : ∀ acc,L (acc,-1) = some (.ex acc)) :
  ∀ (k : Nat) (acc : List UInt8),k ≤ K → acc.length + k ≤ 100000000 → ZG L (acc,(k : Int) - 1) = some (acc ++ beL n k):=by
 intro k
 induction k with
 | zero=>intro acc _ _; rw [show ((0 : Nat) : Int) - 1 = -1 from rfl,Wf (he acc)]; simp [beL]
 | succ k ih =>
  intro acc hk hl
  have e : ((k + 1 : Nat) : Int) - 1 = (k : Int):=by omega
  rw [e,Ws (hL k acc (by omega) (by omega)),ih _ (by omega) (by simp; omega)]
  simp [beL]
theorem HE (n : Int) (m : Nat) (hm : m ≤ 100) : Xm n (m : Int) = some (beL n m):=by
 have h:=jh n (Ve n) 100 (fun k acc hk hl=>by
  unfold Ve
  have e1 : wr (8 * (k : Int)) = ((8 * k : Nat) : Int):=by rw [YT (by omega)]; omega
  have e2 : XS ((8 * k : Nat) : Int) = some ():=by unfold XS; rw [if_pos (by omega)]
  have e3 : wr ((k : Int) - 1) = (k : Int) - 1:=YT (by omega)
  have e4 : decide ((k : Int) ≥ 0) = true:=by simp
  simp only [e1,e2,e3,e4,if_true,Option.bind_some]
  rw [XM (by simp; omega)]; rfl) (fun acc=>by unfold Ve; simp) m [] hm (by simp; omega)
 have e : wr ((m : Int) - 1) = (m : Int) - 1:=YT (by omega)
 unfold Xm
 rw [e,h]; rfl
theorem kc (x : Int) : ZC (Qi x 255) = ZC x:=by
 have h1 : (BitVec.ofInt 64 255) = (255 : BitVec 64):=rfl
 have h2 : (BitVec.ofInt 64 x &&& BitVec.ofInt 64 255).toNat = (x % 256).toNat:=by
  rw [BitVec.toNat_and,h1,show (255 : BitVec 64).toNat = 2 ^ 8 - 1 from rfl,Nat.and_two_pow_sub_one_eq_mod,BitVec.toNat_ofInt]
  omega
 unfold Qi ZC
 rw [h2,YT (by omega)]
 congr 1
 omega
theorem jB (n : Int) : UT n = some (beL n 4):=by
 have e0 : Tj n 0 = n:=by unfold Tj; simp
 unfold UT
 simp only [kc]
 have : beL n 4 = [ZC (Tj n 24),ZC (Tj n 16),ZC (Tj n 8),ZC (Tj n 0)]:=rfl
 rw [this,e0]

def VW (n : Nat) : Nat:=(24 - n % 16) % 16
def Kv (d : List UInt8) : List UInt8:=((d ++ [128]) ++ List.replicate (VW (d.length + 1)) 0) ++ beL (d.length : Int) 8
theorem zM (d : List UInt8) : ∃ n,(Kv d).length = 16 * n ∧ n ≤ d.length + 2:=by
 have : (Kv d).length = d.length + 1 + VW (d.length + 1) + 8:=by simp [Kv,Ke]; omega
 refine ⟨(d.length + 1 + VW (d.length + 1) + 8) / 16,?_,?_⟩
 ·rw [this]; unfold VW; omega
 ·unfold VW; omega
theorem zA (L : List UInt8 → Option (Fl (List UInt8) (List UInt8))) (hL : ∀ s,L s = if ((Int.tmod (s.length : Int) 16) != 8) = true then ((app 1 s ([0] : List UInt8)).bind fun (_ : List UInt8)=>some (Fl.nx (s ++ ([0] : List UInt8)))) else (some (Fl.ex s)))
  (l : List UInt8) (hl : l.length ≤ 100000000) : ZG L l = some (l ++ List.replicate (VW l.length) 0):=by
 have ht : ∀ n : Nat,Int.tmod (n : Int) 16 = ((n % 16 : Nat) : Int):=fun n=>by rw [Int.tmod_eq_emod_of_nonneg (by omega)]; omega
 have:=Z8 (f:=L) (fun i : Nat=>l ++ List.replicate i 0) 0 (VW l.length) (Nat.zero_le _) (t:=l ++ List.replicate (VW l.length) 0) (fun i _ hi=>by
  rw [hL,ht]
  have hz : VW l.length < 16:=by unfold VW; omega
  have e : ((((l ++ List.replicate i 0).length % 16 : Nat) : Int) != 8) = true:=by
   simp only [List.length_append,List.length_replicate,bne_iff_ne,ne_eq]
   unfold VW at hi; omega
  rw [e,if_pos rfl,XM (by simp; omega)]
  simp [List.replicate_succ']) (by
  rw [hL,ht]
  have e : ((((l ++ List.replicate (VW l.length) 0).length % 16 : Nat) : Int) != 8) = false:=by
   simp only [List.length_append,List.length_replicate,bne_eq_false_iff_eq]
   unfold VW; omega
  rw [e]; rfl)
 simpa using this
theorem A8 (d : List UInt8) (h : d.length ≤ 10000000) : Vf d = some (Kv d):=by
 have h1:=zA Ua (fun s=>by unfold Ua; rfl) (d ++ [128]) (by simp; omega)
 have h2:=HE (d.length : Int) 8 (by omega)
 have h3 : Xm (d.length : Int) 8 = some (beL (d.length : Int) 8):=h2
 have hz : VW (d.length + 1) < 16:=by unfold VW; omega
 have e : (d ++ [128]).length = d.length + 1:=by simp
 rw [e] at h1
 unfold Vf Kv
 rw [Kw d (by omega),Option.bind_some,XM (by simp; omega),Option.bind_some,h1,Option.bind_some,h3,Option.bind_some,XM (by simp [Ke]; omega)]
 rfl
theorem kD (d : List UInt8) (h : d.length ≤ 10000000) : To d = some (Kv d):=by
 have h1:=zA TS (fun s=>by unfold TS; rfl) (d ++ [128]) (by simp; omega)
 have hz : VW (d.length + 1) < 16:=by unfold VW; omega
 have e : (d ++ [128]).length = d.length + 1:=by simp
 rw [e] at h1
 have h2:=jh (d.length : Int) (VS d) 100 (fun k acc hk hl=>by
  unfold VS
  have e1 : wr (8 * (k : Int)) = ((8 * k : Nat) : Int):=by rw [YT (by omega)]; omega
  have e5 : IntKind.u64.wrap ((8 * k : Nat) : Int) = ((8 * k : Nat) : Int):=jX _ (by omega)
  have e2 : XS ((8 * k : Nat) : Int) = some ():=by unfold XS; rw [if_pos (by omega)]
  have e3 : wr ((k : Int) - 1) = (k : Int) - 1:=YT (by omega)
  have e4 : decide ((k : Int) ≥ 0) = true:=by simp
  simp only [e1,e5,e2,e3,e4,if_true,Option.bind_some,kc]
  rw [XM (by simp; omega)]; rfl) (fun acc=>by unfold VS; simp) 8 ((d ++ [128]) ++ List.replicate (VW (d.length + 1)) 0) (by omega) (by simp; omega)
 have h3 : ZG (VS d) ((d ++ [128]) ++ List.replicate (VW (d.length + 1)) 0,7) = some (((d ++ [128]) ++ List.replicate (VW (d.length + 1)) 0) ++ beL (d.length : Int) 8):=h2
 unfold To Kv
 rw [Hq d (by omega),Option.bind_some,XM (by simp; omega),Option.bind_some,h1,Option.bind_some,h3]
 rfl

def jf (l : List UInt8) (i : Nat) : Blk:=vf 16 fun j=>l.getD (16 * i + j) 0
def Wc (l : List UInt8) (n : Nat) : List Blk:=(List.range n).map (jf l)
theorem Qz (l : List UInt8) (n : Nat) : (Wc l n).length = n:=by simp [Wc]
theorem JE (l : List UInt8) (n : Nat) : Wc l (n + 1) = Wc l n ++ [jf l n]:=by simp [Wc,List.range_succ]
theorem yn (l : List UInt8) (n : Nat) (hl : l.length = 16 * n) (hn : n ≤ 100000000) : Uj l = some (Wc l n):=by
 have:=Z8 (f:=WA l) (fun i : Nat=>(Wc l i,((16 * i : Nat) : Int))) 0 n (Nat.zero_le _) (t:=Wc l n) (fun i _ hi=>by
  unfold WA
  have e1 : wr (((16 * i : Nat) : Int) + 16) = ((16 * (i + 1) : Nat) : Int):=by rw [YT (by omega)]; omega
  have e2 : decide (((16 * i : Nat) : Int) < (l.length : Int)) = true:=by simp; omega
  obtain ⟨r,r1,r2,r3⟩:=zy (l:=l) (i:=16 * i) (j:=16 * (i + 1)) (by omega) (by omega)
  have e3 : Qy 16 r = some (jf l i):=by
   rw [B8 (by omega)]
   exact congrArg some (Xd fun j hj=>r3 j (by omega))
  simp only [e1,e2,if_true,r1,e3,Option.bind_some]
  rw [XM (by rw [Qz]; simp; omega),JE]; rfl) (by
  unfold WA
  have e2 : decide (((16 * n : Nat) : Int) < (l.length : Int)) = false:=by simp; omega
  simp only [e2,Bool.false_eq_true,if_false])
 have h2 : ZG (WA l) ([],0) = _:=this
 unfold Uj
 rw [h2]; rfl
theorem z8 (l : List UInt8) (n : Nat) (hl : l.length = 16 * n) (hn : n ≤ 100000000) : VF l = some (Wc l n):=by
 have:=Z8 (f:=X8 l) (fun i : Nat=>(Wc l i,((16 * i : Nat) : Int))) 0 n (Nat.zero_le _) (t:=Wc l n) (fun i _ hi=>by
  unfold X8
  have e1 : wr (((16 * i : Nat) : Int) + 16) = ((16 * (i + 1) : Nat) : Int):=by rw [YT (by omega)]; omega
  have e2 : decide (((16 * (i + 1) : Nat) : Int) ≤ (l.length : Int)) = true:=by simp; omega
  have h3:=WI (Wg l (Wc l i,((16 * i : Nat) : Int))) (fun _=>0) (fun j=>l.getD (16 * i + j) 0) (by omega) 0 (by omega) (fun j hj=>by omega) (fun j _ hj a _ _=>by
   unfold Wg
   have e4 : wr (((16 * i : Nat) : Int) + (j : Int)) = ((16 * i + j : Nat) : Int):=by rw [YT (by omega)]; omega
   have e5 : 16 * i + j < l.length:=by omega
   simp only [JF hj,if_true,e4,YE,List.getElem?_eq_getElem e5,ZU _ hj,Option.bind_some,Int.toNat_natCast,List.getD_eq_getElem?_getD,Option.getD_some]) (fun v=>by unfold Wg; simp)
  have h4 : ZG (Wg l (Wc l i,((16 * i : Nat) : Int))) (Vector.replicate 16 0,0) = some (jf l i):=by rw [TD]; exact h3
  simp only [e1,e2,if_true,h4,Option.bind_some]
  rw [XM (by rw [Qz]; simp; omega),JE]; rfl) (by
  unfold X8
  have e1 : wr (((16 * n : Nat) : Int) + 16) = ((16 * (n + 1) : Nat) : Int):=by rw [YT (by omega)]; omega
  have e2 : decide (((16 * (n + 1) : Nat) : Int) ≤ (l.length : Int)) = false:=by simp; omega
  simp only [e1,e2,Bool.false_eq_true,if_false])
 have h2 : ZG (X8 l) ([],0) = _:=this
 unfold VF
 rw [h2]; rfl

abbrev Dig:=Vector UInt8 32
def df (v : Dig) (i : Nat) : UInt8:=v[i]?.getD default
theorem ka (v : Dig) : v = vf 32 (df v):=y0 v
def Q9 : Dig:=vf 32 fun i=>UInt8.ofNat (17 * i)
theorem lt32 {i : Nat} (h : i < 32) : decide ((i : Int) < 32) = true:=by simp; omega
theorem kY : XY = some Q9:=by
 have h:=WI Y6 (fun _=>0) (fun i=>UInt8.ofNat (17 * i)) (by omega) 0 (by omega) (fun j hj=>by omega) (fun i _ hi a _ _=>by
  unfold Y6
  have e1 : wr (17 * (i : Int)) = ((17 * i : Nat) : Int):=by rw [YT (by omega)]; omega
  simp only [lt32 hi,if_true,ZU _ hi,Option.bind_some,e1,V2,Int.toNat_natCast]) (fun v=>by unfold Y6; simp)
 have h2 : ZG Y6 (Vector.replicate 32 0,0) = some Q9:=by rw [TD]; exact h
 unfold XY
 rw [h2]; rfl
theorem yP : Ur = some Q9:=by
 have h:=WI Ww (fun _=>0) (fun i=>UInt8.ofNat (17 * i)) (by omega) 0 (by omega) (fun j hj=>by omega) (fun i _ hi a _ _=>by
  unfold Ww
  have e1 : wr (17 * (i : Int)) = ((17 * i : Nat) : Int):=by rw [YT (by omega)]; omega
  have e2 : Int.tmod ((17 * i : Nat) : Int) 256 = ((17 * i % 256 : Nat) : Int):=by rw [Int.tmod_eq_emod_of_nonneg (by omega)]; omega
  simp only [lt32 hi,if_true,ZU _ hi,Option.bind_some,e1,e2,V2,jq,Int.toNat_natCast]) (fun v=>by unfold Ww; simp)
 have h2 : ZG Ww (Vector.replicate 32 0,0) = some Q9:=by rw [TD]; exact h
 unfold Ur
 rw [h2]; rfl
def hiF (s : Nat → UInt8) : Nat → UInt8:=fun i=>s (16 + i)
def AR (f g : Nat → UInt8) : Nat → UInt8:=fun i=>if i < 16 then f i else g (i - 16)
def je (c : GCipher) (k a : Nat → UInt8) : Nat → UInt8:=JY (A3 c k a c.Rounds.toNat) a
def absC (c : GCipher) (s m : Nat → UInt8) : Nat → UInt8 :=
 AR (je c (hiF s) (JY s m)) (je c (je c (hiF s) (JY s m)) (JY (hiF s) m))
theorem zE (s : Nat → UInt8) : VM (vf 32 s) = some (vf 16 s,vf 16 (hiF s)):=by
 have:=Z8 (f:=We (vf 32 s)) (fun i : Nat=>(vf 16 (fun j=>if j < i then hiF s j else 0),vf 16 (fun j=>if j < i then s j else 0),(i : Int))) 0 16 (by omega) (t:=(vf 16 (hiF s),vf 16 s)) (fun i _ hi=>by
  unfold We
  have e1 : wr (16 + (i : Int)) = ((16 + i : Nat) : Int):=by rw [YT (by omega)]; omega
  simp only [JF hi,if_true,e1,ZU _ (show i < 32 by omega),ZU _ (show 16 + i < 32 by omega),ZU _ hi,Option.bind_some,Int.toNat_natCast,TL,XF (show i < 9223372036854775807 by omega)]
  have e : ∀ f : Nat → UInt8,(vf 16 fun j=>if j = i then f i else if j < i then f j else 0) = vf 16 fun j=>if j < i + 1 then f j else 0:=fun f=>Xd fun j _=>by
   by_cases h1 : j = i
   ·subst h1; simp
   ·by_cases h2 : j < i
    ·rw [if_neg h1,if_pos h2,if_pos (by omega)]
    ·rw [if_neg h1,if_neg h2,if_neg (by omega)]
  have ea:=e (hiF s)
  have eb:=e s
  rw [eb]
  have ea' : (vf 16 fun j=>if j = i then s (16 + i) else if j < i then hiF s j else 0) = vf 16 fun j=>if j < i + 1 then hiF s j else 0:=ea
  rw [ea']) (by
  unfold We
  simp only [show decide (((16 : Nat) : Int) < 16) = false from rfl,Bool.false_eq_true,if_false]
  refine congrArg (fun z=>some (Fl.ex z)) (congr (congrArg Prod.mk (Xd fun j hj=>by rw [if_pos hj])) (Xd fun j hj=>by rw [if_pos hj])))
 have h2 : ZG (We (vf 32 s)) (vf 16 (fun _=>0),vf 16 (fun _=>0),0) = some (vf 16 (hiF s),vf 16 s):=by
  have e0 : ∀ f : Nat → UInt8,(vf 16 fun j=>if j < 0 then f j else 0) = vf 16 fun _=>0:=fun f=>Xd fun j _=>by simp
  simp only [e0] at this
  exact this
 unfold VM
 rw [TD,h2]; rfl
theorem zV (c : GCipher) (h : YN c = true) (s m : Nat → UInt8) : WH c (vf 32 s) (vf 16 m) = some (vf 32 (absC c s m)):=by
 have hj : ∀ f g : Nat → UInt8,ZG (Wb (vf 16 f) (vf 16 g)) (Vector.replicate 32 0,0) = some (vf 32 (AR f g)):=by
  intro f g
  have:=Z8 (f:=Wb (vf 16 f) (vf 16 g)) (fun i : Nat=>(vf 32 (fun j=>if j < i then f j else if 16 ≤ j ∧ j < 16 + i then g (j - 16) else 0),(i : Int))) 0 16 (by omega) (t:=vf 32 (AR f g)) (fun i _ hi=>by
   unfold Wb
   have e1 : wr (16 + (i : Int)) = ((16 + i : Nat) : Int):=by rw [YT (by omega)]; omega
   simp only [JF hi,if_true,e1,ZU _ (show i < 32 by omega),ZU _ (show 16 + i < 32 by omega),ZU _ hi,Option.bind_some,Int.toNat_natCast,TL,XF (show i < 9223372036854775807 by omega)]
   refine congrArg (fun z=>some (Fl.nx (z,((i + 1 : Nat) : Int)))) (Xd fun j hj=>?_)
   by_cases h1 : j = 16 + i
   ·subst h1
    rw [if_pos rfl,if_neg (by omega),if_pos (by omega)]
    congr 1; omega
   ·rw [if_neg h1]
    by_cases h2 : j = i
    ·subst h2; rw [if_pos rfl,if_pos (by omega)]
    ·rw [if_neg h2]
     by_cases h3 : j < i
     ·rw [if_pos h3,if_pos (by omega)]
     ·rw [if_neg h3,if_neg (show ¬ j < i + 1 by omega)]
      by_cases h4 : 16 ≤ j ∧ j < 16 + i
      ·rw [if_pos h4,if_pos (by omega)]
      ·rw [if_neg h4,if_neg (by omega)]) (by
   unfold Wb
   simp only [show decide (((16 : Nat) : Int) < 16) = false from rfl,Bool.false_eq_true,if_false]
   refine congrArg (fun z=>some (Fl.ex z)) (Xd fun j hj=>?_)
   unfold AR
   by_cases h3 : j < 16
   ·rw [if_pos h3,if_pos h3]
   ·rw [if_neg h3,if_neg h3,if_pos (by omega)])
  have e0 : (vf 32 fun j=>if j < 0 then f j else if 16 ≤ j ∧ j < 16 + 0 then g (j - 16) else 0) = vf 32 fun _=>0:=Xd fun j _=>by rw [if_neg (by omega),if_neg (by omega)]
  simp only [e0] at this
  rw [TD]
  exact this
 unfold WH
 simp only [zE,Option.bind_some,JA,JG c h,hj]
 rfl
theorem kK (c : GCipher) (h : YN c = true) (s m : Nat → UInt8) : Xl ⟨Y2 c⟩ (vf 32 s) (vf 16 m) = some (vf 32 (absC c s m)):=by
 have g1 : ∀ {n : Nat} (f : Nat → UInt8) (k : Nat),k < n → (vf n f).toList.getD k 0 = f k:=fun f k hk=>by
  rw [Bc,List.getD_eq_getElem?_getD,List.getElem?_map,List.getElem?_range hk]; rfl
 have hl : ∀ {n : Nat} (f : Nat → UInt8),(vf n f).toList.length = n:=fun f=>by simp
 have cut : ∀ {n : Nat} (f : Nat → UInt8) (i j : Nat),i ≤ j → j ≤ n → ∃ r,slc (vf n f).toList (i : Int) (j : Int) = some r ∧ r.length = j - i ∧ Qy (j - i) r = some (vf (j - i) fun k=>f (i + k)) ∧ ∀ k,k < j - i → r.getD k 0 = f (i + k):=by
  intro n f i j hij hjn
  obtain ⟨r,r1,r2,r3⟩:=zy (l:=(vf n f).toList) (i:=i) (j:=j) hij (by rw [hl]; exact hjn)
  have r4 : ∀ k,k < j - i → r.getD k 0 = f (i + k):=fun k hk=>by rw [r3 k hk,g1 f (i + k) (by omega)]
  refine ⟨r,r1,r2,?_,r4⟩
  rw [B8 (by omega)]
  exact congrArg some (Xd r4)
 obtain ⟨l,l1,l2,l3,l4⟩:=cut (n:=32) s 0 16 (by omega) (by omega)
 obtain ⟨l',l1',l2',l3',l4'⟩:=cut (n:=32) s 16 32 (by omega) (by omega)
 have a1 : slc (vf 32 s).toList (0 : Int) (16 : Int) = some l:=l1
 have a2 : slc (vf 32 s).toList (16 : Int) (32 : Int) = some l':=l1'
 have a3 : Qy 16 l = some (vf 16 s):=by
  have : Qy 16 l = some (vf 16 fun k=>s (0 + k)):=l3
  rw [this]; exact congrArg some (Xd fun k _=>by rw [Nat.zero_add])
 have a4 : Qy 16 l' = some (vf 16 (hiF s)):=l3'
 have join : ∀ f g : Nat → UInt8,((slc (vf 16 f).toList (0 : Int) (16 : Int)).bind fun (l56 : (List UInt8))=>(slc (vf 16 g).toList (0 : Int) (16 : Int)).bind fun (l59 : (List UInt8))=>(Ya ([l56,l59] : (List (List UInt8)))).bind fun (r64 : (List UInt8))=>(Qy 32 r64).bind fun (x67 : (Vector UInt8 32))=>some x67 : Option ((Vector UInt8 32))) = some (vf 32 (AR f g)):=by
  intro f g
  obtain ⟨p,p1,p2,_,p4⟩:=cut (n:=16) f 0 16 (by omega) (by omega)
  obtain ⟨q,q1,q2,_,q4⟩:=cut (n:=16) g 0 16 (by omega) (by omega)
  have b1 : slc (vf 16 f).toList (0 : Int) (16 : Int) = some p:=p1
  have b2 : slc (vf 16 g).toList (0 : Int) (16 : Int) = some q:=q1
  have b3 : Ya [p,q] = some (p ++ q):=by
   have:=JZ [p,q] (by simp; omega) (by simp)
   simpa using this
  rw [b1,Option.bind_some,b2,Option.bind_some,b3,Option.bind_some,B8 (by simp; omega),Option.bind_some]
  refine congrArg some (Xd fun k hk=>?_)
  unfold AR
  rw [List.getD_eq_getElem?_getD]
  by_cases h1 : k < 16
  ·rw [if_pos h1,List.getElem?_append_left (by omega),← List.getD_eq_getElem?_getD,p4 k (by omega),Nat.zero_add]
  ·rw [if_neg h1,List.getElem?_append_right (by omega),← List.getD_eq_getElem?_getD,q4 (k - p.length) (by omega),Nat.zero_add,show p.length = 16 from p2]
 have in1 : ∀ k a : Nat → UInt8,((YF ⟨Y2 c⟩ (vf 16 k) (vf 16 a)).bind fun (r34 : (Vector UInt8 16))=>(YB r34 (vf 16 a)).bind fun (r36 : (Vector UInt8 16))=>some r36 : Option (Vector UInt8 16)) = some (vf 16 (je c k a)):=fun k a=>by
  rw [J0 c h,Option.bind_some,TE,Option.bind_some]; rfl
 unfold Xl
 rw [a1,Option.bind_some,a3,Option.bind_some,a2,Option.bind_some,a4,Option.bind_some,TE,Option.bind_some,in1,Option.bind_some,TE,Option.bind_some,in1,Option.bind_some,join,Option.bind_some]
 rfl

def absV (c : GCipher) (s : Dig) (m : Blk) : Dig:=vf 32 (absC c (df s) (bf m))
theorem y4 (c : GCipher) (h : YN c = true) (s : Dig) (m : Blk) : Xl ⟨Y2 c⟩ s m = some (absV c s m) ∧ WH c s m = some (absV c s m):=by
 have h1:=kK c h (df s) (bf m)
 have h2:=zV c h (df s) (bf m)
 rw [← ka,← vf_bf] at h1 h2
 exact ⟨h1,h2⟩
def K2 (c : GCipher) (d : List UInt8) : Dig:=(Wc (Kv d) ((Kv d).length / 16)).foldl (absV c) Q9
theorem zR (c : GCipher) (h : YN c = true) (ps : List (List UInt8)) (hl : ps.flatten.length ≤ 10000000) (hn : ps.length < 9223372036854775807) : Xi ⟨Y2 c⟩ ps = some (K2 c ps.flatten):=by
 obtain ⟨n,n1,n2⟩:=zM ps.flatten
 have e : (Kv ps.flatten).length / 16 = n:=by omega
 have h1:=QT (f:=Y4 ⟨Y2 c⟩ (Wc (Kv ps.flatten) n)) (Wc (Kv ps.flatten) n) (fun (b : Dig) i=>(b,i)) (absV c) Q9 (t:=K2 c ps.flatten) (by rw [Qz]; omega) (fun i hi=>by
  unfold Y4
  simp only [Int.ofNat_lt,hi,decide_true,if_true,YE,List.getElem?_eq_getElem hi,Option.bind_some,(y4 c h _ _).1]) (by
  unfold Y4 K2
  rw [e]; simp)
 unfold Xi
 rw [kY,Option.bind_some,JZ ps (by omega) hn,Option.bind_some,A8 _ hl,Option.bind_some,yn _ n n1 (by omega),Option.bind_some]
 have h2 : ZG (Y4 ⟨Y2 c⟩ (Wc (Kv ps.flatten) n)) (Q9,0) = _:=h1
 rw [h2]; rfl
theorem jk (c : GCipher) (h : YN c = true) (d : List UInt8) (hl : d.length ≤ 10000000) : V5 c d = some (K2 c d):=by
 obtain ⟨n,n1,n2⟩:=zM d
 have e : (Kv d).length / 16 = n:=by omega
 have h1:=QT (f:=UA c (Wc (Kv d) n)) (Wc (Kv d) n) (fun (b : Dig) i=>(b,i)) (absV c) Q9 (t:=K2 c d) (by rw [Qz]; omega) (fun i hi=>by
  unfold UA
  simp only [Int.ofNat_lt,hi,decide_true,if_true,YE,List.getElem?_eq_getElem hi,Option.bind_some,(y4 c h _ _).2]) (by
  unfold UA K2
  rw [e]; simp)
 unfold V5
 rw [kD _ hl,Option.bind_some,z8 _ n n1 (by omega),Option.bind_some,yP,Option.bind_some]
 have h2 : ZG (UA c (Wc (Kv d) n)) (Q9,0) = _:=h1
 rw [h2]; rfl
theorem BT (d : Dig) : W6 d = some d.toList:=by
 have h:=Bt (f:=VR d) (List.range 32) (fun i=>df d i) (t:=d.toList) (by simp) (fun i hi=>by
  have hi' : i < 32:=by simpa using hi
  unfold VR
  have hv : ZM d (i : Int) = some (df d i):=by
   have:=ZU (df d) hi'
   rwa [← ka] at this
  simp only [lt32 hi',if_true,hv,Option.bind_some]
  rw [XM (by simp; omega)]
  simp) (by
  unfold VR
  have e : (List.range 32).map (fun i=>df d i) = d.toList:=by
   conv=>rhs; rw [ka d]
   rw [Bc]
  simp only [List.length_range,show decide (((32 : Nat) : Int) < 32) = false from rfl,Bool.false_eq_true,if_false,e])
 unfold W6
 rw [h]; rfl
def KL (d : Dig) (e : GEvent) : List UInt8:=((d.toList ++ [ZC e.Kind]) ++ beL e.Number 4) ++ e.Tag.toList
theorem zG (d : Dig) (e : GEvent) : (KL d e).length = 69:=by simp [KL,Ke]
def HG (c : GCipher) (d : Dig) (e : GEvent) : Dig:=K2 c (KL d e)
def Bv (c : GCipher) (l : List GEvent) : Dig:=l.foldl (HG c) (K2 c (List.replicate 32 0))
theorem yx : YN (WZ 4) = true:=yi 4 (by omega)
theorem HA : WE = some (WZ 4):=by
 unfold WE
 rw [yq]; rfl
theorem kZ (n : Int) (h : 1 ≤ n ∧ n ≤ 20) : TN n = some ⟨Y2 (WZ n)⟩:=by
 unfold TN
 rw [Ak,Option.bind_some,z7 _ (yi n h)]; rfl
theorem B9 : WL = some ⟨Y2 (WZ 4)⟩:=by
 unfold WL
 rw [kZ 4 (by omega)]; rfl
theorem kV (d : Dig) : slc d.toList (0 : Int) (32 : Int) = some d.toList:=by
 have h1 : slc d.toList ((0 : Nat) : Int) ((32 : Nat) : Int) = _:=zb (Nat.zero_le _) (by simp)
 have h2 : slc d.toList (0 : Int) (32 : Int) = _:=h1
 rw [h2,List.drop_zero,List.take_of_length_le (by simp)]
theorem Ac (c : GCipher) (h : YN c = true) (l : List GEvent) (hl : l.length < 9223372036854775807) : WV ⟨Y2 c⟩ l = some (Bv c l):=by
 have hm : mkS 1 (0 : UInt8) 32 = some (List.replicate 32 0):=by unfold mkS; rw [if_pos (by omega)]; rfl
 have h0:=zR c h [List.replicate 32 0] (by simp) (by simp)
 have e0 : ([List.replicate 32 0] : List (List UInt8)).flatten = List.replicate 32 0:=by simp
 rw [e0] at h0
 have h1:=QT (f:=XB ⟨Y2 c⟩ l) l (fun (b : Dig) i=>(b,i)) (HG c) (K2 c (List.replicate 32 0)) (t:=Bv c l) hl (fun i hi=>by
  unfold XB
  have hb : Xm l[i].Number 4 = some (beL l[i].Number 4):=HE _ 4 (by omega)
  have hd:=zR c h [((l.take i).foldl (HG c) (K2 c (List.replicate 32 0))).toList,[ZC l[i].Kind],beL l[i].Number 4,l[i].Tag.toList] (by simp [Ke]) (by simp)
  have ed : ([((l.take i).foldl (HG c) (K2 c (List.replicate 32 0))).toList,[ZC l[i].Kind],beL l[i].Number 4,l[i].Tag.toList] : List (List UInt8)).flatten = KL ((l.take i).foldl (HG c) (K2 c (List.replicate 32 0))) l[i]:=by simp [KL]
  rw [ed] at hd
  simp only [Int.ofNat_lt,hi,decide_true,if_true,YE,List.getElem?_eq_getElem hi,Option.bind_some,kV,hb,hd]
  rfl) (by unfold XB Bv; simp)
 unfold WV
 rw [hm,Option.bind_some,h0,Option.bind_some]
 have h2 : ZG (XB ⟨Y2 c⟩ l) (K2 c (List.replicate 32 0),0) = _:=h1
 rw [h2]; rfl
theorem jJ (d : Dig) (e : GEvent) : UY d e = some (HG (WZ 4) d e):=by
 have h1:=jk (WZ 4) yx (KL d e) (by rw [zG]; omega)
 unfold UY
 rw [BT,Option.bind_some,XM (by simp),Option.bind_some,Option.bind_some,jB,Option.bind_some,XM (by simp [Ke]),Option.bind_some,HA,Option.bind_some,BT,Option.bind_some,XM (by simp [Ke]),Option.bind_some]
 have h2 : V5 (WZ 4) (((d.toList ++ [ZC e.Kind]) ++ beL e.Number 4) ++ e.Tag.toList) = some (HG (WZ 4) d e):=h1
 rw [h2]; rfl
theorem ju (l : List GEvent) (hl : l.length < 9223372036854775807) : UU l = some (Bv (WZ 4) l):=by
 have hm : mkS 1 (0 : UInt8) 32 = some (List.replicate 32 0):=by unfold mkS; rw [if_pos (by omega)]; rfl
 have h1:=QT (f:=Vb l) l (fun (b : Dig) i=>(b,i)) (HG (WZ 4)) (K2 (WZ 4) (List.replicate 32 0)) (t:=Bv (WZ 4) l) hl (fun i hi=>by
  unfold Vb
  simp only [Int.ofNat_lt,hi,decide_true,if_true,YE,List.getElem?_eq_getElem hi,Option.bind_some,jJ]) (by unfold Vb Bv; simp)
 unfold UU
 rw [HA,Option.bind_some,hm,Option.bind_some,jk _ yx _ (by simp),Option.bind_some]
 have h2 : ZG (Vb l) (K2 (WZ 4) (List.replicate 32 0),0) = _:=h1
 rw [h2]; rfl
theorem zu (l : List GEvent) (h : Wt.ln l) : BC Xp Vo l (l.map fun _=>34).sum :=
 KK Xp Vo YS WW (fun _=>34) (fun _ _=>rfl) (fun _ _=>rfl) l (WY h) (fun l' i k hi _ _ h0 hk=>by
  refine ⟨_,KX l' i k hi h0 (by omega),fun m hm=>?_⟩
  have hi':=(List.getElem?_eq_some_iff.1 hm).1
  have e1:=Al (k:=k) h0 (by omega)
  have e2 : wr (k + 2) = k + 2:=YT (by omega)
  unfold WW
  have h1:=JV (n:=32) (fun x : GEvent=>x.Tag) m i i rfl (Uc m (k,(i : Int))) (fun s=>by unfold Uc; rfl) hm (k + 2) (by omega) (by omega) rfl
  rw [show k + 2 + ((32 : Nat) : Int) = k + 34 by omega] at h1
  simp only [Int.ofNat_lt,hi',decide_true,if_true,YE,hm,Option.bind_some,bne_self_eq_false,Bool.false_eq_true,if_false,e1,e2,show k + 1 + 1 = k + 2 by omega,h1,Fl.el]
  rfl) (fun l' k=>by unfold YS; simp) (fun m k=>by unfold WW; simp)
theorem Aq (l : List GRecord) (h : Wt.ln l) : BC Xg WO l (l.map XK).sum :=
 KK Xg WO YJ Wo XK (fun _ _=>rfl) (fun _ _=>rfl) l (WY h) (fun l' i k hi hx _ h0 hk=>by
  have hk':=hk
  unfold XK at hk'
  have hln : Wt.ln l'[i]:=A6 h hx
  obtain ⟨la,a1,a2⟩:=HI l'[i].Label hln.1 (k + 18) (by omega) (by omega)
  obtain ⟨bo,b1,b2⟩:=HI l'[i].Body hln.2 (k + 18 + ((l'[i].Label.map fun _=>1).sum : Nat)) (by omega) (by omega)
  refine ⟨_,KH l' i k hi h0 hk a1 b1,fun m hm=>?_⟩
  have hi':=(List.getElem?_eq_some_iff.1 hm).1
  have e1:=Al (k:=k) h0 (by omega)
  have e2 : wr (k + 2) = k + 2:=YT (by omega)
  have h1:=JV (n:=16) (fun x : GRecord=>x.Nonce) m i i rfl (VA m (k,(i : Int))) (fun s=>by unfold VA; rfl) hm (k + 2) (by omega) (by omega) rfl
  have h2:=JV (n:=32) (fun x : GRecord=>x.Tag) m i i rfl (Vy m (k,(i : Int))) (fun s=>by unfold Vy; rfl) hm (k + 18 + ((l'[i].Label.map fun _=>1).sum : Nat) + ((l'[i].Body.map fun _=>1).sum : Nat)) (by omega) (by omega) rfl
  rw [show k + 2 + ((16 : Nat) : Int) = k + 18 by omega] at h1
  have c1 : ¬ (k + 18 + ((l'[i].Label.map fun _=>1).sum : Nat) < 0):=by omega
  have c2 : ¬ (k + 18 + ((l'[i].Label.map fun _=>1).sum : Nat) + ((l'[i].Body.map fun _=>1).sum : Nat) < 0):=by omega
  unfold Wo
  simp only [Int.ofNat_lt,hi',decide_true,if_true,YE,hm,Option.bind_some,bne_self_eq_false,Bool.false_eq_true,if_false,e1,e2,show k + 1 + 1 = k + 2 by omega,h1,Fl.el,a2,b2,c1,c2,decide_false,h2]
  refine congrArg (fun z=>some (Fl.nx (z,wr ((i : Int) + 1)))) ?_
  unfold XK; omega) (fun l' k=>by unfold YJ; simp) (fun m k=>by unfold Wo; simp)
theorem yk (x : GVault) (h : Wt.ln x) (k : Int) (h0 : 0 ≤ k) (hk : k + (U2 x : Nat) ≤ 4611686018427387904) :
  ∃ x',Xj x k = some (x',k + (U2 x : Nat)) ∧ ∀ n hd,WD ⟨x'.Keys,n,x'.Records,x'.Events,hd⟩ k = some (k + (U2 x : Nat)):=by
 unfold U2 at hk
 obtain ⟨a,a1,a2⟩:=zf x.Keys h.1 k h0 (by omega)
 obtain ⟨b,b1,b2⟩:=Aq x.Records h.2.1 _ (by omega : (0 : Int) ≤ k + ((x.Keys.map fun _=>16).sum : Nat)) (by omega)
 obtain ⟨c,c1,c2⟩:=zu x.Events h.2.2 _ (by omega : (0 : Int) ≤ k + ((x.Keys.map fun _=>16).sum : Nat) + ((x.Records.map XK).sum : Nat)) (by omega)
 refine ⟨⟨a,x.Next,b,c,x.Head⟩,?_,fun n hd=>?_⟩
 ·unfold Xj U2
  simp only [a1,b1,c1,Option.bind_some]
  refine congrArg (fun z=>some (_,z)) ?_
  omega
 ·have d1 : ¬ (k + ((x.Keys.map fun _=>16).sum : Nat) < 0):=by omega
  have d2 : ¬ (k + ((x.Keys.map fun _=>16).sum : Nat) + ((x.Records.map XK).sum : Nat) < 0):=by omega
  have d3 : ¬ (k + ((x.Keys.map fun _=>16).sum : Nat) + ((x.Records.map XK).sum : Nat) + ((x.Events.map fun _=>34).sum : Nat) < 0):=by omega
  unfold WD U2
  simp only [a2,b2,c2,d1,d2,d3,decide_false,Bool.false_eq_true,if_false,Option.bind_some]
  refine congrArg some ?_
  omega

theorem AZ (l : List Blk) (h : l.length ≤ 1000000) : Yd l = some l:=by
 unfold Yd
 rw [XM (by simp; omega)]; rfl
theorem AV (l : List GEvent) (h : l.length ≤ 1000000) : Ye l = some l:=by
 unfold Ye
 rw [XM (by simp; omega)]; rfl
theorem yf (l : List GRecord) : l.map (fun r=>(⟨r.Number,r.Version,r.Nonce,r.Label,r.Body,r.Tag⟩ : GRecord)) = l:=by
 induction l with
 | nil=>rfl
 | cons r l ih=>rw [List.map_cons,ih]
def Bw (v : GVault) : Prop:=v.Keys.length ≤ 1000 ∧ v.Events.length ≤ 1000 ∧ v.Records.length ≤ 1000 ∧ ∀ r ∈ v.Records,r.Label.length ≤ 1000000 ∧ r.Body.length ≤ 1000000
theorem qb (v : GVault) (h : Bw v) : WN v = some v:=by
 obtain ⟨h1,h2,h3,h4⟩:=h
 have hl:=Bt (f:=Wp v) v.Records (fun r=>(⟨r.Number,r.Version,r.Nonce,r.Label,r.Body,r.Tag⟩ : GRecord)) (t:=v.Records) (by omega) (fun i hi=>by
  obtain ⟨a1,a2⟩:=h4 _ (List.getElem_mem hi)
  unfold Wp
  simp only [Int.ofNat_lt,hi,decide_true,if_true,YE,List.getElem?_eq_getElem hi,Option.bind_some,Kw _ (show v.Records[i].Label.length ≤ 140737488355328 by omega),Kw _ (show v.Records[i].Body.length ≤ 140737488355328 by omega)]
  rw [XM (by simp; omega)]; rfl) (by
  unfold Wp
  rw [yf]; simp)
 unfold WN
 rw [AZ _ (by omega),Option.bind_some,AV _ (by omega),Option.bind_some,hl]; rfl
theorem kM (v : GVault) (h : Bw v) : Tn v = some v:=by
 obtain ⟨h1,h2,h3,h4⟩:=h
 have hl:=Bt (f:=U1 v) v.Records (fun r=>(⟨r.Number,r.Version,r.Nonce,r.Label,r.Body,r.Tag⟩ : GRecord)) (t:=v.Records) (by omega) (fun i hi=>by
  obtain ⟨a1,a2⟩:=h4 _ (List.getElem_mem hi)
  unfold U1
  simp only [Int.ofNat_lt,hi,decide_true,if_true,YE,List.getElem?_eq_getElem hi,Option.bind_some,Hq _ (show v.Records[i].Label.length ≤ 140737488355328 by omega),Hq _ (show v.Records[i].Body.length ≤ 140737488355328 by omega)]
  rw [XM (by simp; omega)]; rfl) (by
  unfold U1
  rw [yf]; simp)
 unfold Tn
 rw [XM (by simp; omega),Option.bind_some,XM (by simp; omega),Option.bind_some,hl]; rfl
theorem JU {v : GVault} (h : WR v = true) (hb : ∀ r ∈ v.Records,r.Label.length ≤ 1000000 ∧ r.Body.length ≤ 1000000) : Bw v:=by
 obtain ⟨h1,h2,h3,h4,h5,h6⟩:=QA h
 exact ⟨by omega,by omega,by omega,hb⟩
def Kn (v : GVault) (e : GEvent) : GVault:=⟨v.Keys,v.Next,v.Records,v.Events ++ [e],Bv (WZ 4) (v.Events ++ [e])⟩
theorem qe (v : GVault) (e : GEvent) (h : v.Events.length ≤ 1000) : XA ⟨Y2 (WZ 4)⟩ v e = some (Kn v e):=by
 unfold XA
 rw [XM (by simp; omega),Option.bind_some,Ac _ yx _ (by simp; omega)]; rfl
theorem jH (v : GVault) (k n : Int) (t : Dig) (h : v.Events.length ≤ 1000) : VK v k n t = some (Kn v ⟨k,n,t⟩):=by
 unfold VK
 rw [XM (by simp; omega),Option.bind_some,ju _ (by simp; omega)]; rfl
theorem HO (l : List Blk) (h : l.length < 9223372036854775807) (b : Blk) : Z6 l b = some (l.any fun x=>decide (b = x)):=by
 unfold Z6 YA
 rw [y6 l (fun x=>some (decide (b = x))) (fun x=>decide (b = x)) (Yr l b) (fun s=>by
  unfold Yr
  by_cases hs : (decide (s < (l.length : Int))) = true
  ·rw [if_pos hs,if_pos hs]
   cases idx l s <;> rfl
  ·rw [if_neg hs,if_neg hs]) h (fun x _=>rfl)]
 simp only [Option.bind_some,j0]
def KC : GVault:=⟨[],0,[],[],Vector.replicate 32 0⟩
def zL (v : GVault) : Bool:=v.Keys.length == 8 || v.Events.length == 60
def B1 (v : GVault) (key : Blk) : GVault × Int :=
 if WR v then (if v.Keys.any (fun x=>decide (key = x)) then (KC,5) else if zL v then (KC,3) else
  (Kn ⟨v.Keys ++ [key],v.Next,v.Records,v.Events,v.Head⟩ ⟨3,(v.Keys.length : Int),Vector.replicate 32 0⟩,0)) else (KC,1)
theorem AQ (v : GVault) : (if ((v.Keys.length : Int) == 8) = true then (some true) else (some ((v.Events.length : Int) == 60)) : Option Bool) = some (zL v):=by
 unfold zL
 have e1 : ((v.Keys.length : Int) == 8) = (v.Keys.length == 8):=by rw [Bool.eq_iff_iff,beq_iff_eq,beq_iff_eq]; omega
 have e2 : ((v.Events.length : Int) == 60) = (v.Events.length == 60):=by rw [Bool.eq_iff_iff,beq_iff_eq,beq_iff_eq]; omega
 rw [e1,e2]
 cases v.Keys.length == 8 <;> rfl
theorem Hd (v : GVault) (hb : Wt.ln v) (key : Blk) : Wx v key = some (B1 v key):=by
 unfold Wx B1
 rw [BR v hb,Option.bind_some]
 cases hv : WR v with
 | false=>rfl
 | true =>
  obtain ⟨h1,h2,h3,h4,h5,h6⟩:=QA hv
  have hsm : Bw v:=JU hv (fun r hr=>by
   unfold WR at hv
   simp only [Bool.and_eq_true,Bool.not_eq_true',List.any_eq_false,List.mem_range'_1] at hv
   obtain ⟨i,hi,rfl⟩:=List.mem_iff_getElem.1 hr
   have:=hv.1.2 i (by omega)
   unfold Jx J4 at this
   rw [List.getElem?_eq_getElem hi] at this
   simp only [Bool.or_eq_true,Bool.not_eq_true',decide_eq_true_eq,decide_eq_false_iff_not,not_or,Classical.not_not] at this
   omega)
  simp only [Bool.not_true,Bool.false_eq_true,if_false,if_true]
  rw [HO v.Keys (by omega),Option.bind_some]
  cases v.Keys.any (fun x=>decide (key = x)) with
  | true=>rfl
  | false =>
   simp only [Bool.false_eq_true,if_false]
   rw [AQ,Option.bind_some]
   cases zL v with
   | true=>rfl
   | false =>
    simp only [Bool.false_eq_true,if_false]
    rw [qb v hsm,Option.bind_some,XM (by simp; omega),Option.bind_some,B9,Option.bind_some]
    have hlen : Yg v.Keys = some (v.Keys.length : Int):=rfl
    have hn : ∀ e,XA ⟨Y2 (WZ 4)⟩ ⟨v.Keys ++ [key],v.Next,v.Records,v.Events,v.Head⟩ e = some (Kn ⟨v.Keys ++ [key],v.Next,v.Records,v.Events,v.Head⟩ e):=fun e=>qe _ e (show v.Events.length ≤ 1000 by omega)
    rw [hlen,Option.bind_some,hn]
    rfl
theorem Hp (v : GVault) (hb : Wt.ln v) (key : Blk) : VX v key = some (B1 v key):=by
 unfold VX B1
 rw [qc v hb,Option.bind_some]
 cases hv : WR v with
 | false=>rfl
 | true =>
  obtain ⟨h1,h2,h3,h4,h5,h6⟩:=QA hv
  have hsm : Bw v:=JU hv (fun r hr=>by
   unfold WR at hv
   simp only [Bool.and_eq_true,Bool.not_eq_true',List.any_eq_false,List.mem_range'_1] at hv
   obtain ⟨i,hi,rfl⟩:=List.mem_iff_getElem.1 hr
   have:=hv.1.2 i (by omega)
   unfold Jx J4 at this
   rw [List.getElem?_eq_getElem hi] at this
   simp only [Bool.or_eq_true,Bool.not_eq_true',decide_eq_true_eq,decide_eq_false_iff_not,not_or,Classical.not_not] at this
   omega)
  simp only [Bool.not_true,Bool.false_eq_true,if_false,if_true]
  have hl:=AJ (f:=Vh v key) v.Keys (fun x=>decide (key = x)) (t:=(KC,(5 : Int))) (by omega) (fun i hi=>by
   unfold Vh
   simp only [Int.ofNat_lt,hi,decide_true,if_true,YE,List.getElem?_eq_getElem hi,Option.bind_some]
   by_cases hk : v.Keys[i] = key
   ·simp [hk]; rfl
   ·have hk2 : ¬ (key = v.Keys[i]):=fun e=>hk e.symm
    simp [hk,hk2]) (by unfold Vh; simp)
  rw [hl,Option.bind_some]
  cases v.Keys.any (fun x=>decide (key = x)) with
  | true=>rfl
  | false =>
   simp only [Bool.false_eq_true,if_false,Fl.el]
   rw [AQ,Option.bind_some]
   cases zL v with
   | true=>rfl
   | false =>
    simp only [Bool.false_eq_true,if_false]
    rw [kM v hsm,Option.bind_some,XM (by simp; omega),Option.bind_some]
    have hn : ∀ k n t,VK ⟨v.Keys ++ [key],v.Next,v.Records,v.Events,v.Head⟩ k n t = some (Kn ⟨v.Keys ++ [key],v.Next,v.Records,v.Events,v.Head⟩ ⟨k,n,t⟩):=fun k n t=>jH _ k n t (show v.Events.length ≤ 1000 by omega)
    rw [hn]
    rfl
theorem qu (v : GVault) (key : Blk) (hw : Wt.wt v ≤ 1048576) : Wt.wt (B1 v key).1 ≤ 1048578:=by
 have hz : Wt.wt KC ≤ 1048578:=by
  have : Wt.wt KC = 0:=rfl
  omega
 unfold B1
 split
 ·split
  ·exact hz
  ·split
   ·exact hz
   ·unfold Kn
    rw [B4] at hw ⊢
    have e0 : Wt.wt key = 0:=rfl
    have e3 : ∀ e : GEvent,Wt.wt e = 0:=fun _=>rfl
    have e1 : Wt.wt (v.Keys ++ [key]) = Wt.wt v.Keys + 1:=by
     rw [TZ,TZ,List.map_append,List.sum_append,List.length_append,List.map_cons,List.map_nil,List.sum_cons,List.sum_nil,e0,List.length_singleton]; omega
    have e2 : ∀ e : GEvent,Wt.wt (v.Events ++ [e]) = Wt.wt v.Events + 1:=fun e=>by
     rw [TZ,TZ,List.map_append,List.sum_append,List.length_append,List.map_cons,List.map_nil,List.sum_cons,List.sum_nil,e3,List.length_singleton]; omega
    simp only [e1,e2]
    omega
 ·exact hz
theorem qj (v : GVault) (key : Blk) (hl : Wt.ln v) : Wt.ln (B1 v key).1:=by
 have hz : Wt.ln KC:=⟨⟨by simp [KC],fun _ _=>trivial⟩,⟨by simp [KC],fun x hx=>by simp [KC] at hx⟩,⟨by simp [KC],fun _ _=>trivial⟩⟩
 unfold B1
 cases hv : WR v with
 | false=>exact hz
 | true =>
  obtain ⟨h1,h2,h3,h4,h5,h6⟩:=QA hv
  simp only [if_true]
  split
  ·exact hz
  ·split
   ·exact hz
   ·exact ⟨⟨by simp [Kn]; omega,fun _ _=>trivial⟩,hl.2.1,⟨by simp [Kn]; omega,fun _ _=>trivial⟩⟩
theorem KB (v : GVault) (key : Blk) (h : Dat.bd v) (_ : Dat.bd key) : Wd v key = some true:=by
 unfold Wd
 refine kS (jD v (Wt.bdln v h)) (by omega) (by omega) fun r _ _ hw=>?_
 have hw : Wt.wt v ≤ 1048576:=by omega
 have hl:=Wt.wtln v hw
 have hz:=qu v key hw
 have hln:=qj v key hl
 have hle:=Bm v
 have hle2:=Bm (B1 v key).1
 obtain ⟨x',m1⟩:=zZ v hl 1 (by omega) (by omega)
 obtain ⟨y',m2,m3⟩:=yk (B1 v key).1 hln 1 (by omega) (by omega)
 have e1 : ¬ ((1 : Int) + (U2 v : Nat) < 0):=by omega
 have e2 : ¬ ((1 : Int) + (U2 (B1 v key).1 : Nat) < 0):=by omega
 simp [jA v hw,Ha,Hp v hl,Hd v hl,Ar v hl,Ar _ hln,m1,m2,m3,e1,e2]
end Go.Proofs.YtifdeoikcebbjaaGreat
