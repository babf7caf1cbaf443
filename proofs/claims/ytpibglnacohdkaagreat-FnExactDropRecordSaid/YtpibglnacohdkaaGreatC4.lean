/- Plain laws, no program in sight. -/
import Derived.Test.YtpibglnacohdkaaGreatC3
set_option linter.unusedVariables false
set_option linter.unusedSimpArgs false
set_option maxRecDepth 20000
set_option maxHeartbeats 400000
namespace Go.Proofs.YtpibglnacohdkaaGreat
open Go
open Flat (enc)
theorem BG {α : Type} {l : List α} {i : Nat} (h : i < l.length) : idx l (i : Int) = some l[i]:=by
 unfold idx
 rw [if_pos (by omega)]
 simp
theorem XB {i : Nat} (h : i < 9223372036854775807) : wr ((i : Int) + 1) = ((i + 1 : Nat) : Int):=by
 rw [YG (by omega)]; rfl

section
variable {S T : Type} {f : S → Option (Fl S T)}
theorem Zbn (g : Nat → S) (m n : Nat) (hmn : m ≤ n) (h : ∀ i, m ≤ i → i < n → f (g i) = some (.nx (g (i + 1)))) : ZB f (g m) = ZB f (g n) := by
  induction n with
  | zero => have : m = 0 := by omega
            subst this; rfl
  | succ n ih =>
    rcases Nat.lt_or_ge m (n + 1) with h1 | h1
    · rw [ih (by omega) (fun i h2 h3 => h i h2 (by omega)), Wv (h n (by omega) (by omega))]
    · have : m = n + 1 := by omega
      subst this; rfl
theorem ZY (g : Nat → S) (m n : Nat) (hmn : m ≤ n) {t : T} (h : ∀ i,m ≤ i → i < n → f (g i) = some (.nx (g (i + 1)))) (he : f (g n) = some (.ex t)) : ZB f (g m) = some t:=by
 rw [Zbn g m n hmn h,Wc he]
theorem QV (g : Nat → S) (p : Nat → Bool) (t : Nat → T) {e : T} (n : Nat) : ∀ (k m : Nat),m + k = n → (∀ i,m ≤ i → i < n → f (g i) = some (if p i then .ex (t i) else .nx (g (i + 1)))) → f (g n) = some (.ex e) →
  ZB f (g m) = some (((List.range' m k).find? p).elim e t)
 | 0,m,hk,_,he=>by
  have : m = n:=by omega
  subst this
  rw [Wc he]; rfl
 | k + 1,m,hk,h,he=>by
  have h1:=h m (Nat.le_refl _) (by omega)
  rw [List.range'_succ,List.find?_cons]
  cases hp : p m with
  | true=>rw [hp] at h1; rw [Wc h1]; rfl
  | false =>
   rw [hp] at h1
   rw [Wv h1,QV g p t n k (m + 1) (by omega) (fun i h2 h3=>h i (by omega) h3) he]
end

theorem yx {T : Type} {f : Int → Option (Fl Int (Fl Unit T))} (p : Nat → Bool) {t : T} {n m : Nat} (hm : m ≤ n)
  (h : ∀ i,m ≤ i → i < n → f (i : Int) = some (if p i then .ex (.ex t) else .nx ((i + 1 : Nat) : Int))) (he : f (n : Int) = some (.ex (.nx ()))) :
  ZB f (m : Int) = some (if (List.range' m (n - m)).any p then .ex t else .nx ()):=by
 rw [QV (fun i : Nat=>(i : Int)) p (fun _=>.ex t) n (n - m) m (by omega) h he]
 cases hf : (List.range' m (n - m)).find? p with
 | none =>
  have : (List.range' m (n - m)).any p = false:=by
   rw [List.any_eq_false]
   rw [List.find?_eq_none] at hf
   exact hf
  rw [this]; rfl
 | some i =>
  have : (List.range' m (n - m)).any p = true:=by
   rw [List.any_eq_true]
   exact ⟨i,List.mem_of_find?_eq_some hf,List.find?_some hf⟩
  rw [this]; rfl
theorem ky {p : Nat → Bool} {m n : Nat} : (List.range' m (n - m)).any p = true ↔ ∃ i,m ≤ i ∧ i < n ∧ p i = true:=by
 rw [List.any_eq_true]
 simp only [List.mem_range'_1]
 constructor
 ·rintro ⟨i,⟨h1,h2⟩,h3⟩; exact ⟨i,h1,by omega,h3⟩
 ·rintro ⟨i,h1,h2,h3⟩; exact ⟨i,⟨h1,by omega⟩,h3⟩
theorem qo {α : Type} {q : α → Bool} {l : List α} {p : Nat → Bool} (hp : ∀ i (h : i < l.length),p i = q l[i]) : (List.range' 0 (l.length - 0)).any p = l.any q:=by
 rw [Bool.eq_iff_iff,ky,List.any_eq_true]
 constructor
 ·rintro ⟨i,_,h,h3⟩; exact ⟨l[i],List.getElem_mem h,by rw [← hp i h]; exact h3⟩
 ·rintro ⟨x,hx,h⟩
  obtain ⟨i,hi,rfl⟩:=List.mem_iff_getElem.1 hx
  exact ⟨i,Nat.zero_le _,hi,by rw [hp i hi]; exact h⟩

theorem kT {T α : Type} {f : Int → Option (Fl Int (Fl Unit T))} (l : List α) (q : α → Bool) {t : T} (hl : l.length < 9223372036854775807)
  (h : ∀ i (hi : i < l.length),f (i : Int) = some (if q l[i] then .ex (.ex t) else .nx (wr ((i : Int) + 1)))) (he : f (l.length : Int) = some (.ex (.nx ()))) :
  ZB f 0 = some (if l.any q then .ex t else .nx ()):=by
 have:=yx (f:=f) (fun i=>if hi : i < l.length then q l[i] else false) (t:=t) (n:=l.length) (m:=0) (Nat.zero_le _) (fun i _ hi=>by
  rw [h i hi,XB (by omega)]; simp [hi]) he
 rw [qo (q:=q) (fun i hi=>by simp [hi])] at this
 exact this

class Wt (α : Type) [Dat α] where
 wt : α → Nat
 ln : α → Prop
 bdln : ∀ x,Dat.bd x → ln x
 wtln : ∀ x,wt x ≤ 1048576 → ln x
instance : Wt Int:=⟨fun _=>0,fun _=>True,fun _ _=>trivial,fun _ _=>trivial⟩
instance : Wt UInt8:=⟨fun _=>0,fun _=>True,fun _ _=>trivial,fun _ _=>trivial⟩
instance : Wt Bool:=⟨fun _=>0,fun _=>True,fun _ _=>trivial,fun _ _=>trivial⟩
instance : Wt Str:=⟨fun s=>s.l.length,fun s=>s.l.length ≤ 9223372036854775807,fun _ h=>h,fun _ h=>by omega⟩
instance {n : Nat} : Wt (Vector UInt8 n):=⟨fun _=>0,fun _=>True,fun _ _=>trivial,fun _ _=>trivial⟩
instance {n m : Nat} : Wt (Vector (Vector UInt8 m) n):=⟨fun _=>0,fun _=>True,fun _ _=>trivial,fun _ _=>trivial⟩
theorem jM {α : Type} {f : α → Nat} {l : List α} {x : α} (h : x ∈ l) : f x ≤ (l.map f).sum:=by
 induction l with
 | nil=>cases h
 | cons y l ih =>
  rw [List.map_cons,List.sum_cons]
  rcases List.mem_cons.1 h with rfl | h
  ·omega
  ·have:=ih h; omega
instance {α : Type} [Dat α] [Wt α] : Wt (List α):=⟨fun l=>l.length + (l.map Wt.wt).sum,fun l=>l.length ≤ 9223372036854775807 ∧ ∀ x ∈ l,Wt.ln x,fun _ h=>⟨h.1,fun x hx=>Wt.bdln x (h.2 x hx)⟩,
 fun l h=>⟨by omega,fun x hx=>Wt.wtln x (by have:=jM (f:=Wt.wt) hx; omega)⟩⟩
instance {α β : Type} [Dat α] [Dat β] [Wt α] [Wt β] : Wt (α × β):=⟨fun x=>Wt.wt x.1 + Wt.wt x.2,fun x=>Wt.ln x.1 ∧ Wt.ln x.2,fun x h=>⟨Wt.bdln x.1 h.1,Wt.bdln x.2 h.2⟩,fun x h=>⟨Wt.wtln x.1 (by omega),Wt.wtln x.2 (by omega)⟩⟩
theorem T1 {α : Type} [Dat α] [Wt α] (l : List α) : Wt.wt l = l.length + (l.map Wt.wt).sum:=rfl
theorem wt_mem {α : Type} [Dat α] [Wt α] {l : List α} {x : α} (h : x ∈ l) : Wt.wt x ≤ (l.map Wt.wt).sum:=jM h
theorem Zbs {α : Type} [Dat α] [Wt α] {l : List α} {x : α} (h : x ∈ l) : Wt.wt x ≤ Wt.wt l:=by
 have:=wt_mem h; rw [T1]; omega
theorem zY {α : Type} [Dat α] [Wt α] (l : List α) : l.length ≤ Wt.wt l:=by rw [T1]; omega
theorem W3 {α : Type} [Dat α] [Wt α] {l : List α} (h : Wt.ln l) : l.length ≤ 9223372036854775807:=h.1
theorem zo {α : Type} [Dat α] [Wt α] {l : List α} {x : α} (h : Wt.ln l) (hx : x ∈ l) : Wt.ln x:=h.2 x hx

theorem KL {α β : Type} (p0 : List α) (c : α → Option β) (g : α → β) (by_ : Nat) (z : β) (L : List β × Int → Option (Fl (List β × Int) (List β)))
  (hL : ∀ s,L s = if (decide (s.2 < (p0.length : Int))) = true then ((idx p0 s.2).bind fun x=>(c x).bind fun r=>(idx s.1 s.2).bind fun _=>some (Fl.nx ((s.1.set (s.2).toNat r),wr (s.2 + 1)))) else (some (Fl.ex s.1)))
  (hc : ∀ x ∈ p0,c x = some (g x)) (hl : p0.length * by_ ≤ 140737488355328) (hl' : p0.length < 9223372036854775807) :
  ((mkS by_ z (p0.length : Int)).bind fun l1=>(ZB L (l1,0) : Option (List β)).bind fun j=>some j) = some (p0.map g):=by
 have hm : mkS by_ z (p0.length : Int) = some (List.replicate p0.length z):=by
  have h3 : ((p0.length * by_ : Nat) : Int) ≤ ((140737488355328 : Nat) : Int):=Int.ofNat_le.2 hl
  rw [Int.natCast_mul] at h3
  unfold mkS
  rw [if_pos ⟨by omega,h3⟩,Int.toNat_natCast]
 rw [hm]
 simp only [Option.bind_some]
 have hrun:=ZY (f:=L) (fun i : Nat=>((p0.take i).map g ++ List.replicate (p0.length - i) z,(i : Int))) 0 p0.length (Nat.zero_le _) (t:=p0.map g) (fun i _ hi=>by
  rw [hL]
  simp only [Int.ofNat_lt,hi,decide_true,if_true,BG hi,Option.bind_some,hc _ (List.getElem_mem hi)]
  rw [BG (by simp; omega)]
  simp only [Option.bind_some,XB (show i < 9223372036854775807 by omega),Int.toNat_natCast]
  congr 3
  rw [List.set_append_right _ _ (by simp; omega)]
  have e1 : p0.length - i = (p0.length - (i + 1)) + 1:=by omega
  have e2 : i - ((p0.take i).map g).length = 0:=by simp; omega
  rw [e1,List.replicate_succ,e2,List.set_cons_zero]
  rw [List.take_succ_eq_append_getElem hi,List.map_append,List.append_assoc]
  rfl) (by
  rw [hL]
  simp)
 simp at hrun
 simp [hrun]

theorem BF {α : Type} (p0 : List α) (ne : α → α → Option Bool) (L : Int → Option (Fl Int (Fl Unit Bool)))
  (hL : ∀ s,L s = if (decide (s < (p0.length : Int))) = true then (((idx p0 s).bind fun x=>(idx p0 s).bind fun y=>ne x y : Option Bool).bind fun j=>if j = true then (some (Fl.ex (Fl.ex false))) else (some (Fl.nx (wr (s + 1))))) else (some (Fl.ex (Fl.nx ()))))
  (hn : ∀ x ∈ p0,ne x x = some false) (hl : p0.length ≤ 9223372036854775807) :
  (if ((p0.length : Int) != (p0.length : Int)) = true then (some false) else ((ZB L 0 : Option (Fl Unit Bool)).bind fun j2=>j2.el (fun _=>some true) (fun r=>some r))) = some true:=by
 have:=ZY (f:=L) (fun i : Nat=>(i : Int)) 0 p0.length (Nat.zero_le _) (t:=.nx ()) (fun i _ hi=>by
  rw [hL]
  simp only [Int.ofNat_lt,hi,decide_true,if_true,BG hi,Option.bind_some,hn _ (List.getElem_mem hi)]
  simp [XB (show i < 9223372036854775807 by omega)]) (by
  rw [hL]; simp)
 have h2 : ZB L 0 = some (.nx ()):=this
 simp [h2,Fl.el]

def TF {α : Type} [Dat α] [Wt α] (f : α → Int → Option Int) (x : α) : Prop:=∀ left : Int,0 ≤ left → left ≤ 1048576 → ∃ r,f x left = some r ∧ r ≤ 1048576 ∧ (0 ≤ r → r + Wt.wt x ≤ left)
theorem Ju {α : Type} [Dat α] [Wt α] {l : List α} (h0 : ∀ x : α,Wt.wt x = 0) (f : List α → Int → Option Int)
  (hf : ∀ left,f l left = if (decide ((wr (left - (l.length : Int))) < 0)) = true then (some (-1)) else (some (wr (left - (l.length : Int))))) (hl : l.length ≤ 9223372036854775807) : TF f l:=by
 intro left h1 h2
 have hs : (l.map Wt.wt).sum = 0:=by
  clear hf hl
  induction l with
  | nil=>rfl
  | cons x l ih=>rw [List.map_cons,List.sum_cons,h0,ih]
 have hw : Wt.wt l = l.length:=by rw [T1,hs]; rfl
 rw [hf,YG (by omega),hw]
 by_cases h : left - (l.length : Int) < 0
 ·exact ⟨-1,by simp [h],by omega,by omega⟩
 ·exact ⟨left - l.length,by simp [h],by omega,by omega⟩
theorem jl {α : Type} [Dat α] [Wt α] {p0 : List α} (f : List α → Int → Option Int) (c : α → Int → Option Int) (L : Int × Int → Option (Fl (Int × Int) (Fl Int Int)))
  (hL : ∀ s,L s = if (decide (s.2 < (p0.length : Int))) = true then ((idx p0 s.2).bind fun x=>(c x s.1).bind fun r=>if (decide (r < 0)) = true then (some (Fl.ex (Fl.ex (-1)))) else (some (Fl.nx (r,wr (s.2 + 1))))) else (some (Fl.ex (Fl.nx s.1))))
  (hf : ∀ left,f p0 left = if (decide ((wr (left - (p0.length : Int))) < 0)) = true then (some (-1)) else ((ZB L (wr (left - (p0.length : Int)),0) : Option (Fl Int Int)).bind fun j2=>j2.el (fun s=>some s) (fun r=>some r)))
  (hl : p0.length ≤ 9223372036854775807) (hc : ∀ x ∈ p0,TF c x) : TF f p0:=by
 intro left h1 h2
 rw [hf,YG (by omega)]
 by_cases h : left - (p0.length : Int) < 0
 ·exact ⟨-1,by simp [h],by omega,by omega⟩
 simp only [h,decide_false,Bool.false_eq_true,if_false]
 have key : ∀ (k m : Nat) (a : Int),m + k = p0.length → 0 ≤ a → a ≤ 1048576 → ∃ o : Fl Int Int,ZB L (a,(m : Int)) = some o ∧ ((o = .ex (-1)) ∨ ∃ r,o = .nx r ∧ 0 ≤ r ∧ r + (((p0.drop m).map Wt.wt).sum : Nat) ≤ a):=by
  intro k
  induction k with
  | zero =>
   intro m a hm h0 h3
   have : m = p0.length:=by omega
   subst this
   refine ⟨.nx a,?_,.inr ⟨a,rfl,h0,?_⟩⟩
   ·rw [Wc (t:=.nx a)]; rw [hL]; simp
   ·simp
  | succ k ih =>
   intro m a hm h0 h3
   have hi : m < p0.length:=by omega
   obtain ⟨r,e1,e2,e3⟩:=hc _ (List.getElem_mem hi) a h0 h3
   have hst : L (a,(m : Int)) = (if (decide (r < 0)) = true then (some (Fl.ex (Fl.ex (-1)))) else (some (Fl.nx (r,((m + 1 : Nat) : Int))))):=by
    rw [hL]
    simp only [Int.ofNat_lt,hi,decide_true,if_true,BG hi,Option.bind_some,e1,XB (show m < 9223372036854775807 by omega)]
   by_cases hr : r < 0
   ·simp only [hr,decide_true,if_true] at hst
    exact ⟨_,Wc hst,.inl rfl⟩
   ·simp only [hr,decide_false,Bool.false_eq_true,if_false] at hst
    obtain ⟨o,k1,k2⟩:=ih (m + 1) r (by omega) (by omega) e2
    refine ⟨o,by rw [Wv hst]; exact k1,k2.imp id ?_⟩
    rintro ⟨q,rfl,q1,q2⟩
    refine ⟨q,rfl,q1,?_⟩
    have e3:=e3 (by omega)
    rw [List.drop_eq_getElem_cons hi,List.map_cons,List.sum_cons]
    omega
 obtain ⟨o,k1,k2⟩:=key p0.length 0 (left - p0.length) (by omega) (by omega) (by omega)
 have k1' : ZB L (left - (p0.length : Int),0) = some o:=k1
 rw [k1']
 rcases k2 with rfl | ⟨r,rfl,q1,q2⟩
 ·exact ⟨-1,rfl,by omega,by omega⟩
 ·refine ⟨r,rfl,by omega,fun _=>?_⟩
  rw [List.drop_zero] at q2
  rw [T1]; omega
@[simp] theorem YB {α : Type} (l : List α) (i : Nat) : idx l (i : Int) = l[i]?:=by unfold idx; simp
@[simp] theorem idx_zero {α : Type} (l : List α) : idx l (0 : Int) = l[0]?:=YB l 0
theorem yb {T : Type} {f : Int → Option (Fl Int (Fl Unit T))} (n : Nat) (p : Nat → Bool) (t : Nat → T) (hn : n < 9223372036854775807)
  (h : ∀ i,i < n → f (i : Int) = some (if p i then .ex (.ex (t i)) else .nx (wr ((i : Int) + 1)))) (he : f (n : Int) = some (.ex (.nx ()))) (m : Nat) (hm : m ≤ n) :
  ZB f (m : Int) = some (match (List.range' m (n - m)).find? p with | some i=>.ex (t i) | none=>.nx ()):=by
 rw [QV (fun i : Nat=>(i : Int)) p (fun i=>.ex (t i)) n (n - m) m (by omega) (fun i _ hi=>by rw [h i hi,XB (by omega)]) he]
 cases (List.range' m (n - m)).find? p <;> rfl
theorem qn {T : Type} {f : Int → Option (Fl Int (Fl Unit T))} (n : Nat) (p : Nat → Bool) (t : T) (hn : n < 9223372036854775807)
  (h : ∀ i,i < n → f (i : Int) = some (if p i then .ex (.ex t) else .nx (wr ((i : Int) + 1)))) (he : f (n : Int) = some (.ex (.nx ()))) (m : Nat) (hm : m ≤ n) :
  ZB f (m : Int) = some (if (List.range' m (n - m)).any p then .ex t else .nx ()) :=
 yx p hm (fun i _ hi=>by rw [h i hi,XB (by omega)]) he
theorem QY {α β S T : Type} {f : S → Option (Fl S T)} (l : List α) (pack : β → Int → S) (g : β → α → β) (b0 : β) {t : T} (hn : l.length < 9223372036854775807)
  (h : ∀ i (hi : i < l.length),f (pack ((l.take i).foldl g b0) (i : Int)) = some (.nx (pack (g ((l.take i).foldl g b0) l[i]) (wr ((i : Int) + 1))))) (he : f (pack (l.foldl g b0) (l.length : Int)) = some (.ex t)) :
  ZB f (pack b0 0) = some t:=by
 have:=ZY (f:=f) (fun i : Nat=>pack ((l.take i).foldl g b0) (i : Int)) 0 l.length (Nat.zero_le _) (t:=t) (fun i _ hi=>by
  rw [h i hi,XB (by omega)]
  congr 3
  rw [List.take_succ_eq_append_getElem hi,List.foldl_append]; rfl) (by rw [List.take_length]; exact he)
 simpa using this
theorem AH {α β : Type} (g : α → β) (l : List α) (acc : List β) : l.foldl (fun b x=>b ++ [g x]) acc = acc ++ l.map g:=by
 induction l generalizing acc with
 | nil=>simp
 | cons x l ih=>simp [ih]
theorem B0 {α β T : Type} {f : List β × Int → Option (Fl (List β × Int) T)} (l : List α) (g : α → β) {t : T} (hn : l.length < 9223372036854775807)
  (h : ∀ i (hi : i < l.length),f ((l.take i).map g,(i : Int)) = some (.nx ((l.take i).map g ++ [g l[i]],wr ((i : Int) + 1)))) (he : f (l.map g,(l.length : Int)) = some (.ex t)) :
  ZB f ([],0) = some t:=by
 have e : ∀ m : List α,m.foldl (fun b x=>b ++ [g x]) [] = m.map g:=fun m=>by rw [AH]; rfl
 exact QY (f:=f) l (fun b i=>(b,i)) (fun b x=>b ++ [g x]) [] hn (fun i hi=>by simp only [e]; exact h i hi) (by simp only [e]; exact he)
theorem XN {α : Type} {by_ : Nat} {l m : List α} (h : (l.length + m.length) * by_ ≤ 140737488355328) : app by_ l m = some (l ++ m):=by unfold app; rw [if_pos h]
theorem zp {α : Type} {l : List α} {i j : Nat} (h : i ≤ j) (h2 : j ≤ l.length) : slc l (i : Int) (j : Int) = some ((l.take j).drop i):=by
 unfold slc; rw [if_pos (by omega)]; simp

theorem TP {α : Type} {n : Nat} {v w : Vector α n} (h : ∀ i (hi : i < n),v[i] = w[i]) : v = w:=Vector.ext h
@[simp] theorem Vd {α : Type} {n : Nat} (v : Vector α n) (i : Nat) : ZH v (i : Int) = v[i]?:=by unfold ZH; simp
theorem yU {n : Nat} (p0 : Vector UInt8 n) (L : Vector UInt8 n × Int → Option (Fl (Vector UInt8 n × Int) (Vector UInt8 n)))
  (hL : ∀ s,L s = if decide (s.2 < (n : Int)) = true then ((ZH p0 s.2).bind fun x=>(ZH s.1 s.2).bind fun _=>some (Fl.nx (s.1.setIfInBounds (s.2).toNat x,wr (s.2 + 1)))) else (some (Fl.ex s.1))) (hn : n < 9223372036854775807) (z : Vector UInt8 n) :
  ZB L (z,0) = some p0:=by
 have:=ZY (f:=L) (fun i : Nat=>(Vector.ofFn fun j : Fin n=>if j.1 < i then p0[j] else z[j],(i : Int))) 0 n (Nat.zero_le _) (t:=p0) (fun i _ hi=>by
  rw [hL]
  simp only [Int.ofNat_lt,hi,decide_true,if_true,Vd,Vector.getElem?_eq_getElem hi,Option.bind_some,Int.toNat_natCast,XB (show i < 9223372036854775807 by omega)]
  congr 3
  apply TP
  intro j hj
  rw [Vector.getElem_setIfInBounds]
  simp only [Vector.getElem_ofFn,Fin.getElem_fin]
  by_cases h : i = j
  ·subst h; simp
  ·by_cases h2 : j < i
   ·simp [h,h2,show j < i + 1 by omega]
   ·simp [h,h2,show ¬ j < i + 1 by omega]) (by
  rw [hL]
  simp only [Int.ofNat_lt,Nat.lt_irrefl,decide_false,Bool.false_eq_true,if_false]
  congr 2
  apply TP
  intro j hj
  simp [hj])
 have h0 : (Vector.ofFn fun j : Fin n=>if j.1 < 0 then p0[j] else z[j]) = z:=by
  apply TP
  intro j hj
  simp
 rw [h0] at this
 exact this
theorem Zam {n : Nat} (p0 : Vector UInt8 n) (L : Int → Option (Fl Int (Fl Unit Bool)))
  (hL : ∀ s,L s = if decide (s < (n : Int)) = true then (((ZH p0 s).bind fun x=>(ZH p0 s).bind fun y=>some (x != y) : Option Bool).bind fun j=>if j = true then (some (Fl.ex (Fl.ex false))) else (some (Fl.nx (wr (s + 1))))) else (some (Fl.ex (Fl.nx ())))) (hn : n < 9223372036854775807) :
  ((ZB L 0 : Option (Fl Unit Bool)).bind fun j5=>j5.el (fun _=>some true) (fun r=>some r)) = some true:=by
 have:=ZY (f:=L) (fun i : Nat=>(i : Int)) 0 n (Nat.zero_le _) (t:=.nx ()) (fun i _ hi=>by
  rw [hL]
  simp only [Int.ofNat_lt,hi,decide_true,if_true,Vd,Vector.getElem?_eq_getElem hi,Option.bind_some]
  simp [XB (show i < 9223372036854775807 by omega)]) (by rw [hL]; simp)
 have h2 : ZB L 0 = some (.nx ()):=this
 rw [h2]; rfl

def Kf (n : Nat) (k : Int) : Vector UInt8 n:=Vector.ofFn fun j=>Zy (k + j)
theorem Ax {k : Int} (h : 0 ≤ k) (h2 : k < 9223372036854775807) : wr (k + 1) = k + 1:=YG (by omega)
theorem JI {α : Type} {n : Nat} (get : α → Vector UInt8 n) (put : α → Vector UInt8 n → α) (i : Nat) (I : Int) (hI : I = i) (L : List α × Int × Int → Option (Fl (List α × Int × Int) (List α × Int)))
  (hL : ∀ s,L s = if decide (s.2.2 < (n : Int)) = true then ((idx s.1 I).bind fun x=>(ZH (get x) s.2.2).bind fun _=>some (Fl.nx (s.1.set (I).toNat (put x ((get x).setIfInBounds (s.2.2).toNat (Zy s.2.1))),wr (s.2.1 + 1),wr (s.2.2 + 1)))) else (some (Fl.ex (s.1,s.2.1))))
  (hgp : ∀ x v,get (put x v) = v) (hpp : ∀ x v w,put (put x v) w = put x w) (hpg : ∀ x,put x (get x) = x) (hn : n < 9223372036854775807)
  (l : List α) (hi : i < l.length) (k : Int) (h0 : 0 ≤ k) (hk : k + n ≤ 4611686018427387904) : ZB L (l,k,0) = some (l.set i (put l[i] (Kf n k)),k + n):=by
 subst hI
 have:=ZY (f:=L) (fun j : Nat=>(l.set i (put l[i] (Vector.ofFn fun q : Fin n=>if q.1 < j then Zy (k + q) else (get l[i])[q])),k + j,(j : Int))) 0 n (Nat.zero_le _) (t:=(l.set i (put l[i] (Kf n k)),k + n)) (fun j _ hj=>by
  rw [hL]
  have hi' : i < (l.set i (put l[i] (Vector.ofFn fun q : Fin n=>if q.1 < j then Zy (k + q) else (get l[i])[q]))).length:=by simpa using hi
  simp only [Int.ofNat_lt,hj,decide_true,if_true,YB,Vd,List.getElem?_eq_getElem hi',Vector.getElem?_eq_getElem hj,Option.bind_some,Int.toNat_natCast,XB (show j < 9223372036854775807 by omega),List.getElem_set_self,hgp,hpp,List.set_set]
  rw [Ax (by omega) (by omega)]
  congr 3
  ·congr 2
   apply TP
   intro q hq
   rw [Vector.getElem_setIfInBounds]
   simp only [Vector.getElem_ofFn,Fin.getElem_fin]
   by_cases h : j = q
   ·subst h; simp
   ·by_cases h2 : q < j
    ·simp [h,h2,show q < j + 1 by omega]
    ·simp [h,h2,show ¬ q < j + 1 by omega]
  ·congr 1
   omega) (by
  rw [hL]
  simp only [Int.ofNat_lt,Nat.lt_irrefl,decide_false,Bool.false_eq_true,if_false]
  have e : (Vector.ofFn fun q : Fin n=>if q.1 < n then Zy (k + q) else (get l[i])[q]) = Kf n k:=by
   unfold Kf
   apply TP
   intro j hj
   simp [hj]
  rw [e])
 have h0' : (Vector.ofFn fun q : Fin n=>if q.1 < 0 then Zy (k + q) else (get l[i])[q]) = get l[i]:=by
  apply TP
  intro j hj
  simp
 rw [h0',hpg,List.set_getElem_self] at this
 simpa using this
theorem JY {α : Type} {n : Nat} (get : α → Vector UInt8 n) (l : List α) (i : Nat) (I : Int) (hI : I = i) (L : Int × Int → Option (Fl (Int × Int) (Fl Int Int)))
  (hL : ∀ s,L s = if decide (s.2 < (n : Int)) = true then ((idx l I).bind fun x=>(ZH (get x) s.2).bind fun b=>if (b != (Zy s.1)) = true then (some (Fl.ex (Fl.ex (-1)))) else (some (Fl.nx (wr (s.1 + 1),wr (s.2 + 1))))) else (some (Fl.ex (Fl.nx s.1))))
  {x : α} (hx : l[i]? = some x) (k : Int) (h0 : 0 ≤ k) (hk : k + n ≤ 4611686018427387904) (hg : get x = Kf n k) : ZB L (k,0) = some (.nx (k + n)):=by
 subst hI
 have:=ZY (f:=L) (fun j : Nat=>(k + j,(j : Int))) 0 n (Nat.zero_le _) (t:=.nx (k + n)) (fun j _ hj=>by
  rw [hL]
  simp only [Int.ofNat_lt,hj,decide_true,if_true,YB,Vd,hx,Vector.getElem?_eq_getElem hj,Option.bind_some,XB (show j < 9223372036854775807 by omega)]
  rw [Ax (by omega) (by omega)]
  have : (get x)[j] = Zy (k + j):=by simp [hg,Kf]
  rw [this]
  simp only [bne_self_eq_false,Bool.false_eq_true,if_false]
  congr 3
  omega) (by rw [hL]; simp)
 simpa using this
def BQ {α : Type} (Fm : α → Int → Option (α × Int)) (Fh : α → Int → Option Int) (x : α) (n : Nat) : Prop :=
 ∀ k : Int,0 ≤ k → k + n ≤ 4611686018427387904 → ∃ x',Fm x k = some (x',k + n) ∧ Fh x' k = some (k + n)
theorem KM {α : Type} (Fm : List α → Int → Option (List α × Int)) (Fh : List α → Int → Option Int) (Lm : List α × Int × Int → Option (Fl (List α × Int × Int) (List α × Int))) (Lh : List α → Int × Int → Option (Fl (Int × Int) (Fl Int Int))) (mk : α → Nat)
  (hFm : ∀ l k,Fm l k = (ZB Lm (l,k,0) : Option (List α × Int)).bind fun j1=>some (j1.1,j1.2)) (hFh : ∀ l k,Fh l k = (ZB (Lh l) (k,0) : Option (Fl Int Int)).bind fun j1=>j1.el (fun s=>some s) (fun r=>some r))
  (l : List α) (hl : l.length ≤ 9223372036854775807)
  (hm : ∀ (l' : List α) (i : Nat) (k : Int) (hi : i < l'.length),l'[i] ∈ l → i < 9223372036854775807 → 0 ≤ k → k + mk l'[i] ≤ 4611686018427387904 → ∃ x',Lm (l',k,(i : Int)) = some (.nx (l'.set i x',k + mk l'[i],wr ((i : Int) + 1))) ∧
   ∀ (m : List α),m[i]? = some x' → Lh m (k,(i : Int)) = some (.nx (k + mk l'[i],wr ((i : Int) + 1))))
  (hme : ∀ (l' : List α) k,Lm (l',k,(l'.length : Int)) = some (.ex (l',k))) (hhe : ∀ (m : List α) k,Lh m (k,(m.length : Int)) = some (.ex (.nx k))) : BQ Fm Fh l (l.map mk).sum:=by
 have aux : ∀ (n i : Nat) (l' : List α) (k : Int),i + n = l'.length → l'.length = l.length → l'.drop i = l.drop i → 0 ≤ k → k + (((l.drop i).map mk).sum : Nat) ≤ 4611686018427387904 →
   ∃ l'',ZB Lm (l',k,(i : Int)) = some (l'',k + (((l.drop i).map mk).sum : Nat)) ∧ l''.length = l'.length ∧ (∀ j,j < i → l''[j]? = l'[j]?) ∧ ZB (Lh l'') (k,(i : Int)) = some (.nx (k + (((l.drop i).map mk).sum : Nat))):=by
  intro n
  induction n with
  | zero =>
   intro i l' k hi hll hd h0 hk
   have hi : i = l'.length:=by omega
   subst hi
   have e : l.drop l'.length = []:=by rw [hll]; simp
   rw [e]
   refine ⟨l',?_,rfl,fun _ _=>rfl,?_⟩
   ·rw [Wc (hme l' k)]; simp
   ·rw [Wc (hhe l' k)]; simp
  | succ n ih =>
   intro i l' k hi hll hd h0 hk
   have hil : i < l'.length:=by omega
   have hil2 : i < l.length:=by omega
   have e1 : l'[i] = l[i]:=by
    have h1:=List.drop_eq_getElem_cons hil
    have h2:=List.drop_eq_getElem_cons hil2
    rw [h1,h2] at hd
    exact (List.cons.inj hd).1
   have e2 : l.drop i = l[i] :: l.drop (i + 1):=List.drop_eq_getElem_cons hil2
   rw [e2,List.map_cons,List.sum_cons] at hk ⊢
   obtain ⟨x',h1,h2⟩:=hm l' i k hil (by rw [e1]; exact List.getElem_mem hil2) (by omega) h0 (by rw [e1]; omega)
   rw [e1] at h1 h2
   rw [XB (by omega)] at h1 h2
   obtain ⟨l'',k1,k2,k3,k4⟩:=ih (i + 1) (l'.set i x') (k + mk l[i]) (by simp; omega) (by simpa using hll) (by
    rw [List.drop_set_of_lt (by omega)]
    have h1:=List.drop_eq_getElem_cons hil
    rw [h1,e2] at hd
    exact (List.cons.inj hd).2) (by omega) (by omega)
   refine ⟨l'',?_,by simpa using k2,fun j hj=>?_,?_⟩
   ·rw [Wv h1,k1]; congr 2; omega
   ·rw [k3 j (by omega),List.getElem?_set_ne (by omega)]
   ·rw [Wv (h2 l'' (by rw [k3 i (by omega)]; simp [hil])),k4]; congr 2; omega
 intro k h0 hk
 obtain ⟨l'',k1,k2,k3,k4⟩:=aux l.length 0 l k (by omega) rfl rfl h0 (by simpa using hk)
 simp only [List.drop_zero] at k1 k4
 refine ⟨l'',?_,?_⟩
 ·rw [hFm]
  have : ZB Lm (l,k,0) = _:=k1
  rw [this]; rfl
 ·rw [hFh]
  have : ZB (Lh l'') (k,0) = _:=k4
  rw [this]; rfl
theorem Hz {α : Type} [Dat α] [Wt α] (mk : α → Nat) (c : Nat) (h : ∀ x,mk x ≤ c * (1 + Wt.wt x)) (l : List α) : (l.map mk).sum ≤ c * Wt.wt l:=by
 rw [T1]
 induction l with
 | nil=>simp
 | cons x l ih =>
  have:=h x
  simp only [List.map_cons,List.sum_cons,List.length_cons]
  have e : c * (l.length + 1 + (Wt.wt x + (l.map Wt.wt).sum)) = c * (1 + Wt.wt x) + c * (l.length + (l.map Wt.wt).sum):=by
   rw [← Nat.mul_add]; congr 1; omega
  omega
theorem yK (l : List UInt8) : Wt.wt l = l.length:=by
 rw [T1]
 have : (l.map Wt.wt).sum = 0:=by
  induction l with
  | nil=>rfl
  | cons x l ih=>rw [List.map_cons,List.sum_cons,ih]; rfl
 omega
theorem zg (l : List UInt8) (h : Wt.wt l ≤ 1048576) : VP l = some l:=by
 have:=zY l
 unfold VP
 have:=KL l (fun x=>some x) id 1 0 (TA l) (fun s=>by unfold TA; rfl) (fun _ _=>rfl) (by omega) (by omega)
 simpa using this
theorem AY (l : List UInt8) (h : Wt.ln l) : VX l l = some true:=by
 unfold VX
 exact BF l (fun x y=>some (x != y)) (Tw l l) (fun s=>by unfold Tw; rfl) (fun x _=>by simp) (W3 h)
theorem zc (l : List UInt8) (h : Wt.ln l) : TF X3 l :=
 Ju (fun _=>rfl) X3 (fun left=>by unfold X3; rfl) (W3 h)
theorem H0 (l : List UInt8) (h : Wt.ln l) : BQ YD WK l (l.map fun _=>1).sum :=
 KM YD WK YW Vr (fun _=>1) (fun _ _=>rfl) (fun _ _=>rfl) l (W3 h) (fun l' i k hi _ _ h0 hk=>by
  have e:=Ax (k:=k) h0 (by omega)
  refine ⟨Zy k,?_,fun m hm=>?_⟩
  ·unfold YW
   simp only [Int.ofNat_lt,hi,decide_true,if_true,YB,List.getElem?_eq_getElem hi,Option.bind_some,Int.toNat_natCast,e]; rfl
  ·have hi':=(List.getElem?_eq_some_iff.1 hm).1
   unfold Vr
   simp only [Int.ofNat_lt,hi',decide_true,if_true,YB,hm,Option.bind_some,bne_self_eq_false,Bool.false_eq_true,if_false,e]; rfl) (fun l' k=>by unfold YW; simp) (fun m k=>by unfold Vr; simp)
instance : Wt GRecord:=⟨fun x=>Wt.wt x.Label + Wt.wt x.Body,fun x=>Wt.ln x.Label ∧ Wt.ln x.Body,fun x h=>⟨Wt.bdln x.Label h.2.2.2.1,Wt.bdln x.Body h.2.2.2.2.1⟩,fun x h=>⟨Wt.wtln x.Label (by omega),Wt.wtln x.Body (by omega)⟩⟩
instance : Wt GEvent:=⟨fun _=>0,fun _=>True,fun _ _=>trivial,fun _ _=>trivial⟩
instance : Wt GVault:=⟨fun x=>Wt.wt x.Keys + (Wt.wt x.Records + Wt.wt x.Events),fun x=>Wt.ln x.Keys ∧ Wt.ln x.Records ∧ Wt.ln x.Events,fun x h=>⟨Wt.bdln x.Keys h.1,Wt.bdln x.Records h.2.2.1,Wt.bdln x.Events h.2.2.2.1⟩,
 fun x h=>⟨Wt.wtln x.Keys (by omega),Wt.wtln x.Records (by omega),Wt.wtln x.Events (by omega)⟩⟩
theorem A0 (x : Vector UInt8 16) : WT x = some x:=by
 unfold WT
 rw [yU x (TB x) (fun s=>by unfold TB; rfl) (by omega)]; rfl
theorem Jv (x : Vector UInt8 32) : Wj x = some x:=by
 unfold Wj
 rw [yU x (U6 x) (fun s=>by unfold U6; rfl) (by omega)]; rfl
theorem AS (x : Vector UInt8 16) : WU x x = some true:=by
 unfold WU
 exact Zam x (TC x x) (fun s=>by unfold TC; rfl) (by omega)
theorem JC (x : Vector UInt8 32) : Wh x x = some true:=by
 unfold Wh
 exact Zam x (Tf x x) (fun s=>by unfold Tf; rfl) (by omega)
theorem jf (l : List (Vector UInt8 16)) (h : Wt.wt l ≤ 1048576) : Ud l = some l:=by
 have:=zY l
 unfold Ud
 have:=KL l WT id 16 (Vector.replicate 16 0) (Ta l) (fun s=>by unfold Ta; rfl) (fun x _=>A0 x) (by omega) (by omega)
 simpa using this
theorem jG (l : List (Vector UInt8 16)) (h : Wt.ln l) : Uo l l = some true:=by
 unfold Uo
 exact BF l (fun x y=>(WU x y).bind fun r=>some (!r)) (Tc l l) (fun s=>by unfold Tc; rfl) (fun x _=>by simp [AS x]) (W3 h)
theorem jg (l : List (Vector UInt8 16)) (h : Wt.ln l) : TF W4 l :=
 Ju (fun _=>rfl) W4 (fun left=>by unfold W4; rfl) (W3 h)
theorem KV (l' : List (Vector UInt8 16)) (i : Nat) (k : Int) (hi : i < l'.length) (h0 : 0 ≤ k) (hk : k + 16 ≤ 4611686018427387904) :
  YQ (l',k,(i : Int)) = some (.nx (l'.set i (Kf 16 k),k + 16,wr ((i : Int) + 1))):=by
 unfold YQ
 have h1:=JI (n:=16) (fun x : Vector UInt8 16=>x) (fun _ v=>v) i i rfl (Uc (l',k,(i : Int))) (fun s=>by unfold Uc; rfl) (fun _ _=>rfl) (fun _ _ _=>rfl) (fun _=>rfl) (by omega) l' hi k h0 hk
 simp only [Int.ofNat_lt,hi,decide_true,if_true,h1,Option.bind_some]
 rfl
theorem zW (l : List (Vector UInt8 16)) (h : Wt.ln l) : BQ Xm Vq l (l.map fun _=>16).sum :=
 KM Xm Vq YQ WP (fun _=>16) (fun _ _=>rfl) (fun _ _=>rfl) l (W3 h) (fun l' i k hi _ _ h0 hk=>by
  refine ⟨Kf 16 k,KV l' i k hi h0 (by omega),fun m hm=>?_⟩
  have hi':=(List.getElem?_eq_some_iff.1 hm).1
  unfold WP
  have h1:=JY (n:=16) (fun x : Vector UInt8 16=>x) m i i rfl (V7 m (k,(i : Int))) (fun s=>by unfold V7; rfl) hm k h0 (by omega) rfl
  simp only [Int.ofNat_lt,hi',decide_true,if_true,h1,Option.bind_some,Fl.el]
  try rfl) (fun l' k=>by unfold YQ; simp) (fun m k=>by unfold WP; simp)
theorem y5 (x : GRecord) (h : Wt.wt x ≤ 1048576) : Vc x = some x:=by
 have h : Wt.wt x.Label + Wt.wt x.Body ≤ 1048576:=h
 unfold Vc
 simp [A0,Jv,zg x.Label (by omega),zg x.Body (by omega)]
theorem yY (l : List GRecord) (h : Wt.wt l ≤ 1048576) : VI l = some l:=by
 have:=zY l
 unfold VI
 have:=KL l Vc id 112 ⟨0,0,Vector.replicate 16 0,[],[],Vector.replicate 32 0⟩ (UB l) (fun s=>by unfold UB; rfl) (fun x hx=>y5 x (Nat.le_trans (Zbs hx) h)) (by omega) (by omega)
 simpa using this
theorem jk (x : GRecord) (h : Wt.ln x) : Vf x x = some true:=by
 unfold Vf
 simp [AS,JC,AY x.Label h.1,AY x.Body h.2]
theorem yN (l : List GRecord) (h : Wt.ln l) : VU l l = some true:=by
 unfold VU
 exact BF l (fun x y=>(Vf x y).bind fun r=>some (!r)) (UD l l) (fun s=>by unfold UD; rfl) (fun x hx=>by simp [jk x (zo h hx)]) (W3 h)
theorem Jk {α β : Type} [Dat α] [Wt α] [Dat β] [Wt β] {f : α → Int → Option Int} {g : β → Int → Option Int} {x : α} {y : β} (hf : TF f x) (hg : TF g y) (left : Int) (h1 : 0 ≤ left) (h2 : left ≤ 1048576) :
  ∃ r,((f x left).bind fun r=>if decide (r < 0) = true then some (-1) else g y r) = some r ∧ r ≤ 1048576 ∧ (0 ≤ r → r + (Wt.wt x + Wt.wt y : Nat) ≤ left):=by
 obtain ⟨r,e1,e2,e3⟩:=hf left h1 h2
 rw [e1]
 by_cases hr : r < 0
 ·exact ⟨-1,by simp [hr],by omega,by omega⟩
 ·have e3:=e3 (by omega)
  obtain ⟨q,k1,k2,k3⟩:=hg r (by omega) e2
  refine ⟨q,by simp [hr,k1],k2,fun hq=>?_⟩
  have:=k3 hq
  omega
theorem A4 {f : Option Int} {left w : Int} (h : ∃ r,f = some r ∧ r ≤ 1048576 ∧ (0 ≤ r → r + w ≤ left)) : ∃ r,(f.bind fun r=>if decide (r < 0) = true then some (-1) else some r) = some r ∧ r ≤ 1048576 ∧ (0 ≤ r → r + w ≤ left):=by
 obtain ⟨r,e1,e2,e3⟩:=h
 by_cases hr : r < 0
 ·exact ⟨-1,by simp [e1,hr],by omega,by omega⟩
 ·exact ⟨r,by simp [e1,hr],e2,e3⟩
theorem ja (x : GRecord) (h : Wt.ln x) : TF Un x:=by
 intro left h1 h2
 have h3 : TF (fun (y : List UInt8) r=>(X3 y r).bind fun r=>if decide (r < 0) = true then some (-1) else some r) x.Body:=fun left h1 h2=>A4 (zc x.Body h.2 left h1 h2)
 have:=Jk (zc x.Label h.1) h3 left h1 h2
 exact this
theorem yQ (l : List GRecord) (h : Wt.ln l) : TF XM l :=
 jl XM Un (UA l) (fun s=>by unfold UA; rfl) (fun left=>by unfold XM; rfl) (W3 h) (fun x hx=>ja x (zo h hx))
theorem kF (x : GEvent) : VH x = some x:=by
 unfold VH
 simp [Jv]
theorem ju (l : List GEvent) (h : Wt.wt l ≤ 1048576) : Uf l = some l:=by
 have:=zY l
 unfold Uf
 have:=KL l VH id 48 ⟨0,0,Vector.replicate 32 0⟩ (Te l) (fun s=>by unfold Te; rfl) (fun x _=>kF x) (by omega) (by omega)
 simpa using this
theorem ko (x : GEvent) : VO x x = some true:=by
 unfold VO
 simp [JC]
theorem jj (l : List GEvent) (h : Wt.ln l) : Uu l l = some true:=by
 unfold Uu
 exact BF l (fun x y=>(VO x y).bind fun r=>some (!r)) (U1 l l) (fun s=>by unfold U1; rfl) (fun x _=>by simp [ko x]) (W3 h)
theorem jn (l : List GEvent) (h : Wt.ln l) : TF XA l :=
 Ju (fun _=>rfl) XA (fun left=>by unfold XA; rfl) (W3 h)
theorem Kv (x : GVault) : Wt.wt x = Wt.wt x.Keys + (Wt.wt x.Records + Wt.wt x.Events):=rfl
theorem kX (x : GVault) (h : Wt.wt x ≤ 1048576) : XU x = some x:=by
 rw [Kv] at h
 unfold XU
 simp [Jv,jf x.Keys (by omega),yY x.Records (by omega),ju x.Events (by omega)]
theorem zd (x : GVault) (h : Wt.ln x) : XS x x = some true:=by
 unfold XS
 simp [JC,jG x.Keys h.1,yN x.Records h.2.1,jj x.Events h.2.2]
theorem kx (x : GVault) (h : Wt.ln x) : TF TN x:=by
 intro left h1 h2
 have h3 : TF (fun (y : List GEvent) r=>(XA y r).bind fun r=>if decide (r < 0) = true then some (-1) else some r) x.Events:=fun left h1 h2=>A4 (jn x.Events h.2.2 left h1 h2)
 have h4 : TF (α:=List GRecord × List GEvent) (fun y r=>(XM y.1 r).bind fun r=>if decide (r < 0) = true then some (-1) else (XA y.2 r).bind fun r=>if decide (r < 0) = true then some (-1) else some r) (x.Records,x.Events):=fun left h1 h2=>Jk (yQ x.Records h.2.1) h3 left h1 h2
 exact Jk (jg x.Keys h.1) h4 left h1 h2
def HA {α : Type} (Fm : α → Int → Option (α × Int)) (x : α) (n : Nat) : Prop :=
 ∀ k : Int,0 ≤ k → k + n ≤ 4611686018427387904 → ∃ x',Fm x k = some (x',k + n)
theorem Bq {α : Type} (Fm : List α → Int → Option (List α × Int)) (Lm : List α × Int × Int → Option (Fl (List α × Int × Int) (List α × Int))) (mk : α → Nat)
  (hFm : ∀ l k,Fm l k = (ZB Lm (l,k,0) : Option (List α × Int)).bind fun j1=>some (j1.1,j1.2)) (l : List α) (hl : l.length ≤ 9223372036854775807)
  (hm : ∀ (l' : List α) (i : Nat) (k : Int) (hi : i < l'.length),l'[i] ∈ l → i < 9223372036854775807 → 0 ≤ k → k + mk l'[i] ≤ 4611686018427387904 → ∃ x',Lm (l',k,(i : Int)) = some (.nx (l'.set i x',k + mk l'[i],wr ((i : Int) + 1))))
  (hme : ∀ (l' : List α) k,Lm (l',k,(l'.length : Int)) = some (.ex (l',k))) : HA Fm l (l.map mk).sum:=by
 intro k h0 hk
 have aux : ∀ (n i : Nat) (l' : List α) (k : Int),i + n = l'.length → l'.length = l.length → l'.drop i = l.drop i → 0 ≤ k → k + (((l.drop i).map mk).sum : Nat) ≤ 4611686018427387904 →
   ∃ l'',ZB Lm (l',k,(i : Int)) = some (l'',k + (((l.drop i).map mk).sum : Nat)):=by
  intro n
  induction n with
  | zero =>
   intro i l' k hi hll hd h0 hk
   have hi : i = l'.length:=by omega
   subst hi
   have e : l.drop l'.length = []:=by rw [hll]; simp
   rw [e]
   exact ⟨l',by rw [Wc (hme l' k)]; simp⟩
  | succ n ih =>
   intro i l' k hi hll hd h0 hk
   have hil : i < l'.length:=by omega
   have hil2 : i < l.length:=by omega
   have h1:=List.drop_eq_getElem_cons hil
   have e2 : l.drop i = l[i] :: l.drop (i + 1):=List.drop_eq_getElem_cons hil2
   rw [h1,e2] at hd
   have e1:=(List.cons.inj hd).1
   rw [e2,List.map_cons,List.sum_cons] at hk ⊢
   obtain ⟨x',h1⟩:=hm l' i k hil (by rw [e1]; exact List.getElem_mem hil2) (by omega) h0 (by rw [e1]; omega)
   rw [e1,XB (by omega)] at h1
   obtain ⟨l'',k1⟩:=ih (i + 1) (l'.set i x') (k + mk l[i]) (by simp; omega) (by simpa using hll) (by
    rw [List.drop_set_of_lt (by omega)]
    exact (List.cons.inj hd).2) (by omega) (by omega)
   exact ⟨l'',by rw [Wv h1,k1]; congr 2; omega⟩
 obtain ⟨l'',k1⟩:=aux l.length 0 l k (by omega) rfl rfl h0 (by simpa using hk)
 simp only [List.drop_zero] at k1
 refine ⟨l'',?_⟩
 rw [hFm]
 have : ZB Lm (l,k,0) = _:=k1
 rw [this]; rfl
theorem HY (l : List UInt8) (h : Wt.ln l) : HA YD l (l.map fun _=>1).sum :=
 Bq YD YW (fun _=>1) (fun _ _=>rfl) l (W3 h) (fun l' i k hi _ _ h0 hk=>by
  have e:=Ax (k:=k) h0 (by omega)
  refine ⟨Zy k,?_⟩
  unfold YW
  simp only [Int.ofNat_lt,hi,decide_true,if_true,YB,List.getElem?_eq_getElem hi,Option.bind_some,Int.toNat_natCast,e]; rfl) (fun l' k=>by unfold YW; simp)
theorem z4 (l : List (Vector UInt8 16)) (h : Wt.ln l) : HA Xm l (l.map fun _=>16).sum :=
 Bq Xm YQ (fun _=>16) (fun _ _=>rfl) l (W3 h) (fun l' i k hi _ _ h0 hk=>⟨_,KV l' i k hi h0 (by omega)⟩) (fun l' k=>by unfold YQ; simp)
def XE (x : GRecord) : Nat:=50 + ((x.Label.map fun _=>1).sum + (x.Body.map fun _=>1).sum)
theorem KC (l' : List GRecord) (i : Nat) (k : Int) (hi : i < l'.length) (h0 : 0 ≤ k) (hk : k + XE l'[i] ≤ 4611686018427387904) {la bo : List UInt8}
  (hla : YD l'[i].Label (k + 18) = some (la,k + 18 + ((l'[i].Label.map fun _=>1).sum : Nat))) (hbo : YD l'[i].Body (k + 18 + ((l'[i].Label.map fun _=>1).sum : Nat)) = some (bo,k + 18 + ((l'[i].Label.map fun _=>1).sum : Nat) + ((l'[i].Body.map fun _=>1).sum : Nat))) :
  YF (l',k,(i : Int)) = some (.nx (l'.set i ⟨k,k + 1,Kf 16 (k + 2),la,bo,Kf 32 (k + 18 + ((l'[i].Label.map fun _=>1).sum : Nat) + ((l'[i].Body.map fun _=>1).sum : Nat))⟩,k + XE l'[i],wr ((i : Int) + 1))):=by
 unfold XE at hk
 have e1:=Ax (k:=k) h0 (by omega)
 have e2:=Ax (k:=k + 1) (by omega) (by omega)
 unfold YF
 have hi2 : i < (l'.set i (⟨k,k + 1,l'[i].Nonce,l'[i].Label,l'[i].Body,l'[i].Tag⟩ : GRecord)).length:=by simpa using hi
 have h1:=JI (n:=16) (fun x : GRecord=>x.Nonce) (fun x v=>⟨x.Number,x.Version,v,x.Label,x.Body,x.Tag⟩) i i rfl (Vw (l',k,(i : Int))) (fun s=>by unfold Vw; rfl) (fun _ _=>rfl) (fun _ _ _=>rfl) (fun _=>rfl) (by omega) _ hi2 (k + 1 + 1) (by omega) (by omega)
 rw [show k + 1 + 1 + ((16 : Nat) : Int) = k + 18 by omega] at h1
 simp only [List.getElem_set_self,List.set_set] at h1
 simp only [Int.ofNat_lt,hi,decide_true,if_true,YB,List.getElem?_eq_getElem hi,Option.bind_some,Int.toNat_natCast,e1,List.getElem?_set_self hi,List.set_set,e2,h1,hla,hbo]
 have hi3 : i < (l'.set i (⟨k,k + 1,Kf 16 (k + 1 + 1),la,bo,l'[i].Tag⟩ : GRecord)).length:=by simpa using hi
 have h2:=JI (n:=32) (fun x : GRecord=>x.Tag) (fun x v=>⟨x.Number,x.Version,x.Nonce,x.Label,x.Body,v⟩) i i rfl (VD (l',k,(i : Int))) (fun s=>by unfold VD; rfl) (fun _ _=>rfl) (fun _ _ _=>rfl) (fun _=>rfl) (by omega) _ hi3
  (k + 18 + ((l'[i].Label.map fun _=>1).sum : Nat) + ((l'[i].Body.map fun _=>1).sum : Nat)) (by omega) (by omega)
 simp only [List.getElem_set_self,List.set_set] at h2
 rw [h2]
 simp only [Option.bind_some]
 rw [show k + 1 + 1 = k + 2 by omega]
 congr 3
 congr 1
 unfold XE
 omega
theorem AO (l : List GRecord) (h : Wt.ln l) : HA Xa l (l.map XE).sum :=
 Bq Xa YF XE (fun _ _=>rfl) l (W3 h) (fun l' i k hi hx _ h0 hk=>by
  have hk':=hk
  unfold XE at hk'
  have hln : Wt.ln l'[i]:=zo h hx
  obtain ⟨la,h1⟩:=HY l'[i].Label hln.1 (k + 18) (by omega) (by omega)
  obtain ⟨bo,h2⟩:=HY l'[i].Body hln.2 (k + 18 + ((l'[i].Label.map fun _=>1).sum : Nat)) (by omega) (by omega)
  exact ⟨_,KC l' i k hi h0 hk h1 h2⟩) (fun l' k=>by unfold YF; simp)
theorem K0 (l' : List GEvent) (i : Nat) (k : Int) (hi : i < l'.length) (h0 : 0 ≤ k) (hk : k + 34 ≤ 4611686018427387904) :
  YP (l',k,(i : Int)) = some (.nx (l'.set i ⟨k,k + 1,Kf 32 (k + 2)⟩,k + 34,wr ((i : Int) + 1))):=by
 have e1:=Ax (k:=k) h0 (by omega)
 have e2:=Ax (k:=k + 1) (by omega) (by omega)
 unfold YP
 have hi2 : i < (l'.set i (⟨k,k + 1,l'[i].Tag⟩ : GEvent)).length:=by simpa using hi
 have h1:=JI (n:=32) (fun x : GEvent=>x.Tag) (fun x v=>⟨x.Kind,x.Number,v⟩) i i rfl (V6 (l',k,(i : Int))) (fun s=>by unfold V6; rfl) (fun _ _=>rfl) (fun _ _ _=>rfl) (fun _=>rfl) (by omega) _ hi2 (k + 1 + 1) (by omega) (by omega)
 rw [show k + 1 + 1 + ((32 : Nat) : Int) = k + 34 by omega] at h1
 simp only [List.getElem_set_self,List.set_set] at h1
 simp only [Int.ofNat_lt,hi,decide_true,if_true,YB,List.getElem?_eq_getElem hi,Option.bind_some,Int.toNat_natCast,e1,List.getElem?_set_self hi,List.set_set,e2,h1]
 rw [show k + 1 + 1 = k + 2 by omega]
theorem z5 (l : List GEvent) (h : Wt.ln l) : HA Xn l (l.map fun _=>34).sum :=
 Bq Xn YP (fun _=>34) (fun _ _=>rfl) l (W3 h) (fun l' i k hi _ _ h0 hk=>⟨_,K0 l' i k hi h0 (by omega)⟩) (fun l' k=>by unfold YP; simp)
def U2 (x : GVault) : Nat:=(x.Keys.map fun _=>16).sum + ((x.Records.map XE).sum + (x.Events.map fun _=>34).sum)
theorem kg (l : List UInt8) : (l.map fun _=>1).sum = l.length:=by
 induction l with
 | nil=>rfl
 | cons x l ih=>rw [List.map_cons,List.sum_cons,ih,List.length_cons]; omega
theorem Aa (x : GVault) : U2 x ≤ 50 * Wt.wt x:=by
 have h1:=Hz (fun _ : Vector UInt8 16=>16) 50 (fun _=>by omega) x.Keys
 have h2:=Hz XE 50 (fun x=>by
  unfold XE
  have e : Wt.wt x = Wt.wt x.Label + Wt.wt x.Body:=rfl
  rw [e,yK,yK,kg,kg]; omega) x.Records
 have h3:=Hz (fun _ : GEvent=>34) 50 (fun _=>by omega) x.Events
 rw [Kv]; unfold U2; omega
theorem yR (x : GVault) (h : Wt.ln x) : HA Xe x (U2 x):=by
 intro k h0 hk
 unfold U2 at hk
 obtain ⟨a,h1⟩:=z4 x.Keys h.1 k h0 (by omega)
 obtain ⟨b,h2⟩:=AO x.Records h.2.1 _ (by omega : (0 : Int) ≤ k + ((x.Keys.map fun _=>16).sum : Nat)) (by omega)
 obtain ⟨c,h3⟩:=z5 x.Events h.2.2 _ (by omega : (0 : Int) ≤ k + ((x.Keys.map fun _=>16).sum : Nat) + ((x.Records.map XE).sum : Nat)) (by omega)
 refine ⟨⟨a,x.Next,b,c,x.Head⟩,?_⟩
 unfold Xe
 rw [h1]; simp only [Option.bind_some]; rw [h2]; simp only [Option.bind_some]; rw [h3]; simp only [Option.bind_some]
 unfold U2
 congr 2
 omega
theorem HQ (n a b : Int) : Y0 n a b = some (decide (a ≤ n ∧ n ≤ b)):=by
 unfold Y0
 by_cases h1 : a ≤ n <;> by_cases h2 : n ≤ b <;> simp [h1,h2]
theorem zH (n a b : Int) : Vp n a b = some (decide (a ≤ n ∧ n ≤ b)):=by
 unfold Vp
 by_cases h1 : a ≤ n <;> by_cases h2 : n ≤ b <;> simp [h1,h2]
theorem zG {α : Type} (l : List α) (p : α → Option Bool) (q : α → Bool) (L : Int → Option (Fl Int (Fl Unit Int)))
  (hL : ∀ s,L s = if (decide (s < (l.length : Int))) = true then ((idx l s).bind fun x=>((p x)).bind fun r=>if r = true then (some (Fl.ex (Fl.ex s))) else (some (Fl.nx (wr (s + 1))))) else (some (Fl.ex (Fl.nx ()))))
  (hl : l.length < 9223372036854775807) (hp : ∀ x ∈ l,p x = some (q x)) :
  ((ZB L 0 : Option (Fl Unit Int)).bind fun j1=>j1.el (fun _=>some (-1)) (fun r=>some r)) = some (match l.findIdx? q with | some i=>(i : Int) | none=>-1):=by
 have h:=yb (f:=L) l.length (fun i=>(l[i]?.map q).getD false) (fun i=>(i : Int)) hl (fun i hi=>by
  rw [hL]
  simp only [Int.ofNat_lt,hi,decide_true,if_true,YB,List.getElem?_eq_getElem hi,Option.bind_some,Option.map_some,Option.getD_some,hp _ (List.getElem_mem hi)]
  split <;> rfl) (by rw [hL]; simp) 0 (Nat.zero_le _)
 have h3 : ZB L 0 = _:=h
 rw [h3]
 have key : (List.range' 0 (l.length - 0)).find? (fun i=>(l[i]?.map q).getD false) = l.findIdx? q:=by
  rw [Nat.sub_zero,← List.range_eq_range']
  clear h h3 hL hp hl
  induction l with
  | nil=>rfl
  | cons x l ih =>
   rw [List.length_cons,List.range_succ_eq_map,List.find?_cons,List.findIdx?_cons]
   simp only [List.getElem?_cons_zero,Option.map_some,Option.getD_some]
   cases q x with
   | true=>rfl
   | false =>
    simp only [Bool.false_eq_true,if_false]
    rw [List.find?_map,← ih]
    congr 1
 rw [key]
 cases l.findIdx? q <;> rfl
theorem has_of {α : Type} (l : List α) (q : α → Bool) : decide ((match l.findIdx? q with | some i=>(i : Int) | none=>-1) ≥ 0) = l.any q:=by
 rw [Bool.eq_iff_iff,decide_eq_true_eq]
 cases h : l.findIdx? q with
 | none =>
  have:=List.findIdx?_eq_none_iff.1 h
  simp
  exact this
 | some i =>
  have h2:=List.findIdx?_eq_some_iff_getElem.1 h
  obtain ⟨hi,hq,_⟩:=h2
  simp
  exact ⟨_,List.getElem_mem hi,hq⟩
def UJ (e : GEvent) : Bool:=decide ((1 ≤ e.Kind ∧ e.Kind ≤ 4) ∧ (0 ≤ e.Number ∧ e.Number ≤ 1000000))
theorem jI (e : GEvent) : Uk e = some (UJ e):=by
 unfold Uk UJ
 simp only [zH,Option.bind_some]
 by_cases h1 : (1 ≤ e.Kind ∧ e.Kind ≤ 4) <;> by_cases h2 : (0 ≤ e.Number ∧ e.Number ≤ 1000000) <;> simp [h1,h2]
theorem kB (e : GEvent) : UP e = some (UJ e):=by
 unfold UP UJ Tx
 simp only [HQ,Option.bind_some]
 by_cases h1 : (1 ≤ e.Kind ∧ e.Kind ≤ 4) <;> by_cases h2 : (0 ≤ e.Number ∧ e.Number ≤ 1000000) <;> simp [h1,h2]
theorem Bn (l : List GEvent) (p : GEvent → Option Bool) (q : GEvent → Bool) (hl : l.length < 9223372036854775807) (hp : ∀ x ∈ l,p x = some (q x)) : ZU l p = some (l.any q):=by
 unfold ZU Ye
 rw [zG l p q _ (fun s=>by unfold YC; rfl) hl hp]
 simp only [Option.bind_some,has_of]
def Qf (l : List GRecord) : Nat → Int
 | 0=>0
 | i + 1=>(l[i]?.map (·.Number)).getD 0
def B8 (v : GVault) (r : GRecord) : Bool:=!decide ((0 : Int) ≤ r.Version ∧ r.Version ≤ (v.Keys.length : Int) - 1) || decide (32 < r.Label.length) || decide (200 < r.Body.length)
def HF (v : GVault) (i : Nat) : Bool:=match v.Records[i]? with
 | some r=>decide (r.Number ≤ Qf v.Records i) || decide (r.Number ≥ v.Next) || B8 v r
 | none=>false
def badI (v : GVault) (i : Nat) : Bool:=match v.Records[i]? with
 | some r=>!decide (1 ≤ r.Number ∧ r.Number ≤ v.Next - 1) || (decide (0 < i) && decide (Qf v.Records i ≥ r.Number)) || B8 v r
 | none=>false
def K4 (v : GVault) : Bool:=decide (1 ≤ v.Keys.length ∧ v.Keys.length ≤ 8 ∧ 1 ≤ v.Next ∧ v.Next ≤ 1000000 ∧ v.Records.length ≤ 12 ∧ v.Events.length ≤ 60)
def XH (v : GVault) : Bool:=K4 v && !((List.range' 0 (v.Records.length - 0)).any (HF v)) && v.Events.all UJ
theorem qJ (v : GVault) : (List.range' 0 (v.Records.length - 0)).any (badI v) = (List.range' 0 (v.Records.length - 0)).any (HF v):=by
 have h : ∀ b c : Bool,(b = false ↔ c = false) → b = c:=by intro b c; cases b <;> cases c <;> simp
 apply h
 rw [List.any_eq_false,List.any_eq_false]
 simp only [List.mem_range'_1,Nat.zero_le,true_and,Nat.sub_zero,Nat.zero_add,Bool.not_eq_true]
 constructor
 ·intro hI i hi
  have h1:=hI i hi
  unfold badI HF at *
  rw [List.getElem?_eq_getElem hi] at h1 ⊢
  simp only [Bool.or_eq_false_iff,Bool.not_eq_false',decide_eq_true_eq,Bool.and_eq_false_iff,decide_eq_false_iff_not] at h1 ⊢
  refine ⟨⟨?_,by omega⟩,h1.2⟩
  cases i with
  | zero=>simp only [Qf]; omega
  | succ i =>
   rcases h1.1.2 with h2 | h2
   ·omega
   ·omega
 ·intro hS
  have pos : ∀ i,i < v.Records.length → 0 ≤ Qf v.Records i ∧ Qf v.Records i < (v.Records[i]?.map (·.Number)).getD 0:=by
   intro i
   induction i with
   | zero =>
    intro hi
    have h1:=hS 0 hi
    unfold HF at h1
    rw [List.getElem?_eq_getElem hi] at h1 ⊢
    simp only [Bool.or_eq_false_iff,decide_eq_false_iff_not,Option.map_some,Option.getD_some] at h1 ⊢
    have e : Qf v.Records 0 = 0:=rfl
    have h2:=h1.1.1
    rw [e] at h2 ⊢
    omega
   | succ i ih =>
    intro hi
    have h0:=ih (by omega)
    have h1:=hS (i + 1) hi
    unfold HF at h1
    have e : Qf v.Records (i + 1) = (v.Records[i]?.map (·.Number)).getD 0:=rfl
    rw [List.getElem?_eq_getElem hi] at h1 ⊢
    simp only [Bool.or_eq_false_iff,decide_eq_false_iff_not,Option.map_some,Option.getD_some] at h1 ⊢
    rw [e] at h1 ⊢
    omega
  intro i hi
  have h1:=hS i hi
  have h2:=pos i hi
  unfold badI HF at *
  rw [List.getElem?_eq_getElem hi] at h1 h2 ⊢
  simp only [Bool.or_eq_false_iff,Bool.not_eq_false',decide_eq_true_eq,Bool.and_eq_false_iff,decide_eq_false_iff_not,Option.map_some,Option.getD_some] at h1 h2 ⊢
  exact ⟨⟨by omega,.inr (by omega)⟩,h1.2⟩
theorem Zbq (v : GVault) (hb : Wt.ln v) : TW v = some (XH v):=by
 have hb1:=W3 hb.1; have hb2:=W3 hb.2.1; have hb3:=W3 hb.2.2
 unfold TW
 simp only [zH,Option.bind_some]
 by_cases hh : K4 v = true
 ·have hh' : 1 ≤ v.Keys.length ∧ v.Keys.length ≤ 8 ∧ 1 ≤ v.Next ∧ v.Next ≤ 1000000 ∧ v.Records.length ≤ 12 ∧ v.Events.length ≤ 60:=by simpa [K4] using hh
  have c1 : ¬ ((v.Keys.length : Int) < 1):=by omega
  have c2 : ¬ ((v.Keys.length : Int) > 8):=by omega
  have c3 : 1 ≤ v.Next ∧ v.Next ≤ 1000000:=by omega
  have c4 : ¬ ((v.Records.length : Int) > 12):=by omega
  have c5 : ¬ ((v.Events.length : Int) > 60):=by omega
  simp only [c1,c2,c3,c4,c5,decide_false,decide_true,and_self,Bool.not_true,Bool.false_eq_true,if_false,Option.bind_some]
  have hw : wr ((v.Keys.length : Int) - 1) = (v.Keys.length : Int) - 1:=YG (by omega)
  have h1:=QV (f:=Ux v) (fun i : Nat=>(Qf v.Records i,(i : Int))) (HF v) (fun _=>(.ex false : Fl Unit Bool)) (e:=.nx ()) v.Records.length v.Records.length 0 (by omega) (fun i _ hi=>by
   unfold Ux HF
   simp only [Int.ofNat_lt,hi,decide_true,if_true,YB,List.getElem?_eq_getElem hi,Option.bind_some,zH,hw,XB (show i < 9223372036854775807 by omega)]
   have e : Qf v.Records (i + 1) = v.Records[i].Number:=by simp [Qf,List.getElem?_eq_getElem hi]
   rw [e]
   unfold B8
   by_cases d1 : v.Records[i].Number ≤ Qf v.Records i
   ·simp [d1]
   ·by_cases d2 : v.Records[i].Number ≥ v.Next
    ·simp [d1,d2]
    ·by_cases d3 : (0 : Int) ≤ v.Records[i].Version ∧ v.Records[i].Version ≤ (v.Keys.length : Int) - 1
     ·by_cases d4 : 32 < v.Records[i].Label.length
      ·have d4' : (v.Records[i].Label.length : Int) > 32:=by omega
       simp [d1,d2,d3,d4,d4']
      ·have d4' : ¬ ((v.Records[i].Label.length : Int) > 32):=by omega
       by_cases d5 : 200 < v.Records[i].Body.length
       ·have d5' : (v.Records[i].Body.length : Int) > 200:=by omega
        simp [d1,d2,d3,d4,d4',d5,d5']
       ·have d5' : ¬ ((v.Records[i].Body.length : Int) > 200):=by omega
        simp [d1,d2,d3,d4,d4',d5,d5']
     ·simp [d1,d2,d3]) (by unfold Ux; simp)
  have h2 : ZB (Ux v) (0,0) = _:=h1
  rw [h2]
  have h3:=kT (f:=Tu v) v.Events (fun e=>!UJ e) (t:=false) (by omega) (fun i hi=>by
   unfold Tu
   simp only [Int.ofNat_lt,hi,decide_true,if_true,YB,List.getElem?_eq_getElem hi,Option.bind_some,jI]
   cases UJ v.Events[i] <;> simp) (by unfold Tu; simp)
  rw [h3]
  unfold XH
  rw [hh,Nat.sub_zero]
  cases hf : (List.range' 0 v.Records.length).find? (HF v) with
  | none =>
   have : (List.range' 0 v.Records.length).any (HF v) = false:=by
    rw [List.any_eq_false]; exact List.find?_eq_none.1 hf
   rw [this,List.any_eq_not_all_not]
   simp only [Bool.not_not]
   cases v.Events.all UJ <;> rfl
  | some i =>
   have : (List.range' 0 v.Records.length).any (HF v) = true:=by
    rw [List.any_eq_true]; exact ⟨i,List.mem_of_find?_eq_some hf,List.find?_some hf⟩
   rw [this]; rfl
 ·have hf : K4 v = false:=by simpa using hh
  unfold XH
  rw [hf]
  have hh' : ¬ (1 ≤ v.Keys.length ∧ v.Keys.length ≤ 8 ∧ 1 ≤ v.Next ∧ v.Next ≤ 1000000 ∧ v.Records.length ≤ 12 ∧ v.Events.length ≤ 60):=by simpa [K4] using hf
  by_cases c1 : ((v.Keys.length : Int) < 1)
  ·simp [c1]
  ·by_cases c2 : ((v.Keys.length : Int) > 8)
   ·simp [c1,c2]
   ·by_cases c3 : 1 ≤ v.Next ∧ v.Next ≤ 1000000
    ·by_cases c4 : ((v.Records.length : Int) > 12)
     ·simp [c1,c2,c3,c4]
     ·have c5 : ((v.Events.length : Int) > 60):=by omega
      simp [c1,c2,c3,c4,c5]
    ·simp [c1,c2,c3]
theorem B3 (v : GVault) (hb : Wt.ln v) : UM v = some (XH v):=by
 have hb1:=W3 hb.1; have hb2:=W3 hb.2.1; have hb3:=W3 hb.2.2
 unfold UM YE
 simp only [HQ,Option.bind_some]
 by_cases hh : K4 v = true
 ·have hh' : 1 ≤ v.Keys.length ∧ v.Keys.length ≤ 8 ∧ 1 ≤ v.Next ∧ v.Next ≤ 1000000 ∧ v.Records.length ≤ 12 ∧ v.Events.length ≤ 60:=by simpa [K4] using hh
  have c1 : (1 : Int) ≤ v.Keys.length ∧ (v.Keys.length : Int) ≤ 8:=by omega
  have c3 : 1 ≤ v.Next ∧ v.Next ≤ 1000000:=by omega
  have c4 : ¬ ((v.Records.length : Int) > 12):=by omega
  have c5 : ¬ ((v.Events.length : Int) > 60):=by omega
  simp only [c1,c3,c4,c5,decide_false,decide_true,and_self,Bool.not_true,Bool.false_eq_true,if_false,Option.bind_some]
  have hw : wr ((v.Keys.length : Int) - 1) = (v.Keys.length : Int) - 1:=YG (by omega)
  have hw2 : wr (v.Next - 1) = v.Next - 1:=YG (by omega)
  have h1:=qn (f:=Ve v) v.Records.length (badI v) false (by omega) (fun i hi=>by
   unfold Ve badI YE
   simp only [Int.ofNat_lt,hi,decide_true,if_true,YB,List.getElem?_eq_getElem hi,Option.bind_some,HQ,hw,hw2]
   unfold B8
   by_cases d1 : 1 ≤ v.Records[i].Number ∧ v.Records[i].Number ≤ v.Next - 1
   ·have key : (if decide ((i : Int) > 0) = true then (idx v.Records (wr ((i : Int) - 1))).bind fun x=>some (decide (x.Number ≥ v.Records[i].Number)) else some false) = some (decide (0 < i) && decide (Qf v.Records i ≥ v.Records[i].Number)):=by
     cases i with
     | zero=>simp
     | succ i =>
      have e1 : wr (((i + 1 : Nat) : Int) - 1) = (i : Int):=by rw [YG (by omega)]; omega
      have hi' : i < v.Records.length:=by omega
      have e2 : Qf v.Records (i + 1) = v.Records[i].Number:=by simp [Qf,List.getElem?_eq_getElem hi']
      have e3 : ((i + 1 : Nat) : Int) > 0:=by omega
      simp only [e1,e2,e3,decide_true,if_true,YB,List.getElem?_eq_getElem hi',Option.bind_some]
      simp
    simp only [d1,decide_true,and_self,Bool.not_true,Bool.false_eq_true,if_false,key,Option.bind_some,Bool.false_or]
    by_cases d2 : (decide (0 < i) && decide (Qf v.Records i ≥ v.Records[i].Number)) = true
    ·simp [d2]
    ·have d2 : (decide (0 < i) && decide (Qf v.Records i ≥ v.Records[i].Number)) = false:=by simpa using d2
     rw [d2]
     by_cases d3 : (0 : Int) ≤ v.Records[i].Version ∧ v.Records[i].Version ≤ (v.Keys.length : Int) - 1
     ·by_cases d4 : 32 < v.Records[i].Label.length
      ·have d4' : (v.Records[i].Label.length : Int) > 32:=by omega
       simp [d3,d4,d4']
      ·have d4' : ¬ ((v.Records[i].Label.length : Int) > 32):=by omega
       by_cases d5 : 200 < v.Records[i].Body.length
       ·have d5' : (v.Records[i].Body.length : Int) > 200:=by omega
        simp [d3,d4,d4',d5,d5']
       ·have d5' : ¬ ((v.Records[i].Body.length : Int) > 200):=by omega
        simp [d3,d4,d4',d5,d5']
     ·simp [d3]
   ·simp [d1]) (by unfold Ve; simp) 0 (Nat.zero_le _)
  have h2 : ZB (Ve v) 0 = _:=h1
  rw [h2,qJ,Bn v.Events _ (fun e=>!UJ e) (by omega) (fun x _=>by unfold VS; rw [kB]; rfl)]
  have ha : (v.Events.any fun e=>!UJ e) = !(v.Events.all UJ):=by rw [List.any_eq_not_all_not]; simp
  unfold XH
  rw [hh,ha]
  generalize (List.range' 0 (v.Records.length - 0)).any (HF v) = z
  cases z <;> simp [Fl.el]
 ·have hf : K4 v = false:=by simpa using hh
  unfold XH
  rw [hf]
  have hh' : ¬ (1 ≤ v.Keys.length ∧ v.Keys.length ≤ 8 ∧ 1 ≤ v.Next ∧ v.Next ≤ 1000000 ∧ v.Records.length ≤ 12 ∧ v.Events.length ≤ 60):=by simpa [K4] using hf
  by_cases c1 : (1 : Int) ≤ v.Keys.length ∧ (v.Keys.length : Int) ≤ 8
  ·by_cases c3 : 1 ≤ v.Next ∧ v.Next ≤ 1000000
   ·by_cases c4 : ((v.Records.length : Int) > 12)
    ·simp [c1,c3,c4]
    ·have c5 : ((v.Events.length : Int) > 60):=by omega
     simp [c1,c3,c4,c5]
   ·simp [c1,c3]
  ·simp [c1]
theorem Zbl {α : Type} [Dat α] [Wt α] {f : α → Int → Option Int} {x : α} {left : Int} {G : Int → Option Bool} (hf : TF f x) (h1 : 0 ≤ left) (h2 : left ≤ 1048576) (hG : ∀ r,0 ≤ r → r ≤ 1048576 → r + (Wt.wt x : Nat) ≤ left → G r = some true) :
  ((f x left).bind fun r=>if decide (r < 0) = true then some true else G r) = some true:=by
 obtain ⟨r,e1,e2,e3⟩:=hf left h1 h2
 rw [e1]
 by_cases hr : r < 0
 ·simp [hr]
 ·have:=hG r (by omega) e2 (e3 (by omega))
  simp [hr,this]
theorem T7 {v : GVault} (h : XH v = true) : 1 ≤ v.Keys.length ∧ v.Keys.length ≤ 8 ∧ 1 ≤ v.Next ∧ v.Next ≤ 1000000 ∧ v.Records.length ≤ 12 ∧ v.Events.length ≤ 60:=by
 unfold XH K4 at h
 simp only [Bool.and_eq_true,decide_eq_true_eq] at h
 exact h.1.1
theorem Hq (a : Nat) (h : a < 9223372036854775808) : (BitVec.ofInt 64 (a : Int)).toNat = a:=by
 rw [BitVec.toNat_ofInt]
 omega
theorem KF (a b : Nat) (ha : a < 9223372036854775808) (hb : b < 9223372036854775808) : HJ (a : Int) (b : Int) = ((a ^^^ b : Nat) : Int):=by
 unfold HJ
 rw [BitVec.toNat_xor,Hq a ha,Hq b hb]
 have : a ^^^ b < 2 ^ 63:=Nat.xor_lt_two_pow ha hb
 exact YG (by omega)
theorem qP (a b : Nat) (ha : a < 9223372036854775808) (hb : b < 9223372036854775808) : Qn (a : Int) (b : Int) = ((a &&& b : Nat) : Int):=by
 unfold Qn
 rw [BitVec.toNat_and,Hq a ha,Hq b hb]
 have : a &&& b < 2 ^ 63:=Nat.and_lt_two_pow _ hb
 exact YG (by omega)
theorem yC (a i : Nat) (hi : i ≤ 63) (h : a <<< i < 9223372036854775808) : AG (a : Int) (i : Int) = ((a <<< i : Nat) : Int):=by
 unfold AG
 rw [show min ((i : Int)).toNat 64 = i by omega]
 have : ((a : Int) * 2 ^ i) = ((a <<< i : Nat) : Int):=by rw [Nat.shiftLeft_eq]; simp
 rw [this]
 generalize a <<< i = x at h ⊢
 exact YG (by omega)
theorem Zac (a i : Nat) (hi : i ≤ 63) : Tm (a : Int) (i : Int) = ((a >>> i : Nat) : Int):=by
 unfold Tm
 rw [show min ((i : Int)).toNat 64 = i by omega,Nat.shiftRight_eq_div_pow,Int.fdiv_eq_ediv_of_nonneg _ (by exact_mod_cast Nat.zero_le _)]
 simp
theorem zA (a i : Nat) : ((a >>> i) &&& 1 = 1) ↔ a.testBit i = true:=by
 rw [Nat.testBit,Nat.and_comm]
 have h:=Nat.and_one_is_mod (a >>> i)
 rw [Nat.and_comm] at h
 rw [h]
 rcases Nat.mod_two_eq_zero_or_one (a >>> i) with h | h <;> simp [h]
theorem qI (a : Nat) : Int.tmod (a : Int) 2 = ((a % 2 : Nat) : Int):=by
 rw [Int.tmod_eq_emod_of_nonneg (by omega)]; simp
theorem qp (a : Nat) : Int.tdiv (a : Int) 2 = ((a / 2 : Nat) : Int):=by
 rw [Int.tdiv_eq_ediv_of_nonneg (by omega)]; simp
theorem jQ (a : Nat) (h : a < 9223372036854775808) : wr (a : Int) = (a : Int):=YG (by omega)
theorem qe (a : Nat) (h : a < 9223372036854775808) : IntKind.u64.wrap (a : Int) = (a : Int):=by
 simp only [IntKind.wrap,IntKind.bits,IntKind.signed]
 simp
 omega

def YN (m deg : Nat) : Nat → Nat → Nat
 | 0,a=>a
 | k + 1,a=>YN m deg k (if a.testBit (deg + k) then a ^^^ (m <<< k) else a)
theorem KB {m k n : Nat} (h : m < 2 ^ n) : m <<< k < 2 ^ (n + k):=by
 rw [Nat.shiftLeft_eq,Nat.pow_add]
 exact Nat.mul_lt_mul_of_pos_right h (Nat.two_pow_pos _)
theorem AQ {a n : Nat} (h : a < 2 ^ (n + 1)) (hb : a.testBit n = false) : a < 2 ^ n:=by
 apply Nat.lt_pow_two_of_testBit
 intro i hi
 rcases Nat.eq_or_lt_of_le hi with rfl | hi
 ·exact hb
 ·exact Nat.testBit_lt_two_pow (Nat.lt_of_lt_of_le h (Nat.pow_le_pow_right (by omega) hi))
theorem ki {m d : Nat} (h1 : 2 ^ d ≤ m) (h2 : m < 2 ^ (d + 1)) : m.testBit d = true:=by
 rw [Nat.testBit,Nat.shiftRight_eq_div_pow]
 have : m / 2 ^ d = 1:=by
  apply Nat.div_eq_of_lt_le
  ·simpa using h1
  ·rw [Nat.pow_succ] at h2; omega
 rw [this]; rfl
theorem Za0 {m d k a : Nat} (h1 : 2 ^ d ≤ m) (h2 : m < 2 ^ (d + 1)) (ha : a < 2 ^ (d + (k + 1))) (hb : a.testBit (d + k) = true) : a ^^^ (m <<< k) < 2 ^ (d + k):=by
 have hm : m <<< k < 2 ^ (d + (k + 1)):=by have:=KB (k:=k) h2; rwa [show d + 1 + k = d + (k + 1) by omega] at this
 refine AQ (Nat.xor_lt_two_pow (by rwa [show d + k + 1 = d + (k + 1) by omega]) (by rwa [show d + k + 1 = d + (k + 1) by omega])) ?_
 rw [Nat.testBit_xor,hb,Nat.testBit_shiftLeft]
 simp [ki h1 h2]
theorem JR {m d : Nat} (h1 : 2 ^ d ≤ m) (h2 : m < 2 ^ (d + 1)) : ∀ (k a : Nat),a < 2 ^ (d + k) → YN m d k a < 2 ^ d
 | 0,a,h=>by simpa [YN] using h
 | k + 1,a,h=>by
  unfold YN
  cases hb : a.testBit (d + k) with
  | true=>simp only [if_true]; exact JR h1 h2 k _ (Za0 h1 h2 h hb)
  | false=>simp only [Bool.false_eq_true,if_false]; exact JR h1 h2 k a (AQ h hb)
theorem Qo (m d : Nat) : ∀ (k a b : Nat),YN m d k (a ^^^ b) = YN m d k a ^^^ YN m d k b
 | 0,_,_=>rfl
 | k + 1,a,b=>by
  simp only [YN]
  rw [Nat.testBit_xor]
  cases a.testBit (d + k) <;> cases b.testBit (d + k) <;> simp only [Bool.xor_false,Bool.false_xor,Bool.xor_self,Bool.xor_true,Bool.not_false,Bool.not_true,Bool.false_eq_true,if_true,if_false]
  ·exact Qo m d k a b
  ·rw [Nat.xor_assoc]; exact Qo m d k a _
  ·rw [← Qo m d k]; congr 1; rw [Nat.xor_assoc,Nat.xor_comm b,← Nat.xor_assoc]
  ·rw [← Qo m d k]; congr 1
   rw [Nat.xor_assoc,← Nat.xor_assoc (m <<< k),Nat.xor_comm (m <<< k) b,Nat.xor_assoc,Nat.xor_self,Nat.xor_zero]
theorem U0 {m d : Nat} : ∀ (k a : Nat),a < 2 ^ d → YN m d k a = a
 | 0,_,_=>rfl
 | k + 1,a,h=>by
  unfold YN
  rw [Nat.testBit_lt_two_pow (Nat.lt_of_lt_of_le h (Nat.pow_le_pow_right (by omega) (by omega)))]
  simp only [Bool.false_eq_true,if_false]
  exact U0 k a h
theorem A6 {m d k a : Nat} (h : a < 2 ^ (d + k)) : YN m d (k + 1) a = YN m d k a:=by
 conv=>lhs; unfold YN
 rw [Nat.testBit_lt_two_pow h]; rfl
theorem QH (m d : Nat) : ∀ (k x : Nat),YN m d (k + 1) (x <<< 1) = (if ((YN m d k x) <<< 1).testBit d then ((YN m d k x) <<< 1) ^^^ m else (YN m d k x) <<< 1)
 | 0,x=>by simp [YN]
 | k + 1,x=>by
  conv=>lhs; unfold YN
  conv=>rhs; unfold YN
  have e : (x <<< 1).testBit (d + (k + 1)) = x.testBit (d + k):=by
   rw [Nat.testBit_shiftLeft]
   have : d + (k + 1) ≥ 1:=by omega
   simp only [this,decide_true,Bool.true_and]
   congr 1
  rw [e]
  cases x.testBit (d + k) with
  | false=>simp only [Bool.false_eq_true,if_false]; exact QH m d k x
  | true =>
   simp only [if_true]
   have e2 : x <<< 1 ^^^ m <<< (k + 1) = (x ^^^ m <<< k) <<< 1:=by
    rw [Nat.shiftLeft_xor_distrib,← Nat.shiftLeft_add]
   rw [e2]
   exact QH m d k _

def lenN (n : Nat) : Nat:=if n = 0 then 0 else n.log2 + 1
theorem v_rest (a m d : Nat) (hd : d ≤ 15) (ha : a < 2 ^ 16) (hm : m < 2 ^ 20) : TH (a : Int) (m : Int) (d : Int) = some ((YN m d (16 - d) a : Nat) : Int):=by
 have key : ∀ (k a : Nat),d + k ≤ 16 → a < 2 ^ 40 → ZB (U5 (m : Int) (d : Int)) ((a : Int),((d + k : Nat) : Int) - 1) = some ((YN m d k a : Nat) : Int):=by
  intro k
  induction k with
  | zero =>
   intro a _ _
   rw [Wc (t:=(a : Int))]
   ·rfl
   ·unfold U5
    have : ¬ (((d + 0 : Nat) : Int) - 1 ≥ (d : Int)):=by omega
    simp only [this,decide_false,Bool.false_eq_true,if_false]
  | succ k ih =>
   intro a hk ha
   have e0 : ((d + (k + 1) : Nat) : Int) - 1 = ((d + k : Nat) : Int):=by omega
   have hsh : m <<< k < 2 ^ (20 + k):=KB hm
   have hsh2 : m <<< k < 2 ^ 40:=Nat.lt_of_lt_of_le hsh (Nat.pow_le_pow_right (by omega) (by omega))
   have hst : U5 (m : Int) (d : Int) ((a : Int),((d + (k + 1) : Nat) : Int) - 1) = some (.nx (((if a.testBit (d + k) then a ^^^ (m <<< k) else a : Nat) : Int),((d + k : Nat) : Int) - 1)):=by
    rw [e0]
    unfold U5
    have c1 : ((d + k : Nat) : Int) ≥ (d : Int):=by omega
    have c2 : Xk ((d + k : Nat) : Int) = some ():=by unfold Xk; rw [if_pos (by omega)]
    have c3 : wr (((d + k : Nat) : Int) - (d : Int)) = ((k : Nat) : Int):=by rw [show ((d + k : Nat) : Int) - (d : Int) = ((k : Nat) : Int) by omega,jQ _ (by omega)]
    have c4 : Xk ((k : Nat) : Int) = some ():=by unfold Xk; rw [if_pos (by omega)]
    have c5 : wr (((d + k : Nat) : Int) - 1) = ((d + k : Nat) : Int) - 1:=YG (by omega)
    simp only [c1,decide_true,if_true,c2,c3,c4,c5,Option.bind_some]
    have c6 : Qn (Tm (a : Int) ((d + k : Nat) : Int)) 1 = (((a >>> (d + k)) &&& 1 : Nat) : Int):=by
     rw [Zac a (d + k) (by omega)]
     exact qP _ 1 (Nat.lt_of_le_of_lt (Nat.shiftRight_le _ _) (by omega)) (by omega)
    rw [c6,yC m k (by omega) (by omega),KF a _ (by omega) (by omega)]
    cases hb : a.testBit (d + k) with
    | true =>
     have:=(zA a (d + k)).2 hb
     rw [this]; rfl
    | false =>
     have : ¬ ((a >>> (d + k)) &&& 1 = 1):=fun h=>by rw [(zA a (d + k)).1 h] at hb; cases hb
     have h2 : (((((a >>> (d + k)) &&& 1 : Nat) : Int)) == 1) = false:=by
      rw [beq_eq_false_iff_ne]; omega
     rw [h2]; rfl
   rw [Wv hst,ih _ (by omega) ?_]
   ·conv=>rhs; unfold YN
   ·split
    ·exact Nat.xor_lt_two_pow ha hsh2
    ·exact ha
 unfold TH
 have:=key (16 - d) a (by omega) (by omega)
 rw [show ((d + (16 - d) : Nat) : Int) - 1 = 15 by omega] at this
 rw [this]; rfl

def JS : Nat → Nat → Nat → Nat
 | 0,_,_=>0
 | n + 1,a,b=>(if b % 2 = 1 then a else 0) ^^^ JS n (a <<< 1) (b / 2)
theorem HP : ∀ (n a : Nat),JS n a 0 = 0
 | 0,_=>rfl
 | n + 1,a=>by simp [JS,HP n]
theorem jV : ∀ (n a b p : Nat),a < 2 ^ p → JS n a b < 2 ^ (p + n)
 | 0,_,_,_,_=>by simp [JS]; exact Nat.two_pow_pos _
 | n + 1,a,b,p,h=>by
  unfold JS
  have h1 : a <<< 1 < 2 ^ (p + 1):=KB h
  have h2:=jV n (a <<< 1) (b / 2) (p + 1) h1
  rw [show p + 1 + n = p + (n + 1) by omega] at h2
  refine Nat.xor_lt_two_pow ?_ h2
  have h3 : 2 ^ p ≤ 2 ^ (p + (n + 1)):=Nat.pow_le_pow_right (by omega) (by omega)
  have h4:=Nat.two_pow_pos (p + (n + 1))
  split <;> omega
def prC : Nat → Nat → Nat → Nat
 | 0,_,_=>0
 | i + 1,a,b=>prC i a b ^^^ (if b.testBit i then a <<< i else 0)
theorem yF : ∀ (n a b : Nat),prC (n + 1) a b = (if b % 2 = 1 then a else 0) ^^^ prC n (a <<< 1) (b / 2)
 | 0,a,b=>by
  simp only [prC,Nat.zero_xor,Nat.xor_zero,Nat.shiftLeft_zero]
  have : b.testBit 0 = decide (b % 2 = 1):=by simp [Nat.testBit_zero]
  rw [this]; simp
 | n + 1,a,b=>by
  conv=>lhs; unfold prC
  rw [yF n a b]
  conv=>rhs; unfold prC
  rw [← Nat.xor_assoc]
  congr 1
  rw [Nat.testBit_succ,← Nat.shiftLeft_add,Nat.add_comm 1 n]
theorem qy : ∀ (n a b : Nat),prC n a b = JS n a b
 | 0,_,_=>rfl
 | n + 1,a,b=>by rw [yF,qy n]; rfl
theorem jB (a b : Nat) (h : a < 256) : ∀ i,i ≤ 8 → prC i a b < 2 ^ 16
 | 0,_=>by simp [prC]
 | i + 1,hi=>by
  unfold prC
  have h1 : a <<< i < 2 ^ (8 + i):=KB h
  have h2 : 2 ^ (8 + i) ≤ 2 ^ 16:=Nat.pow_le_pow_right (by omega) (by omega)
  refine Nat.xor_lt_two_pow (jB a b h i (by omega)) ?_
  split
  ·omega
  ·omega
def ZW (m : Nat) (a b : UInt8) : UInt8:=Zy ((YN m 8 8 (JS 8 a.toNat b.toNat) : Nat) : Int)
theorem Tq (m : Nat) (hm : m < 512) (a b : UInt8) : Z0 (m : Int) a b = some (ZW m a b):=by
 have ha : a.toNat < 256:=a.toNat_lt
 have hb : b.toNat < 256:=b.toNat_lt
 have h:=ZY (f:=Xq a b) (fun i : Nat=>(((prC i a.toNat b.toNat : Nat) : Int),(i : Int))) 0 8 (Nat.zero_le _) (t:=((prC 8 a.toNat b.toNat : Nat) : Int)) (fun i _ hi=>by
  unfold Xq
  have c1 : ((i : Int) < 8):=by omega
  have c2 : Xk (i : Int) = some ():=by unfold Xk; rw [if_pos (by omega)]
  have c3 : prC i a.toNat b.toNat < 2 ^ 16:=jB _ _ ha i (by omega)
  have c4 : a.toNat <<< i < 2 ^ (8 + i):=KB ha
  have c5 : 2 ^ (8 + i) ≤ 2 ^ 16:=Nat.pow_le_pow_right (by omega) (by omega)
  have c6 : (((BH b (i : Int)) &&& 1) == 1) = b.toNat.testBit i:=by
   have e1 : (BH b (i : Int)).toNat = b.toNat >>> i:=by
    unfold BH Zy
    rw [show min ((i : Int)).toNat 8 = i by omega,Int.fdiv_eq_ediv_of_nonneg _ (by exact_mod_cast Nat.zero_le _)]
    have : ((b.toNat : Int) / 2 ^ i) = ((b.toNat >>> i : Nat) : Int):=by rw [Nat.shiftRight_eq_div_pow]; simp
    rw [this]
    have h3 : b.toNat >>> i ≤ b.toNat:=Nat.shiftRight_le _ _
    generalize b.toNat >>> i = q at h3 ⊢
    have h4 : (((q : Nat) : Int) % 256).toNat = q:=by omega
    rw [h4]
    simp
    omega
   rw [Bool.eq_iff_iff,beq_iff_eq,← zA,← UInt8.toNat_inj,UInt8.toNat_and,e1]
   simp
  simp only [c1,decide_true,if_true,c2,Option.bind_some,c6,XB (show i < 9223372036854775807 by omega)]
  rw [yC _ i (by omega) (by omega),KF _ _ (by omega) (by omega)]
  cases hbit : b.toNat.testBit i with
  | true=>simp [prC,hbit]
  | false=>simp [prC,hbit]) (by unfold Xq; simp)
 have h2 : ZB (Xq a b) (0,0) = _:=h
 unfold Z0
 rw [h2]
 simp only [Option.bind_some]
 have h3:=v_rest (prC 8 a.toNat b.toNat) m 8 (by omega) (jB _ _ ha 8 (by omega)) (by omega)
 have h4 : TH ((prC 8 a.toNat b.toNat : Nat) : Int) (m : Int) 8 = _:=h3
 rw [h4,qy]
 rfl
theorem Jq (m : Nat) (hm : m < 512) (hm2 : 256 ≤ m) (a b : UInt8) : YS (m : Int) a b = some (ZW m a b):=by
 have ha : a.toNat < 256:=a.toNat_lt
 have hb : b.toNat < 256:=b.toNat_lt
 have h1 : 2 ^ 8 ≤ m:=hm2
 have h2 : m < 2 ^ (8 + 1):=hm
 have hR : ∀ i,i ≤ 8 → YN m 8 8 (a.toNat <<< i) < 256:=fun i hi=>JR h1 h2 8 _ (by
  have:=KB (k:=i) (show a.toNat < 2 ^ 8 from ha)
  exact Nat.lt_of_lt_of_le this (Nat.pow_le_pow_right (by omega) (by omega)))
 have hdbl : ∀ i,i ≤ 7 → YN m 8 8 (a.toNat <<< (i + 1)) = if 256 ≤ (YN m 8 8 (a.toNat <<< i)) * 2 then (YN m 8 8 (a.toNat <<< i)) * 2 ^^^ m else (YN m 8 8 (a.toNat <<< i)) * 2:=by
  intro i hi
  have hx : a.toNat <<< i < 2 ^ (8 + 7):=Nat.lt_of_lt_of_le (KB (show a.toNat < 2 ^ 8 from ha)) (Nat.pow_le_pow_right (by omega) (by omega))
  have e : a.toNat <<< (i + 1) = (a.toNat <<< i) <<< 1:=by rw [← Nat.shiftLeft_add]
  rw [e,QH m 8 7,← A6 hx]
  have hlt:=hR i (by omega)
  generalize YN m 8 8 (a.toNat <<< i) = y at hlt ⊢
  have e2 : y <<< 1 = y * 2:=by rw [Nat.shiftLeft_eq]
  rw [e2]
  have e3 : (y * 2).testBit 8 = decide (256 ≤ y * 2):=by
   by_cases hy : 256 ≤ y * 2
   ·rw [ki (d:=8) hy (by omega)]; simp [hy]
   ·rw [Nat.testBit_lt_two_pow (by omega : y * 2 < 2 ^ 8)]; simp [hy]
  rw [e3]
  by_cases hy : 256 ≤ y * 2 <;> simp [hy]
 have key : ∀ (n i o r : Nat),i + n ≤ 8 → r < 2 ^ n → o < 256 → ZB (Xc (m : Int)) ((o : Int),((YN m 8 8 (a.toNat <<< i) : Nat) : Int),(r : Int)) = some ((o ^^^ YN m 8 8 (JS n (a.toNat <<< i) r) : Nat) : Int):=by
  intro n
  induction n with
  | zero =>
   intro i o r _ hr ho
   have : r = 0:=by simpa using hr
   subst this
   rw [Wc (t:=(o : Int))]
   ·rw [HP,U0 8 0 (by omega),Nat.xor_zero]
   ·unfold Xc; simp
  | succ n ih =>
   intro i o r hi hr ho
   by_cases h0 : r = 0
   ·subst h0
    rw [Wc (t:=(o : Int))]
    ·rw [HP,U0 8 0 (by omega),Nat.xor_zero]
    ·unfold Xc; simp
   ·have hy:=hR i (by omega)
    have hst : Xc (m : Int) ((o : Int),((YN m 8 8 (a.toNat <<< i) : Nat) : Int),(r : Int)) = some (.nx (((o ^^^ YN m 8 8 (if r % 2 = 1 then a.toNat <<< i else 0) : Nat) : Int),((YN m 8 8 (a.toNat <<< (i + 1)) : Nat) : Int),((r / 2 : Nat) : Int))):=by
     rw [hdbl i (by omega)]
     unfold Xc
     have c1 : (r : Int) > 0:=by omega
     have hr2 : r < 512:=Nat.lt_of_lt_of_le hr (Nat.le_trans (Nat.pow_le_pow_right (by omega) (by omega : n + 1 ≤ 9)) (by omega))
     simp only [c1,decide_true,if_true,qI,qp]
     have e1 : wr (((YN m 8 8 (a.toNat <<< i) : Nat) : Int) * 2) = (((YN m 8 8 (a.toNat <<< i)) * 2 : Nat) : Int):=by rw [YG (by omega)]; omega
     have e2 : wr ((r / 2 : Nat) : Int) = ((r / 2 : Nat) : Int):=jQ _ (by omega)
     rw [e1,e2,KF _ _ (by omega) (by omega),KF _ _ (by omega) (by omega)]
     have e3 : ((((r % 2 : Nat) : Int)) == 1) = decide (r % 2 = 1):=by
      rw [Bool.eq_iff_iff,beq_iff_eq,decide_eq_true_eq]; omega
     rw [e3]
     have e4 : decide ((((YN m 8 8 (a.toNat <<< i)) * 2 : Nat) : Int) ≥ 256) = decide (256 ≤ (YN m 8 8 (a.toNat <<< i)) * 2):=by rw [decide_eq_decide]; omega
     rw [e4]
     have e5 : YN m 8 8 0 = 0:=U0 8 0 (by omega)
     by_cases c2 : r % 2 = 1 <;> by_cases c3 : 256 ≤ (YN m 8 8 (a.toNat <<< i)) * 2 <;> simp only [c2,c3,decide_true,decide_false,Bool.false_eq_true,if_true,if_false,Option.bind_some,e5,Nat.xor_zero]
    rw [Wv hst,ih (i + 1) _ (r / 2) (by omega) (by rw [Nat.pow_succ] at hr; omega) ?_]
    ·conv=>rhs; unfold JS
     rw [Qo,Nat.xor_assoc,Nat.shiftLeft_add]
    ·refine Nat.xor_lt_two_pow (n:=8) ho ?_
     split
     ·exact hR i (by omega)
     ·rw [U0 8 0 (by omega)]; omega
 have:=key 8 0 0 b.toNat (by omega) hb (by omega)
 rw [Nat.shiftLeft_zero,U0 8 a.toNat ha,Nat.zero_xor] at this
 have h3 : ZB (Xc (m : Int)) (0,bI a,bI b) = _:=this
 unfold YS
 rw [h3]
 rfl

def Bg (m : Nat) : Nat → UInt8 → Nat → UInt8 → UInt8
 | 0,_,_,o=>o
 | f + 1,a,k,o=>if k = 0 then o else Bg m f (ZW m a a) (k / 2) (if k % 2 = 1 then ZW m o a else o)
theorem yB (m : Nat) (L : UInt8 × Int × UInt8 → Option (Fl (UInt8 × Int × UInt8) UInt8)) (T : UInt8 → UInt8 → Option UInt8) (hT : ∀ a b,T a b = some (ZW m a b))
  (hL : ∀ s,L s = if (decide (s.2.1 > 0)) = true then (((if ((Int.tmod s.2.1 2) == 1) = true then ((T s.2.2 s.1).bind fun r=>some r) else (some s.2.2) : Option UInt8).bind fun j12=>(T s.1 s.1).bind fun r20=>some (r20,j12) : Option (UInt8 × UInt8)).bind fun j9=>some (Fl.nx (j9.1,wr (Int.tdiv s.2.1 2),j9.2))) else (some (Fl.ex s.2.2))) :
  ∀ (f k : Nat) (a o : UInt8),k < 2 ^ f → f ≤ 62 → ZB L (a,(k : Int),o) = some (Bg m f a k o):=by
 intro f
 induction f with
 | zero =>
  intro k a o hk _
  have : k = 0:=by simpa using hk
  subst this
  exact Wc (by rw [hL]; simp [Bg])
 | succ f ih =>
  intro k a o hk hf
  by_cases h0 : k = 0
  ·subst h0
   exact Wc (by rw [hL]; simp [Bg])
  ·have hlt : k < 9223372036854775808:=Nat.lt_of_lt_of_le hk (Nat.pow_le_pow_right (by omega : 0 < 2) (by omega : f + 1 ≤ 63))
   have hst : L (a,(k : Int),o) = some (.nx (ZW m a a,((k / 2 : Nat) : Int),if k % 2 = 1 then ZW m o a else o)):=by
    rw [hL]
    have c1 : (k : Int) > 0:=by omega
    have e3 : ((((k % 2 : Nat) : Int)) == 1) = decide (k % 2 = 1):=by
     rw [Bool.eq_iff_iff,beq_iff_eq,decide_eq_true_eq]; omega
    simp only [c1,decide_true,if_true,qI,qp,hT,e3,Option.bind_some,jQ (k / 2) (by omega)]
    by_cases c2 : k % 2 = 1 <;> simp [c2]
   rw [Wv hst,ih (k / 2) _ _ (by rw [Nat.pow_succ] at hk; omega) (by omega)]
   conv=>rhs; unfold Bg
   rw [if_neg h0]
theorem AC (m : Nat) (hm : m < 512) (a : UInt8) (k f : Nat) (hk : k < 2 ^ f) (hf : f ≤ 62) : XK (m : Int) a (k : Int) = some (Bg m f a k 1):=by
 unfold XK
 rw [yB m (Vy (m : Int)) _ (Tq m hm) (fun s=>by unfold Vy; rfl) f k a 1 hk hf]; rfl
theorem jr (m : Nat) (hm : m < 512) (hm2 : 256 ≤ m) (a : UInt8) (k f : Nat) (hk : k < 2 ^ f) (hf : f ≤ 62) : Vb (m : Int) a (k : Int) = some (Bg m f a k 1):=by
 unfold Vb
 rw [yB m (U4 (m : Int)) _ (Jq m hm hm2) (fun s=>by unfold U4; rfl) f k a 1 hk hf]; rfl
def Qq (m : Nat) (a : UInt8) : UInt8:=Bg m 8 a 254 1
theorem Kh (m : Nat) (hm : m < 512) (a : UInt8) : Yk (m : Int) a = some (Qq m a):=by
 unfold Yk
 have:=AC m hm a 254 8 (by omega) (by omega)
 have h2 : XK (m : Int) a 254 = _:=this
 rw [h2]; rfl
theorem qU (m : Nat) (hm : m < 512) (hm2 : 256 ≤ m) (a : UInt8) : Vt (m : Int) a = some (Qq m a):=by
 unfold Vt
 have:=jr m hm hm2 a 254 8 (by omega) (by omega)
 have h2 : Vb (m : Int) a 254 = _:=this
 rw [h2]; rfl

def redB (m d : Nat) : Bool:=YN d (lenN d - 1) (16 - (lenN d - 1)) m == 0
def J1 (m : Int) : Bool:=decide (256 ≤ m ∧ m ≤ 511) && !((List.range' 2 30).any (redB m.toNat))
theorem yr {m : Int} (h : J1 m = true) : ∃ n : Nat,m = n ∧ 256 ≤ n ∧ n < 512:=by
 unfold J1 at h
 simp only [Bool.and_eq_true,decide_eq_true_eq] at h
 exact ⟨m.toNat,by omega,by omega,by omega⟩
def qW (l : List UInt8) : Bool:=decide l.Nodup
def dbl (m y : Nat) : Nat:=if (y <<< 1).testBit 8 then (y <<< 1) ^^^ m else y <<< 1
theorem yg (a b c d : Nat) : (a ^^^ b) ^^^ (c ^^^ d) = (a ^^^ c) ^^^ (b ^^^ d):=by
 rw [Nat.xor_assoc,Nat.xor_assoc,← Nat.xor_assoc b,← Nat.xor_assoc c,Nat.xor_comm b c]
theorem kh (m x y : Nat) : dbl m (x ^^^ y) = dbl m x ^^^ dbl m y:=by
 unfold dbl
 rw [Nat.shiftLeft_xor_distrib,Nat.testBit_xor]
 cases (x <<< 1).testBit 8 <;> cases (y <<< 1).testBit 8 <;> simp only [Bool.xor_false,Bool.false_xor,Bool.xor_self,Bool.xor_true,Bool.not_false,Bool.not_true,Bool.false_eq_true,if_true,if_false]
 ·rw [Nat.xor_assoc]
 ·rw [Nat.xor_assoc,Nat.xor_assoc,Nat.xor_comm m]
 ·rw [yg,Nat.xor_self,Nat.xor_zero]
theorem BX (m : Nat) : dbl m 0 = 0:=by simp [dbl]
def opP (m : Nat) : Nat → Nat → Nat → Nat
 | 0,_,_=>0
 | n + 1,b,x=>(if b % 2 = 1 then x else 0) ^^^ opP m n (b / 2) (dbl m x)
theorem yX (m n b x : Nat) : opP m (n + 1) b x = (if b % 2 = 1 then x else 0) ^^^ opP m n (b / 2) (dbl m x):=rfl
theorem zI (m : Nat) : ∀ (n b x y : Nat),opP m n b (x ^^^ y) = opP m n b x ^^^ opP m n b y
 | 0,_,_,_=>by simp [opP]
 | n + 1,b,x,y=>by
  unfold opP
  rw [kh,zI m n,yg]
  congr 1
  split <;> simp
theorem Hh (m : Nat) : ∀ (n b : Nat),opP m n b 0 = 0
 | 0,_=>rfl
 | n + 1,b=>by unfold opP; rw [BX,Hh m n]; simp
theorem kd (m : Nat) : ∀ (n b x : Nat),opP m n b (dbl m x) = dbl m (opP m n b x)
 | 0,_,_=>(BX m).symm
 | n + 1,b,x=>by
  unfold opP
  rw [kd m n,kh]
  congr 1
  split
  ·rfl
  ·exact (BX m).symm
theorem yD (m : Nat) : ∀ (n b k c x : Nat),opP m n b (opP m k c x) = opP m k c (opP m n b x)
 | 0,_,k,c,_=>(Hh m k c).symm
 | n + 1,b,k,c,x=>by
  rw [yX,yX,← kd,yD m n,zI]
  congr 1
  split
  ·rfl
  ·exact (Hh m k c).symm
theorem kJ (a : Nat) : (if a % 2 = 1 then 1 else 0) ^^^ (a / 2) <<< 1 = a:=by
 rw [Nat.shiftLeft_eq]
 have h : (if a % 2 = 1 then 1 else 0) = a % 2:=by split <;> omega
 rw [h]
 apply Nat.eq_of_testBit_eq
 intro i
 rw [Nat.testBit_xor]
 cases i with
 | zero =>
  simp [Nat.testBit_zero]
 | succ i =>
  rw [Nat.testBit_succ,Nat.testBit_succ,Nat.testBit_succ]
  have h1 : a % 2 / 2 = 0:=by omega
  have h2 : a / 2 * 2 ^ 1 / 2 = a / 2:=by omega
  rw [h1,h2]; simp
theorem Zbt (m i : Nat) (hi : i < 7) : dbl m (1 <<< i) = 1 <<< (i + 1):=by
 unfold dbl
 rw [← Nat.shiftLeft_add]
 have : (1 <<< (i + 1)).testBit 8 = false:=by
  apply Nat.testBit_lt_two_pow
  rw [Nat.shiftLeft_eq,Nat.one_mul]
  exact Nat.pow_lt_pow_right (by omega) (by omega)
 rw [this]; rfl
theorem zn (m : Nat) : ∀ (n i a : Nat), n + i ≤ 8 → a < 2 ^ n → opP m n a (1 <<< i) = a <<< i
  | 0, i, a, _, ha => by
    have : a = 0 := by simpa using ha
    subst this; simp [opP]
  | n + 1, i, a, hn, ha => by
    have e : a <<< i = (if a % 2 = 1 then 1 <<< i else 0) ^^^ (a / 2) <<< (i + 1) := by
      conv => lhs; rw [← kJ a]
      rw [Nat.shiftLeft_xor_distrib, ← Nat.shiftLeft_add, Nat.add_comm 1 i]
      congr 1
      split <;> simp
    unfold opP
    rw [e]
    congr 1
    rcases Nat.eq_zero_or_pos n with rfl | hp
    · have : a / 2 = 0 := by have : a < 2 := by simpa using ha
                             omega
      rw [this]; simp [opP]
    · rw [Zbt m i (by omega)]
      exact zn m n (i + 1) (a / 2) (by omega) (by rw [Nat.pow_succ] at ha; omega)

theorem kr (m x : Nat) (hx : x < 2 ^ 15) : YN m 8 8 (x <<< 1) = dbl m (YN m 8 8 x):=by
 rw [QH m 8 7,← A6 (d:=8) (k:=7) hx]; rfl
theorem qM (m : Nat) : ∀ (n i a b : Nat),i + n ≤ 8 → a < 2 ^ 8 → YN m 8 8 (JS n (a <<< i) b) = opP m n b (YN m 8 8 (a <<< i))
 | 0,_,_,_,_,_=>by simp [JS,opP,U0 8 0]
 | n + 1,i,a,b,hn,ha=>by
  unfold JS opP
  rw [Qo]
  have hx : a <<< i < 2 ^ 15:=Nat.lt_of_lt_of_le (KB ha) (Nat.pow_le_pow_right (by omega) (by omega))
  rw [← kr m _ hx,← Nat.shiftLeft_add,qM m n (i + 1) a (b / 2) (by omega) ha]
  congr 1
  split
  ·rfl
  ·exact U0 8 0 (by omega)
theorem Qp (m : Nat) (h1 : 256 ≤ m) (h2 : m < 512) (a b : UInt8) : (ZW m a b).toNat = opP m 8 b.toNat a.toNat:=by
 have ha : a.toNat < 2 ^ 8:=a.toNat_lt
 have hr : YN m 8 8 (JS 8 a.toNat b.toNat) < 256:=JR (d:=8) h1 h2 8 _ (jV 8 a.toNat b.toNat 8 ha)
 have e:=qM m 8 0 a.toNat b.toNat (by omega) ha
 rw [Nat.shiftLeft_zero,U0 8 _ ha] at e
 unfold ZW Zy
 rw [e] at hr ⊢
 generalize opP m 8 b.toNat a.toNat = q at hr ⊢
 have : (((q : Nat) : Int) % 256).toNat = q:=by omega
 rw [this]
 simp
 omega
section
variable {m : Nat} (h1 : 256 ≤ m) (h2 : m < 512)
include h1 h2
theorem Q2 (a b : UInt8) : ZW m a b = ZW m b a:=by
 apply UInt8.toNat_inj.1
 rw [Qp m h1 h2,Qp m h1 h2]
 have ea:=zn m 8 0 a.toNat (by omega) a.toNat_lt
 have eb:=zn m 8 0 b.toNat (by omega) b.toNat_lt
 simp only [Nat.shiftLeft_zero] at ea eb
 rw [← ea,yD,eb,ea]
theorem kY (a b c : UInt8) : ZW m (a ^^^ b) c = ZW m a c ^^^ ZW m b c:=by
 apply UInt8.toNat_inj.1
 rw [UInt8.toNat_xor,Qp m h1 h2,Qp m h1 h2,Qp m h1 h2,UInt8.toNat_xor,zI]
theorem jb (a b c : UInt8) : ZW m a (b ^^^ c) = ZW m a b ^^^ ZW m a c:=by
 rw [Q2 h1 h2,kY h1 h2,Q2 h1 h2 b,Q2 h1 h2 c]
theorem Jz (a : UInt8) : ZW m 0 a = 0:=by
 apply UInt8.toNat_inj.1
 rw [Qp m h1 h2]
 exact Hh m 8 _
end
def vf {α : Type} (n : Nat) (f : Nat → α) : Vector α n:=Vector.ofFn fun i=>f i.1
theorem Kb {α : Type} {n i : Nat} (f : Nat → α) (h : i < n) : (vf n f)[i] = f i:=by simp [vf]
theorem JT {α : Type} {n i : Nat} (f : Nat → α) (h : i < n) : (vf n f)[i]? = some (f i):=by rw [Vector.getElem?_eq_getElem h,Kb f h]
theorem ZP {α : Type} {n i : Nat} (f : Nat → α) (h : i < n) : ZH (vf n f) (i : Int) = some (f i):=by rw [Vd,JT f h]
theorem Y6 {α : Type} {n : Nat} {f g : Nat → α} (h : ∀ i,i < n → f i = g i) : vf n f = vf n g:=by
 apply TP
 intro i hi
 rw [Kb f hi,Kb g hi,h i hi]
theorem TS {α : Type} {n : Nat} (f : Nat → α) (k : Nat) (x : α) : (vf n f).setIfInBounds k x = vf n (fun i=>if i = k then x else f i):=by
 apply TP
 intro i hi
 rw [Vector.getElem_setIfInBounds,Kb _ hi,Kb _ hi]
 by_cases h : k = i
 ·subst h; simp
 ·rw [if_neg h,if_neg (fun e=>h e.symm)]
theorem TG {α : Type} (n : Nat) (x : α) : Vector.replicate n x = vf n (fun _=>x):=by
 apply TP
 intro i hi
 rw [Kb _ hi]; simp
theorem kf {α : Type} [Inhabited α] {n : Nat} (v : Vector α n) : v = vf n (fun i=>v[i]?.getD default):=by
 apply TP
 intro i hi
 rw [Kb _ hi,Vector.getElem?_eq_getElem hi]; rfl
abbrev Mat:=Vector (Vector UInt8 4) 4
def mf (f : Nat → Nat → UInt8) : Mat:=vf 4 fun i=>vf 4 (f i)
theorem WN {f g : Nat → Nat → UInt8} (h : ∀ i,i < 4 → ∀ j,j < 4 → f i j = g i j) : mf f = mf g:=Y6 fun i hi=>Y6 fun j hj=>h i hi j hj
theorem U8 {i : Nat} (f : Nat → Nat → UInt8) (h : i < 4) : ZH (mf f) (i : Int) = some (vf 4 (f i)):=ZP _ h
theorem Jn (f : Nat → Nat → UInt8) (k : Nat) (g : Nat → UInt8) : (mf f).setIfInBounds k (vf 4 g) = mf (fun i j=>if i = k then g j else f i j):=by
 unfold mf
 rw [TS]
 apply Y6
 intro i hi
 by_cases h : i = k
 ·simp [h]
 ·simp [h]
theorem z3 : Vector.replicate 4 (Vector.replicate 4 (0 : UInt8)) = mf (fun _ _=>0):=by rw [TG 4 (0 : UInt8),TG]; rfl
theorem lt4 {i : Nat} (h : i < 4) : decide ((i : Int) < 4) = true:=by simp; omega
theorem lt4' {i : Nat} (h : ¬ i < 4) : decide ((i : Int) < 4) = false:=by simp; omega
theorem wr4 {i : Nat} (h : i < 1000) : wr ((i : Int) + 1) = ((i + 1 : Nat) : Int):=XB (by omega)

def JX (i j : Nat) : UInt8:=if i = j then 1 else 0
theorem kP (L : Mat × Int → Option (Fl (Mat × Int) Mat))
  (hL : ∀ s8,L s8 = if (decide (s8.2 < 4)) = true then ((ZH s8.1 s8.2).bind fun (x14 : (Vector UInt8 4))=>(ZH x14 s8.2).bind fun (x17 : UInt8)=>some (Fl.nx ((s8.1.setIfInBounds (s8.2).toNat (x14.setIfInBounds (s8.2).toNat 1)),wr (s8.2 + 1)))) else (some (Fl.ex s8.1))) :
  ZB L (Vector.replicate 4 (Vector.replicate 4 (0 : UInt8)),0) = some (mf JX):=by
 have:=ZY (f:=L) (fun i : Nat=>(mf fun r c=>if r < i then JX r c else 0,(i : Int))) 0 4 (by omega) (t:=mf JX) (fun i _ hi=>by
  rw [hL]
  simp only [lt4 hi,if_true,U8 _ hi,ZP _ hi,Option.bind_some,Int.toNat_natCast,TS,Jn,wr4 (show i < 1000 by omega)]
  congr 3
  apply WN
  intro r hr c hc
  by_cases h1 : r = i
  ·subst h1; simp [JX,eq_comm]
  ·simp only [h1,if_false]
   by_cases h2 : r < i
   ·rw [if_pos h2,if_pos (by omega)]
   ·rw [if_neg h2,if_neg (by omega)]) (by
  rw [hL]
  simp only [lt4' (show ¬ 4 < 4 by omega),Bool.false_eq_true,if_false]
  exact congrArg (fun z=>some (Fl.ex z)) (WN fun r hr c hc=>by rw [if_pos hr]))
 rw [z3]
 simpa using this
theorem J4 : Vl = some (mf JX):=by
 unfold Vl
 rw [kP TE fun s=>rfl]; rfl

abbrev MF:=Nat → Nat → UInt8
def KY (f : MF) (k : Nat) : Nat:=((List.range' k (4 - k)).find? fun i=>!(f i k == 0)).getD 4
def qG (f : MF) (i k : Nat) : MF:=fun r c=>if r = k then f i c else if r = i then f k c else f r c
def zR (m : Nat) (f : MF) (k : Nat) (by_ : UInt8) : MF:=fun r c=>if r = k then ZW m (f k c) by_ else f r c
def UC (m : Nat) (f g : MF) (k : Nat) : MF:=fun r c=>if r = k then g r c else g r c ^^^ ZW m (f r k) (g k c)
structure Red where
 a : MF
 b : MF
 det : UInt8
def Hk (m : Nat) (s : Red) (k : Nat) : Option Red :=
 let i:=KY s.a k
 if i = 4 then none else
  let f:=qG s.a i k
  let g:=qG s.b i k
  let q:=Qq m (f k k)
  let f2:=zR m f k q
  let g2:=zR m g k q
  some ⟨UC m f2 f2 k,UC m f2 g2 k,ZW m s.det (f k k)⟩
def Hf (m : Nat) : Nat → Nat → Red → Option Red
 | 0,_,s=>some s
 | n + 1,k,s=>(Hk m s k).bind (Hf m n (k + 1))
def Bx (m : Nat) (a : MF) : UInt8 × Mat:=match Hf m 4 0 ⟨a,JX,1⟩ with
 | some s=>(s.det,mf s.b)
 | none=>(0,mf fun _ _=>0)
theorem jy (L : Int → Option (Fl Int Int)) (f : MF) (k : Nat) (hk : k < 4)
  (hL : ∀ s,L s = (if (decide (s < 4)) = true then ((ZH (mf f) s).bind fun (x30 : (Vector UInt8 4))=>(ZH x30 (k : Int)).bind fun (x33 : UInt8)=>some (x33 == 0)) else (some false) : Option (Bool)).bind fun (j25 : Bool)=>if j25 = true then (some (Fl.nx (wr (s + 1)))) else (some (Fl.ex s))) :
  ZB L (k : Int) = some ((KY f k : Nat) : Int):=by
 have:=QV (f:=L) (fun i : Nat=>(i : Int)) (fun i=>!(f i k == 0)) (fun i=>(i : Int)) (e:=(4 : Int)) 4 (4 - k) k (by omega) (fun i _ hi=>by
  rw [hL]
  simp only [lt4 hi,if_true,U8 _ hi,ZP _ hk,Option.bind_some]
  cases h : (f i k == 0)
  ·simp
  ·simp [wr4 (show i < 1000 by omega)]) (by rw [hL]; simp)
 rw [this]
 unfold KY
 cases (List.range' k (4 - k)).find? fun i=>!(f i k == 0) <;> rfl
theorem Zab {f : MF} {k : Nat} (h : KY f k ≠ 4) : KY f k < 4:=by
 unfold KY at h ⊢
 cases hf : (List.range' k (4 - k)).find? fun i=>!(f i k == 0) with
 | none=>rw [hf] at h; exact absurd rfl h
 | some i =>
  have:=List.mem_range'_1.1 (List.mem_of_find?_eq_some hf)
  simp only [Option.getD_some]
  omega
theorem zb (L : Mat × Mat × Int → Option (Fl (Mat × Mat × Int) (Mat × Mat))) (f g : MF) (k : Nat) (hk : k < 4) (p q : Nat → UInt8)
  (hL : ∀ c,c < 4 → ∀ a b : MF,(∀ r,r ≠ k → a r = f r) → (∀ r,r ≠ k → b r = g r) → a k c = f k c → b k c = g k c → L (mf a,mf b,(c : Int)) = some (Fl.nx ((mf a).setIfInBounds k ((vf 4 (a k)).setIfInBounds c (p c)),(mf b).setIfInBounds k ((vf 4 (b k)).setIfInBounds c (q c)),wr ((c : Int) + 1))))
  (he : ∀ a b : Mat,L (a,b,4) = some (Fl.ex (a,b))) :
  ZB L (mf f,mf g,0) = some (mf (fun r c=>if r = k then p c else f r c),mf (fun r c=>if r = k then q c else g r c)):=by
 have k1 : (mf fun r c=>if r = k then (if c < 4 then p c else f k c) else f r c) = mf fun r c=>if r = k then p c else f r c:=WN fun r _ c hc=>by rw [if_pos hc]
 have k2 : (mf fun r c=>if r = k then (if c < 4 then q c else g k c) else g r c) = mf fun r c=>if r = k then q c else g r c:=WN fun r _ c hc=>by rw [if_pos hc]
 have:=ZY (f:=L) (fun i : Nat=>(mf fun r c=>if r = k then (if c < i then p c else f k c) else f r c,mf fun r c=>if r = k then (if c < i then q c else g k c) else g r c,(i : Int))) 0 4 (by omega)
  (t:=(mf (fun r c=>if r = k then p c else f r c),mf (fun r c=>if r = k then q c else g r c))) (fun i _ hi=>by
  rw [hL i hi _ _ (fun r hr=>by funext c; rw [if_neg hr]) (fun r hr=>by funext c; rw [if_neg hr]) (by simp) (by simp)]
  simp only [TS,Jn,wr4 (show i < 1000 by omega)]
  congr 3
  ·apply WN
   intro r hr c hc
   by_cases h : r = k
   ·simp only [h,if_true]
    by_cases h2 : c = i
    ·subst h2; simp
    ·by_cases h3 : c < i
     ·rw [if_neg h2,if_pos h3,if_pos (by omega)]
     ·rw [if_neg h2,if_neg h3,if_neg (by omega)]
   ·simp only [h,if_false]
  ·congr 1
   apply WN
   intro r hr c hc
   by_cases h : r = k
   ·simp only [h,if_true]
    by_cases h2 : c = i
    ·subst h2; simp
    ·by_cases h3 : c < i
     ·rw [if_neg h2,if_pos h3,if_pos (by omega)]
     ·rw [if_neg h2,if_neg h3,if_neg (by omega)]
   ·simp only [h,if_false]) (by
  simp only [k1,k2]
  exact he _ _)
 have e1 : mf (fun r c=>if r = k then (if c < 0 then p c else f k c) else f r c) = mf f:=WN fun r hr c hc=>by
  by_cases h : r = k
  ·subst h; simp
  ·simp [h]
 have e2 : mf (fun r c=>if r = k then (if c < 0 then q c else g k c) else g r c) = mf g:=WN fun r hr c hc=>by
  by_cases h : r = k
  ·subst h; simp
  ·simp [h]
 simp only [e1,e2] at this
 exact this
theorem yW {S : Type} (m : Nat) (L : S → Option (Fl S (Fl (Mat × UInt8) (UInt8 × Mat)))) (pk : Red → Nat → S)
  (hstep : ∀ k,k < 4 → ∀ s,L (pk s k) = some (match Hk m s k with | none=>.ex (.ex (0,mf fun _ _=>0)) | some s'=>.nx (pk s' (k + 1))))
  (hend : ∀ s,L (pk s 4) = some (.ex (.nx (mf s.b,s.det)))) : ∀ (n k : Nat) (s : Red),k + n = 4 → ZB L (pk s k) = some (match Hf m n k s with | some s'=>.nx (mf s'.b,s'.det) | none=>.ex (0,mf fun _ _=>0))
 | 0,k,s,h=>by
  have : k = 4:=by omega
  subst this
  rw [Wc (hend s)]; rfl
 | n + 1,k,s,h=>by
  have h1:=hstep k (by omega) s
  unfold Hf
  cases hr : Hk m s k with
  | none=>rw [hr] at h1; rw [Wc h1]; rfl
  | some s'=>rw [hr] at h1; rw [Wv h1]; exact yW m L pk hstep hend n (k + 1) s' (by omega)
theorem Zbh {i k : Nat} : (((i : Int)) != ((k : Nat) : Int)) = decide (i ≠ k):=by
 by_cases h : i = k
 ·subst h; simp
 ·have : (i : Int) ≠ (k : Int):=by omega
  simp [h,this]
theorem kU (m : Nat) (L : Mat × Mat × Int → Option (Fl (Mat × Mat × Int) (Mat × Mat))) (f g : MF) (k : Nat)
  (hL : ∀ i,i < 4 → ∀ a b : MF,(a i = f i) → (b i = g i) → (a k = f k) → (b k = g k) → L (mf a,mf b,(i : Int)) = some (Fl.nx (mf (fun r c=>if r = i then UC m f f k r c else a r c),mf (fun r c=>if r = i then UC m f g k r c else b r c),wr ((i : Int) + 1))))
  (he : ∀ a b : Mat,L (a,b,4) = some (Fl.ex (a,b))) : ZB L (mf f,mf g,0) = some (mf (UC m f f k),mf (UC m f g k)):=by
 have ek : ∀ h : MF,UC m f h k k = h k:=fun h=>by funext c; simp [UC]
 have k1 : (mf fun r c=>if r < 4 then UC m f f k r c else f r c) = mf (UC m f f k):=WN fun r hr c _=>by rw [if_pos hr]
 have k2 : (mf fun r c=>if r < 4 then UC m f g k r c else g r c) = mf (UC m f g k):=WN fun r hr c _=>by rw [if_pos hr]
 have:=ZY (f:=L) (fun i : Nat=>(mf fun r c=>if r < i then UC m f f k r c else f r c,mf fun r c=>if r < i then UC m f g k r c else g r c,(i : Int))) 0 4 (by omega)
  (t:=(mf (UC m f f k),mf (UC m f g k))) (fun i _ hi=>by
  rw [hL i hi _ _ (by funext c; simp) (by funext c; simp) (by funext c; by_cases h : k < i <;> simp [h,ek]) (by funext c; by_cases h : k < i <;> simp [h,ek])]
  rw [wr4 (show i < 1000 by omega)]
  have e : ∀ (x y : MF),(mf fun r c=>if r = i then x r c else if r < i then x r c else y r c) = mf fun r c=>if r < i + 1 then x r c else y r c:=fun x y=>WN fun r _ c _=>by
   by_cases h1 : r = i
   ·subst h1; simp
   ·by_cases h2 : r < i
    ·rw [if_neg h1,if_pos h2,if_pos (by omega)]
    ·rw [if_neg h1,if_neg h2,if_neg (by omega)]
  rw [e,e]) (by
  simp only [k1,k2]
  exact he _ _)
 simpa using this

theorem qD (f : MF) {i k : Nat} : ((mf f).setIfInBounds i (vf 4 (f k))).setIfInBounds k (vf 4 (f i)) = mf (qG f i k):=by
 rw [Jn,Jn]; rfl
section
variable (m : Nat) (hm : m < 512) (hm2 : 256 ≤ m)
include hm
theorem jq (A B : Mat) (det : UInt8) (q : UInt8) (f g : MF) (k : Nat) (hk : k < 4) : ZB (XX (m : Int) (A,B,(k : Int),det) q) (mf f,mf g,0) = some (mf (zR m f k q),mf (zR m g k q)):=by
 refine zb _ f g k hk (fun c=>ZW m (f k c) q) (fun c=>ZW m (g k c) q) (fun c hc a b _ _ ha hb=>?_) (fun a b=>?_)
 ·unfold XX
  simp only [lt4 hc,if_true,U8 _ hk,ZP _ hc,Option.bind_some,Tq m hm,ha,hb,Int.toNat_natCast]
 ·unfold XX; simp
theorem Zaf (A B : Mat) (det : UInt8) (s1 : Mat × Mat × Int) (x : UInt8) (f g : MF) (k i : Nat) (hk : k < 4) (hi : i < 4) (hik : i ≠ k) (hs : s1.2.2 = (i : Int)) :
  ZB (X5 (m : Int) (A,B,(k : Int),det) s1 x) (mf f,mf g,0) = some (mf (fun r c=>if r = i then f i c ^^^ ZW m x (f k c) else f r c),mf (fun r c=>if r = i then g i c ^^^ ZW m x (g k c) else g r c)):=by
 refine zb _ f g i hi (fun c=>f i c ^^^ ZW m x (f k c)) (fun c=>g i c ^^^ ZW m x (g k c)) (fun c hc a b ha' hb' ha hb=>?_) (fun a b=>?_)
 ·unfold X5
  have e1:=ha' k (Ne.symm hik)
  have e2:=hb' k (Ne.symm hik)
  simp only [hs,lt4 hc,if_true,U8 _ hk,U8 _ hi,ZP _ hc,Option.bind_some,Tq m hm,ha,hb,e1,e2,Int.toNat_natCast]
 ·unfold X5; simp
include hm2
theorem ku (A B : Mat) (det : UInt8) (f g : MF) (k : Nat) (hk : k < 4) : ZB (XW (m : Int) (A,B,(k : Int),det)) (mf f,mf g,0) = some (mf (UC m f f k),mf (UC m f g k)):=by
 refine kU m _ f g k (fun i hi a b hai hbi hak hbk=>?_) (fun a b=>by unfold XW; simp)
 unfold XW
 have hfi : a i k = f i k:=by rw [hai]
 simp only [lt4 hi,if_true,U8 _ hi,ZP _ hk,Option.bind_some,Zbh,hfi]
 by_cases h : i = k
 ·subst h
  simp only [ne_eq,not_true_eq_false,decide_false,Bool.false_eq_true,if_false,Option.bind_some]
  congr 3
  ·exact WN fun r _ c _=>by
    by_cases h : r = i
    ·subst h; simp [UC,hai]
    ·simp [h]
  ·congr 1
   exact WN fun r _ c _=>by
    by_cases h : r = i
    ·subst h; simp [UC,hbi]
    ·simp [h]
 ·have hd : decide (i ≠ k) = true:=by simpa using h
  simp only [hd,if_true,Option.bind_some]
  by_cases h0 : f i k = 0
  ·simp only [h0,bne_self_eq_false,Bool.false_eq_true,if_false,Option.bind_some]
   congr 3
   ·exact WN fun r _ c _=>by
     by_cases h2 : r = i
     ·subst h2; simp [UC,hai,h,h0,Jz hm2 hm]
     ·simp [h2]
   ·congr 1
    exact WN fun r _ c _=>by
     by_cases h2 : r = i
     ·subst h2; simp [UC,hbi,h,h0,Jz hm2 hm]
     ·simp [h2]
  ·have hb0 : (f i k != 0) = true:=by simpa using h0
   simp only [hb0,if_true,Option.bind_some]
   rw [Zaf m hm A B det _ _ a b k i hk hi h rfl]
   simp only [Option.bind_some]
   congr 3
   ·exact WN fun r _ c _=>by
     by_cases h2 : r = i
     ·subst h2; simp [UC,hai,hak,h]
     ·simp [h2]
   ·congr 1
    exact WN fun r _ c _=>by
     by_cases h2 : r = i
     ·subst h2; simp [UC,hbi,hbk,h]
     ·simp [h2]
theorem kW (k : Nat) (hk : k < 4) (s : Red) : YL (m : Int) (mf s.a,mf s.b,(k : Int),s.det) = some (match Hk m s k with | none=>.ex (.ex (0,mf fun _ _=>0)) | some s'=>.nx (mf s'.a,mf s'.b,((k + 1 : Nat) : Int),s'.det)):=by
 unfold YL
 have hp:=jy (US (mf s.a,mf s.b,(k : Int),s.det)) s.a k hk (fun x=>rfl)
 simp only [lt4 hk,if_true,hp,Option.bind_some]
 unfold Hk
 by_cases h4 : KY s.a k = 4
 ·have : ((4 : Nat) : Int) = 4:=rfl
  simp only [h4,this,beq_self_eq_true,if_true,z3]
 ·have hi:=Zab h4
  have h5 : (((KY s.a k : Nat) : Int) == 4) = false:=by
   have : ((KY s.a k : Nat) : Int) ≠ 4:=by omega
   simpa using this
  generalize hpi : KY s.a k = i at *
  simp only [h4,h5,Bool.false_eq_true,if_false]
  have x1 : ZH ((mf s.a).setIfInBounds i (vf 4 (s.a k))) (k : Int) = some (vf 4 (fun c=>if k = i then s.a k c else s.a k c)):=by rw [Jn]; exact U8 _ hk
  have x2 : ZH ((mf s.b).setIfInBounds i (vf 4 (s.b k))) (k : Int) = some (vf 4 (fun c=>if k = i then s.b k c else s.b k c)):=by rw [Jn]; exact U8 _ hk
  simp only [U8 _ hk,U8 _ hi,Option.bind_some,Int.toNat_natCast,x1,x2,qD,ZP _ hk,Tq m hm,Kh m hm,jq m hm _ _ _ _ _ _ k hk,ku m hm hm2 _ _ _ _ _ k hk,wr4 (show k < 1000 by omega)]
theorem Av (f : MF) : Xr (m : Int) (mf f) = some (Bx m f):=by
 unfold Xr
 have h:=yW m (YL (m : Int)) (fun s k=>(mf s.a,mf s.b,(k : Int),s.det)) (kW m hm hm2) (fun s=>by unfold YL; simp) 4 0 ⟨f,JX,1⟩ rfl
 have h2 : ZB (YL (m : Int)) (mf f,mf JX,0,1) = _:=h
 rw [J4,Option.bind_some,h2]
 unfold Bx
 cases Hf m 4 0 ⟨f,JX,1⟩ <;> rfl
end
theorem zj {n i : Nat} (v : Vector UInt8 n) (h : i < n) : ZH v (i : Int) = some (v.toList.getD i 0):=by
 rw [Vd,Vector.getElem?_eq_getElem h]
 simp [List.getD_eq_getElem?_getD,h]
theorem yG (x : UInt8) : (bI x).toNat = x.toNat:=rfl
def Qj (p : Vector UInt8 16) : Bool:=p.toList.all (fun x=>decide (x < 16)) && qW p.toList
def Ba (a : Mat) : MF:=fun i j=>(a[i]?.getD default)[j]?.getD default
theorem Bw (a : Mat) : a = mf (Ba a):=calc a = vf 4 (fun i=>a[i]?.getD default):=kf a
  _ = _:=Y6 fun i _=>kf _
def detC (m : Nat) (a : Mat) : UInt8:=(Bx m (Ba a)).1
def invM (m : Nat) (a : Mat) : Mat:=(Bx m (Ba a)).2
def YJ (c : GCipher) : Bool:=J1 c.Field && qW c.Box.toList && Qj c.Places && decide (1 ≤ c.Rounds ∧ c.Rounds ≤ 20) && (detC c.Field.toNat c.Mix != 0)
theorem qF (m : Nat) (hm : m < 512) (hm2 : 256 ≤ m) (a : Mat) : Xr (m : Int) a = some (detC m a,invM m a):=by
 have:=Av m hm hm2 (Ba a)
 rw [← Bw] at this
 exact this
theorem JN {c : GCipher} (h : YJ c = true) : ∃ m : Nat,c.Field = m ∧ 256 ≤ m ∧ m < 512:=by
 unfold YJ at h
 simp only [Bool.and_eq_true] at h
 exact yr h.1.1.1.1
theorem WL {n : Nat} (L : Vector UInt8 n × Int → Option (Fl (Vector UInt8 n × Int) (Vector UInt8 n))) (f h : Nat → UInt8) (hn : n < 9223372036854775807) (m : Nat) (hm : m ≤ n) (h0 : ∀ j,j < m → h j = f j)
  (hL : ∀ i,m ≤ i → i < n → ∀ a : Nat → UInt8,(∀ j,j < i → a j = h j) → (∀ j,i ≤ j → a j = f j) → L (vf n a,(i : Int)) = some (.nx ((vf n a).setIfInBounds i (h i),wr ((i : Int) + 1))))
  (he : ∀ v,L (v,(n : Int)) = some (.ex v)) : ZB L (vf n f,(m : Int)) = some (vf n h):=by
 have k1 : (vf n fun j=>if j < n then h j else f j) = vf n h:=Y6 fun j hj=>by rw [if_pos hj]
 have k0 : (vf n fun j=>if j < m then h j else f j) = vf n f:=Y6 fun j hj=>by
  by_cases h1 : j < m
  ·rw [if_pos h1,h0 j h1]
  ·rw [if_neg h1]
 have:=ZY (f:=L) (fun i : Nat=>(vf n fun j=>if j < i then h j else f j,(i : Int))) m n hm (t:=vf n h) (fun i hmi hi=>by
  rw [hL i hmi hi _ (fun j hj=>by rw [if_pos hj]) (fun j hj=>by rw [if_neg (by omega)]),TS,XB (show i < 9223372036854775807 by omega)]
  refine congrArg (fun z=>some (Fl.nx (z,((i + 1 : Nat) : Int)))) (Y6 fun j hj=>?_)
  by_cases h1 : j = i
  ·subst h1; simp
  ·by_cases h2 : j < i
   ·rw [if_neg h1,if_pos h2,if_pos (by omega)]
   ·rw [if_neg h1,if_neg h2,if_neg (by omega)]) (by
  simp only [k1]
  exact he _)
 simp only [k0] at this
 exact this
def AT (b : Vector UInt8 256) (x : UInt8) : UInt8:=b[x.toNat]'(UInt8.toNat_lt x)
theorem Q3 (b : Vector UInt8 256) (x : UInt8) : ZH b (bI x) = some (AT b x):=by
 have : ZH b ((x.toNat : Nat) : Int) = _:=Vd b x.toNat
 rw [Vector.getElem?_eq_getElem (UInt8.toNat_lt x)] at this
 exact this
abbrev Blk:=Vector UInt8 16
def bf (v : Blk) (i : Nat) : UInt8:=v[i]?.getD default
theorem vf_bf (v : Blk) : v = vf 16 (bf v):=kf v
theorem Hb {i : Nat} (h : i < 16) : decide ((i : Int) < 16) = true:=by simp; omega
def JJ (f g : Nat → UInt8) : Nat → UInt8:=fun i=>f i ^^^ g i
theorem JG (f g : Nat → UInt8) : Xi (vf 16 f) (vf 16 g) = some (vf 16 (JJ f g)):=by
 unfold Xi
 have:=WL (VJ (vf 16 g)) f (JJ f g) (by omega) 0 (by omega) (fun j hj=>by omega) (fun i _ hi a _ ha=>by
  unfold VJ
  simp only [Hb hi,if_true,ZP _ hi,Option.bind_some,Int.toNat_natCast,ha i (Nat.le_refl _),JJ]) (fun v=>by unfold VJ; simp)
 have h2 : ZB (VJ (vf 16 g)) (vf 16 f,0) = _:=this
 rw [h2]; rfl
theorem TJ (f g : Nat → UInt8) : Yw (vf 16 f) (vf 16 g) = some (vf 16 (JJ f g)):=by
 unfold Yw
 have:=WL (Wf (vf 16 g)) f (JJ f g) (by omega) 0 (by omega) (fun j hj=>by omega) (fun i _ hi a _ ha=>by
  unfold Wf
  simp only [Hb hi,if_true,ZP _ hi,Option.bind_some,Int.toNat_natCast,ha i (Nat.le_refl _),JJ]) (fun v=>by unfold Wf; simp)
 have h2 : ZB (Wf (vf 16 g)) (vf 16 f,0) = _:=this
 rw [h2]; rfl
def Ac (b : Vector UInt8 256) (f : Nat → UInt8) : Nat → UInt8:=fun i=>AT b (f i)
theorem jD (b : Vector UInt8 256) (f : Nat → UInt8) : Ut b (vf 16 f) = some (vf 16 (Ac b f)):=by
 unfold Ut
 have:=WL (WA b) f (Ac b f) (by omega) 0 (by omega) (fun j hj=>by omega) (fun i _ hi a _ ha=>by
  unfold WA
  simp only [Hb hi,if_true,ZP _ hi,Option.bind_some,Int.toNat_natCast,ha i (Nat.le_refl _),Q3,Ac]) (fun v=>by unfold WA; simp)
 have h2 : ZB (WA b) (vf 16 f,0) = _:=this
 rw [h2]; rfl
def K3 (p : Blk) (f : Nat → UInt8) : Nat → UInt8:=fun i=>f (bf p i).toNat
theorem Hp {p : Blk} (h : Qj p = true) {i : Nat} (hi : i < 16) : (bf p i).toNat < 16:=by
 unfold Qj at h
 simp only [Bool.and_eq_true,List.all_eq_true,decide_eq_true_eq] at h
 have e : bf p i = p[i]:=by unfold bf; rw [Vector.getElem?_eq_getElem hi]; rfl
 have:=h.1 p[i] (by simp)
 rw [UInt8.lt_iff_toNat_lt] at this
 rw [e]; exact this
theorem Hl (p : Blk) {i : Nat} (h : i < 16) : ZH p (i : Int) = some (bf p i):=by
 rw [Vd]; unfold bf; rw [Vector.getElem?_eq_getElem h]; rfl
theorem yn (f : Nat → UInt8) {x : UInt8} (h : x.toNat < 16) : ZH (vf 16 f) (bI x) = some (f x.toNat):=ZP f h
theorem kC (p : Blk) (hp : Qj p = true) (f : Nat → UInt8) : UK p (vf 16 f) = some (vf 16 (K3 p f)):=by
 unfold UK
 have:=WL (W8 p (vf 16 f)) (fun _=>0) (K3 p f) (by omega) 0 (by omega) (fun j hj=>by omega) (fun i _ hi a _ ha=>by
  unfold W8
  simp only [Hb hi,if_true,ZP _ hi,Hl _ hi,Option.bind_some,Int.toNat_natCast,yn f (Hp hp hi),K3]) (fun v=>by unfold W8; simp)
 have h2 : ZB (W8 p (vf 16 f)) (vf 16 (fun _=>0),0) = _:=this
 rw [TG 16 (0 : UInt8),h2]; rfl
theorem v_move (p : Blk) (hp : Qj p = true) (f : Nat → UInt8) : WY p (vf 16 f) = some (vf 16 (K3 p f)):=by
 unfold WY
 have:=WL (Xu p (vf 16 f)) (fun _=>0) (K3 p f) (by omega) 0 (by omega) (fun j hj=>by omega) (fun i _ hi a _ ha=>by
  unfold Xu
  simp only [Hb hi,if_true,ZP _ hi,Hl _ hi,Option.bind_some,Int.toNat_natCast,yn f (Hp hp hi),K3]) (fun v=>by unfold Xu; simp)
 have h2 : ZB (Xu p (vf 16 f)) (vf 16 (fun _=>0),0) = _:=this
 rw [TG 16 (0 : UInt8),h2]; rfl

def QU (b : Vector UInt8 256) (f : Nat → UInt8) (r : Int) : Nat → UInt8
 | 0=>f 0 ^^^ AT b (f 15 ^^^ Zy r)
 | i + 1=>f (i + 1) ^^^ AT b (QU b f r i)
theorem kG (b : Vector UInt8 256) (f : Nat → UInt8) (r : Int) : UI b (vf 16 f) r = some (vf 16 (QU b f r)) := by
  unfold UI
  have := WL (W9 b r) f (QU b f r) (by omega) 0 (by omega) (fun j hj => by omega) (fun i _ hi a hb ha => by
    unfold W9
    cases i with
    | zero =>
      have e1 : Int.tmod (wr (((0 : Nat) : Int) + 15)) 16 = ((15 : Nat) : Int) := by decide
      simp only [e1, Hb hi, if_true, ZP a (show 15 < 16 by omega), Option.bind_some]
      have e2 : (((0 : Nat) : Int) == 0) = true := rfl
      simp only [e2, if_true, Option.bind_some, Q3, ZP a hi, Int.toNat_natCast, ha 0 (by omega), ha 15 (by omega), QU]
    | succ i =>
      have e1 : Int.tmod (wr (((i + 1 : Nat) : Int) + 15)) 16 = ((i : Nat) : Int) := by
        rw [YG (by omega)]
        have : (((i + 1 : Nat) : Int) + 15) = ((i + 16 : Nat) : Int) := by omega
        rw [this]
        have : Int.tmod ((i + 16 : Nat) : Int) 16 = (((i + 16) % 16 : Nat) : Int) := rfl
        rw [this]
        omega
      have e2 : (((i + 1 : Nat) : Int) == 0) = false := by have : ((i + 1 : Nat) : Int) ≠ 0 := by omega
                                                           simpa using this
      simp only [e1, e2, Hb hi, if_true, ZP a (show i < 16 by omega), Option.bind_some, Bool.false_eq_true, if_false, Q3, ZP a hi, Int.toNat_natCast, ha (i + 1) (Nat.le_refl _), hb i (by omega), QU]) (fun v => by unfold W9; simp)
  have h2 : ZB (W9 b r) (vf 16 f, 0) = _ := this
  rw [h2]; rfl
theorem km (e : Ref Gengine) (f : Nat → UInt8) (r : Int) : XI e (vf 16 f) r = some (vf 16 (QU e.v.box f r)):=by
 unfold XI
 have x0 : ZH (vf 16 f) (0 : Int) = some (f 0):=ZP f (show 0 < 16 by omega)
 have x15 : ZH (vf 16 f) (15 : Int) = some (f 15):=ZP f (show 15 < 16 by omega)
 have z : (0 : Int).toNat = 0:=rfl
 simp only [x0,x15,Option.bind_some,Q3,z,TS]
 have:=WL (YT e) (fun i=>if i = 0 then f 0 ^^^ AT e.v.box (f 15 ^^^ Zy r) else f i) (QU e.v.box f r) (by omega) 1 (by omega) (fun j hj=>by
  have : j = 0:=by omega
  subst this; simp [QU]) (fun i h1 hi a hb ha=>by
  unfold YT
  obtain ⟨i,rfl⟩ : ∃ k,i = k + 1:=⟨i - 1,by omega⟩
  have e1 : wr (((i + 1 : Nat) : Int) - 1) = ((i : Nat) : Int):=by rw [YG (by omega)]; omega
  simp only [e1,Hb hi,if_true,ZP a (show i < 16 by omega),ZP a hi,Option.bind_some,Q3,Int.toNat_natCast,ha (i + 1) (Nat.le_refl _),hb i (by omega),QU]
  simp) (fun v=>by unfold YT; simp)
 have h2 : ZB (YT e) (vf 16 (fun i=>if i = 0 then f 0 ^^^ AT e.v.box (f 15 ^^^ Zy r) else f i),1) = _:=this
 rw [h2]; rfl
def zJ (b : Vector UInt8 256) (k : Nat → UInt8) : Nat → Nat → UInt8
 | 0=>k
 | r + 1=>QU b (zJ b k r) ((r + 1 : Nat) : Int)
def Us (b : Vector UInt8 256) (k : Nat → UInt8) (n : Nat) : List Blk:=(List.range (n + 1)).map fun r=>vf 16 (zJ b k r)
theorem AR (b : Vector UInt8 256) (k : Nat → UInt8) (n : Nat) : Us b k (n + 1) = Us b k n ++ [vf 16 (QU b (zJ b k n) ((n + 1 : Nat) : Int))]:=by
 unfold Us
 rw [List.range_succ,List.map_append]; rfl
theorem KE (b : Vector UInt8 256) (k : Nat → UInt8) (n : Nat) : (Us b k n).length = n + 1:=by simp [Us]
theorem J6 (b : Vector UInt8 256) (k : Nat → UInt8) {n r : Nat} (h : r ≤ n) : idx (Us b k n) (r : Int) = some (vf 16 (zJ b k r)):=by
 rw [YB]; unfold Us; rw [List.getElem?_map,List.getElem?_range (by omega)]; rfl
theorem kV (c : GCipher) (k : Nat → UInt8) (n : Nat) (hn : n ≤ 1000) : UY c (vf 16 k) (n : Int) = some (Us c.Box k n):=by
 unfold UY
 have:=ZY (f:=W5 c (n : Int)) (fun i : Nat=>(vf 16 (zJ c.Box k (i - 1)),Us c.Box k (i - 1),(i : Int))) 1 (n + 1) (by omega) (t:=Us c.Box k n) (fun i h1 hi=>by
  unfold W5
  obtain ⟨i,rfl⟩ : ∃ q,i = q + 1:=⟨i - 1,by omega⟩
  have e1 : decide (((i + 1 : Nat) : Int) ≤ (n : Int)) = true:=by simp; omega
  have e2 : app 16 (Us c.Box k i) [vf 16 (QU c.Box (zJ c.Box k i) ((i + 1 : Nat) : Int))] = _:=XN (by rw [KE]; simp; omega)
  simp only [Nat.add_sub_cancel,e1,if_true,kG,Option.bind_some,e2,XB (show i + 1 < 9223372036854775807 by omega),AR]
  rfl) (by
  unfold W5
  have e1 : decide (((n + 1 : Nat) : Int) ≤ (n : Int)) = false:=by simp; omega
  simp only [e1,Bool.false_eq_true,if_false,Nat.add_sub_cancel])
 have h2 : ZB (W5 c (n : Int)) (vf 16 k,[vf 16 k],1) = _:=this
 rw [h2]; rfl
theorem v_keys (e : Ref Gengine) (k : Nat → UInt8) (n : Nat) (hn : n ≤ 1000) : WO e (vf 16 k) (n : Int) = some (Us e.v.box k n):=by
 unfold WO
 have:=ZY (f:=Xs e (n : Int)) (fun i : Nat=>(vf 16 (zJ e.v.box k (i - 1)),Us e.v.box k (i - 1),(i : Int))) 1 (n + 1) (by omega) (t:=Us e.v.box k n) (fun i h1 hi=>by
  unfold Xs
  obtain ⟨i,rfl⟩ : ∃ q,i = q + 1:=⟨i - 1,by omega⟩
  have e1 : decide (((i + 1 : Nat) : Int) ≤ (n : Int)) = true:=by simp; omega
  have e2 : app 16 (Us e.v.box k i) [vf 16 (QU e.v.box (zJ e.v.box k i) ((i + 1 : Nat) : Int))] = _:=XN (by rw [KE]; simp; omega)
  simp only [Nat.add_sub_cancel,e1,if_true,km,Option.bind_some,e2,XB (show i + 1 < 9223372036854775807 by omega),AR]
  rfl) (by
  unfold Xs
  have e1 : decide (((n + 1 : Nat) : Int) ≤ (n : Int)) = false:=by simp; omega
  simp only [e1,Bool.false_eq_true,if_false,Nat.add_sub_cancel])
 have h2 : ZB (Xs e (n : Int)) (vf 16 k,[vf 16 k],1) = _:=this
 rw [h2]; rfl

def rowF (m : Nat) (a : MF) (f : Nat → UInt8) (c r : Nat) : UInt8:=((ZW m (a r 0) (f c) ^^^ ZW m (a r 1) (f (c + 1))) ^^^ ZW m (a r 2) (f (c + 2))) ^^^ ZW m (a r 3) (f (c + 3))
def UG (m : Nat) (a : MF) (f : Nat → UInt8) : Nat → UInt8:=fun i=>rowF m a f (i / 4 * 4) (i % 4)
theorem set_set (f : Nat → UInt8) (k : Nat) (x y : UInt8) : (fun i=>if i = k then y else if i = k then x else f i) = fun i=>if i = k then y else f i:=by
 funext i; by_cases h : i = k <;> simp [h]
theorem wr_at {c r : Nat} (hc : c < 4) (hr : r < 4) : wr (wr (4 * (c : Int)) + (r : Int)) = ((c * 4 + r : Nat) : Int):=by
 rw [YG (x:=4 * (c : Int)) (by omega),YG (by omega)]; omega
theorem Zbj (m : Nat) (hm : m < 512) (hm2 : 256 ≤ m) (a : MF) (f g : Nat → UInt8) (c r : Nat) (hc : c < 4) (hr : r < 4) (s1 s2 : Blk × Int) (h1 : s1.2 = (c : Int)) (h2 : s2.2 = (r : Int)) (hg : g (c * 4 + r) = 0) :
  ZB (XZ (m : Int) (mf a) (vf 16 f) s1 s2) (vf 16 g,0) = some (vf 16 fun i=>if i = c * 4 + r then rowF m a f (c * 4) r else g i):=by
 have hcr : c * 4 + r < 16:=by omega
 have step : ∀ (j : Nat) (h : Nat → UInt8),j < 4 → XZ (m : Int) (mf a) (vf 16 f) s1 s2 (vf 16 h,(j : Int)) = some (.nx (vf 16 (fun i=>if i = c * 4 + r then h (c * 4 + r) ^^^ ZW m (a r j) (f (c * 4 + j)) else h i),((j + 1 : Nat) : Int))):=fun j h hj=>by
  unfold XZ
  simp only [h1,h2,lt4 hj,if_true,wr_at hc hr,wr_at hc hj,ZP _ hcr,U8 _ hr,ZP _ hj,ZP f (show c * 4 + j < 16 by omega),Option.bind_some,Jq m hm hm2,Int.toNat_natCast,TS,wr4 (show j < 1000 by omega)]
 have e0:=step 0 g (by omega)
 have e1:=step 1 (fun i=>if i = c * 4 + r then g (c * 4 + r) ^^^ ZW m (a r 0) (f (c * 4 + 0)) else g i) (by omega)
 have e2:=step 2 (fun i=>if i = c * 4 + r then (g (c * 4 + r) ^^^ ZW m (a r 0) (f (c * 4 + 0))) ^^^ ZW m (a r 1) (f (c * 4 + 1)) else g i) (by omega)
 have e3:=step 3 (fun i=>if i = c * 4 + r then ((g (c * 4 + r) ^^^ ZW m (a r 0) (f (c * 4 + 0))) ^^^ ZW m (a r 1) (f (c * 4 + 1))) ^^^ ZW m (a r 2) (f (c * 4 + 2)) else g i) (by omega)
 have e4 : ∀ v : Blk,XZ (m : Int) (mf a) (vf 16 f) s1 s2 (v,((4 : Nat) : Int)) = some (.ex v):=fun v=>by unfold XZ; simp
 simp only [if_true,set_set] at e1 e2 e3
 have e0' : XZ (m : Int) (mf a) (vf 16 f) s1 s2 (vf 16 g,0) = _:=e0
 rw [Wv e0',Wv e1,Wv e2,Wv e3,Wc (e4 _)]
 refine congrArg some (Y6 fun i _=>?_)
 by_cases h : i = c * 4 + r
 ·simp [h,hg,rowF]
 ·simp [h]
theorem qj (m : Nat) (hm : m < 512) (hm2 : 256 ≤ m) (a : MF) (f : Nat → UInt8) : Tr (m : Int) (mf a) (vf 16 f) = some (vf 16 (UG m a f)):=by
 unfold Tr
 -- after c columns and r rows of the next
 have inner : ∀ c : Nat,c < 4 → ∀ s1 : Blk × Int,s1.2 = (c : Int) → ZB (VN (m : Int) (mf a) (vf 16 f) s1) (vf 16 (fun i=>if i < c * 4 then UG m a f i else 0),0) = some (vf 16 fun i=>if i < (c + 1) * 4 then UG m a f i else 0):=fun c hc s1 h1=>by
  have k1 : (vf 16 fun i=>if i < c * 4 + 4 then UG m a f i else 0) = vf 16 fun i=>if i < (c + 1) * 4 then UG m a f i else 0:=by rw [show c * 4 + 4 = (c + 1) * 4 by omega]
  have:=ZY (f:=VN (m : Int) (mf a) (vf 16 f) s1) (fun r : Nat=>(vf 16 fun i=>if i < c * 4 + r then UG m a f i else 0,(r : Int))) 0 4 (by omega) (t:=vf 16 fun i=>if i < (c + 1) * 4 then UG m a f i else 0) (fun r _ hr=>by
   unfold VN
   have h2:=Zbj m hm hm2 a f (fun i=>if i < c * 4 + r then UG m a f i else 0) c r hc hr s1 (vf 16 fun i=>if i < c * 4 + r then UG m a f i else 0,(r : Int)) h1 rfl (by simp)
   simp only [lt4 hr,if_true,h2,Option.bind_some,wr4 (show r < 1000 by omega)]
   refine congrArg (fun z=>some (Fl.nx (z,((r + 1 : Nat) : Int)))) (Y6 fun i _=>?_)
   by_cases h : i = c * 4 + r
   ·subst h
    have q1 : (c * 4 + r) / 4 = c:=by omega
    have q2 : (c * 4 + r) % 4 = r:=by omega
    rw [if_pos rfl,if_pos (by omega)]
    unfold UG; rw [q1,q2]
   ·by_cases h3 : i < c * 4 + r
    ·rw [if_neg h,if_pos h3,if_pos (by omega)]
    ·rw [if_neg h,if_neg h3,if_neg (by omega)]) (by
   unfold VN
   simp only [k1]
   simp)
  exact this
 have:=ZY (f:=VV (m : Int) (mf a) (vf 16 f)) (fun c : Nat=>(vf 16 fun i=>if i < c * 4 then UG m a f i else 0,(c : Int))) 0 4 (by omega) (t:=vf 16 (UG m a f)) (fun c _ hc=>by
  unfold VV
  have h2:=inner c hc (vf 16 fun i=>if i < c * 4 then UG m a f i else 0,(c : Int)) rfl
  simp only [lt4 hc,if_true,h2,Option.bind_some,wr4 (show c < 1000 by omega)]) (by
  unfold VV
  have : (vf 16 fun i=>if i < 4 * 4 then UG m a f i else 0) = vf 16 (UG m a f):=Y6 fun i hi=>by rw [if_pos (by omega)]
  simp only [this]
  simp)
 have e0 : (vf 16 fun i=>if i < 0 * 4 then UG m a f i else 0) = vf 16 fun _=>(0 : UInt8):=Y6 fun i _=>by rw [if_neg (by omega)]
 simp only [e0] at this
 have h2 : ZB (VV (m : Int) (mf a) (vf 16 f)) (vf 16 fun _=>(0 : UInt8),0) = _:=this
 rw [TG 16 (0 : UInt8),h2]; rfl

abbrev Tab:=Vector (Vector (Vector UInt8 256) 4) 4
def Bh (m : Nat) (a : MF) : Tab:=vf 4 fun i=>vf 4 fun j=>vf 256 fun x=>ZW m (a i j) (UInt8.ofNat x)
theorem qi (m : Nat) (a : MF) (i j : Nat) (x : UInt8) : ZH (vf 256 fun x=>ZW m (a i j) (UInt8.ofNat x)) (bI x) = some (ZW m (a i j) x):=by
 rw [show bI x = ((x.toNat : Nat) : Int) from rfl,ZP _ (UInt8.toNat_lt x)]
 simp
theorem v_mix (m : Nat) (a : MF) (f : Nat → UInt8) : VK ⟨Bh m a⟩ (vf 16 f) = some (vf 16 (UG m a f)):=by
 unfold VK
 have i0 : ∀ (v : Vector (Vector UInt8 256) 4),ZH v (0 : Int) = v[0]?:=fun v=>Vd v 0
 have i1 : ∀ (v : Vector (Vector UInt8 256) 4),ZH v (1 : Int) = v[1]?:=fun v=>Vd v 1
 have i2 : ∀ (v : Vector (Vector UInt8 256) 4),ZH v (2 : Int) = v[2]?:=fun v=>Vd v 2
 have i3 : ∀ (v : Vector (Vector UInt8 256) 4),ZH v (3 : Int) = v[3]?:=fun v=>Vd v 3
 have inner : ∀ c : Nat,c < 4 → ∀ s1 : Blk × Int,s1.2 = ((c * 4 : Nat) : Int) → ZB (Wd ⟨Bh m a⟩ s1 (f (c * 4),f (c * 4 + 1),f (c * 4 + 2),f (c * 4 + 3))) (vf 16 (fun i=>if i < c * 4 then UG m a f i else f i),0) = some (vf 16 fun i=>if i < (c + 1) * 4 then UG m a f i else f i):=fun c hc s1 h1=>by
  have k1 : (vf 16 fun i=>if i < c * 4 + 4 then UG m a f i else f i) = vf 16 fun i=>if i < (c + 1) * 4 then UG m a f i else f i:=by rw [show c * 4 + 4 = (c + 1) * 4 by omega]
  have:=ZY (f:=Wd ⟨Bh m a⟩ s1 (f (c * 4),f (c * 4 + 1),f (c * 4 + 2),f (c * 4 + 3))) (fun r : Nat=>(vf 16 fun i=>if i < c * 4 + r then UG m a f i else f i,(r : Int))) 0 4 (by omega) (t:=vf 16 fun i=>if i < (c + 1) * 4 then UG m a f i else f i) (fun r _ hr=>by
   unfold Wd
   have e1 : wr (s1.2 + (r : Int)) = ((c * 4 + r : Nat) : Int):=by rw [h1,YG (by omega)]; omega
   have et : ZH (Bh m a) (r : Int) = some (vf 4 fun j=>vf 256 fun x=>ZW m (a r j) (UInt8.ofNat x)):=ZP _ hr
   simp only [lt4 hr,if_true,et,i0,i1,i2,i3,JT _ (show 0 < 4 by omega),JT _ (show 1 < 4 by omega),JT _ (show 2 < 4 by omega),JT _ (show 3 < 4 by omega),qi,e1,ZP _ (show c * 4 + r < 16 by omega),Option.bind_some,Int.toNat_natCast,TS,wr4 (show r < 1000 by omega)]
   refine congrArg (fun z=>some (Fl.nx (z,((r + 1 : Nat) : Int)))) (Y6 fun i _=>?_)
   by_cases h : i = c * 4 + r
   ·subst h
    have q1 : (c * 4 + r) / 4 = c:=by omega
    have q2 : (c * 4 + r) % 4 = r:=by omega
    rw [if_pos rfl,if_pos (by omega)]
    unfold UG; rw [q1,q2]; rfl
   ·by_cases h3 : i < c * 4 + r
    ·rw [if_neg h,if_pos h3,if_pos (by omega)]
    ·rw [if_neg h,if_neg h3,if_neg (by omega)]) (by
   unfold Wd
   simp only [k1]
   simp)
  exact this
 have:=ZY (f:=X6 ⟨Bh m a⟩) (fun c : Nat=>(vf 16 fun i=>if i < c * 4 then UG m a f i else f i,((c * 4 : Nat) : Int))) 0 4 (by omega) (t:=vf 16 (UG m a f)) (fun c _ hc=>by
  unfold X6
  have hd : decide (((c * 4 : Nat) : Int) < ((vf 16 fun i=>if i < c * 4 then UG m a f i else f i).toList.length : Int)) = true:=by rw [Vector.length_toList]; simp; omega
  have x0:=ZP (n:=16) (fun i=>if i < c * 4 then UG m a f i else f i) (show c * 4 < 16 by omega)
  have x1:=ZP (n:=16) (fun i=>if i < c * 4 then UG m a f i else f i) (show c * 4 + 1 < 16 by omega)
  have x2:=ZP (n:=16) (fun i=>if i < c * 4 then UG m a f i else f i) (show c * 4 + 2 < 16 by omega)
  have x3:=ZP (n:=16) (fun i=>if i < c * 4 then UG m a f i else f i) (show c * 4 + 3 < 16 by omega)
  have w1 : wr (((c * 4 : Nat) : Int) + 1) = ((c * 4 + 1 : Nat) : Int):=by rw [YG (by omega)]; omega
  have w2 : wr (((c * 4 : Nat) : Int) + 2) = ((c * 4 + 2 : Nat) : Int):=by rw [YG (by omega)]; omega
  have w3 : wr (((c * 4 : Nat) : Int) + 3) = ((c * 4 + 3 : Nat) : Int):=by rw [YG (by omega)]; omega
  have w4 : wr (((c * 4 : Nat) : Int) + 4) = (((c + 1) * 4 : Nat) : Int):=by rw [YG (by omega)]; omega
  rw [if_neg (by omega)] at x0 x1 x2 x3
  have h2:=inner c hc (vf 16 fun i=>if i < c * 4 then UG m a f i else f i,((c * 4 : Nat) : Int)) rfl
  simp only [hd,if_true,x0,w1,x1,w2,x2,w3,x3,Option.bind_some,h2,w4]) (by
  unfold X6
  have : (vf 16 fun i=>if i < 4 * 4 then UG m a f i else f i) = vf 16 (UG m a f):=Y6 fun i hi=>by rw [if_pos (by omega)]
  simp only [this]
  simp)
 have e0 : (vf 16 fun i=>if i < 0 * 4 then UG m a f i else f i) = vf 16 f:=Y6 fun i _=>by rw [if_neg (by omega)]
 simp only [e0] at this
 have h2 : ZB (X6 ⟨Bh m a⟩) (vf 16 f,0) = _:=this
 rw [h2]; rfl

def tb (g : Nat → Nat → Nat → UInt8) : Tab:=vf 4 fun i=>vf 4 fun j=>vf 256 (g i j)
theorem HL {g h : Nat → Nat → Nat → UInt8} (e : ∀ i,i < 4 → ∀ j,j < 4 → ∀ x,x < 256 → g i j x = h i j x) : tb g = tb h :=
 Y6 fun i hi=>Y6 fun j hj=>Y6 fun x hx=>e i hi j hj x hx
theorem Zbe (g : Nat → Nat → Nat → UInt8) {i : Nat} (hi : i < 4) : ZH (tb g) (i : Int) = some (vf 4 fun j=>vf 256 (g i j)):=ZP _ hi
theorem Zaj (g : Nat → Nat → Nat → UInt8) (i : Nat) {j : Nat} (hj : j < 4) : ZH (vf 4 fun j=>vf 256 (g i j)) (j : Int) = some (vf 256 (g i j)):=ZP _ hj
theorem tb_set (g : Nat → Nat → Nat → UInt8) (i j : Nat) (h : Nat → UInt8) : (tb g).setIfInBounds i ((vf 4 fun j=>vf 256 (g i j)).setIfInBounds j (vf 256 h)) = tb (fun i' j'=>if i' = i ∧ j' = j then h else g i' j'):=by
 unfold tb
 rw [TS,TS]
 refine Y6 fun i' _=>?_
 by_cases h1 : i' = i
 ·subst h1
  rw [if_pos rfl]
  refine Y6 fun j' _=>?_
  by_cases h2 : j' = j
  ·subst h2; simp
  ·simp [h2]
 ·rw [if_neg h1]
  refine Y6 fun j' _=>?_
  simp [h1]
theorem Za6 (a b : Nat) (ha : a < 9223372036854775808) (hb : b < 9223372036854775808) : orI (a : Int) (b : Int) = ((a ||| b : Nat) : Int):=by
 unfold orI
 rw [BitVec.toNat_or,Hq a ha,Hq b hb]
 have : a ||| b < 2 ^ 63:=Nat.or_lt_two_pow ha hb
 exact YG (by omega)
theorem V1 (n : Nat) : Zy (n : Int) = UInt8.ofNat n:=by
 unfold Zy
 have : ((n : Int) % 256).toNat = n % 256:=by omega
 rw [this]
 apply UInt8.toNat_inj.1
 simp
theorem Zbi (g : Nat → Nat → Nat → UInt8) (i j : Nat) (h : Nat → UInt8) : (tb g).setIfInBounds i (vf 4 fun j'=>if j' = j then vf 256 h else vf 256 (g i j')) = tb (fun i' j'=>if i' = i ∧ j' = j then h else g i' j'):=by
 have:=tb_set g i j h
 rw [TS] at this
 exact this
theorem qA {p low : Nat} (h : low < 2 ^ p) : 2 ^ p ||| low = 2 ^ p + low:=by
 have:=Nat.two_pow_add_eq_or_of_lt h 1
 simpa using this.symm
theorem Zal {p low : Nat} (hp : p < 8) (h : low < 2 ^ p) : UInt8.ofNat (2 ^ p + low) = UInt8.ofNat (2 ^ p) ^^^ UInt8.ofNat low:=by
 apply UInt8.toNat_inj.1
 have h7 : 2 ^ p ≤ 2 ^ 7:=Nat.pow_le_pow_right (by omega) (by omega)
 rw [UInt8.toNat_xor]
 simp only [UInt8.toNat_ofNat']
 rw [Nat.mod_eq_of_lt (by omega),Nat.mod_eq_of_lt (by omega),Nat.mod_eq_of_lt (by omega)]
 rw [← qA h]
 apply Nat.eq_of_testBit_eq
 intro i
 rw [Nat.testBit_or,Nat.testBit_xor,Nat.testBit_two_pow]
 by_cases hi : p = i
 ·subst hi
  rw [Nat.testBit_lt_two_pow h]; simp
 ·simp [hi]
section
variable (m : Nat) (hm : m < 512) (hm2 : 256 ≤ m) (a : MF)
include hm hm2
def Kx (m : Nat) (a : MF) (i j n : Nat) (g : Nat → Nat → Nat → UInt8) : Nat → Nat → Nat → UInt8:=fun i' j'=>if i' = i ∧ j' = j then (fun x=>if x < n then ZW m (a i j) (UInt8.ofNat x) else 0) else g i' j'
theorem qs (i j p : Nat) (hi : i < 4) (hj : j < 4) (hp : p < 8) (g : Nat → Nat → Nat → UInt8) (s0 s1 s2 : Tab × Int) (h0 : s0.2 = (i : Int)) (h1 : s1.2 = (j : Int)) (h2 : s2.2 = ((2 ^ p : Nat) : Int)) :
  ZB (WF s0 s1 s2 (ZW m (a i j) (UInt8.ofNat (2 ^ p)))) (tb (Kx m a i j (2 ^ p) g),0) = some (tb (Kx m a i j (2 ^ (p + 1)) g)):=by
 have h7 : 2 ^ p ≤ 2 ^ 7:=Nat.pow_le_pow_right (by omega) (by omega)
 have k1 : 2 ^ p + 2 ^ p = 2 ^ (p + 1):=by rw [Nat.pow_succ]; omega
 have:=ZY (f:=WF s0 s1 s2 (ZW m (a i j) (UInt8.ofNat (2 ^ p)))) (fun low : Nat=>(tb (Kx m a i j (2 ^ p + low) g),(low : Int))) 0 (2 ^ p) (Nat.zero_le _) (t:=tb (Kx m a i j (2 ^ (p + 1)) g)) (fun low _ hl=>by
  unfold WF
  have hd : decide ((low : Int) < ((2 ^ p : Nat) : Int)) = true:=by simp only [decide_eq_true_eq]; omega
  have ho : orI ((2 ^ p : Nat) : Int) (low : Int) = ((2 ^ p + low : Nat) : Int):=by rw [Za6 _ _ (by omega) (by omega),qA hl]
  have eg : Kx m a i j (2 ^ p + low) g i j = fun x=>if x < 2 ^ p + low then ZW m (a i j) (UInt8.ofNat x) else 0:=by simp [Kx]
  simp only [h0,h1,h2,hd,if_true,Zbe _ hi,Zaj _ i hj,eg,ZP _ (show low < 256 by omega),ho,ZP _ (show 2 ^ p + low < 256 by omega),Option.bind_some,Int.toNat_natCast,TS,XB (show low < 9223372036854775807 by omega)]
  rw [if_pos (show low < 2 ^ p + low from Nat.lt_add_of_pos_left (Nat.two_pow_pos p)),← jb hm2 hm,← Zal hp hl]
  have:=Zbi (Kx m a i j (2 ^ p + low) g) i j (fun x=>if x = 2 ^ p + low then ZW m (a i j) (UInt8.ofNat (2 ^ p + low)) else if x < 2 ^ p + low then ZW m (a i j) (UInt8.ofNat x) else 0)
  rw [this]
  refine congrArg (fun z=>some (Fl.nx (z,((low + 1 : Nat) : Int)))) (HL fun i' _ j' _ x _=>?_)
  unfold Kx
  by_cases h : i' = i ∧ j' = j
  ·simp only [h,and_self,if_true]
   by_cases hx : x = 2 ^ p + low
   ·subst hx; simp
   ·by_cases hx2 : x < 2 ^ p + low
    ·rw [if_neg hx,if_pos hx2,if_pos (by omega)]
    ·rw [if_neg hx,if_neg hx2,if_neg (by omega)]
  ·simp only [h,if_false]) (by
  unfold WF
  simp only [h2,k1]
  simp)
 exact this
theorem qd (i j : Nat) (hi : i < 4) (hj : j < 4) (g : Nat → Nat → Nat → UInt8) (s0 s1 : Tab × Int) (h0 : s0.2 = (i : Int)) (h1 : s1.2 = (j : Int)) :
  ZB (WB (m : Int) s0 s1 (a i j)) (tb (Kx m a i j 1 g),1) = some (tb (Kx m a i j 256 g)):=by
 have:=ZY (f:=WB (m : Int) s0 s1 (a i j)) (fun p : Nat=>(tb (Kx m a i j (2 ^ p) g),((2 ^ p : Nat) : Int))) 0 8 (by omega) (t:=tb (Kx m a i j 256 g)) (fun p _ hp=>by
  unfold WB
  have h7 : 2 ^ p ≤ 2 ^ 7:=Nat.pow_le_pow_right (by omega) (by omega)
  have hd : decide (((2 ^ p : Nat) : Int) < 256) = true:=by simp only [decide_eq_true_eq]; omega
  have hb : Zy ((2 ^ p : Nat) : Int) = UInt8.ofNat (2 ^ p):=by rw [V1]
  have hw : wr (((2 ^ p : Nat) : Int) * 2) = ((2 ^ (p + 1) : Nat) : Int):=by
   rw [Nat.pow_succ]
   generalize 2 ^ p = q at h7 ⊢
   rw [YG (by omega)]; omega
  have h3:=qs m hm hm2 a i j p hi hj hp g s0 s1 (tb (Kx m a i j (2 ^ p) g),((2 ^ p : Nat) : Int)) h0 h1 rfl
  simp only [hd,if_true,hb,Tq m hm,Option.bind_some,h3,hw]) (by unfold WB; simp)
 exact this
theorem As (A : Mat) (hA : A = mf a) : W6 (m : Int) A = some ⟨Bh m a⟩:=by
 subst hA
 unfold W6
 let G : Nat → Nat → Nat → Nat → Nat → UInt8:=fun r c i j x=>if i < r ∨ (i = r ∧ j < c) then ZW m (a i j) (UInt8.ofNat x) else 0
 have hGt : ∀ r c i j x,(i < r ∨ (i = r ∧ j < c)) → G r c i j x = ZW m (a i j) (UInt8.ofNat x):=fun r c i j x h=>if_pos h
 have hGf : ∀ r c i j x,¬ (i < r ∨ (i = r ∧ j < c)) → G r c i j x = 0:=fun r c i j x h=>if_neg h
 have hGe : ∀ r c r' c' i j x,((i < r ∨ (i = r ∧ j < c)) ↔ (i < r' ∨ (i = r' ∧ j < c'))) → G r c i j x = G r' c' i j x:=fun r c r' c' i j x h=>by show (if _ then _ else _) = (if _ then _ else _); simp only [h]
 have z0 : ∀ i j,ZW m (a i j) (UInt8.ofNat 0) = 0:=fun i j=>by rw [Q2 hm2 hm]; exact Jz hm2 hm _
 have col : ∀ r : Nat,r < 4 → ∀ s0 : Tab × Int,s0.2 = (r : Int) → ZB (WJ (m : Int) s0 (vf 4 (a r))) (tb (G r 0),0) = some (tb (G (r + 1) 0)):=fun r hr s0 h0=>by
  have k1 : tb (G r 4) = tb (G (r + 1) 0):=HL fun i hi j hj x _=>by
   exact hGe _ _ _ _ _ _ _ (by omega)
  have:=ZY (f:=WJ (m : Int) s0 (vf 4 (a r))) (fun c : Nat=>(tb (G r c),(c : Int))) 0 4 (by omega) (t:=tb (G (r + 1) 0)) (fun c _ hc=>by
   unfold WJ
   have e1 : tb (G r c) = tb (Kx m a r c 1 (G r c)):=HL fun i _ j _ x _=>by
    unfold Kx
    by_cases h : i = r ∧ j = c
    ·obtain ⟨rfl,rfl⟩:=h
     simp only [and_self,if_true]
     rw [hGf _ _ _ _ _ (by omega)]
     by_cases hx : x < 1
     ·have : x = 0:=by omega
      subst this; rw [if_pos hx,z0]
     ·rw [if_neg hx]
    ·simp only [h,if_false]
   have e2 : tb (Kx m a r c 256 (G r c)) = tb (G r (c + 1)):=HL fun i _ j _ x hx=>by
    unfold Kx
    by_cases h : i = r ∧ j = c
    ·obtain ⟨rfl,rfl⟩:=h
     simp only [and_self,if_true,hx]
     rw [hGt _ _ _ _ _ (by omega)]
    ·simp only [h,if_false]
     exact hGe _ _ _ _ _ _ _ (by omega)
   have h3:=qd m hm hm2 a r c hr hc (G r c) s0 (tb (G r c),(c : Int)) h0 rfl
   rw [← e1,e2] at h3
   simp only [lt4 hc,if_true,ZP _ hc,h3,Option.bind_some,wr4 (show c < 1000 by omega)]) (by
   unfold WJ
   simp only [k1]
   simp)
  exact this
 have kz : tb (G 0 0) = Vector.replicate 4 (Vector.replicate 4 (Vector.replicate 256 (0 : UInt8))):=by
  rw [TG 256 (0 : UInt8),TG 4,TG 4]
  exact HL fun i _ j _ x _=>by
   exact hGf _ _ _ _ _ (by omega)
 have k4 : tb (G 4 0) = Bh m a:=HL fun i hi j _ x _=>by
  exact hGt _ _ _ _ _ (by omega)
 have:=ZY (f:=WI (m : Int) (mf a)) (fun r : Nat=>(tb (G r 0),(r : Int))) 0 4 (by omega) (t:=Bh m a) (fun r _ hr=>by
  unfold WI
  have h3:=col r hr (tb (G r 0),(r : Int)) rfl
  simp only [lt4 hr,if_true,U8 _ hr,h3,Option.bind_some,wr4 (show r < 1000 by omega)]) (by
  unfold WI
  simp only [k4]
  simp)
 have h2 : ZB (WI (m : Int) (mf a)) (tb (G 0 0),0) = _:=this
 rw [← kz,h2]; rfl
end

def Ak (n : Nat) (p : Vector UInt8 n) : Nat → Vector UInt8 n
 | 0=>Vector.replicate n 0
 | i + 1=>(Ak n p i).setIfInBounds (p.toList.getD i 0).toNat (Zy (i : Int))
theorem AD (p : Vector UInt8 256) : WM p = some (Ak 256 p 256):=by
 unfold WM
 have:=ZY (f:=Xv p) (fun i : Nat=>(Ak 256 p i,(i : Int))) 0 256 (by omega) (t:=Ak 256 p 256) (fun i _ hi=>by
  unfold Xv
  have hd : decide ((i : Int) < 256) = true:=by simp; omega
  simp only [hd,if_true,zj p hi,Q3,Option.bind_some,yG,XB (show i < 9223372036854775807 by omega)]
  rfl) (by unfold Xv; simp)
 have h2 : ZB (Xv p) (Vector.replicate 256 0,0) = _:=this
 rw [h2]; rfl
theorem Zau (p : Blk) {i : Nat} (h : i < 16) : p.toList.getD i 0 = bf p i:=by
 have h1:=zj p h
 rw [Hl p h] at h1
 exact (Option.some.inj h1).symm
theorem Ht (p : Blk) (hp : Qj p = true) : XG p = some (Ak 16 p 16):=by
 unfold XG
 have:=ZY (f:=YU p) (fun i : Nat=>(Ak 16 p i,(i : Int))) 0 16 (by omega) (t:=Ak 16 p 16) (fun i _ hi=>by
  unfold YU
  have hlt:=Hp hp hi
  have hv : ZH (Ak 16 p i) (bI (bf p i)) = some (bf (Ak 16 p i) (bf p i).toNat):=Hl _ hlt
  simp only [Hb hi,if_true,Hl p hi,hv,Option.bind_some,yG,XB (show i < 9223372036854775807 by omega)]
  rw [← Zau p hi]
  rfl) (by unfold YU; simp)
 have h2 : ZB (YU p) (Vector.replicate 16 0,0) = _:=this
 rw [h2]; rfl

def Y5 (c : GCipher) : Gengine:=⟨c.Box,Ak 256 c.Box 256,c.Places,Ak 16 c.Places 16,⟨Bh c.Field.toNat (Ba c.Mix)⟩,⟨Bh c.Field.toNat (Ba (invM c.Field.toNat c.Mix))⟩,c.Rounds⟩
theorem QK {c : GCipher} (h : YJ c = true) : Qj c.Places = true:=by
 unfold YJ at h
 simp only [Bool.and_eq_true] at h
 exact h.1.1.2
theorem KX {c : GCipher} (h : YJ c = true) : 1 ≤ c.Rounds ∧ c.Rounds ≤ 20:=by
 unfold YJ at h
 simp only [Bool.and_eq_true,decide_eq_true_eq] at h
 exact h.1.2
theorem yV (c : GCipher) (h : YJ c = true) : VG c = some ⟨Y5 c⟩:=by
 obtain ⟨m,hm,h1,h2⟩:=JN h
 have e : c.Field.toNat = m:=by omega
 unfold VG Y5
 rw [e]
 simp only [hm,qF m h2 h1,Option.bind_some,AD,Ht _ (QK h),As m h2 h1 (Ba c.Mix) c.Mix (Bw _),As m h2 h1 (Ba (invM m c.Mix)) (invM m c.Mix) (Bw _)]

def Am (c : GCipher) (n r : Nat) (k f : Nat → UInt8) : Nat → UInt8 :=
 JJ (if r < n then UG c.Field.toNat (Ba c.Mix) (K3 c.Places (Ac c.Box f)) else K3 c.Places (Ac c.Box f)) k
def Hu (c : GCipher) (k f : Nat → UInt8) (n : Nat) : Nat → Nat → UInt8
 | 0=>JJ f k
 | r + 1=>Am c n (r + 1) (zJ c.Box k (r + 1)) (Hu c k f n r)
def z6 (c : GCipher) (k f : Nat → UInt8) (n : Nat) : Nat → UInt8:=Hu c k f n n
theorem AB (c : GCipher) (h : YJ c = true) (k f : Nat → UInt8) (n : Nat) (hn : n ≤ 1000) : Y8 c (vf 16 k) (vf 16 f) (n : Int) = some (vf 16 (z6 c k f n)):=by
 obtain ⟨m,hm,h1,h2⟩:=JN h
 have e : c.Field.toNat = m:=by omega
 have hp:=QK h
 unfold Y8
 have i0 : idx (Us c.Box k n) (0 : Int) = some (vf 16 k):=J6 c.Box k (Nat.zero_le n)
 simp only [kV c k n hn,Option.bind_some,i0,JG]
 have:=ZY (f:=Xt c (n : Int) (Us c.Box k n)) (fun i : Nat=>(vf 16 (Hu c k f n (i - 1)),(i : Int))) 1 (n + 1) (by omega) (t:=vf 16 (z6 c k f n)) (fun i hi1 hi=>by
  unfold Xt
  obtain ⟨r,rfl⟩ : ∃ q,i = q + 1:=⟨i - 1,by omega⟩
  have e1 : decide (((r + 1 : Nat) : Int) ≤ (n : Int)) = true:=by simp only [decide_eq_true_eq]; omega
  have Y4:=qj m h2 h1 (Ba c.Mix) (K3 c.Places (Ac c.Box (Hu c k f n r)))
  rw [← Bw] at Y4
  simp only [Nat.add_sub_cancel,e1,if_true,jD,Option.bind_some,kC c.Places hp,hm,Y4,J6 c.Box k (show r + 1 ≤ n by omega),XB (show r + 1 < 9223372036854775807 by omega)]
  by_cases hr : r + 1 < n
  ·have e2 : decide (((r + 1 : Nat) : Int) < (n : Int)) = true:=by simp only [decide_eq_true_eq]; omega
   simp only [e2,if_true,Option.bind_some,JG,Hu,Am,hr,e]
  ·have e2 : decide (((r + 1 : Nat) : Int) < (n : Int)) = false:=by simp only [decide_eq_false_iff_not]; omega
   simp only [e2,Bool.false_eq_true,if_false,Option.bind_some,JG,Hu,Am,hr]) (by
  unfold Xt
  have e1 : decide (((n + 1 : Nat) : Int) ≤ (n : Int)) = false:=by simp only [decide_eq_false_iff_not]; omega
  simp only [e1,Bool.false_eq_true,if_false,Nat.add_sub_cancel,z6])
 have h3 : ZB (Xt c (n : Int) (Us c.Box k n)) (vf 16 (JJ f k),1) = _:=this
 rw [h3]; rfl
theorem je (e : Ref Gengine) (s : Blk × Int) (f : Nat → UInt8) (hs : s.1 = vf 16 f) : ZB (Yo e s) (vf 16 f,0) = some (vf 16 (Ac e.v.box f)):=by
 have:=WL (Yo e s) f (Ac e.v.box f) (by omega) 0 (by omega) (fun j hj=>by omega) (fun i _ hi a _ ha=>by
  unfold Yo
  simp only [hs,Hb hi,if_true,ZP _ hi,Option.bind_some,Int.toNat_natCast,Q3,Ac]) (fun v=>by unfold Yo; simp)
 exact this
theorem B6 (c : GCipher) (h : YJ c = true) (k f : Nat → UInt8) (n : Nat) (hn : n ≤ 1000) : YR ⟨Y5 c⟩ (Us c.Box k n) (vf 16 f) = some (vf 16 (z6 c k f n)):=by
 have hp:=QK h
 unfold YR
 have i0 : idx (Us c.Box k n) (0 : Int) = some (vf 16 k):=J6 c.Box k (Nat.zero_le n)
 simp only [Option.bind_some,i0,TJ]
 have:=ZY (f:=Yn ⟨Y5 c⟩ (Us c.Box k n)) (fun i : Nat=>(vf 16 (Hu c k f n (i - 1)),(i : Int))) 1 (n + 1) (by omega) (t:=vf 16 (z6 c k f n)) (fun i hi1 hi=>by
  unfold Yn
  obtain ⟨r,rfl⟩ : ∃ q,i = q + 1:=⟨i - 1,by omega⟩
  have e1 : decide (((r + 1 : Nat) : Int) < ((Us c.Box k n).length : Int)) = true:=by rw [KE]; simp only [decide_eq_true_eq]; omega
  have e3 : wr (((Us c.Box k n).length : Int) - 1) = (n : Int):=by rw [KE,YG (by omega)]; omega
  have hb:=je ⟨Y5 c⟩ (vf 16 (Hu c k f n r),((r + 1 : Nat) : Int)) (Hu c k f n r) rfl
  have hmv:=v_move c.Places hp (Ac c.Box (Hu c k f n r))
  have Y4:=v_mix c.Field.toNat (Ba c.Mix) (K3 c.Places (Ac c.Box (Hu c k f n r)))
  have hsl : ∀ g : Nat → UInt8,slc (vf 16 g).toList (0 : Int) (16 : Int) = some (vf 16 g).toList:=fun g=>by
   have:=zp (l:=(vf 16 g).toList) (i:=0) (j:=16) (by omega) (by simp)
   simp only [List.drop_zero] at this
   rw [List.take_of_length_le (by simp)] at this
   exact this
  have q1 : (Y5 c).box = c.Box:=rfl
  have q2 : (Y5 c).places = c.Places:=rfl
  have q3 : (Y5 c).mixer = ⟨Bh c.Field.toNat (Ba c.Mix)⟩:=rfl
  simp only [q1] at hb
  simp only [Nat.add_sub_cancel,e1,if_true,hb,Option.bind_some,q2,q3,hmv,e3,hsl,Y4,J6 c.Box k (show r + 1 ≤ n by omega),XB (show r + 1 < 9223372036854775807 by omega)]
  by_cases hr : r + 1 < n
  ·have e2 : decide (((r + 1 : Nat) : Int) < (n : Int)) = true:=by simp only [decide_eq_true_eq]; omega
   simp only [e2,if_true,Option.bind_some,TJ,Hu,Am,hr]
  ·have e2 : decide (((r + 1 : Nat) : Int) < (n : Int)) = false:=by simp only [decide_eq_false_iff_not]; omega
   simp only [e2,Bool.false_eq_true,if_false,Option.bind_some,TJ,Hu,Am,hr]) (by
  unfold Yn
  have e1 : decide (((n + 1 : Nat) : Int) < ((Us c.Box k n).length : Int)) = false:=by rw [KE]; simp only [decide_eq_false_iff_not]; omega
  simp only [e1,Bool.false_eq_true,if_false,Nat.add_sub_cancel,z6])
 have h3 : ZB (Yn ⟨Y5 c⟩ (Us c.Box k n)) (vf 16 (JJ f k),1) = _:=this
 rw [h3]; rfl
theorem JZ (c : GCipher) (h : YJ c = true) (k f : Nat → UInt8) : YA ⟨Y5 c⟩ (vf 16 k) (vf 16 f) = some (vf 16 (z6 c k f c.Rounds.toNat)):=by
 have hr:=KX h
 obtain ⟨n,hn⟩ : ∃ n : Nat,c.Rounds = n:=⟨c.Rounds.toNat,by omega⟩
 have e1 : (Y5 c).rounds = (n : Int):=hn
 have e2 : (Y5 c).box = c.Box:=rfl
 have hk:=v_keys ⟨Y5 c⟩ k n (by omega)
 rw [e2] at hk
 unfold YA
 simp only [e1,hk,Option.bind_some,B6 c h k f n (by omega),hn,Int.toNat_natCast]
theorem Hd (c : GCipher) (h : YJ c = true) (k f : Nat → UInt8) : Y8 c (vf 16 k) (vf 16 f) c.Rounds = some (vf 16 (z6 c k f c.Rounds.toNat)):=by
 have hr:=KX h
 obtain ⟨n,hn⟩ : ∃ n : Nat,c.Rounds = n:=⟨c.Rounds.toNat,by omega⟩
 rw [hn]
 exact AB c h k f n (by omega)
theorem kH (x : Nat) : UInt8.ofNat (x % 256) = UInt8.ofNat x:=by
 apply UInt8.toNat_inj.1; simp
def tab (n : Nat) (f : Nat → UInt8) : List UInt8:=(List.range n).map f
@[simp] theorem tab_len (n : Nat) (f : Nat → UInt8) : (tab n f).length = n:=by simp [tab]
theorem qx {α : Type} (by_ : Nat) (z : α) (n : Nat) (h : n * by_ ≤ 140737488355328) (hby : 0 < by_) :
  ((if (decide ((n : Int) < 0)) = true then (none) else (some ()) : Option (Unit)).bind fun (_ : Unit)=>(if (decide ((wr ((n : Int) - (wr (0 - 0)))) > 0)) = true then ((mkS by_ z (wr ((n : Int) - (wr (0 - 0))))).bind fun (l14 : List α)=>(slc l14 (0 : Int) (0 : Int)).bind fun (l16 : List α)=>some l16) else (some ([])) : Option (List α)).bind fun (j6 : List α)=>some j6) = some []:=by
 have hn : n ≤ 140737488355328:=Nat.le_trans (Nat.le_mul_of_pos_right _ hby) h
 have e0 : wr (0 - 0) = 0:=by decide
 have e1 : wr ((n : Int) - (wr (0 - 0))) = (n : Int):=by rw [e0,YG (by omega)]; omega
 have e2 : ¬ ((n : Int) < 0):=by omega
 rw [e1]
 simp only [e2,decide_false,Bool.false_eq_true,if_false,Option.bind_some]
 by_cases h3 : (n : Int) > 0
 ·have hm : mkS by_ z (n : Int) = some (List.replicate n z):=by
   have h4 : ((n * by_ : Nat) : Int) ≤ 140737488355328:=by omega
   rw [Int.natCast_mul] at h4
   unfold mkS
   rw [if_pos ⟨by omega,h4⟩,Int.toNat_natCast]
  have hs : slc (List.replicate n z) (0 : Int) (0 : Int) = some []:=by
   have:=zp (l:=List.replicate n z) (i:=0) (j:=0) (Nat.le_refl _) (Nat.zero_le _)
   simpa using this
  simp [h3,hm,hs]
 ·have h4 : decide ((n : Int) > 0) = false:=by simp only [decide_eq_false_iff_not]; exact h3
  simp only [h4,Bool.false_eq_true,if_false,Option.bind_some]
theorem zP {α : Type} (by_ : Nat) (p0 : List (List α)) (L0 : Int × Int → Option (Fl (Int × Int) Int)) (L1 : Int × List α → Option (Fl (Int × List α) (List α)))
  (h0 : ∀ s,L0 s = if (decide (s.1 < (p0.length : Int))) = true then (((idx p0 s.1).bind fun (x : List α)=>(if (decide ((wr (s.2 + (x.length : Int))) < 0)) = true then (none) else (some ()) : Option (Unit)).bind fun (_ : Unit)=>some (wr (s.2 + (x.length : Int))) : Option (Int)).bind fun (j : Int)=>some (Fl.nx (wr (s.1 + 1),j))) else (some (Fl.ex s.2)))
  (h1 : ∀ s,L1 s = if (decide (s.1 < (p0.length : Int))) = true then ((idx p0 s.1).bind fun (x : List α)=>(app by_ s.2 x).bind fun (_ : List α)=>some (Fl.nx (wr (s.1 + 1),(s.2 ++ x)))) else (some (Fl.ex s.2)))
  (hl : p0.flatten.length * by_ ≤ 140737488355328) (hby : 0 < by_) (hn : p0.length < 9223372036854775807) :
  ZB L0 (0,0) = some (p0.flatten.length : Int) ∧ ZB L1 (0,[]) = some p0.flatten:=by
 have hlen : p0.flatten.length ≤ 140737488355328:=Nat.le_trans (Nat.le_mul_of_pos_right _ hby) hl
 have hstep : ∀ i (hi : i < p0.length),(p0.take (i + 1)).flatten = (p0.take i).flatten ++ p0[i]:=fun i hi=>by
  rw [List.take_succ_eq_append_getElem hi,List.flatten_append]; simp
 have hle : ∀ i,(p0.take i).flatten.length ≤ p0.flatten.length:=fun i=>by
  have : p0.flatten = (p0.take i).flatten ++ (p0.drop i).flatten:=by rw [← List.flatten_append,List.take_append_drop]
  rw [this,List.length_append]; omega
 constructor
 ·have:=ZY (f:=L0) (fun i : Nat=>((i : Int),((p0.take i).flatten.length : Int))) 0 p0.length (Nat.zero_le _) (t:=(p0.flatten.length : Int)) (fun i _ hi=>by
   have hs:=congrArg List.length (hstep i hi)
   rw [List.length_append] at hs
   have h3:=hle (i + 1)
   have e1 : wr (((p0.take i).flatten.length : Int) + (p0[i].length : Int)) = ((p0.take (i + 1)).flatten.length : Int):=by rw [YG (by omega)]; omega
   have e2 : ¬ (((p0.take (i + 1)).flatten.length : Int) < 0):=by omega
   rw [h0]
   simp only [Int.ofNat_lt,hi,decide_true,if_true,YB,List.getElem?_eq_getElem hi,Option.bind_some,e1,e2,decide_false,Bool.false_eq_true,if_false,XB (show i < 9223372036854775807 by omega)]) (by
   rw [h0]; simp)
  exact this
 ·have:=ZY (f:=L1) (fun i : Nat=>((i : Int),(p0.take i).flatten)) 0 p0.length (Nat.zero_le _) (t:=p0.flatten) (fun i _ hi=>by
   have hs:=congrArg List.length (hstep i hi)
   rw [List.length_append] at hs
   have h3:=hle (i + 1)
   have hap : app by_ (p0.take i).flatten p0[i] = some ((p0.take i).flatten ++ p0[i]):=XN (by
    have : ((p0.take i).flatten.length + p0[i].length) * by_ ≤ p0.flatten.length * by_:=Nat.mul_le_mul_right _ (by omega)
    omega)
   rw [h1]
   simp only [Int.ofNat_lt,hi,decide_true,if_true,YB,List.getElem?_eq_getElem hi,Option.bind_some,hap,XB (show i < 9223372036854775807 by omega),hstep i hi]) (by
   rw [h1]; simp)
  exact this
def K7 (k : Nat) (b : UInt8) : UInt8:=shlB b (k : Int) ||| BH b ((8 - k : Nat) : Int)
theorem v_rot1 (b : UInt8) : Yg b 1 = some (K7 1 b):=by
 have e1 : wru (BitVec.ofInt 64 (IntKind.u64.wrap 1) &&& BitVec.ofInt 64 7).toNat = 1:=by decide +kernel
 have e2 : IntKind.u64.wrap (8 - 1) = 7:=by decide +kernel
 have e3 : Xk 1 = some ():=rfl
 have e4 : Xk 7 = some ():=rfl
 unfold Yg
 simp only [e1,e2,e3,e4,Option.bind_some]
 rfl
theorem v_rot4 (b : UInt8) : Yg b 4 = some (K7 4 b):=by
 have e1 : wru (BitVec.ofInt 64 (IntKind.u64.wrap 4) &&& BitVec.ofInt 64 7).toNat = 4:=by decide +kernel
 have e2 : IntKind.u64.wrap (8 - 4) = 4:=by decide +kernel
 have e3 : Xk 4 = some ():=rfl
 unfold Yg
 simp only [e1,e2,e3,Option.bind_some]
 rfl
def Aj (k : Nat) (b : UInt8) : UInt8:=Zy (Qn (orI (AG (bI b) (k : Int)) (Tm (AG (bI b) (k : Int)) 8)) 255)
theorem B4 {p : UInt8 → Bool} (h : ((List.range 256).all fun n=>p (UInt8.ofNat n)) = true) (b : UInt8) : p b = true:=by
 have:=List.all_eq_true.1 h b.toNat (by simpa using UInt8.toNat_lt b)
 simpa using this
theorem turn0 (b : UInt8) : Aj 0 b = b:=by
 have:=B4 (p:=fun b=>Aj 0 b == b) (by decide +kernel) b
 simpa using this
theorem turn1 (b : UInt8) : Aj 1 b = K7 1 b:=by
 have:=B4 (p:=fun b=>Aj 1 b == K7 1 b) (by decide +kernel) b
 simpa using this
theorem turn4 (b : UInt8) : Aj 4 b = K7 4 b:=by
 have:=B4 (p:=fun b=>Aj 4 b == K7 4 b) (by decide +kernel) b
 simpa using this
theorem jv (b : UInt8) (k : Nat) (h : k < 64) : XT b (k : Int) = some (Aj k b):=by
 have e1 : IntKind.u64.wrap (k : Int) = (k : Int):=qe k (by omega)
 unfold XT
 rw [e1]
 have e2 : Xk (k : Int) = some ():=by unfold Xk; rw [if_pos (by omega)]
 rw [e2]; rfl
def BP (x : UInt8) : UInt8:=((Qq 285 x ^^^ K7 1 (Qq 285 x)) ^^^ K7 4 (Qq 285 x)) ^^^ 90
def Vs (n : Int) : GCipher:=⟨285,vf 256 fun x=>BP (UInt8.ofNat x),mf fun i j=>Qq 285 (UInt8.ofNat (i ^^^ (4 + j))),vf 16 fun i=>UInt8.ofNat ((13 * i + 4) % 16),n⟩
theorem zB {i : Nat} (h : i < 256) : decide ((i : Int) < 256) = true:=by simp; omega
theorem Bt (L : Vector UInt8 256 × Int → Option (Fl (Vector UInt8 256 × Int) (Vector UInt8 256))) (h : Nat → UInt8) (hL : ∀ i : Nat,i < 256 → ∀ a : Nat → UInt8,L (vf 256 a,(i : Int)) = some (.nx ((vf 256 a).setIfInBounds i (h i),wr ((i : Int) + 1))))
  (he : ∀ v,L (v,256) = some (.ex v)) : ZB L (Vector.replicate 256 0,0) = some (vf 256 h):=by
 rw [TG]
 exact WL L (fun _=>0) h (by omega) 0 (by omega) (fun j hj=>by omega) (fun i _ hi a _ _=>hL i hi a) he
theorem yj (E : UInt8 → Option UInt8) (hE : ∀ a,E a = some (Qq 285 a)) (L1 : Mat × Int → Mat × Int → Option (Fl (Mat × Int) Mat)) (L0 : Mat × Int → Option (Fl (Mat × Int) Mat))
  (h1 : ∀ s t,L1 s t = if (decide (t.2 < 4)) = true then ((E (Zy (HJ s.2 (wr (4 + t.2))))).bind fun r=>(ZH t.1 s.2).bind fun x=>(ZH x t.2).bind fun _=>some (Fl.nx ((t.1.setIfInBounds (s.2).toNat (x.setIfInBounds (t.2).toNat r)),wr (t.2 + 1)))) else (some (Fl.ex t.1)))
  (h0 : ∀ s,L0 s = if (decide (s.2 < 4)) = true then ((ZB (L1 s) (s.1,0) : Option Mat).bind fun j=>some (Fl.nx (j,wr (s.2 + 1)))) else (some (Fl.ex s.1))) :
  ZB L0 (Vector.replicate 4 (Vector.replicate 4 (0 : UInt8)),0) = some (mf fun i j=>Qq 285 (UInt8.ofNat (i ^^^ (4 + j)))):=by
 have inner : ∀ (i : Nat) (hi : i < 4) (g : MF),ZB (L1 (mf g,(i : Int))) (mf g,0) = some (mf fun r c=>if r = i then Qq 285 (UInt8.ofNat (i ^^^ (4 + c))) else g r c):=by
  intro i hi g
  have:=ZY (f:=L1 (mf g,(i : Int))) (fun j : Nat=>(mf fun r c=>if r = i ∧ c < j then Qq 285 (UInt8.ofNat (i ^^^ (4 + c))) else g r c,(j : Int))) 0 4 (by omega) (t:=mf fun r c=>if r = i then Qq 285 (UInt8.ofNat (i ^^^ (4 + c))) else g r c) (fun j _ hj=>by
   have e1 : wr (4 + (j : Int)) = ((4 + j : Nat) : Int):=by rw [YG (by omega)]; omega
   rw [h1]
   simp only [lt4 hj,if_true,e1,KF i (4 + j) (by omega) (by omega),V1,hE,Option.bind_some,U8 _ hi,ZP _ hj,Int.toNat_natCast,TS,Jn,wr4 (show j < 1000 by omega)]
   refine congrArg (fun z=>some (Fl.nx (z,((j + 1 : Nat) : Int)))) (WN fun r _ c _=>?_)
   by_cases hr : r = i
   ·subst hr
    by_cases hc : c = j
    ·subst hc; simp
    ·by_cases hc2 : c < j
     ·simp [hc,hc2,show c < j + 1 by omega]
     ·simp [hc,hc2,show ¬ c < j + 1 by omega]
   ·simp [hr]) (by
   rw [h1]
   simp only [show decide (((4 : Nat) : Int) < 4) = false from rfl,Bool.false_eq_true,if_false]
   refine congrArg (fun z=>some (Fl.ex z)) (WN fun r _ c hc=>?_)
   by_cases hr : r = i <;> simp [hr,hc])
  have e0 : (mf fun r c=>if r = i ∧ c < 0 then Qq 285 (UInt8.ofNat (i ^^^ (4 + c))) else g r c) = mf g:=WN fun r _ c _=>by simp
  simp only [e0] at this
  exact this
 have:=ZY (f:=L0) (fun i : Nat=>(mf fun r c=>if r < i then Qq 285 (UInt8.ofNat (r ^^^ (4 + c))) else 0,(i : Int))) 0 4 (by omega) (t:=mf fun i j=>Qq 285 (UInt8.ofNat (i ^^^ (4 + j)))) (fun i _ hi=>by
  rw [h0]
  simp only [lt4 hi,if_true,inner i hi,Option.bind_some,wr4 (show i < 1000 by omega)]
  refine congrArg (fun z=>some (Fl.nx (z,((i + 1 : Nat) : Int)))) (WN fun r _ c _=>?_)
  by_cases hr : r = i
  ·subst hr; simp
  ·by_cases hc2 : r < i
   ·simp [hr,hc2,show r < i + 1 by omega]
   ·simp [hr,hc2,show ¬ r < i + 1 by omega]) (by
  rw [h0]
  simp only [show decide (((4 : Nat) : Int) < 4) = false from rfl,Bool.false_eq_true,if_false]
  exact congrArg (fun z=>some (Fl.ex z)) (WN fun r hr c hc=>by simp [hr]))
 have e0 : (mf fun r c=>if r < 0 then Qq 285 (UInt8.ofNat (r ^^^ (4 + c))) else 0) = mf fun _ _=>0:=WN fun r _ c _=>by simp
 simp only [e0] at this
 rw [z3]
 exact this
theorem BN (L : Blk × Int → Option (Fl (Blk × Int) Blk))
  (hL : ∀ s,L s = if (decide (s.2 < 16)) = true then ((ZH s.1 s.2).bind fun _=>some (Fl.nx ((s.1.setIfInBounds (s.2).toNat (Zy (Int.tmod (wr ((wr (13 * s.2)) + 4)) 16))),wr (s.2 + 1)))) else (some (Fl.ex s.1))) :
  ZB L (Vector.replicate 16 0,0) = some (vf 16 fun i=>UInt8.ofNat ((13 * i + 4) % 16)):=by
 rw [TG]
 exact WL L (fun _=>0) (fun i=>UInt8.ofNat ((13 * i + 4) % 16)) (by omega) 0 (by omega) (fun j hj=>by omega) (fun i _ hi a _ _=>by
  have e1 : wr (13 * (i : Int)) = 13 * (i : Int):=YG (by omega)
  have e2 : wr (13 * (i : Int) + 4) = ((13 * i + 4 : Nat) : Int):=by rw [YG (by omega)]; omega
  have e3 : Int.tmod ((13 * i + 4 : Nat) : Int) 16 = (((13 * i + 4) % 16 : Nat) : Int):=by rw [Int.tmod_eq_emod_of_nonneg (by omega)]; omega
  rw [hL]
  simp only [Hb hi,if_true,ZP _ hi,Option.bind_some,e1,e2,e3,V1,Int.toNat_natCast]) (fun v=>by rw [hL]; simp)
theorem AF (n : Int) : W1 n = some (Vs n):=by
 have hinv : ∀ a,Yk 285 a = some (Qq 285 a):=fun a=>Kh 285 (by omega) a
 have h1:=Bt Ws (fun x=>BP (UInt8.ofNat x)) (fun i hi a=>by
  unfold Ws
  simp only [zB hi,if_true,V1,hinv,v_rot1,v_rot4,Option.bind_some,ZP _ hi,Int.toNat_natCast]
  rfl) (fun v=>by unfold Ws; simp)
 have h2:=yj (Yk 285) hinv Vx VA (fun s t=>by unfold Vx; rfl) (fun s=>by unfold VA; rfl)
 have h3:=BN VB (fun s=>by unfold VB; rfl)
 unfold W1 Vs
 simp only [h1,h2,h3,Option.bind_some]
theorem Zae (L : UInt8 × UInt8 × Int → Option (Fl (UInt8 × UInt8 × Int) UInt8)) (T : UInt8 → UInt8 → Option UInt8) (hT : ∀ a b,T a b = some (ZW 285 a b))
  (hL : ∀ s,L s = if (decide (s.2.2 > 0)) = true then (((if ((Int.tmod s.2.2 2) == 1) = true then ((T s.1 s.2.1).bind fun r=>some r) else (some s.1) : Option UInt8).bind fun j24=>(T s.2.1 s.2.1).bind fun r32=>some (j24,r32) : Option (UInt8 × UInt8)).bind fun j21=>some (Fl.nx (j21.1,j21.2,wr (Int.tdiv s.2.2 2)))) else (some (Fl.ex s.1))) :
  ∀ (f k : Nat) (a o : UInt8),k < 2 ^ f → f ≤ 62 → ZB L (o,a,(k : Int)) = some (Bg 285 f a k o):=by
 intro f
 induction f with
 | zero =>
  intro k a o hk _
  have : k = 0:=by simpa using hk
  subst this
  exact Wc (by rw [hL]; simp [Bg])
 | succ f ih =>
  intro k a o hk hf
  by_cases h0 : k = 0
  ·subst h0
   exact Wc (by rw [hL]; simp [Bg])
  ·have hlt : k < 9223372036854775808:=Nat.lt_of_lt_of_le hk (Nat.pow_le_pow_right (by omega : 0 < 2) (by omega : f + 1 ≤ 63))
   have hst : L (o,a,(k : Int)) = some (.nx (if k % 2 = 1 then ZW 285 o a else o,ZW 285 a a,((k / 2 : Nat) : Int))):=by
    rw [hL]
    have c1 : (k : Int) > 0:=by omega
    have e3 : ((((k % 2 : Nat) : Int)) == 1) = decide (k % 2 = 1):=by
     rw [Bool.eq_iff_iff,beq_iff_eq,decide_eq_true_eq]; omega
    simp only [c1,decide_true,if_true,qI,qp,hT,e3,Option.bind_some,jQ (k / 2) (by omega)]
    by_cases c2 : k % 2 = 1 <;> simp [c2]
   rw [Wv hst,ih (k / 2) _ _ (by rw [Nat.pow_succ] at hk; omega) (by omega)]
   conv=>rhs; unfold Bg
   rw [if_neg h0]
theorem jm : Ur 285 254 = some (vf 256 fun x=>Qq 285 (UInt8.ofNat x)):=by
 have hp:=Zae (VR 285) (YS 285) (Jq 285 (by omega) (by omega)) (fun s=>by unfold VR; rfl)
 have hp2 : ∀ a,ZB (VR 285) (1,a,254) = some (Qq 285 a):=fun a=>hp 8 254 a 1 (by omega) (by omega)
 have h1:=Bt (VQ 285 254) (fun x=>Qq 285 (UInt8.ofNat x)) (fun i hi a=>by
  unfold VQ
  simp only [zB hi,if_true,V1,hp2,Option.bind_some,ZP _ hi,Int.toNat_natCast]) (fun v=>by unfold VQ; simp)
 unfold Ur
 simp only [h1,Option.bind_some]
def rots (x : UInt8) : UInt8:=((90 ^^^ x) ^^^ K7 1 x) ^^^ K7 4 x
theorem BU : Wm ([0,1,4] : List Int) 90 = some (vf 256 fun x=>rots (UInt8.ofNat x)):=by
 have t0 : ∀ b,XT b 0 = some b:=fun b=>by have:=jv b 0 (by omega); rw [turn0] at this; exact this
 have t1 : ∀ b,XT b 1 = some (K7 1 b):=fun b=>by have:=jv b 1 (by omega); rw [turn1] at this; exact this
 have t4 : ∀ b,XT b 4 = some (K7 4 b):=fun b=>by have:=jv b 4 (by omega); rw [turn4] at this; exact this
 have w1 : wr 1 = 1:=by decide
 have w2 : wr 2 = 2:=by decide
 have w3 : wr 3 = 3:=by decide
 have hin : ∀ (s : Vector UInt8 256 × Int),ZB (Ya [0,1,4] s) (90,0) = some (rots (Zy s.2)):=by
  intro s
  rw [Wv (f:=Ya [0,1,4] s) (s:=(90,0)) (s':=(90 ^^^ Zy s.2,1)) (by unfold Ya; simp [t0,w1,idx])]
  rw [Wv (f:=Ya [0,1,4] s) (s':=((90 ^^^ Zy s.2) ^^^ K7 1 (Zy s.2),2)) (by unfold Ya; simp [t1,w2,idx])]
  rw [Wv (f:=Ya [0,1,4] s) (s':=(((90 ^^^ Zy s.2) ^^^ K7 1 (Zy s.2)) ^^^ K7 4 (Zy s.2),3)) (by unfold Ya; simp [t4,w3,idx])]
  exact Wc (by unfold Ya; simp; rfl)
 have h1:=Bt (XV [0,1,4] 90) (fun x=>rots (UInt8.ofNat x)) (fun i hi a=>by
  unfold XV
  simp only [zB hi,if_true,hin,V1,Option.bind_some,ZP _ hi,Int.toNat_natCast]) (fun v=>by unfold XV; simp)
 unfold Wm
 simp only [h1,Option.bind_some]
theorem kw (f g : Nat → UInt8) : UN (vf 256 f) (vf 256 g) = some (vf 256 fun x=>g (f x).toNat):=by
 have hv : ∀ x : UInt8,ZH (vf 256 g) (bI x) = some (g x.toNat):=fun x=>ZP g (UInt8.toNat_lt x)
 have h1:=Bt (Uj (vf 256 f) (vf 256 g)) (fun x=>g (f x).toNat) (fun i hi a=>by
  unfold Uj
  simp only [zB hi,if_true,Option.bind_some,ZP _ hi,hv,Int.toNat_natCast]) (fun v=>by unfold Uj; simp)
 unfold UN
 simp only [h1,Option.bind_some]
theorem jF (x : UInt8) : rots (UInt8.ofNat (Qq 285 x).toNat) = BP x:=by
 rw [UInt8.ofNat_toNat]
 unfold rots BP
 ac_rfl
theorem jw (n : Int) : Ue n = some (Vs n):=by
 have hinv : ∀ a,Vt 285 a = some (Qq 285 a):=fun a=>qU 285 (by omega) (by omega) a
 have h2:=yj (Vt 285) hinv U3 U7 (fun s t=>by unfold U3; rfl) (fun s=>by unfold U7; rfl)
 have h3:=BN Tb (fun s=>by unfold Tb; rfl)
 unfold Ue Vs
 simp only [jm,BU,kw,jF,h2,h3,Option.bind_some]

theorem BB {α : Type} (n : Nat) (f : Nat → α) : (vf n f).toList = (List.range n).map f:=by
 apply List.ext_getElem
 ·simp
 ·intro i h1 h2
  simp at h1
  rw [Vector.getElem_toList,Kb f h1]; simp
theorem kN : qW ((List.range 256).map fun x=>BP (UInt8.ofNat x)) = true:=by decide +kernel
theorem yH : Qj (vf 16 fun i=>UInt8.ofNat ((13 * i + 4) % 16)) = true:=by
 unfold Qj
 rw [BB]
 decide +kernel
theorem yc : J1 285 = true:=by decide +kernel
theorem kO : (detC 285 (mf fun i j=>Qq 285 (UInt8.ofNat (i ^^^ (4 + j)))) != 0) = true:=by decide +kernel
theorem ys (n : Int) (h : 1 ≤ n ∧ n ≤ 20) : YJ (Vs n) = true:=by
 unfold YJ Vs
 simp only [BB,kN,yH,yc,Bool.true_and,h,decide_true,Bool.and_true,and_self]
 exact kO
theorem JL (p0 : List (List UInt8)) (hl : p0.flatten.length ≤ 140737488355328) (hn : p0.length < 9223372036854775807) : Z1 p0 = some p0.flatten:=by
 obtain ⟨a1,a2⟩:=zP 1 p0 (Xo p0) (Xp p0) (fun s=>by unfold Xo; rfl) (fun s=>by unfold Xp; rfl) (by omega) (by omega) hn
 have hg : YH (p0.flatten.length : Int) = some []:=by
  unfold YH
  exact qx 1 _ _ (by omega) (by omega)
 unfold Z1
 simp only [a1,a2,hg,Option.bind_some]
theorem Kz (l : List UInt8) (h : l.length ≤ 140737488355328) : Yl l = some l:=by
 unfold Yl
 rw [XN (by simp; omega)]; rfl
theorem HI (l : List UInt8) (h : l.length ≤ 140737488355328) : WW l = some l:=by
 unfold WW
 rw [XN (by simp; omega)]; rfl
theorem Af {l : List UInt8} {n : Nat} (h : n ≤ l.length) : Qx n l = some (vf n fun j=>l.getD j 0):=by
 unfold Qx
 rw [dif_pos h]
 refine congrArg some (TP fun i hi=>?_)
 rw [Kb _ hi,List.getD_eq_getElem?_getD,List.getElem?_eq_getElem (by omega)]
 simp
theorem yh {l : List UInt8} {i j : Nat} (h : i ≤ j) (h2 : j ≤ l.length) : ∃ r,slc l (i : Int) (j : Int) = some r ∧ r.length = j - i ∧ ∀ k,k < j - i → r.getD k 0 = l.getD (i + k) 0:=by
 refine ⟨_,zp h h2,by simp; omega,fun k hk=>?_⟩
 rw [List.getD_eq_getElem?_getD,List.getD_eq_getElem?_getD,List.getElem?_drop,List.getElem?_take,if_pos (by omega)]

def beL (n : Int) : Nat → List UInt8
 | 0=>[]
 | k + 1=>Zy (Tm n ((8 * k : Nat) : Int)) :: beL n k
theorem Kd (n : Int) : ∀ k,(beL n k).length = k
 | 0=>rfl
 | k + 1=>by rw [beL,List.length_cons,Kd n k]
theorem jN (n : Int) (L : List UInt8 × Int → Option (Fl (List UInt8 × Int) (List UInt8))) (K : Nat)
  (hL : ∀ (k : Nat) (acc : List UInt8),k < K → acc.length ≤ 100000000 → L (acc,(k : Int)) = some (.nx (acc ++ [Zy (Tm n ((8 * k : Nat) : Int))],(k : Int) - 1))) (he : ∀ acc,L (acc,-1) = some (.ex acc)) :
  ∀ (k : Nat) (acc : List UInt8),k ≤ K → acc.length + k ≤ 100000000 → ZB L (acc,(k : Int) - 1) = some (acc ++ beL n k):=by
 intro k
 induction k with
 | zero=>intro acc _ _; rw [show ((0 : Nat) : Int) - 1 = -1 from rfl,Wc (he acc)]; simp [beL]
 | succ k ih =>
  intro acc hk hl
  have e : ((k + 1 : Nat) : Int) - 1 = (k : Int):=by omega
  rw [e,Wv (hL k acc (by omega) (by omega)),ih _ (by omega) (by simp; omega)]
  simp [beL]
theorem HU (n : Int) (m : Nat) (hm : m ≤ 100) : Xg n (m : Int) = some (beL n m):=by
 have h:=jN n (Vh n) 100 (fun k acc hk hl=>by
  unfold Vh
  have e1 : wr (8 * (k : Int)) = ((8 * k : Nat) : Int):=by rw [YG (by omega)]; omega
  have e2 : Xk ((8 * k : Nat) : Int) = some ():=by unfold Xk; rw [if_pos (by omega)]
  have e3 : wr ((k : Int) - 1) = (k : Int) - 1:=YG (by omega)
  have e4 : decide ((k : Int) ≥ 0) = true:=by simp
  simp only [e1,e2,e3,e4,if_true,Option.bind_some]
  rw [XN (by simp; omega)]; rfl) (fun acc=>by unfold Vh; simp) m [] hm (by simp; omega)
 have e : wr ((m : Int) - 1) = (m : Int) - 1:=YG (by omega)
 unfold Xg
 rw [e,h]; rfl
theorem qC (x : Int) : Zy (Qn x 255) = Zy x:=by
 have h1 : (BitVec.ofInt 64 255) = (255 : BitVec 64):=rfl
 have h2 : (BitVec.ofInt 64 x &&& BitVec.ofInt 64 255).toNat = (x % 256).toNat:=by
  rw [BitVec.toNat_and,h1,show (255 : BitVec 64).toNat = 2 ^ 8 - 1 from rfl,Nat.and_two_pow_sub_one_eq_mod,BitVec.toNat_ofInt]
  omega
 unfold Qn Zy
 rw [h2,YG (by omega)]
 congr 1
 omega
theorem kZ (n : Int) : UW n = some (beL n 4):=by
 have e0 : Tm n 0 = n:=by unfold Tm; simp
 unfold UW
 simp only [qC]
 have : beL n 4 = [Zy (Tm n 24),Zy (Tm n 16),Zy (Tm n 8),Zy (Tm n 0)]:=rfl
 rw [this,e0]

def VF (n : Nat) : Nat:=(24 - n % 16) % 16
def Ky (d : List UInt8) : List UInt8:=((d ++ [128]) ++ List.replicate (VF (d.length + 1)) 0) ++ beL (d.length : Int) 8
theorem yL (d : List UInt8) : ∃ n,(Ky d).length = 16 * n ∧ n ≤ d.length + 2:=by
 have : (Ky d).length = d.length + 1 + VF (d.length + 1) + 8:=by simp [Ky,Kd]; omega
 refine ⟨(d.length + 1 + VF (d.length + 1) + 8) / 16,?_,?_⟩
 ·rw [this]; unfold VF; omega
 ·unfold VF; omega
theorem yv (L : List UInt8 → Option (Fl (List UInt8) (List UInt8))) (hL : ∀ s,L s = if ((Int.tmod (s.length : Int) 16) != 8) = true then ((app 1 s ([0] : List UInt8)).bind fun (_ : List UInt8)=>some (Fl.nx (s ++ ([0] : List UInt8)))) else (some (Fl.ex s)))
  (l : List UInt8) (hl : l.length ≤ 100000000) : ZB L l = some (l ++ List.replicate (VF l.length) 0):=by
 have ht : ∀ n : Nat,Int.tmod (n : Int) 16 = ((n % 16 : Nat) : Int):=fun n=>by rw [Int.tmod_eq_emod_of_nonneg (by omega)]; omega
 have:=ZY (f:=L) (fun i : Nat=>l ++ List.replicate i 0) 0 (VF l.length) (Nat.zero_le _) (t:=l ++ List.replicate (VF l.length) 0) (fun i _ hi=>by
  rw [hL,ht]
  have hz : VF l.length < 16:=by unfold VF; omega
  have e : ((((l ++ List.replicate i 0).length % 16 : Nat) : Int) != 8) = true:=by
   simp only [List.length_append,List.length_replicate,bne_iff_ne,ne_eq]
   unfold VF at hi; omega
  rw [e,if_pos rfl,XN (by simp; omega)]
  simp [List.replicate_succ']) (by
  rw [hL,ht]
  have e : ((((l ++ List.replicate (VF l.length) 0).length % 16 : Nat) : Int) != 8) = false:=by
   simp only [List.length_append,List.length_replicate,bne_eq_false_iff_eq]
   unfold VF; omega
  rw [e]; rfl)
 simpa using this
theorem zt (d : List UInt8) (h : d.length ≤ 10000000) : Vm d = some (Ky d):=by
 have h1:=yv V3 (fun s=>by unfold V3; rfl) (d ++ [128]) (by simp; omega)
 have h2:=HU (d.length : Int) 8 (by omega)
 have h3 : Xg (d.length : Int) 8 = some (beL (d.length : Int) 8):=h2
 have hz : VF (d.length + 1) < 16:=by unfold VF; omega
 have e : (d ++ [128]).length = d.length + 1:=by simp
 rw [e] at h1
 unfold Vm Ky
 rw [Kz d (by omega),Option.bind_some,XN (by simp; omega),Option.bind_some,h1,Option.bind_some,h3,Option.bind_some,XN (by simp [Kd]; omega)]
 rfl
theorem qX (d : List UInt8) (h : d.length ≤ 10000000) : Tp d = some (Ky d):=by
 have h1:=yv TR (fun s=>by unfold TR; rfl) (d ++ [128]) (by simp; omega)
 have hz : VF (d.length + 1) < 16:=by unfold VF; omega
 have e : (d ++ [128]).length = d.length + 1:=by simp
 rw [e] at h1
 have h2:=jN (d.length : Int) (VE d) 100 (fun k acc hk hl=>by
  unfold VE
  have e1 : wr (8 * (k : Int)) = ((8 * k : Nat) : Int):=by rw [YG (by omega)]; omega
  have e5 : IntKind.u64.wrap ((8 * k : Nat) : Int) = ((8 * k : Nat) : Int):=qe _ (by omega)
  have e2 : Xk ((8 * k : Nat) : Int) = some ():=by unfold Xk; rw [if_pos (by omega)]
  have e3 : wr ((k : Int) - 1) = (k : Int) - 1:=YG (by omega)
  have e4 : decide ((k : Int) ≥ 0) = true:=by simp
  simp only [e1,e5,e2,e3,e4,if_true,Option.bind_some,qC]
  rw [XN (by simp; omega)]; rfl) (fun acc=>by unfold VE; simp) 8 ((d ++ [128]) ++ List.replicate (VF (d.length + 1)) 0) (by omega) (by simp; omega)
 have h3 : ZB (VE d) ((d ++ [128]) ++ List.replicate (VF (d.length + 1)) 0,7) = some (((d ++ [128]) ++ List.replicate (VF (d.length + 1)) 0) ++ beL (d.length : Int) 8):=h2
 unfold Tp Ky
 rw [HI d (by omega),Option.bind_some,XN (by simp; omega),Option.bind_some,h1,Option.bind_some,h3]
 rfl

def jX (l : List UInt8) (i : Nat) : Blk:=vf 16 fun j=>l.getD (16 * i + j) 0
def Wg (l : List UInt8) (n : Nat) : List Blk:=(List.range n).map (jX l)
theorem QF (l : List UInt8) (n : Nat) : (Wg l n).length = n:=by simp [Wg]
theorem J8 (l : List UInt8) (n : Nat) : Wg l (n + 1) = Wg l n ++ [jX l n]:=by simp [Wg,List.range_succ]
theorem ji (l : List UInt8) (n : Nat) (hl : l.length = 16 * n) (hn : n ≤ 100000000) : Um l = some (Wg l n):=by
 have:=ZY (f:=WH l) (fun i : Nat=>(Wg l i,((16 * i : Nat) : Int))) 0 n (Nat.zero_le _) (t:=Wg l n) (fun i _ hi=>by
  unfold WH
  have e1 : wr (((16 * i : Nat) : Int) + 16) = ((16 * (i + 1) : Nat) : Int):=by rw [YG (by omega)]; omega
  have e2 : decide (((16 * i : Nat) : Int) < (l.length : Int)) = true:=by simp; omega
  obtain ⟨r,r1,r2,r3⟩:=yh (l:=l) (i:=16 * i) (j:=16 * (i + 1)) (by omega) (by omega)
  have e3 : Qx 16 r = some (jX l i):=by
   rw [Af (by omega)]
   exact congrArg some (Y6 fun j hj=>r3 j (by omega))
  simp only [e1,e2,if_true,r1,e3,Option.bind_some]
  rw [XN (by rw [QF]; simp; omega),J8]; rfl) (by
  unfold WH
  have e2 : decide (((16 * n : Nat) : Int) < (l.length : Int)) = false:=by simp; omega
  simp only [e2,Bool.false_eq_true,if_false])
 have h2 : ZB (WH l) ([],0) = _:=this
 unfold Um
 rw [h2]; rfl
theorem yd (l : List UInt8) (n : Nat) (hl : l.length = 16 * n) (hn : n ≤ 100000000) : VL l = some (Wg l n):=by
 have:=ZY (f:=We l) (fun i : Nat=>(Wg l i,((16 * i : Nat) : Int))) 0 n (Nat.zero_le _) (t:=Wg l n) (fun i _ hi=>by
  unfold We
  have e1 : wr (((16 * i : Nat) : Int) + 16) = ((16 * (i + 1) : Nat) : Int):=by rw [YG (by omega)]; omega
  have e2 : decide (((16 * (i + 1) : Nat) : Int) ≤ (l.length : Int)) = true:=by simp; omega
  have h3:=WL (X7 l (Wg l i,((16 * i : Nat) : Int))) (fun _=>0) (fun j=>l.getD (16 * i + j) 0) (by omega) 0 (by omega) (fun j hj=>by omega) (fun j _ hj a _ _=>by
   unfold X7
   have e4 : wr (((16 * i : Nat) : Int) + (j : Int)) = ((16 * i + j : Nat) : Int):=by rw [YG (by omega)]; omega
   have e5 : 16 * i + j < l.length:=by omega
   simp only [Hb hj,if_true,e4,YB,List.getElem?_eq_getElem e5,ZP _ hj,Option.bind_some,Int.toNat_natCast,List.getD_eq_getElem?_getD,Option.getD_some]) (fun v=>by unfold X7; simp)
  have h4 : ZB (X7 l (Wg l i,((16 * i : Nat) : Int))) (Vector.replicate 16 0,0) = some (jX l i):=by rw [TG]; exact h3
  simp only [e1,e2,if_true,h4,Option.bind_some]
  rw [XN (by rw [QF]; simp; omega),J8]; rfl) (by
  unfold We
  have e1 : wr (((16 * n : Nat) : Int) + 16) = ((16 * (n + 1) : Nat) : Int):=by rw [YG (by omega)]; omega
  have e2 : decide (((16 * (n + 1) : Nat) : Int) ≤ (l.length : Int)) = false:=by simp; omega
  simp only [e1,e2,Bool.false_eq_true,if_false])
 have h2 : ZB (We l) ([],0) = _:=this
 unfold VL
 rw [h2]; rfl

abbrev Dig:=Vector UInt8 32
def df (v : Dig) (i : Nat) : UInt8:=v[i]?.getD default
theorem qS (v : Dig) : v = vf 32 (df v):=kf v
def Q6 : Dig:=vf 32 fun i=>UInt8.ofNat (17 * i)
theorem lt32 {i : Nat} (h : i < 32) : decide ((i : Int) < 32) = true:=by simp; omega
theorem Za7 : X2 = some Q6:=by
 have h:=WL YY (fun _=>0) (fun i=>UInt8.ofNat (17 * i)) (by omega) 0 (by omega) (fun j hj=>by omega) (fun i _ hi a _ _=>by
  unfold YY
  have e1 : wr (17 * (i : Int)) = ((17 * i : Nat) : Int):=by rw [YG (by omega)]; omega
  simp only [lt32 hi,if_true,ZP _ hi,Option.bind_some,e1,V1,Int.toNat_natCast]) (fun v=>by unfold YY; simp)
 have h2 : ZB YY (Vector.replicate 32 0,0) = some Q6:=by rw [TG]; exact h
 unfold X2
 rw [h2]; rfl
theorem jc : Ug = some Q6:=by
 have h:=WL WC (fun _=>0) (fun i=>UInt8.ofNat (17 * i)) (by omega) 0 (by omega) (fun j hj=>by omega) (fun i _ hi a _ _=>by
  unfold WC
  have e1 : wr (17 * (i : Int)) = ((17 * i : Nat) : Int):=by rw [YG (by omega)]; omega
  have e2 : Int.tmod ((17 * i : Nat) : Int) 256 = ((17 * i % 256 : Nat) : Int):=by rw [Int.tmod_eq_emod_of_nonneg (by omega)]; omega
  simp only [lt32 hi,if_true,ZP _ hi,Option.bind_some,e1,e2,V1,kH,Int.toNat_natCast]) (fun v=>by unfold WC; simp)
 have h2 : ZB WC (Vector.replicate 32 0,0) = some Q6:=by rw [TG]; exact h
 unfold Ug
 rw [h2]; rfl
def hiF (s : Nat → UInt8) : Nat → UInt8:=fun i=>s (16 + i)
def A5 (f g : Nat → UInt8) : Nat → UInt8:=fun i=>if i < 16 then f i else g (i - 16)
def jO (c : GCipher) (k a : Nat → UInt8) : Nat → UInt8:=JJ (z6 c k a c.Rounds.toNat) a
def absC (c : GCipher) (s m : Nat → UInt8) : Nat → UInt8 :=
 A5 (jO c (hiF s) (JJ s m)) (jO c (jO c (hiF s) (JJ s m)) (JJ (hiF s) m))
theorem yy (s : Nat → UInt8) : VT (vf 32 s) = some (vf 16 s,vf 16 (hiF s)):=by
 have:=ZY (f:=X9 (vf 32 s)) (fun i : Nat=>(vf 16 (fun j=>if j < i then hiF s j else 0),vf 16 (fun j=>if j < i then s j else 0),(i : Int))) 0 16 (by omega) (t:=(vf 16 (hiF s),vf 16 s)) (fun i _ hi=>by
  unfold X9
  have e1 : wr (16 + (i : Int)) = ((16 + i : Nat) : Int):=by rw [YG (by omega)]; omega
  simp only [Hb hi,if_true,e1,ZP _ (show i < 32 by omega),ZP _ (show 16 + i < 32 by omega),ZP _ hi,Option.bind_some,Int.toNat_natCast,TS,XB (show i < 9223372036854775807 by omega)]
  have e : ∀ f : Nat → UInt8,(vf 16 fun j=>if j = i then f i else if j < i then f j else 0) = vf 16 fun j=>if j < i + 1 then f j else 0:=fun f=>Y6 fun j _=>by
   by_cases h1 : j = i
   ·subst h1; simp
   ·by_cases h2 : j < i
    ·rw [if_neg h1,if_pos h2,if_pos (by omega)]
    ·rw [if_neg h1,if_neg h2,if_neg (by omega)]
  have ea:=e (hiF s)
  have eb:=e s
  rw [eb]
  have ea' : (vf 16 fun j=>if j = i then s (16 + i) else if j < i then hiF s j else 0) = vf 16 fun j=>if j < i + 1 then hiF s j else 0:=ea
  rw [ea']) (by
  unfold X9
  simp only [show decide (((16 : Nat) : Int) < 16) = false from rfl,Bool.false_eq_true,if_false]
  refine congrArg (fun z=>some (Fl.ex z)) (congr (congrArg Prod.mk (Y6 fun j hj=>by rw [if_pos hj])) (Y6 fun j hj=>by rw [if_pos hj])))
 have h2 : ZB (X9 (vf 32 s)) (vf 16 (fun _=>0),vf 16 (fun _=>0),0) = some (vf 16 (hiF s),vf 16 s):=by
  have e0 : ∀ f : Nat → UInt8,(vf 16 fun j=>if j < 0 then f j else 0) = vf 16 fun _=>0:=fun f=>Y6 fun j _=>by simp
  simp only [e0] at this
  exact this
 unfold VT
 rw [TG,h2]; rfl
theorem yq (c : GCipher) (h : YJ c = true) (s m : Nat → UInt8) : WD c (vf 32 s) (vf 16 m) = some (vf 32 (absC c s m)):=by
 have hj : ∀ f g : Nat → UInt8,ZB (Wb (vf 16 f) (vf 16 g)) (Vector.replicate 32 0,0) = some (vf 32 (A5 f g)):=by
  intro f g
  have:=ZY (f:=Wb (vf 16 f) (vf 16 g)) (fun i : Nat=>(vf 32 (fun j=>if j < i then f j else if 16 ≤ j ∧ j < 16 + i then g (j - 16) else 0),(i : Int))) 0 16 (by omega) (t:=vf 32 (A5 f g)) (fun i _ hi=>by
   unfold Wb
   have e1 : wr (16 + (i : Int)) = ((16 + i : Nat) : Int):=by rw [YG (by omega)]; omega
   simp only [Hb hi,if_true,e1,ZP _ (show i < 32 by omega),ZP _ (show 16 + i < 32 by omega),ZP _ hi,Option.bind_some,Int.toNat_natCast,TS,XB (show i < 9223372036854775807 by omega)]
   refine congrArg (fun z=>some (Fl.nx (z,((i + 1 : Nat) : Int)))) (Y6 fun j hj=>?_)
   by_cases h1 : j = 16 + i
   ·subst h1
    rw [if_pos rfl,if_neg (by omega),if_pos (by omega)]
    congr 1; omega
   ·rw [if_neg h1]
    by_cases h2 : j = i
    ·subst h2; rw [if_pos rfl,if_pos (by omega)]
    ·rw [if_neg h2]
     by_cases h3 : j < i
     ·rw [if_pos h3,if_pos (by omega)]
     ·rw [if_neg h3,if_neg (show ¬ j < i + 1 by omega)]
      by_cases h4 : 16 ≤ j ∧ j < 16 + i
      ·rw [if_pos h4,if_pos (by omega)]
      ·rw [if_neg h4,if_neg (by omega)]) (by
   unfold Wb
   simp only [show decide (((16 : Nat) : Int) < 16) = false from rfl,Bool.false_eq_true,if_false]
   refine congrArg (fun z=>some (Fl.ex z)) (Y6 fun j hj=>?_)
   unfold A5
   by_cases h3 : j < 16
   ·rw [if_pos h3,if_pos h3]
   ·rw [if_neg h3,if_neg h3,if_pos (by omega)])
  have e0 : (vf 32 fun j=>if j < 0 then f j else if 16 ≤ j ∧ j < 16 + 0 then g (j - 16) else 0) = vf 32 fun _=>0:=Y6 fun j _=>by rw [if_neg (by omega),if_neg (by omega)]
  simp only [e0] at this
  rw [TG]
  exact this
 unfold WD
 simp only [yy,Option.bind_some,JG,Hd c h,hj]
 rfl
theorem qb (c : GCipher) (h : YJ c = true) (s m : Nat → UInt8) : Xf ⟨Y5 c⟩ (vf 32 s) (vf 16 m) = some (vf 32 (absC c s m)):=by
 have g1 : ∀ {n : Nat} (f : Nat → UInt8) (k : Nat),k < n → (vf n f).toList.getD k 0 = f k:=fun f k hk=>by
  rw [BB,List.getD_eq_getElem?_getD,List.getElem?_map,List.getElem?_range hk]; rfl
 have hl : ∀ {n : Nat} (f : Nat → UInt8),(vf n f).toList.length = n:=fun f=>by simp
 have cut : ∀ {n : Nat} (f : Nat → UInt8) (i j : Nat),i ≤ j → j ≤ n → ∃ r,slc (vf n f).toList (i : Int) (j : Int) = some r ∧ r.length = j - i ∧ Qx (j - i) r = some (vf (j - i) fun k=>f (i + k)) ∧ ∀ k,k < j - i → r.getD k 0 = f (i + k):=by
  intro n f i j hij hjn
  obtain ⟨r,r1,r2,r3⟩:=yh (l:=(vf n f).toList) (i:=i) (j:=j) hij (by rw [hl]; exact hjn)
  have r4 : ∀ k,k < j - i → r.getD k 0 = f (i + k):=fun k hk=>by rw [r3 k hk,g1 f (i + k) (by omega)]
  refine ⟨r,r1,r2,?_,r4⟩
  rw [Af (by omega)]
  exact congrArg some (Y6 r4)
 obtain ⟨l,l1,l2,l3,l4⟩:=cut (n:=32) s 0 16 (by omega) (by omega)
 obtain ⟨l',l1',l2',l3',l4'⟩:=cut (n:=32) s 16 32 (by omega) (by omega)
 have a1 : slc (vf 32 s).toList (0 : Int) (16 : Int) = some l:=l1
 have a2 : slc (vf 32 s).toList (16 : Int) (32 : Int) = some l':=l1'
 have a3 : Qx 16 l = some (vf 16 s):=by
  have : Qx 16 l = some (vf 16 fun k=>s (0 + k)):=l3
  rw [this]; exact congrArg some (Y6 fun k _=>by rw [Nat.zero_add])
 have a4 : Qx 16 l' = some (vf 16 (hiF s)):=l3'
 have join : ∀ f g : Nat → UInt8,((slc (vf 16 f).toList (0 : Int) (16 : Int)).bind fun (l56 : (List UInt8))=>(slc (vf 16 g).toList (0 : Int) (16 : Int)).bind fun (l59 : (List UInt8))=>(Z1 ([l56,l59] : (List (List UInt8)))).bind fun (r64 : (List UInt8))=>(Qx 32 r64).bind fun (x67 : (Vector UInt8 32))=>some x67 : Option ((Vector UInt8 32))) = some (vf 32 (A5 f g)):=by
  intro f g
  obtain ⟨p,p1,p2,_,p4⟩:=cut (n:=16) f 0 16 (by omega) (by omega)
  obtain ⟨q,q1,q2,_,q4⟩:=cut (n:=16) g 0 16 (by omega) (by omega)
  have b1 : slc (vf 16 f).toList (0 : Int) (16 : Int) = some p:=p1
  have b2 : slc (vf 16 g).toList (0 : Int) (16 : Int) = some q:=q1
  have b3 : Z1 [p,q] = some (p ++ q):=by
   have:=JL [p,q] (by simp; omega) (by simp)
   simpa using this
  rw [b1,Option.bind_some,b2,Option.bind_some,b3,Option.bind_some,Af (by simp; omega),Option.bind_some]
  refine congrArg some (Y6 fun k hk=>?_)
  unfold A5
  rw [List.getD_eq_getElem?_getD]
  by_cases h1 : k < 16
  ·rw [if_pos h1,List.getElem?_append_left (by omega),← List.getD_eq_getElem?_getD,p4 k (by omega),Nat.zero_add]
  ·rw [if_neg h1,List.getElem?_append_right (by omega),← List.getD_eq_getElem?_getD,q4 (k - p.length) (by omega),Nat.zero_add,show p.length = 16 from p2]
 have in1 : ∀ k a : Nat → UInt8,((YA ⟨Y5 c⟩ (vf 16 k) (vf 16 a)).bind fun (r34 : (Vector UInt8 16))=>(Yw r34 (vf 16 a)).bind fun (r36 : (Vector UInt8 16))=>some r36 : Option (Vector UInt8 16)) = some (vf 16 (jO c k a)):=fun k a=>by
  rw [JZ c h,Option.bind_some,TJ,Option.bind_some]; rfl
 unfold Xf
 rw [a1,Option.bind_some,a3,Option.bind_some,a2,Option.bind_some,a4,Option.bind_some,TJ,Option.bind_some,in1,Option.bind_some,TJ,Option.bind_some,in1,Option.bind_some,join,Option.bind_some]
 rfl

def absV (c : GCipher) (s : Dig) (m : Blk) : Dig:=vf 32 (absC c (df s) (bf m))
theorem jL (c : GCipher) (h : YJ c = true) (s : Dig) (m : Blk) : Xf ⟨Y5 c⟩ s m = some (absV c s m) ∧ WD c s m = some (absV c s m):=by
 have h1:=qb c h (df s) (bf m)
 have h2:=yq c h (df s) (bf m)
 rw [← qS,← vf_bf] at h1 h2
 exact ⟨h1,h2⟩
def Jc (c : GCipher) (d : List UInt8) : Dig:=(Wg (Ky d) ((Ky d).length / 16)).foldl (absV c) Q6
theorem z9 (c : GCipher) (h : YJ c = true) (ps : List (List UInt8)) (hl : ps.flatten.length ≤ 10000000) (hn : ps.length < 9223372036854775807) : Xb ⟨Y5 c⟩ ps = some (Jc c ps.flatten):=by
 obtain ⟨n,n1,n2⟩:=yL ps.flatten
 have e : (Ky ps.flatten).length / 16 = n:=by omega
 have h1:=QY (f:=YX ⟨Y5 c⟩ (Wg (Ky ps.flatten) n)) (Wg (Ky ps.flatten) n) (fun (b : Dig) i=>(b,i)) (absV c) Q6 (t:=Jc c ps.flatten) (by rw [QF]; omega) (fun i hi=>by
  unfold YX
  simp only [Int.ofNat_lt,hi,decide_true,if_true,YB,List.getElem?_eq_getElem hi,Option.bind_some,(jL c h _ _).1]) (by
  unfold YX Jc
  rw [e]; simp)
 unfold Xb
 rw [Za7,Option.bind_some,JL ps (by omega) hn,Option.bind_some,zt _ hl,Option.bind_some,ji _ n n1 (by omega),Option.bind_some]
 have h2 : ZB (YX ⟨Y5 c⟩ (Wg (Ky ps.flatten) n)) (Q6,0) = _:=h1
 rw [h2]; rfl
theorem ke (c : GCipher) (h : YJ c = true) (d : List UInt8) (hl : d.length ≤ 10000000) : V8 c d = some (Jc c d):=by
 obtain ⟨n,n1,n2⟩:=yL d
 have e : (Ky d).length / 16 = n:=by omega
 have h1:=QY (f:=Uw c (Wg (Ky d) n)) (Wg (Ky d) n) (fun (b : Dig) i=>(b,i)) (absV c) Q6 (t:=Jc c d) (by rw [QF]; omega) (fun i hi=>by
  unfold Uw
  simp only [Int.ofNat_lt,hi,decide_true,if_true,YB,List.getElem?_eq_getElem hi,Option.bind_some,(jL c h _ _).2]) (by
  unfold Uw Jc
  rw [e]; simp)
 unfold V8
 rw [qX _ hl,Option.bind_some,yd _ n n1 (by omega),Option.bind_some,jc,Option.bind_some]
 have h2 : ZB (Uw c (Wg (Ky d) n)) (Q6,0) = _:=h1
 rw [h2]; rfl
theorem BL (d : Dig) : Vg d = some d.toList:=by
 have h:=B0 (f:=VW d) (List.range 32) (fun i=>df d i) (t:=d.toList) (by simp) (fun i hi=>by
  have hi' : i < 32:=by simpa using hi
  unfold VW
  have hv : ZH d (i : Int) = some (df d i):=by
   have:=ZP (df d) hi'
   rwa [← qS] at this
  simp only [lt32 hi',if_true,hv,Option.bind_some]
  rw [XN (by simp; omega)]
  simp) (by
  unfold VW
  have e : (List.range 32).map (fun i=>df d i) = d.toList:=by
   conv=>rhs; rw [qS d]
   rw [BB]
  simp only [List.length_range,show decide (((32 : Nat) : Int) < 32) = false from rfl,Bool.false_eq_true,if_false,e])
 unfold Vg
 rw [h]; rfl
def KK (d : Dig) (e : GEvent) : List UInt8:=((d.toList ++ [Zy e.Kind]) ++ beL e.Number 4) ++ e.Tag.toList
theorem yo (d : Dig) (e : GEvent) : (KK d e).length = 69:=by simp [KK,Kd]
def HR (c : GCipher) (d : Dig) (e : GEvent) : Dig:=Jc c (KK d e)
def B9 (c : GCipher) (l : List GEvent) : Dig:=l.foldl (HR c) (Jc c (List.replicate 32 0))
theorem jH : YJ (Vs 4) = true:=ys 4 (by omega)
theorem HV : WG = some (Vs 4):=by
 unfold WG
 rw [jw]; rfl
theorem Za1 (n : Int) (h : 1 ≤ n ∧ n ≤ 20) : TV n = some ⟨Y5 (Vs n)⟩:=by
 unfold TV
 rw [AF,Option.bind_some,yV _ (ys n h)]; rfl
theorem Az : WZ = some ⟨Y5 (Vs 4)⟩:=by
 unfold WZ
 rw [Za1 4 (by omega)]; rfl
theorem Zaz (d : Dig) : slc d.toList (0 : Int) (32 : Int) = some d.toList:=by
 have h1 : slc d.toList ((0 : Nat) : Int) ((32 : Nat) : Int) = _:=zp (Nat.zero_le _) (by simp)
 have h2 : slc d.toList (0 : Int) (32 : Int) = _:=h1
 rw [h2,List.drop_zero,List.take_of_length_le (by simp)]
theorem AA (c : GCipher) (h : YJ c = true) (l : List GEvent) (hl : l.length < 9223372036854775807) : WS ⟨Y5 c⟩ l = some (B9 c l):=by
 have hm : mkS 1 (0 : UInt8) 32 = some (List.replicate 32 0):=by unfold mkS; rw [if_pos (by omega)]; rfl
 have h0:=z9 c h [List.replicate 32 0] (by simp) (by simp)
 have e0 : ([List.replicate 32 0] : List (List UInt8)).flatten = List.replicate 32 0:=by simp
 rw [e0] at h0
 have h1:=QY (f:=Xw ⟨Y5 c⟩ l) l (fun (b : Dig) i=>(b,i)) (HR c) (Jc c (List.replicate 32 0)) (t:=B9 c l) hl (fun i hi=>by
  unfold Xw
  have hb : Xg l[i].Number 4 = some (beL l[i].Number 4):=HU _ 4 (by omega)
  have hd:=z9 c h [((l.take i).foldl (HR c) (Jc c (List.replicate 32 0))).toList,[Zy l[i].Kind],beL l[i].Number 4,l[i].Tag.toList] (by simp [Kd]) (by simp)
  have ed : ([((l.take i).foldl (HR c) (Jc c (List.replicate 32 0))).toList,[Zy l[i].Kind],beL l[i].Number 4,l[i].Tag.toList] : List (List UInt8)).flatten = KK ((l.take i).foldl (HR c) (Jc c (List.replicate 32 0))) l[i]:=by simp [KK]
  rw [ed] at hd
  simp only [Int.ofNat_lt,hi,decide_true,if_true,YB,List.getElem?_eq_getElem hi,Option.bind_some,Zaz,hb,hd]
  rfl) (by unfold Xw B9; simp)
 unfold WS
 rw [hm,Option.bind_some,h0,Option.bind_some]
 have h2 : ZB (Xw ⟨Y5 c⟩ l) (Jc c (List.replicate 32 0),0) = _:=h1
 rw [h2]; rfl
theorem kI (d : Dig) (e : GEvent) : UQ d e = some (HR (Vs 4) d e):=by
 have h1:=ke (Vs 4) jH (KK d e) (by rw [yo]; omega)
 unfold UQ
 rw [BL,Option.bind_some,XN (by simp),Option.bind_some,Option.bind_some,kZ,Option.bind_some,XN (by simp [Kd]),Option.bind_some,HV,Option.bind_some,BL,Option.bind_some,XN (by simp [Kd]),Option.bind_some]
 have h2 : V8 (Vs 4) (((d.toList ++ [Zy e.Kind]) ++ beL e.Number 4) ++ e.Tag.toList) = some (HR (Vs 4) d e):=h1
 rw [h2]; rfl
theorem kQ (l : List GEvent) (hl : l.length < 9223372036854775807) : UR l = some (B9 (Vs 4) l):=by
 have hm : mkS 1 (0 : UInt8) 32 = some (List.replicate 32 0):=by unfold mkS; rw [if_pos (by omega)]; rfl
 have h1:=QY (f:=Va l) l (fun (b : Dig) i=>(b,i)) (HR (Vs 4)) (Jc (Vs 4) (List.replicate 32 0)) (t:=B9 (Vs 4) l) hl (fun i hi=>by
  unfold Va
  simp only [Int.ofNat_lt,hi,decide_true,if_true,YB,List.getElem?_eq_getElem hi,Option.bind_some,kI]) (by unfold Va B9; simp)
 unfold UR
 rw [HV,Option.bind_some,hm,Option.bind_some,ke _ jH _ (by simp),Option.bind_some]
 have h2 : ZB (Va l) (Jc (Vs 4) (List.replicate 32 0),0) = _:=h1
 rw [h2]; rfl
theorem zN (l : List GEvent) (h : Wt.ln l) : BQ Xn Vk l (l.map fun _=>34).sum :=
 KM Xn Vk YP WQ (fun _=>34) (fun _ _=>rfl) (fun _ _=>rfl) l (W3 h) (fun l' i k hi _ _ h0 hk=>by
  refine ⟨_,K0 l' i k hi h0 (by omega),fun m hm=>?_⟩
  have hi':=(List.getElem?_eq_some_iff.1 hm).1
  have e1:=Ax (k:=k) h0 (by omega)
  have e2 : wr (k + 2) = k + 2:=YG (by omega)
  unfold WQ
  have h1:=JY (n:=32) (fun x : GEvent=>x.Tag) m i i rfl (Ub m (k,(i : Int))) (fun s=>by unfold Ub; rfl) hm (k + 2) (by omega) (by omega) rfl
  rw [show k + 2 + ((32 : Nat) : Int) = k + 34 by omega] at h1
  simp only [Int.ofNat_lt,hi',decide_true,if_true,YB,hm,Option.bind_some,bne_self_eq_false,Bool.false_eq_true,if_false,e1,e2,show k + 1 + 1 = k + 2 by omega,h1,Fl.el]
  rfl) (fun l' k=>by unfold YP; simp) (fun m k=>by unfold WQ; simp)
theorem AK (l : List GRecord) (h : Wt.ln l) : BQ Xa W2 l (l.map XE).sum :=
 KM Xa W2 YF Wo XE (fun _ _=>rfl) (fun _ _=>rfl) l (W3 h) (fun l' i k hi hx _ h0 hk=>by
  have hk':=hk
  unfold XE at hk'
  have hln : Wt.ln l'[i]:=zo h hx
  obtain ⟨la,a1,a2⟩:=H0 l'[i].Label hln.1 (k + 18) (by omega) (by omega)
  obtain ⟨bo,b1,b2⟩:=H0 l'[i].Body hln.2 (k + 18 + ((l'[i].Label.map fun _=>1).sum : Nat)) (by omega) (by omega)
  refine ⟨_,KC l' i k hi h0 hk a1 b1,fun m hm=>?_⟩
  have hi':=(List.getElem?_eq_some_iff.1 hm).1
  have e1:=Ax (k:=k) h0 (by omega)
  have e2 : wr (k + 2) = k + 2:=YG (by omega)
  have h1:=JY (n:=16) (fun x : GRecord=>x.Nonce) m i i rfl (VC m (k,(i : Int))) (fun s=>by unfold VC; rfl) hm (k + 2) (by omega) (by omega) rfl
  have h2:=JY (n:=32) (fun x : GRecord=>x.Tag) m i i rfl (Vz m (k,(i : Int))) (fun s=>by unfold Vz; rfl) hm (k + 18 + ((l'[i].Label.map fun _=>1).sum : Nat) + ((l'[i].Body.map fun _=>1).sum : Nat)) (by omega) (by omega) rfl
  rw [show k + 2 + ((16 : Nat) : Int) = k + 18 by omega] at h1
  have c1 : ¬ (k + 18 + ((l'[i].Label.map fun _=>1).sum : Nat) < 0):=by omega
  have c2 : ¬ (k + 18 + ((l'[i].Label.map fun _=>1).sum : Nat) + ((l'[i].Body.map fun _=>1).sum : Nat) < 0):=by omega
  unfold Wo
  simp only [Int.ofNat_lt,hi',decide_true,if_true,YB,hm,Option.bind_some,bne_self_eq_false,Bool.false_eq_true,if_false,e1,e2,show k + 1 + 1 = k + 2 by omega,h1,Fl.el,a2,b2,c1,c2,decide_false,h2]
  refine congrArg (fun z=>some (Fl.nx (z,wr ((i : Int) + 1)))) ?_
  unfold XE; omega) (fun l' k=>by unfold YF; simp) (fun m k=>by unfold Wo; simp)
theorem yO (x : GVault) (h : Wt.ln x) (k : Int) (h0 : 0 ≤ k) (hk : k + (U2 x : Nat) ≤ 4611686018427387904) :
  ∃ x',Xe x k = some (x',k + (U2 x : Nat)) ∧ ∀ n hd,WE ⟨x'.Keys,n,x'.Records,x'.Events,hd⟩ k = some (k + (U2 x : Nat)):=by
 unfold U2 at hk
 obtain ⟨a,a1,a2⟩:=zW x.Keys h.1 k h0 (by omega)
 obtain ⟨b,b1,b2⟩:=AK x.Records h.2.1 _ (by omega : (0 : Int) ≤ k + ((x.Keys.map fun _=>16).sum : Nat)) (by omega)
 obtain ⟨c,c1,c2⟩:=zN x.Events h.2.2 _ (by omega : (0 : Int) ≤ k + ((x.Keys.map fun _=>16).sum : Nat) + ((x.Records.map XE).sum : Nat)) (by omega)
 refine ⟨⟨a,x.Next,b,c,x.Head⟩,?_,fun n hd=>?_⟩
 ·unfold Xe U2
  simp only [a1,b1,c1,Option.bind_some]
  refine congrArg (fun z=>some (_,z)) ?_
  omega
 ·have d1 : ¬ (k + ((x.Keys.map fun _=>16).sum : Nat) < 0):=by omega
  have d2 : ¬ (k + ((x.Keys.map fun _=>16).sum : Nat) + ((x.Records.map XE).sum : Nat) < 0):=by omega
  have d3 : ¬ (k + ((x.Keys.map fun _=>16).sum : Nat) + ((x.Records.map XE).sum : Nat) + ((x.Events.map fun _=>34).sum : Nat) < 0):=by omega
  unfold WE U2
  simp only [a2,b2,c2,d1,d2,d3,decide_false,Bool.false_eq_true,if_false,Option.bind_some]
  refine congrArg some ?_
  omega

def Tj (v : GVault) (n : Int) : Int:=match v.Records.findIdx? (fun r=>r.Number == n) with | some i=>(i : Int) | none=>-1
theorem Zbd (v : GVault) (n : Int) (h : v.Records.length < 9223372036854775807) : WX v n = some (Tj v n):=by
 unfold WX Z9
 rw [zG v.Records _ (fun r=>r.Number == n) _ (fun s=>by unfold Yy; rfl) h (fun x _=>rfl)]
 rfl
theorem y8 (v : GVault) (n : Int) (h : v.Records.length < 9223372036854775807) : Ul v n = some (Tj v n):=by
 unfold Ul
 have:=zG v.Records (fun r=>some (r.Number == n)) (fun r=>r.Number == n) (Td v n) (fun s=>by
  unfold Td
  simp only [Option.bind_some]) h (fun x _=>rfl)
 exact this
theorem qK {v : GVault} {n : Int} (h : ¬ Tj v n < 0) : ∃ i : Nat,Tj v n = i ∧ ∃ hi : i < v.Records.length,v.Records[i].Number = n:=by
 unfold Tj at h ⊢
 cases hf : v.Records.findIdx? (fun r=>r.Number == n) with
 | none=>rw [hf] at h; simp at h
 | some i =>
  obtain ⟨hi,hq,_⟩:=List.findIdx?_eq_some_iff_getElem.1 hf
  exact ⟨i,rfl,hi,by simpa using hq⟩
def qY (v : GVault) (n : Int) : Int × Int:=if XH v then (if Tj v n < 0 then (0,4) else (Tj v n,0)) else (0,1)
theorem AI (v : GVault) (hb : Wt.ln v) (n : Int) : WV v n = some (qY v n):=by
 unfold WV qY
 rw [B3 v hb,Option.bind_some]
 cases hv : XH v with
 | false=>rfl
 | true =>
  have hs:=T7 hv
  simp only [Bool.not_true,Bool.false_eq_true,if_false,if_true]
  rw [Zbd v n (by omega),Option.bind_some]
  by_cases h : Tj v n < 0 <;> simp [h]
theorem kR {v : GVault} (h : XH v = true) {r : GRecord} (hr : r ∈ v.Records) : 0 ≤ r.Version ∧ r.Version ≤ (v.Keys.length : Int) - 1 ∧ r.Label.length ≤ 32 ∧ r.Body.length ≤ 200:=by
 unfold XH at h
 simp only [Bool.and_eq_true,Bool.not_eq_true',List.any_eq_false,List.mem_range'_1] at h
 obtain ⟨i,hi,rfl⟩:=List.mem_iff_getElem.1 hr
 have:=h.1.2 i (by omega)
 unfold HF B8 at this
 rw [List.getElem?_eq_getElem hi] at this
 simp only [Bool.or_eq_true,Bool.not_eq_true',decide_eq_true_eq,decide_eq_false_iff_not,not_or,Classical.not_not] at this
 omega

def jY (v : GVault) (n : Int) : GRecord:=v.Records.getD (Tj v n).toNat ⟨0,0,default,[],[],default⟩
theorem zS (l : List Blk) (h : l.length ≤ 1000000) : Z6 l = some l:=by
 unfold Z6
 rw [XN (by simp; omega)]; rfl
theorem z7 (l : List GEvent) (h : l.length ≤ 1000000) : Z5 l = some l:=by
 unfold Z5
 rw [XN (by simp; omega)]; rfl
theorem ym (l : List GRecord) : l.map (fun r=>(⟨r.Number,r.Version,r.Nonce,r.Label,r.Body,r.Tag⟩ : GRecord)) = l:=by
 induction l with
 | nil=>rfl
 | cons r l ih=>rw [List.map_cons,ih]
def zX (v : GVault) : Prop:=v.Keys.length ≤ 1000 ∧ v.Events.length ≤ 1000 ∧ v.Records.length ≤ 1000 ∧ ∀ r ∈ v.Records,r.Label.length ≤ 1000000 ∧ r.Body.length ≤ 1000000
theorem Zay (v : GVault) (h : zX v) : WR v = some v:=by
 obtain ⟨h1,h2,h3,h4⟩:=h
 have hl:=B0 (f:=Wp v) v.Records (fun r=>(⟨r.Number,r.Version,r.Nonce,r.Label,r.Body,r.Tag⟩ : GRecord)) (t:=v.Records) (by omega) (fun i hi=>by
  obtain ⟨a1,a2⟩:=h4 _ (List.getElem_mem hi)
  unfold Wp
  simp only [Int.ofNat_lt,hi,decide_true,if_true,YB,List.getElem?_eq_getElem hi,Option.bind_some,Kz _ (show v.Records[i].Label.length ≤ 140737488355328 by omega),Kz _ (show v.Records[i].Body.length ≤ 140737488355328 by omega)]
  rw [XN (by simp; omega)]; rfl) (by
  unfold Wp
  rw [ym]; simp)
 unfold WR
 rw [zS _ (by omega),Option.bind_some,z7 _ (by omega),Option.bind_some,hl]; rfl
theorem qZ (v : GVault) (h : zX v) : Ts v = some v:=by
 obtain ⟨h1,h2,h3,h4⟩:=h
 have hl:=B0 (f:=UU v) v.Records (fun r=>(⟨r.Number,r.Version,r.Nonce,r.Label,r.Body,r.Tag⟩ : GRecord)) (t:=v.Records) (by omega) (fun i hi=>by
  obtain ⟨a1,a2⟩:=h4 _ (List.getElem_mem hi)
  unfold UU
  simp only [Int.ofNat_lt,hi,decide_true,if_true,YB,List.getElem?_eq_getElem hi,Option.bind_some,HI _ (show v.Records[i].Label.length ≤ 140737488355328 by omega),HI _ (show v.Records[i].Body.length ≤ 140737488355328 by omega)]
  rw [XN (by simp; omega)]; rfl) (by
  unfold UU
  rw [ym]; simp)
 unfold Ts
 rw [XN (by simp; omega),Option.bind_some,XN (by simp; omega),Option.bind_some,hl]; rfl
theorem zw {v : GVault} (h : XH v = true) (hb : ∀ r ∈ v.Records,r.Label.length ≤ 1000000 ∧ r.Body.length ≤ 1000000) : zX v:=by
 obtain ⟨h1,h2,h3,h4,h5,h6⟩:=T7 h
 exact ⟨by omega,by omega,by omega,hb⟩
def JA (v : GVault) (e : GEvent) : GVault:=⟨v.Keys,v.Next,v.Records,v.Events ++ [e],B9 (Vs 4) (v.Events ++ [e])⟩
theorem Za5 (v : GVault) (e : GEvent) (h : v.Events.length ≤ 1000) : Wq ⟨Y5 (Vs 4)⟩ v e = some (JA v e):=by
 unfold Wq
 rw [XN (by simp; omega),Option.bind_some,AA _ jH _ (by simp; omega)]; rfl
theorem kl (v : GVault) (k n : Int) (t : Dig) (h : v.Events.length ≤ 1000) : UZ v k n t = some (JA v ⟨k,n,t⟩):=by
 unfold UZ
 rw [XN (by simp; omega),Option.bind_some,kQ _ (by simp; omega)]; rfl
def Hg : GVault:=⟨[],0,[],[],Vector.replicate 32 0⟩
theorem yM {v : GVault} (hv : XH v = true) : zX v:=zw hv fun r hr=>by
 obtain ⟨_,_,h1,h2⟩:=kR hv hr
 omega
theorem Za9 {α : Type} [Dat α] [Wt α] (l : List α) (x : α) : Wt.wt (l ++ [x]) = Wt.wt l + (Wt.wt x + 1):=by
 rw [T1,T1,List.map_append,List.sum_append,List.length_append,List.map_cons,List.map_nil,List.sum_cons,List.sum_nil,List.length_singleton]; omega
theorem Zad (v : GVault) (e : GEvent) : Wt.wt (JA v e) = Wt.wt v + 1:=by
 unfold JA
 rw [Kv,Kv]
 have e0 : Wt.wt e = 0:=rfl
 have:=Za9 v.Events e
 simp only [this,e0]; omega
theorem Zao {v : GVault} (e : GEvent) (h : Wt.ln v) (he : v.Events.length ≤ 1000) : Wt.ln (JA v e):=⟨h.1,h.2.1,⟨by simp [JA]; omega,fun _ _=>trivial⟩⟩
theorem Zag : Wt.wt Hg = 0:=rfl
theorem BM : Wt.ln Hg:=⟨⟨by simp [Hg],fun _ _=>trivial⟩,⟨by simp [Hg],fun x hx=>by simp [Hg] at hx⟩,⟨by simp [Hg],fun _ _=>trivial⟩⟩
theorem jK (v : GVault) : ((v.Events.length : Int) == 60) = (v.Events.length == 60):=by rw [Bool.eq_iff_iff,beq_iff_eq,beq_iff_eq]; omega
theorem yi {v : GVault} {n : Int} (h : ¬ Tj v n < 0) : ∃ i : Nat,Tj v n = i ∧ i < v.Records.length ∧ v.Records[i]? = some (jY v n) ∧ (jY v n).Number = n:=by
 obtain ⟨i,h1,h2,h3⟩:=qK h
 refine ⟨i,h1,h2,?_,?_⟩
 ·unfold jY
  rw [h1,Int.toNat_natCast,List.getD_eq_getElem?_getD,List.getElem?_eq_getElem h2]; rfl
 ·unfold jY
  rw [h1,Int.toNat_natCast,List.getD_eq_getElem?_getD,List.getElem?_eq_getElem h2]; exact h3
def Jg (v : GVault) (i : Nat) : GVault:=⟨v.Keys,v.Next,v.Records.take i ++ v.Records.drop (i + 1),v.Events,v.Head⟩
def KA (v : GVault) (n : Int) : GVault × Int :=
 if XH v then (if Tj v n < 0 then (Hg,4) else if v.Events.length == 60 then (Hg,3) else (JA (Jg v (Tj v n).toNat) ⟨2,n,Vector.replicate 32 0⟩,0)) else (Hg,1)
theorem qc {α : Type} {l : List α} {i : Nat} (h : i < l.length) : delF l (i : Int) ((i : Int) + 1) = some (l.take i ++ l.drop (i + 1)):=by
 unfold delF
 rw [if_pos (by omega)]
 have : ((i : Int) + 1).toNat = i + 1:=by omega
 rw [this,Int.toNat_natCast]
theorem Zbm {α : Type} {l : List α} {i : Nat} (h : i ≤ l.length) : slc l (0 : Int) (i : Int) = some (l.take i):=by
 unfold slc; rw [if_pos (by omega)]; simp
theorem Za3 {α : Type} {l : List α} {i : Nat} (h : i ≤ l.length) : slc l (i : Int) (l.length : Int) = some (l.drop i):=by
 unfold slc; rw [if_pos (by omega)]; simp
theorem qw {α : Type} {l : List α} {i : Nat} (h : i < l.length) : slc l ((i : Int) + 1) (l.length : Int) = some (l.drop (i + 1)):=Za3 (i:=i + 1) h
theorem JW (v : GVault) (hb : Wt.ln v) (n : Int) : Wa v n = some (KA v n):=by
 unfold Wa KA
 rw [AI v hb,Option.bind_some]
 unfold qY
 cases hv : XH v with
 | false=>rfl
 | true =>
  obtain ⟨h1,h2,h3,h4,h5,h6⟩:=T7 hv
  simp only [if_true]
  by_cases hp : Tj v n < 0
  ·simp only [if_pos hp]; rfl
  ·simp only [if_neg hp]
   obtain ⟨i,p1,p2,p3,p4⟩:=yi hp
   simp only [bne_self_eq_false,Bool.false_eq_true,if_false,jK]
   cases (v.Events.length == 60) with
   | true=>rfl
   | false =>
    simp only [Bool.false_eq_true,if_false]
    rw [Zay v (yM hv),Option.bind_some,p1,YG (by omega),Az]
    unfold YI
    rw [qc p2]
    simp only [Option.bind_some,Int.toNat_natCast]
    have hn:=Za5 (Jg v i) ⟨2,n,Vector.replicate 32 0⟩ (show v.Events.length ≤ 1000 by omega)
    unfold Jg at hn
    rw [hn]
    rfl
theorem Hc (v : GVault) (hb : Wt.ln v) (n : Int) : Vi v n = some (KA v n):=by
 unfold Vi KA
 rw [Zbq v hb,Option.bind_some]
 cases hv : XH v with
 | false=>rfl
 | true =>
  obtain ⟨h1,h2,h3,h4,h5,h6⟩:=T7 hv
  simp only [Bool.not_true,Bool.false_eq_true,if_false,if_true]
  rw [y8 v n (by omega),Option.bind_some]
  by_cases hp : Tj v n < 0
  ·simp only [if_pos hp,hp,decide_true,if_true]; rfl
  ·simp only [if_neg hp,hp,decide_false,Bool.false_eq_true,if_false,jK]
   obtain ⟨i,p1,p2,p3,p4⟩:=yi hp
   cases (v.Events.length == 60) with
   | true=>rfl
   | false =>
    simp only [Bool.false_eq_true,if_false]
    have hnn : Xk ((i : Int) + 1 - i) = some ():=by unfold Xk; rw [if_pos (by omega)]
    rw [qZ v (yM hv),Option.bind_some,p1,YG (by omega),hnn,Option.bind_some,Zbm (by omega),qw p2]
    have hl1 : (v.Records.take i).length ≤ 1000:=by simp; omega
    have hl2 : (v.Records.drop (i + 1)).length ≤ 1000:=by simp; omega
    simp only [Option.bind_some]
    rw [XN (by simp; omega),Option.bind_some,XN (by simp; omega)]
    simp only [Option.bind_some,Int.toNat_natCast,List.nil_append]
    have hn:=kl (Jg v i) 2 n (Vector.replicate 32 0) (show v.Events.length ≤ 1000 by omega)
    unfold Jg at hn
    rw [hn]
    rfl
theorem wt_cut (l : List GRecord) (i : Nat) : Wt.wt (l.take i ++ l.drop (i + 1)) ≤ Wt.wt l:=by
 rw [T1,T1]
 have h : ((l.take i ++ l.drop (i + 1)).map Wt.wt).sum ≤ (l.map Wt.wt).sum ∧ (l.take i ++ l.drop (i + 1)).length ≤ l.length:=by
  induction l generalizing i with
  | nil=>simp
  | cons x l ih =>
   cases i with
   | zero=>simp
   | succ i=>have:=ih i; simp only [List.take_succ_cons,List.drop_succ_cons,List.cons_append,List.map_cons,List.sum_cons,List.length_cons]; omega
 omega
theorem Zaa (v : GVault) (n : Int) (hw : Wt.wt v ≤ 1048576) : Wt.wt (KA v n).1 ≤ 1049000:=by
 have hz:=Zag
 unfold KA
 split
 ·split
  ·simp only [hz]; omega
  ·split
   ·simp only [hz]; omega
   ·simp only [Zad]
    unfold Jg
    rw [Kv] at hw ⊢
    have h1:=wt_cut v.Records (Tj v n).toNat
    simp only
    omega
 ·simp only [hz]; omega
theorem qv (v : GVault) (n : Int) (hl : Wt.ln v) : Wt.ln (KA v n).1:=by
 unfold KA
 cases hv : XH v with
 | false=>exact BM
 | true =>
  obtain ⟨h1,h2,h3,h4,h5,h6⟩:=T7 hv
  simp only [if_true]
  split
  ·exact BM
  ·split
   ·exact BM
   ·refine Zao _ ⟨hl.1,⟨by simp [Jg]; omega,fun x hx=>?_⟩,hl.2.2⟩ (by show v.Events.length ≤ 1000; omega)
    refine hl.2.1.2 x ?_
    rcases List.mem_append.1 hx with hx | hx
    ·exact List.mem_of_mem_take hx
    ·exact List.mem_of_mem_drop hx
theorem Kk (v : GVault) (n : Int) (h : Dat.bd v) (_ : Dat.bd n) : XR v n = some true:=by
 unfold XR
 refine Zbl (kx v (Wt.bdln v h)) (by omega) (by omega) fun r _ _ hw=>?_
 have hw : Wt.wt v ≤ 1048576:=by omega
 have hl:=Wt.wtln v hw
 have hz:=Zaa v n hw
 have hln:=qv v n hl
 have hle:=Aa v
 have hle2:=Aa (KA v n).1
 obtain ⟨x',m1⟩:=yR v hl 1 (by omega) (by omega)
 obtain ⟨y',m2,m3⟩:=yO (KA v n).1 hln 1 (by omega) (by omega)
 have e1 : ¬ ((1 : Int) + (U2 v : Nat) < 0):=by omega
 have e2 : ¬ ((1 : Int) + (U2 (KA v n).1 : Nat) < 0):=by omega
 simp [kX v hw,Hc v hl,JW v hl,zd v hl,zd _ hln,m1,m2,m3,e1,e2]
end Go.Proofs.YtpibglnacohdkaaGreat
