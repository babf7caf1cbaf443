/- Plain laws, no program in sight. -/
import Derived.Test.YtpibglnacohdkaaGreatC4
set_option linter.unusedVariables false
set_option linter.unusedSimpArgs false
set_option maxRecDepth 20000
set_option maxHeartbeats 400000
namespace Go.Proofs.YtpibglnacohdkaaGreat
open Go
open Flat (enc)
theorem A5 {α : Type} {l : List α} {i : Nat} (h : i < l.length) : idx l (i : Int) = some l[i]:=by
 unfold idx
 rw [if_pos (by omega)]
 simp
theorem Xe {i : Nat} (h : i < 9223372036854775807) : wr ((i : Int) + 1) = ((i + 1 : Nat) : Int):=by
 rw [YZ (by omega)]; rfl

section
variable {S T : Type} {f : S → Option (Fl S T)}
theorem Zeb (g : Nat → S) (m n : Nat) (hmn : m ≤ n) (h : ∀ i, m ≤ i → i < n → f (g i) = some (.nx (g (i + 1)))) : ZB f (g m) = ZB f (g n) := by
  induction n with
  | zero => have : m = 0 := by omega
            subst this; rfl
  | succ n ih =>
    rcases Nat.lt_or_ge m (n + 1) with h1 | h1
    · rw [ih (by omega) (fun i h2 h3 => h i h2 (by omega)), W1 (h n (by omega) (by omega))]
    · have : m = n + 1 := by omega
      subst this; rfl
theorem Z4 (g : Nat → S) (m n : Nat) (hmn : m ≤ n) {t : T} (h : ∀ i,m ≤ i → i < n → f (g i) = some (.nx (g (i + 1)))) (he : f (g n) = some (.ex t)) : ZB f (g m) = some t:=by
 rw [Zeb g m n hmn h,WJ he]
theorem KR (g : Nat → S) (p : Nat → Bool) (t : Nat → T) {e : T} (n : Nat) : ∀ (k m : Nat),m + k = n → (∀ i,m ≤ i → i < n → f (g i) = some (if p i then .ex (t i) else .nx (g (i + 1)))) → f (g n) = some (.ex e) →
  ZB f (g m) = some (((List.range' m k).find? p).elim e t)
 | 0,m,hk,_,he=>by
  have : m = n:=by omega
  subst this
  rw [WJ he]; rfl
 | k + 1,m,hk,h,he=>by
  have h1:=h m (Nat.le_refl _) (by omega)
  rw [List.range'_succ,List.find?_cons]
  cases hp : p m with
  | true=>rw [hp] at h1; rw [WJ h1]; rfl
  | false =>
   rw [hp] at h1
   rw [W1 h1,KR g p t n k (m + 1) (by omega) (fun i h2 h3=>h i (by omega) h3) he]
end

theorem kC {T : Type} {f : Int → Option (Fl Int (Fl Unit T))} (p : Nat → Bool) {t : T} {n m : Nat} (hm : m ≤ n)
  (h : ∀ i,m ≤ i → i < n → f (i : Int) = some (if p i then .ex (.ex t) else .nx ((i + 1 : Nat) : Int))) (he : f (n : Int) = some (.ex (.nx ()))) :
  ZB f (m : Int) = some (if (List.range' m (n - m)).any p then .ex t else .nx ()):=by
 rw [KR (fun i : Nat=>(i : Int)) p (fun _=>.ex t) n (n - m) m (by omega) h he]
 cases hf : (List.range' m (n - m)).find? p with
 | none =>
  have : (List.range' m (n - m)).any p = false:=by
   rw [List.any_eq_false]
   rw [List.find?_eq_none] at hf
   exact hf
  rw [this]; rfl
 | some i =>
  have : (List.range' m (n - m)).any p = true:=by
   rw [List.any_eq_true]
   exact ⟨i,List.mem_of_find?_eq_some hf,List.find?_some hf⟩
  rw [this]; rfl
theorem Zbj {p : Nat → Bool} {m n : Nat} : (List.range' m (n - m)).any p = true ↔ ∃ i,m ≤ i ∧ i < n ∧ p i = true:=by
 rw [List.any_eq_true]
 simp only [List.mem_range'_1]
 constructor
 ·rintro ⟨i,⟨h1,h2⟩,h3⟩; exact ⟨i,h1,by omega,h3⟩
 ·rintro ⟨i,h1,h2,h3⟩; exact ⟨i,⟨h1,by omega⟩,h3⟩
theorem Zc5 {α : Type} {q : α → Bool} {l : List α} {p : Nat → Bool} (hp : ∀ i (h : i < l.length),p i = q l[i]) : (List.range' 0 (l.length - 0)).any p = l.any q:=by
 rw [Bool.eq_iff_iff,Zbj,List.any_eq_true]
 constructor
 ·rintro ⟨i,_,h,h3⟩; exact ⟨l[i],List.getElem_mem h,by rw [← hp i h]; exact h3⟩
 ·rintro ⟨x,hx,h⟩
  obtain ⟨i,hi,rfl⟩:=List.mem_iff_getElem.1 hx
  exact ⟨i,Nat.zero_le _,hi,by rw [hp i hi]; exact h⟩

theorem yJ {T α : Type} {f : Int → Option (Fl Int (Fl Unit T))} (l : List α) (q : α → Bool) {t : T} (hl : l.length < 9223372036854775807)
  (h : ∀ i (hi : i < l.length),f (i : Int) = some (if q l[i] then .ex (.ex t) else .nx (wr ((i : Int) + 1)))) (he : f (l.length : Int) = some (.ex (.nx ()))) :
  ZB f 0 = some (if l.any q then .ex t else .nx ()):=by
 have:=kC (f:=f) (fun i=>if hi : i < l.length then q l[i] else false) (t:=t) (n:=l.length) (m:=0) (Nat.zero_le _) (fun i _ hi=>by
  rw [h i hi,Xe (by omega)]; simp [hi]) he
 rw [Zc5 (q:=q) (fun i hi=>by simp [hi])] at this
 exact this

class Wt (α : Type) [Dat α] where
 wt : α → Nat
 ln : α → Prop
 bdln : ∀ x,Dat.bd x → ln x
 wtln : ∀ x,wt x ≤ 1048576 → ln x
instance : Wt Int:=⟨fun _=>0,fun _=>True,fun _ _=>trivial,fun _ _=>trivial⟩
instance : Wt UInt8:=⟨fun _=>0,fun _=>True,fun _ _=>trivial,fun _ _=>trivial⟩
instance : Wt Bool:=⟨fun _=>0,fun _=>True,fun _ _=>trivial,fun _ _=>trivial⟩
instance : Wt Str:=⟨fun s=>s.l.length,fun s=>s.l.length ≤ 9223372036854775807,fun _ h=>h,fun _ h=>by omega⟩
instance {n : Nat} : Wt (Vector UInt8 n):=⟨fun _=>0,fun _=>True,fun _ _=>trivial,fun _ _=>trivial⟩
instance {n m : Nat} : Wt (Vector (Vector UInt8 m) n):=⟨fun _=>0,fun _=>True,fun _ _=>trivial,fun _ _=>trivial⟩
theorem qW {α : Type} {f : α → Nat} {l : List α} {x : α} (h : x ∈ l) : f x ≤ (l.map f).sum:=by
 induction l with
 | nil=>cases h
 | cons y l ih =>
  rw [List.map_cons,List.sum_cons]
  rcases List.mem_cons.1 h with rfl | h
  ·omega
  ·have:=ih h; omega
instance {α : Type} [Dat α] [Wt α] : Wt (List α):=⟨fun l=>l.length + (l.map Wt.wt).sum,fun l=>l.length ≤ 9223372036854775807 ∧ ∀ x ∈ l,Wt.ln x,fun _ h=>⟨h.1,fun x hx=>Wt.bdln x (h.2 x hx)⟩,
 fun l h=>⟨by omega,fun x hx=>Wt.wtln x (by have:=qW (f:=Wt.wt) hx; omega)⟩⟩
instance {α β : Type} [Dat α] [Dat β] [Wt α] [Wt β] : Wt (α × β):=⟨fun x=>Wt.wt x.1 + Wt.wt x.2,fun x=>Wt.ln x.1 ∧ Wt.ln x.2,fun x h=>⟨Wt.bdln x.1 h.1,Wt.bdln x.2 h.2⟩,fun x h=>⟨Wt.wtln x.1 (by omega),Wt.wtln x.2 (by omega)⟩⟩
theorem QZ {α : Type} [Dat α] [Wt α] (l : List α) : Wt.wt l = l.length + (l.map Wt.wt).sum:=rfl
theorem wt_mem {α : Type} [Dat α] [Wt α] {l : List α} {x : α} (h : x ∈ l) : Wt.wt x ≤ (l.map Wt.wt).sum:=qW h
theorem Zd3 {α : Type} [Dat α] [Wt α] {l : List α} {x : α} (h : x ∈ l) : Wt.wt x ≤ Wt.wt l:=by
 have:=wt_mem h; rw [QZ]; omega
theorem jw {α : Type} [Dat α] [Wt α] (l : List α) : l.length ≤ Wt.wt l:=by rw [QZ]; omega
theorem Vz {α : Type} [Dat α] [Wt α] {l : List α} (h : Wt.ln l) : l.length ≤ 9223372036854775807:=h.1
theorem jO {α : Type} [Dat α] [Wt α] {l : List α} {x : α} (h : Wt.ln l) (hx : x ∈ l) : Wt.ln x:=h.2 x hx

theorem J8 {α β : Type} (p0 : List α) (c : α → Option β) (g : α → β) (by_ : Nat) (z : β) (L : List β × Int → Option (Fl (List β × Int) (List β)))
  (hL : ∀ s,L s = if (decide (s.2 < (p0.length : Int))) = true then ((idx p0 s.2).bind fun x=>(c x).bind fun r=>(idx s.1 s.2).bind fun _=>some (Fl.nx ((s.1.set (s.2).toNat r),wr (s.2 + 1)))) else (some (Fl.ex s.1)))
  (hc : ∀ x ∈ p0,c x = some (g x)) (hl : p0.length * by_ ≤ 140737488355328) (hl' : p0.length < 9223372036854775807) :
  ((mkS by_ z (p0.length : Int)).bind fun l1=>(ZB L (l1,0) : Option (List β)).bind fun j=>some j) = some (p0.map g):=by
 have hm : mkS by_ z (p0.length : Int) = some (List.replicate p0.length z):=by
  have h3 : ((p0.length * by_ : Nat) : Int) ≤ ((140737488355328 : Nat) : Int):=Int.ofNat_le.2 hl
  rw [Int.natCast_mul] at h3
  unfold mkS
  rw [if_pos ⟨by omega,h3⟩,Int.toNat_natCast]
 rw [hm]
 simp only [Option.bind_some]
 have hrun:=Z4 (f:=L) (fun i : Nat=>((p0.take i).map g ++ List.replicate (p0.length - i) z,(i : Int))) 0 p0.length (Nat.zero_le _) (t:=p0.map g) (fun i _ hi=>by
  rw [hL]
  simp only [Int.ofNat_lt,hi,decide_true,if_true,A5 hi,Option.bind_some,hc _ (List.getElem_mem hi)]
  rw [A5 (by simp; omega)]
  simp only [Option.bind_some,Xe (show i < 9223372036854775807 by omega),Int.toNat_natCast]
  congr 3
  rw [List.set_append_right _ _ (by simp; omega)]
  have e1 : p0.length - i = (p0.length - (i + 1)) + 1:=by omega
  have e2 : i - ((p0.take i).map g).length = 0:=by simp; omega
  rw [e1,List.replicate_succ,e2,List.set_cons_zero]
  rw [List.take_succ_eq_append_getElem hi,List.map_append,List.append_assoc]
  rfl) (by
  rw [hL]
  simp)
 simp at hrun
 simp [hrun]

theorem AY {α : Type} (p0 : List α) (ne : α → α → Option Bool) (L : Int → Option (Fl Int (Fl Unit Bool)))
  (hL : ∀ s,L s = if (decide (s < (p0.length : Int))) = true then (((idx p0 s).bind fun x=>(idx p0 s).bind fun y=>ne x y : Option Bool).bind fun j=>if j = true then (some (Fl.ex (Fl.ex false))) else (some (Fl.nx (wr (s + 1))))) else (some (Fl.ex (Fl.nx ()))))
  (hn : ∀ x ∈ p0,ne x x = some false) (hl : p0.length ≤ 9223372036854775807) :
  (if ((p0.length : Int) != (p0.length : Int)) = true then (some false) else ((ZB L 0 : Option (Fl Unit Bool)).bind fun j2=>j2.el (fun _=>some true) (fun r=>some r))) = some true:=by
 have:=Z4 (f:=L) (fun i : Nat=>(i : Int)) 0 p0.length (Nat.zero_le _) (t:=.nx ()) (fun i _ hi=>by
  rw [hL]
  simp only [Int.ofNat_lt,hi,decide_true,if_true,A5 hi,Option.bind_some,hn _ (List.getElem_mem hi)]
  simp [Xe (show i < 9223372036854775807 by omega)]) (by
  rw [hL]; simp)
 have h2 : ZB L 0 = some (.nx ()):=this
 simp [h2,Fl.el]

def Qr {α : Type} [Dat α] [Wt α] (f : α → Int → Option Int) (x : α) : Prop:=∀ left : Int,0 ≤ left → left ≤ 1048576 → ∃ r,f x left = some r ∧ r ≤ 1048576 ∧ (0 ≤ r → r + Wt.wt x ≤ left)
theorem HB {α : Type} [Dat α] [Wt α] {l : List α} (h0 : ∀ x : α,Wt.wt x = 0) (f : List α → Int → Option Int)
  (hf : ∀ left,f l left = if (decide ((wr (left - (l.length : Int))) < 0)) = true then (some (-1)) else (some (wr (left - (l.length : Int))))) (hl : l.length ≤ 9223372036854775807) : Qr f l:=by
 intro left h1 h2
 have hs : (l.map Wt.wt).sum = 0:=by
  clear hf hl
  induction l with
  | nil=>rfl
  | cons x l ih=>rw [List.map_cons,List.sum_cons,h0,ih]
 have hw : Wt.wt l = l.length:=by rw [QZ,hs]; rfl
 rw [hf,YZ (by omega),hw]
 by_cases h : left - (l.length : Int) < 0
 ·exact ⟨-1,by simp [h],by omega,by omega⟩
 ·exact ⟨left - l.length,by simp [h],by omega,by omega⟩
theorem qq {α : Type} [Dat α] [Wt α] {p0 : List α} (f : List α → Int → Option Int) (c : α → Int → Option Int) (L : Int × Int → Option (Fl (Int × Int) (Fl Int Int)))
  (hL : ∀ s,L s = if (decide (s.2 < (p0.length : Int))) = true then ((idx p0 s.2).bind fun x=>(c x s.1).bind fun r=>if (decide (r < 0)) = true then (some (Fl.ex (Fl.ex (-1)))) else (some (Fl.nx (r,wr (s.2 + 1))))) else (some (Fl.ex (Fl.nx s.1))))
  (hf : ∀ left,f p0 left = if (decide ((wr (left - (p0.length : Int))) < 0)) = true then (some (-1)) else ((ZB L (wr (left - (p0.length : Int)),0) : Option (Fl Int Int)).bind fun j2=>j2.el (fun s=>some s) (fun r=>some r)))
  (hl : p0.length ≤ 9223372036854775807) (hc : ∀ x ∈ p0,Qr c x) : Qr f p0:=by
 intro left h1 h2
 rw [hf,YZ (by omega)]
 by_cases h : left - (p0.length : Int) < 0
 ·exact ⟨-1,by simp [h],by omega,by omega⟩
 simp only [h,decide_false,Bool.false_eq_true,if_false]
 have key : ∀ (k m : Nat) (a : Int),m + k = p0.length → 0 ≤ a → a ≤ 1048576 → ∃ o : Fl Int Int,ZB L (a,(m : Int)) = some o ∧ ((o = .ex (-1)) ∨ ∃ r,o = .nx r ∧ 0 ≤ r ∧ r + (((p0.drop m).map Wt.wt).sum : Nat) ≤ a):=by
  intro k
  induction k with
  | zero =>
   intro m a hm h0 h3
   have : m = p0.length:=by omega
   subst this
   refine ⟨.nx a,?_,.inr ⟨a,rfl,h0,?_⟩⟩
   ·rw [WJ (t:=.nx a)]; rw [hL]; simp
   ·simp
  | succ k ih =>
   intro m a hm h0 h3
   have hi : m < p0.length:=by omega
   obtain ⟨r,e1,e2,e3⟩:=hc _ (List.getElem_mem hi) a h0 h3
   have hst : L (a,(m : Int)) = (if (decide (r < 0)) = true then (some (Fl.ex (Fl.ex (-1)))) else (some (Fl.nx (r,((m + 1 : Nat) : Int))))):=by
    rw [hL]
    simp only [Int.ofNat_lt,hi,decide_true,if_true,A5 hi,Option.bind_some,e1,Xe (show m < 9223372036854775807 by omega)]
   by_cases hr : r < 0
   ·simp only [hr,decide_true,if_true] at hst
    exact ⟨_,WJ hst,.inl rfl⟩
   ·simp only [hr,decide_false,Bool.false_eq_true,if_false] at hst
    obtain ⟨o,k1,k2⟩:=ih (m + 1) r (by omega) (by omega) e2
    refine ⟨o,by rw [W1 hst]; exact k1,k2.imp id ?_⟩
    rintro ⟨q,rfl,q1,q2⟩
    refine ⟨q,rfl,q1,?_⟩
    have e3:=e3 (by omega)
    rw [List.drop_eq_getElem_cons hi,List.map_cons,List.sum_cons]
    omega
 obtain ⟨o,k1,k2⟩:=key p0.length 0 (left - p0.length) (by omega) (by omega) (by omega)
 have k1' : ZB L (left - (p0.length : Int),0) = some o:=k1
 rw [k1']
 rcases k2 with rfl | ⟨r,rfl,q1,q2⟩
 ·exact ⟨-1,rfl,by omega,by omega⟩
 ·refine ⟨r,rfl,by omega,fun _=>?_⟩
  rw [List.drop_zero] at q2
  rw [QZ]; omega
@[simp] theorem Ym {α : Type} (l : List α) (i : Nat) : idx l (i : Int) = l[i]?:=by unfold idx; simp
@[simp] theorem idx_zero {α : Type} (l : List α) : idx l (0 : Int) = l[0]?:=Ym l 0
theorem kR {T : Type} {f : Int → Option (Fl Int (Fl Unit T))} (n : Nat) (p : Nat → Bool) (t : Nat → T) (hn : n < 9223372036854775807)
  (h : ∀ i,i < n → f (i : Int) = some (if p i then .ex (.ex (t i)) else .nx (wr ((i : Int) + 1)))) (he : f (n : Int) = some (.ex (.nx ()))) (m : Nat) (hm : m ≤ n) :
  ZB f (m : Int) = some (match (List.range' m (n - m)).find? p with | some i=>.ex (t i) | none=>.nx ()):=by
 rw [KR (fun i : Nat=>(i : Int)) p (fun i=>.ex (t i)) n (n - m) m (by omega) (fun i _ hi=>by rw [h i hi,Xe (by omega)]) he]
 cases (List.range' m (n - m)).find? p <;> rfl
theorem Zdd {T : Type} {f : Int → Option (Fl Int (Fl Unit T))} (n : Nat) (p : Nat → Bool) (t : T) (hn : n < 9223372036854775807)
  (h : ∀ i,i < n → f (i : Int) = some (if p i then .ex (.ex t) else .nx (wr ((i : Int) + 1)))) (he : f (n : Int) = some (.ex (.nx ()))) (m : Nat) (hm : m ≤ n) :
  ZB f (m : Int) = some (if (List.range' m (n - m)).any p then .ex t else .nx ()) :=
 kC p hm (fun i _ hi=>by rw [h i hi,Xe (by omega)]) he
theorem K1 {α β S T : Type} {f : S → Option (Fl S T)} (l : List α) (pack : β → Int → S) (g : β → α → β) (b0 : β) {t : T} (hn : l.length < 9223372036854775807)
  (h : ∀ i (hi : i < l.length),f (pack ((l.take i).foldl g b0) (i : Int)) = some (.nx (pack (g ((l.take i).foldl g b0) l[i]) (wr ((i : Int) + 1))))) (he : f (pack (l.foldl g b0) (l.length : Int)) = some (.ex t)) :
  ZB f (pack b0 0) = some t:=by
 have:=Z4 (f:=f) (fun i : Nat=>pack ((l.take i).foldl g b0) (i : Int)) 0 l.length (Nat.zero_le _) (t:=t) (fun i _ hi=>by
  rw [h i hi,Xe (by omega)]
  congr 3
  rw [List.take_succ_eq_append_getElem hi,List.foldl_append]; rfl) (by rw [List.take_length]; exact he)
 simpa using this
theorem yr {α β : Type} (g : α → β) (l : List α) (acc : List β) : l.foldl (fun b x=>b ++ [g x]) acc = acc ++ l.map g:=by
 induction l generalizing acc with
 | nil=>simp
 | cons x l ih=>simp [ih]
theorem z7 {α β T : Type} {f : List β × Int → Option (Fl (List β × Int) T)} (l : List α) (g : α → β) {t : T} (hn : l.length < 9223372036854775807)
  (h : ∀ i (hi : i < l.length),f ((l.take i).map g,(i : Int)) = some (.nx ((l.take i).map g ++ [g l[i]],wr ((i : Int) + 1)))) (he : f (l.map g,(l.length : Int)) = some (.ex t)) :
  ZB f ([],0) = some t:=by
 have e : ∀ m : List α,m.foldl (fun b x=>b ++ [g x]) [] = m.map g:=fun m=>by rw [yr]; rfl
 exact K1 (f:=f) l (fun b i=>(b,i)) (fun b x=>b ++ [g x]) [] hn (fun i hi=>by simp only [e]; exact h i hi) (by simp only [e]; exact he)
theorem YX {α : Type} {by_ : Nat} {l m : List α} (h : (l.length + m.length) * by_ ≤ 140737488355328) : app by_ l m = some (l ++ m):=by unfold app; rw [if_pos h]
theorem Hs {α : Type} {l : List α} {i j : Nat} (h : i ≤ j) (h2 : j ≤ l.length) : slc l (i : Int) (j : Int) = some ((l.take j).drop i):=by
 unfold slc; rw [if_pos (by omega)]; simp

theorem Qn {α : Type} {n : Nat} {v w : Vector α n} (h : ∀ i (hi : i < n),v[i] = w[i]) : v = w:=Vector.ext h
@[simp] theorem W6 {α : Type} {n : Nat} (v : Vector α n) (i : Nat) : ZH v (i : Int) = v[i]?:=by unfold ZH; simp
theorem jX {n : Nat} (p0 : Vector UInt8 n) (L : Vector UInt8 n × Int → Option (Fl (Vector UInt8 n × Int) (Vector UInt8 n)))
  (hL : ∀ s,L s = if decide (s.2 < (n : Int)) = true then ((ZH p0 s.2).bind fun x=>(ZH s.1 s.2).bind fun _=>some (Fl.nx (s.1.setIfInBounds (s.2).toNat x,wr (s.2 + 1)))) else (some (Fl.ex s.1))) (hn : n < 9223372036854775807) (z : Vector UInt8 n) :
  ZB L (z,0) = some p0:=by
 have:=Z4 (f:=L) (fun i : Nat=>(Vector.ofFn fun j : Fin n=>if j.1 < i then p0[j] else z[j],(i : Int))) 0 n (Nat.zero_le _) (t:=p0) (fun i _ hi=>by
  rw [hL]
  simp only [Int.ofNat_lt,hi,decide_true,if_true,W6,Vector.getElem?_eq_getElem hi,Option.bind_some,Int.toNat_natCast,Xe (show i < 9223372036854775807 by omega)]
  congr 3
  apply Qn
  intro j hj
  rw [Vector.getElem_setIfInBounds]
  simp only [Vector.getElem_ofFn,Fin.getElem_fin]
  by_cases h : i = j
  ·subst h; simp
  ·by_cases h2 : j < i
   ·simp [h,h2,show j < i + 1 by omega]
   ·simp [h,h2,show ¬ j < i + 1 by omega]) (by
  rw [hL]
  simp only [Int.ofNat_lt,Nat.lt_irrefl,decide_false,Bool.false_eq_true,if_false]
  congr 2
  apply Qn
  intro j hj
  simp [hj])
 have h0 : (Vector.ofFn fun j : Fin n=>if j.1 < 0 then p0[j] else z[j]) = z:=by
  apply Qn
  intro j hj
  simp
 rw [h0] at this
 exact this
theorem Zcz {n : Nat} (p0 : Vector UInt8 n) (L : Int → Option (Fl Int (Fl Unit Bool)))
  (hL : ∀ s,L s = if decide (s < (n : Int)) = true then (((ZH p0 s).bind fun x=>(ZH p0 s).bind fun y=>some (x != y) : Option Bool).bind fun j=>if j = true then (some (Fl.ex (Fl.ex false))) else (some (Fl.nx (wr (s + 1))))) else (some (Fl.ex (Fl.nx ())))) (hn : n < 9223372036854775807) :
  ((ZB L 0 : Option (Fl Unit Bool)).bind fun j5=>j5.el (fun _=>some true) (fun r=>some r)) = some true:=by
 have:=Z4 (f:=L) (fun i : Nat=>(i : Int)) 0 n (Nat.zero_le _) (t:=.nx ()) (fun i _ hi=>by
  rw [hL]
  simp only [Int.ofNat_lt,hi,decide_true,if_true,W6,Vector.getElem?_eq_getElem hi,Option.bind_some]
  simp [Xe (show i < 9223372036854775807 by omega)]) (by rw [hL]; simp)
 have h2 : ZB L 0 = some (.nx ()):=this
 rw [h2]; rfl

def Jm (n : Nat) (k : Int) : Vector UInt8 n:=Vector.ofFn fun j=>Zp (k + j)
theorem ys {k : Int} (h : 0 ≤ k) (h2 : k < 9223372036854775807) : wr (k + 1) = k + 1:=YZ (by omega)
theorem BB {α : Type} {n : Nat} (get : α → Vector UInt8 n) (put : α → Vector UInt8 n → α) (i : Nat) (I : Int) (hI : I = i) (L : List α × Int × Int → Option (Fl (List α × Int × Int) (List α × Int)))
  (hL : ∀ s,L s = if decide (s.2.2 < (n : Int)) = true then ((idx s.1 I).bind fun x=>(ZH (get x) s.2.2).bind fun _=>some (Fl.nx (s.1.set (I).toNat (put x ((get x).setIfInBounds (s.2.2).toNat (Zp s.2.1))),wr (s.2.1 + 1),wr (s.2.2 + 1)))) else (some (Fl.ex (s.1,s.2.1))))
  (hgp : ∀ x v,get (put x v) = v) (hpp : ∀ x v w,put (put x v) w = put x w) (hpg : ∀ x,put x (get x) = x) (hn : n < 9223372036854775807)
  (l : List α) (hi : i < l.length) (k : Int) (h0 : 0 ≤ k) (hk : k + n ≤ 4611686018427387904) : ZB L (l,k,0) = some (l.set i (put l[i] (Jm n k)),k + n):=by
 subst hI
 have:=Z4 (f:=L) (fun j : Nat=>(l.set i (put l[i] (Vector.ofFn fun q : Fin n=>if q.1 < j then Zp (k + q) else (get l[i])[q])),k + j,(j : Int))) 0 n (Nat.zero_le _) (t:=(l.set i (put l[i] (Jm n k)),k + n)) (fun j _ hj=>by
  rw [hL]
  have hi' : i < (l.set i (put l[i] (Vector.ofFn fun q : Fin n=>if q.1 < j then Zp (k + q) else (get l[i])[q]))).length:=by simpa using hi
  simp only [Int.ofNat_lt,hj,decide_true,if_true,Ym,W6,List.getElem?_eq_getElem hi',Vector.getElem?_eq_getElem hj,Option.bind_some,Int.toNat_natCast,Xe (show j < 9223372036854775807 by omega),List.getElem_set_self,hgp,hpp,List.set_set]
  rw [ys (by omega) (by omega)]
  congr 3
  ·congr 2
   apply Qn
   intro q hq
   rw [Vector.getElem_setIfInBounds]
   simp only [Vector.getElem_ofFn,Fin.getElem_fin]
   by_cases h : j = q
   ·subst h; simp
   ·by_cases h2 : q < j
    ·simp [h,h2,show q < j + 1 by omega]
    ·simp [h,h2,show ¬ q < j + 1 by omega]
  ·congr 1
   omega) (by
  rw [hL]
  simp only [Int.ofNat_lt,Nat.lt_irrefl,decide_false,Bool.false_eq_true,if_false]
  have e : (Vector.ofFn fun q : Fin n=>if q.1 < n then Zp (k + q) else (get l[i])[q]) = Jm n k:=by
   unfold Jm
   apply Qn
   intro j hj
   simp [hj]
  rw [e])
 have h0' : (Vector.ofFn fun q : Fin n=>if q.1 < 0 then Zp (k + q) else (get l[i])[q]) = get l[i]:=by
  apply Qn
  intro j hj
  simp
 rw [h0',hpg,List.set_getElem_self] at this
 simpa using this
theorem Bb {α : Type} {n : Nat} (get : α → Vector UInt8 n) (l : List α) (i : Nat) (I : Int) (hI : I = i) (L : Int × Int → Option (Fl (Int × Int) (Fl Int Int)))
  (hL : ∀ s,L s = if decide (s.2 < (n : Int)) = true then ((idx l I).bind fun x=>(ZH (get x) s.2).bind fun b=>if (b != (Zp s.1)) = true then (some (Fl.ex (Fl.ex (-1)))) else (some (Fl.nx (wr (s.1 + 1),wr (s.2 + 1))))) else (some (Fl.ex (Fl.nx s.1))))
  {x : α} (hx : l[i]? = some x) (k : Int) (h0 : 0 ≤ k) (hk : k + n ≤ 4611686018427387904) (hg : get x = Jm n k) : ZB L (k,0) = some (.nx (k + n)):=by
 subst hI
 have:=Z4 (f:=L) (fun j : Nat=>(k + j,(j : Int))) 0 n (Nat.zero_le _) (t:=.nx (k + n)) (fun j _ hj=>by
  rw [hL]
  simp only [Int.ofNat_lt,hj,decide_true,if_true,Ym,W6,hx,Vector.getElem?_eq_getElem hj,Option.bind_some,Xe (show j < 9223372036854775807 by omega)]
  rw [ys (by omega) (by omega)]
  have : (get x)[j] = Zp (k + j):=by simp [hg,Jm]
  rw [this]
  simp only [bne_self_eq_false,Bool.false_eq_true,if_false]
  congr 3
  omega) (by rw [hL]; simp)
 simpa using this
def z3 {α : Type} (Fm : α → Int → Option (α × Int)) (Fh : α → Int → Option Int) (x : α) (n : Nat) : Prop :=
 ∀ k : Int,0 ≤ k → k + n ≤ 4611686018427387904 → ∃ x',Fm x k = some (x',k + n) ∧ Fh x' k = some (k + n)
theorem J9 {α : Type} (Fm : List α → Int → Option (List α × Int)) (Fh : List α → Int → Option Int) (Lm : List α × Int × Int → Option (Fl (List α × Int × Int) (List α × Int))) (Lh : List α → Int × Int → Option (Fl (Int × Int) (Fl Int Int))) (mk : α → Nat)
  (hFm : ∀ l k,Fm l k = (ZB Lm (l,k,0) : Option (List α × Int)).bind fun j1=>some (j1.1,j1.2)) (hFh : ∀ l k,Fh l k = (ZB (Lh l) (k,0) : Option (Fl Int Int)).bind fun j1=>j1.el (fun s=>some s) (fun r=>some r))
  (l : List α) (hl : l.length ≤ 9223372036854775807)
  (hm : ∀ (l' : List α) (i : Nat) (k : Int) (hi : i < l'.length),l'[i] ∈ l → i < 9223372036854775807 → 0 ≤ k → k + mk l'[i] ≤ 4611686018427387904 → ∃ x',Lm (l',k,(i : Int)) = some (.nx (l'.set i x',k + mk l'[i],wr ((i : Int) + 1))) ∧
   ∀ (m : List α),m[i]? = some x' → Lh m (k,(i : Int)) = some (.nx (k + mk l'[i],wr ((i : Int) + 1))))
  (hme : ∀ (l' : List α) k,Lm (l',k,(l'.length : Int)) = some (.ex (l',k))) (hhe : ∀ (m : List α) k,Lh m (k,(m.length : Int)) = some (.ex (.nx k))) : z3 Fm Fh l (l.map mk).sum:=by
 have aux : ∀ (n i : Nat) (l' : List α) (k : Int),i + n = l'.length → l'.length = l.length → l'.drop i = l.drop i → 0 ≤ k → k + (((l.drop i).map mk).sum : Nat) ≤ 4611686018427387904 →
   ∃ l'',ZB Lm (l',k,(i : Int)) = some (l'',k + (((l.drop i).map mk).sum : Nat)) ∧ l''.length = l'.length ∧ (∀ j,j < i → l''[j]? = l'[j]?) ∧ ZB (Lh l'') (k,(i : Int)) = some (.nx (k + (((l.drop i).map mk).sum : Nat))):=by
  intro n
  induction n with
  | zero =>
   intro i l' k hi hll hd h0 hk
   have hi : i = l'.length:=by omega
   subst hi
   have e : l.drop l'.length = []:=by rw [hll]; simp
   rw [e]
   refine ⟨l',?_,rfl,fun _ _=>rfl,?_⟩
   ·rw [WJ (hme l' k)]; simp
   ·rw [WJ (hhe l' k)]; simp
  | succ n ih =>
   intro i l' k hi hll hd h0 hk
   have hil : i < l'.length:=by omega
   have hil2 : i < l.length:=by omega
   have e1 : l'[i] = l[i]:=by
    have h1:=List.drop_eq_getElem_cons hil
    have h2:=List.drop_eq_getElem_cons hil2
    rw [h1,h2] at hd
    exact (List.cons.inj hd).1
   have e2 : l.drop i = l[i] :: l.drop (i + 1):=List.drop_eq_getElem_cons hil2
   rw [e2,List.map_cons,List.sum_cons] at hk ⊢
   obtain ⟨x',h1,h2⟩:=hm l' i k hil (by rw [e1]; exact List.getElem_mem hil2) (by omega) h0 (by rw [e1]; omega)
   rw [e1] at h1 h2
   rw [Xe (by omega)] at h1 h2
   obtain ⟨l'',k1,k2,k3,k4⟩:=ih (i + 1) (l'.set i x') (k + mk l[i]) (by simp; omega) (by simpa using hll) (by
    rw [List.drop_set_of_lt (by omega)]
    have h1:=List.drop_eq_getElem_cons hil
    rw [h1,e2] at hd
    exact (List.cons.inj hd).2) (by omega) (by omega)
   refine ⟨l'',?_,by simpa using k2,fun j hj=>?_,?_⟩
   ·rw [W1 h1,k1]; congr 2; omega
   ·rw [k3 j (by omega),List.getElem?_set_ne (by omega)]
   ·rw [W1 (h2 l'' (by rw [k3 i (by omega)]; simp [hil])),k4]; congr 2; omega
 intro k h0 hk
 obtain ⟨l'',k1,k2,k3,k4⟩:=aux l.length 0 l k (by omega) rfl rfl h0 (by simpa using hk)
 simp only [List.drop_zero] at k1 k4
 refine ⟨l'',?_,?_⟩
 ·rw [hFm]
  have : ZB Lm (l,k,0) = _:=k1
  rw [this]; rfl
 ·rw [hFh]
  have : ZB (Lh l'') (k,0) = _:=k4
  rw [this]; rfl
theorem B5 {α : Type} [Dat α] [Wt α] (mk : α → Nat) (c : Nat) (h : ∀ x,mk x ≤ c * (1 + Wt.wt x)) (l : List α) : (l.map mk).sum ≤ c * Wt.wt l:=by
 rw [QZ]
 induction l with
 | nil=>simp
 | cons x l ih =>
  have:=h x
  simp only [List.map_cons,List.sum_cons,List.length_cons]
  have e : c * (l.length + 1 + (Wt.wt x + (l.map Wt.wt).sum)) = c * (1 + Wt.wt x) + c * (l.length + (l.map Wt.wt).sum):=by
   rw [← Nat.mul_add]; congr 1; omega
  omega
theorem Bz (l : List UInt8) : Wt.wt l = l.length:=by
 rw [QZ]
 have : (l.map Wt.wt).sum = 0:=by
  induction l with
  | nil=>rfl
  | cons x l ih=>rw [List.map_cons,List.sum_cons,ih]; rfl
 omega
theorem yF (l : List UInt8) (h : Wt.wt l ≤ 1048576) : UE l = some l:=by
 have:=jw l
 unfold UE
 have:=J8 l (fun x=>some x) id 1 0 (Qh l) (fun s=>by unfold Qh; rfl) (fun _ _=>rfl) (by omega) (by omega)
 simpa using this
theorem jb (l : List UInt8) (h : Wt.ln l) : UF l l = some true:=by
 unfold UF
 exact AY l (fun x y=>some (x != y)) (Qd l l) (fun s=>by unfold Qd; rfl) (fun x _=>by simp) (Vz h)
theorem yY (l : List UInt8) (h : Wt.ln l) : Qr Wi l :=
 HB (fun _=>rfl) Wi (fun left=>by unfold Wi; rfl) (Vz h)
theorem Ab (l : List UInt8) (h : Wt.ln l) : z3 YT W5 l (l.map fun _=>1).sum :=
 J9 YT W5 Xi VT (fun _=>1) (fun _ _=>rfl) (fun _ _=>rfl) l (Vz h) (fun l' i k hi _ _ h0 hk=>by
  have e:=ys (k:=k) h0 (by omega)
  refine ⟨Zp k,?_,fun m hm=>?_⟩
  ·unfold Xi
   simp only [Int.ofNat_lt,hi,decide_true,if_true,Ym,List.getElem?_eq_getElem hi,Option.bind_some,Int.toNat_natCast,e]; rfl
  ·have hi':=(List.getElem?_eq_some_iff.1 hm).1
   unfold VT
   simp only [Int.ofNat_lt,hi',decide_true,if_true,Ym,hm,Option.bind_some,bne_self_eq_false,Bool.false_eq_true,if_false,e]; rfl) (fun l' k=>by unfold Xi; simp) (fun m k=>by unfold VT; simp)
instance : Wt GRecord:=⟨fun x=>Wt.wt x.Label + Wt.wt x.Body,fun x=>Wt.ln x.Label ∧ Wt.ln x.Body,fun x h=>⟨Wt.bdln x.Label h.2.2.2.1,Wt.bdln x.Body h.2.2.2.2.1⟩,fun x h=>⟨Wt.wtln x.Label (by omega),Wt.wtln x.Body (by omega)⟩⟩
instance : Wt GEvent:=⟨fun _=>0,fun _=>True,fun _ _=>trivial,fun _ _=>trivial⟩
instance : Wt GVault:=⟨fun x=>Wt.wt x.Keys + (Wt.wt x.Records + Wt.wt x.Events),fun x=>Wt.ln x.Keys ∧ Wt.ln x.Records ∧ Wt.ln x.Events,fun x h=>⟨Wt.bdln x.Keys h.1,Wt.bdln x.Records h.2.2.1,Wt.bdln x.Events h.2.2.2.1⟩,
 fun x h=>⟨Wt.wtln x.Keys (by omega),Wt.wtln x.Records (by omega),Wt.wtln x.Events (by omega)⟩⟩
theorem BV (x : Vector UInt8 16) : Xr x = some x:=by
 unfold Xr
 rw [jX x (Qj x) (fun s=>by unfold Qj; rfl) (by omega)]; rfl
theorem Hy (x : Vector UInt8 32) : WR x = some x:=by
 unfold WR
 rw [jX x (TR x) (fun s=>by unfold TR; rfl) (by omega)]; rfl
theorem yK (x : Vector UInt8 16) : Vq x x = some true:=by
 unfold Vq
 exact Zcz x (Qi x x) (fun s=>by unfold Qi; rfl) (by omega)
theorem HT (x : Vector UInt8 32) : WS x x = some true:=by
 unfold WS
 exact Zcz x (TT x x) (fun s=>by unfold TT; rfl) (by omega)
theorem qo (l : List (Vector UInt8 16)) (h : Wt.wt l ≤ 1048576) : U2 l = some l:=by
 have:=jw l
 unfold U2
 have:=J8 l Xr id 16 (Vector.replicate 16 0) (TK l) (fun s=>by unfold TK; rfl) (fun x _=>BV x) (by omega) (by omega)
 simpa using this
theorem qO (l : List (Vector UInt8 16)) (h : Wt.ln l) : Tb l l = some true:=by
 unfold Tb
 exact AY l (fun x y=>(Vq x y).bind fun r=>some (!r)) (TS l l) (fun s=>by unfold TS; rfl) (fun x _=>by simp [yK x]) (Vz h)
theorem qp (l : List (Vector UInt8 16)) (h : Wt.ln l) : Qr VI l :=
 HB (fun _=>rfl) VI (fun left=>by unfold VI; rfl) (Vz h)
theorem Hr (l' : List (Vector UInt8 16)) (i : Nat) (k : Int) (hi : i < l'.length) (h0 : 0 ≤ k) (hk : k + 16 ≤ 4611686018427387904) :
  Y1 (l',k,(i : Int)) = some (.nx (l'.set i (Jm 16 k),k + 16,wr ((i : Int) + 1))):=by
 unfold Y1
 have h1:=BB (n:=16) (fun x : Vector UInt8 16=>x) (fun _ v=>v) i i rfl (UQ (l',k,(i : Int))) (fun s=>by unfold UQ; rfl) (fun _ _=>rfl) (fun _ _ _=>rfl) (fun _=>rfl) (by omega) l' hi k h0 hk
 simp only [Int.ofNat_lt,hi,decide_true,if_true,h1,Option.bind_some]
 rfl
theorem jz (l : List (Vector UInt8 16)) (h : Wt.ln l) : z3 XM VY l (l.map fun _=>16).sum :=
 J9 XM VY Y1 Vs (fun _=>16) (fun _ _=>rfl) (fun _ _=>rfl) l (Vz h) (fun l' i k hi _ _ h0 hk=>by
  refine ⟨Jm 16 k,Hr l' i k hi h0 (by omega),fun m hm=>?_⟩
  have hi':=(List.getElem?_eq_some_iff.1 hm).1
  unfold Vs
  have h1:=Bb (n:=16) (fun x : Vector UInt8 16=>x) m i i rfl (US m (k,(i : Int))) (fun s=>by unfold US; rfl) hm k h0 (by omega) rfl
  simp only [Int.ofNat_lt,hi',decide_true,if_true,h1,Option.bind_some,Fl.el]
  try rfl) (fun l' k=>by unfold Y1; simp) (fun m k=>by unfold Vs; simp)
theorem qk (x : GRecord) (h : Wt.wt x ≤ 1048576) : VC x = some x:=by
 have h : Wt.wt x.Label + Wt.wt x.Body ≤ 1048576:=h
 unfold VC
 simp [BV,Hy,yF x.Label (by omega),yF x.Body (by omega)]
theorem j0 (l : List GRecord) (h : Wt.wt l ≤ 1048576) : Ux l = some l:=by
 have:=jw l
 unfold Ux
 have:=J8 l VC id 112 ⟨0,0,Vector.replicate 16 0,[],[],Vector.replicate 32 0⟩ (Tp l) (fun s=>by unfold Tp; rfl) (fun x hx=>qk x (Nat.le_trans (Zd3 hx) h)) (by omega) (by omega)
 simpa using this
theorem qB (x : GRecord) (h : Wt.ln x) : VN x x = some true:=by
 unfold VN
 simp [yK,HT,jb x.Label h.1,jb x.Body h.2]
theorem kD (l : List GRecord) (h : Wt.ln l) : Up l l = some true:=by
 unfold Up
 exact AY l (fun x y=>(VN x y).bind fun r=>some (!r)) (Tj l l) (fun s=>by unfold Tj; rfl) (fun x hx=>by simp [qB x (jO h hx)]) (Vz h)
theorem HK {α β : Type} [Dat α] [Wt α] [Dat β] [Wt β] {f : α → Int → Option Int} {g : β → Int → Option Int} {x : α} {y : β} (hf : Qr f x) (hg : Qr g y) (left : Int) (h1 : 0 ≤ left) (h2 : left ≤ 1048576) :
  ∃ r,((f x left).bind fun r=>if decide (r < 0) = true then some (-1) else g y r) = some r ∧ r ≤ 1048576 ∧ (0 ≤ r → r + (Wt.wt x + Wt.wt y : Nat) ≤ left):=by
 obtain ⟨r,e1,e2,e3⟩:=hf left h1 h2
 rw [e1]
 by_cases hr : r < 0
 ·exact ⟨-1,by simp [hr],by omega,by omega⟩
 ·have e3:=e3 (by omega)
  obtain ⟨q,k1,k2,k3⟩:=hg r (by omega) e2
  refine ⟨q,by simp [hr,k1],k2,fun hq=>?_⟩
  have:=k3 hq
  omega
theorem ja {f : Option Int} {left w : Int} (h : ∃ r,f = some r ∧ r ≤ 1048576 ∧ (0 ≤ r → r + w ≤ left)) : ∃ r,(f.bind fun r=>if decide (r < 0) = true then some (-1) else some r) = some r ∧ r ≤ 1048576 ∧ (0 ≤ r → r + w ≤ left):=by
 obtain ⟨r,e1,e2,e3⟩:=h
 by_cases hr : r < 0
 ·exact ⟨-1,by simp [e1,hr],by omega,by omega⟩
 ·exact ⟨r,by simp [e1,hr],e2,e3⟩
theorem qv (x : GRecord) (h : Wt.ln x) : Qr Tc x:=by
 intro left h1 h2
 have h3 : Qr (fun (y : List UInt8) r=>(Wi y r).bind fun r=>if decide (r < 0) = true then some (-1) else some r) x.Body:=fun left h1 h2=>ja (yY x.Body h.2 left h1 h2)
 have:=HK (yY x.Label h.1) h3 left h1 h2
 exact this
theorem kj (l : List GRecord) (h : Wt.ln l) : Qr Wa l :=
 qq Wa Tc (Tm l) (fun s=>by unfold Tm; rfl) (fun left=>by unfold Wa; rfl) (Vz h) (fun x hx=>qv x (jO h hx))
theorem Zbn (x : GEvent) : Uq x = some x:=by
 unfold Uq
 simp [Hy]
theorem qI (l : List GEvent) (h : Wt.wt l ≤ 1048576) : U1 l = some l:=by
 have:=jw l
 unfold U1
 have:=J8 l Uq id 48 ⟨0,0,Vector.replicate 32 0⟩ (TN l) (fun s=>by unfold TN; rfl) (fun x _=>Zbn x) (by omega) (by omega)
 simpa using this
theorem Za9 (x : GEvent) : UC x x = some true:=by
 unfold UC
 simp [HT]
theorem qr (l : List GEvent) (h : Wt.ln l) : U6 l l = some true:=by
 unfold U6
 exact AY l (fun x y=>(UC x y).bind fun r=>some (!r)) (TO l l) (fun s=>by unfold TO; rfl) (fun x _=>by simp [Za9 x]) (Vz h)
theorem qf (l : List GEvent) (h : Wt.ln l) : Qr X0 l :=
 HB (fun _=>rfl) X0 (fun left=>by unfold X0; rfl) (Vz h)
theorem J3 (x : GVault) : Wt.wt x = Wt.wt x.Keys + (Wt.wt x.Records + Wt.wt x.Events):=rfl
theorem Zbh (x : GVault) (h : Wt.wt x ≤ 1048576) : Wm x = some x:=by
 rw [J3] at h
 unfold Wm
 simp [Hy,qo x.Keys (by omega),j0 x.Records (by omega),qI x.Events (by omega)]
theorem yO (x : GVault) (h : Wt.ln x) : Wj x x = some true:=by
 unfold Wj
 simp [HT,qO x.Keys h.1,kD x.Records h.2.1,qr x.Events h.2.2]
theorem Za2 (x : GVault) (h : Wt.ln x) : Qr QB x:=by
 intro left h1 h2
 have h3 : Qr (fun (y : List GEvent) r=>(X0 y r).bind fun r=>if decide (r < 0) = true then some (-1) else some r) x.Events:=fun left h1 h2=>ja (qf x.Events h.2.2 left h1 h2)
 have h4 : Qr (α:=List GRecord × List GEvent) (fun y r=>(Wa y.1 r).bind fun r=>if decide (r < 0) = true then some (-1) else (X0 y.2 r).bind fun r=>if decide (r < 0) = true then some (-1) else some r) (x.Records,x.Events):=fun left h1 h2=>HK (kj x.Records h.2.1) h3 left h1 h2
 exact HK (qp x.Keys h.1) h4 left h1 h2
def BU {α : Type} (Fm : α → Int → Option (α × Int)) (x : α) (n : Nat) : Prop :=
 ∀ k : Int,0 ≤ k → k + n ≤ 4611686018427387904 → ∃ x',Fm x k = some (x',k + n)
theorem A8 {α : Type} (Fm : List α → Int → Option (List α × Int)) (Lm : List α × Int × Int → Option (Fl (List α × Int × Int) (List α × Int))) (mk : α → Nat)
  (hFm : ∀ l k,Fm l k = (ZB Lm (l,k,0) : Option (List α × Int)).bind fun j1=>some (j1.1,j1.2)) (l : List α) (hl : l.length ≤ 9223372036854775807)
  (hm : ∀ (l' : List α) (i : Nat) (k : Int) (hi : i < l'.length),l'[i] ∈ l → i < 9223372036854775807 → 0 ≤ k → k + mk l'[i] ≤ 4611686018427387904 → ∃ x',Lm (l',k,(i : Int)) = some (.nx (l'.set i x',k + mk l'[i],wr ((i : Int) + 1))))
  (hme : ∀ (l' : List α) k,Lm (l',k,(l'.length : Int)) = some (.ex (l',k))) : BU Fm l (l.map mk).sum:=by
 intro k h0 hk
 have aux : ∀ (n i : Nat) (l' : List α) (k : Int),i + n = l'.length → l'.length = l.length → l'.drop i = l.drop i → 0 ≤ k → k + (((l.drop i).map mk).sum : Nat) ≤ 4611686018427387904 →
   ∃ l'',ZB Lm (l',k,(i : Int)) = some (l'',k + (((l.drop i).map mk).sum : Nat)):=by
  intro n
  induction n with
  | zero =>
   intro i l' k hi hll hd h0 hk
   have hi : i = l'.length:=by omega
   subst hi
   have e : l.drop l'.length = []:=by rw [hll]; simp
   rw [e]
   exact ⟨l',by rw [WJ (hme l' k)]; simp⟩
  | succ n ih =>
   intro i l' k hi hll hd h0 hk
   have hil : i < l'.length:=by omega
   have hil2 : i < l.length:=by omega
   have h1:=List.drop_eq_getElem_cons hil
   have e2 : l.drop i = l[i] :: l.drop (i + 1):=List.drop_eq_getElem_cons hil2
   rw [h1,e2] at hd
   have e1:=(List.cons.inj hd).1
   rw [e2,List.map_cons,List.sum_cons] at hk ⊢
   obtain ⟨x',h1⟩:=hm l' i k hil (by rw [e1]; exact List.getElem_mem hil2) (by omega) h0 (by rw [e1]; omega)
   rw [e1,Xe (by omega)] at h1
   obtain ⟨l'',k1⟩:=ih (i + 1) (l'.set i x') (k + mk l[i]) (by simp; omega) (by simpa using hll) (by
    rw [List.drop_set_of_lt (by omega)]
    exact (List.cons.inj hd).2) (by omega) (by omega)
   exact ⟨l'',by rw [W1 h1,k1]; congr 2; omega⟩
 obtain ⟨l'',k1⟩:=aux l.length 0 l k (by omega) rfl rfl h0 (by simpa using hk)
 simp only [List.drop_zero] at k1
 refine ⟨l'',?_⟩
 rw [hFm]
 have : ZB Lm (l,k,0) = _:=k1
 rw [this]; rfl
theorem Am (l : List UInt8) (h : Wt.ln l) : BU YT l (l.map fun _=>1).sum :=
 A8 YT Xi (fun _=>1) (fun _ _=>rfl) l (Vz h) (fun l' i k hi _ _ h0 hk=>by
  have e:=ys (k:=k) h0 (by omega)
  refine ⟨Zp k,?_⟩
  unfold Xi
  simp only [Int.ofNat_lt,hi,decide_true,if_true,Ym,List.getElem?_eq_getElem hi,Option.bind_some,Int.toNat_natCast,e]; rfl) (fun l' k=>by unfold Xi; simp)
theorem jE (l : List (Vector UInt8 16)) (h : Wt.ln l) : BU XM l (l.map fun _=>16).sum :=
 A8 XM Y1 (fun _=>16) (fun _ _=>rfl) l (Vz h) (fun l' i k hi _ _ h0 hk=>⟨_,Hr l' i k hi h0 (by omega)⟩) (fun l' k=>by unfold Y1; simp)
def X4 (x : GRecord) : Nat:=50 + ((x.Label.map fun _=>1).sum + (x.Body.map fun _=>1).sum)
theorem JW (l' : List GRecord) (i : Nat) (k : Int) (hi : i < l'.length) (h0 : 0 ≤ k) (hk : k + X4 l'[i] ≤ 4611686018427387904) {la bo : List UInt8}
  (hla : YT l'[i].Label (k + 18) = some (la,k + 18 + ((l'[i].Label.map fun _=>1).sum : Nat))) (hbo : YT l'[i].Body (k + 18 + ((l'[i].Label.map fun _=>1).sum : Nat)) = some (bo,k + 18 + ((l'[i].Label.map fun _=>1).sum : Nat) + ((l'[i].Body.map fun _=>1).sum : Nat))) :
  YV (l',k,(i : Int)) = some (.nx (l'.set i ⟨k,k + 1,Jm 16 (k + 2),la,bo,Jm 32 (k + 18 + ((l'[i].Label.map fun _=>1).sum : Nat) + ((l'[i].Body.map fun _=>1).sum : Nat))⟩,k + X4 l'[i],wr ((i : Int) + 1))):=by
 unfold X4 at hk
 have e1:=ys (k:=k) h0 (by omega)
 have e2:=ys (k:=k + 1) (by omega) (by omega)
 unfold YV
 have hi2 : i < (l'.set i (⟨k,k + 1,l'[i].Nonce,l'[i].Label,l'[i].Body,l'[i].Tag⟩ : GRecord)).length:=by simpa using hi
 have h1:=BB (n:=16) (fun x : GRecord=>x.Nonce) (fun x v=>⟨x.Number,x.Version,v,x.Label,x.Body,x.Tag⟩) i i rfl (Ui (l',k,(i : Int))) (fun s=>by unfold Ui; rfl) (fun _ _=>rfl) (fun _ _ _=>rfl) (fun _=>rfl) (by omega) _ hi2 (k + 1 + 1) (by omega) (by omega)
 rw [show k + 1 + 1 + ((16 : Nat) : Int) = k + 18 by omega] at h1
 simp only [List.getElem_set_self,List.set_set] at h1
 simp only [Int.ofNat_lt,hi,decide_true,if_true,Ym,List.getElem?_eq_getElem hi,Option.bind_some,Int.toNat_natCast,e1,List.getElem?_set_self hi,List.set_set,e2,h1,hla,hbo]
 have hi3 : i < (l'.set i (⟨k,k + 1,Jm 16 (k + 1 + 1),la,bo,l'[i].Tag⟩ : GRecord)).length:=by simpa using hi
 have h2:=BB (n:=32) (fun x : GRecord=>x.Tag) (fun x v=>⟨x.Number,x.Version,x.Nonce,x.Label,x.Body,v⟩) i i rfl (Uk (l',k,(i : Int))) (fun s=>by unfold Uk; rfl) (fun _ _=>rfl) (fun _ _ _=>rfl) (fun _=>rfl) (by omega) _ hi3
  (k + 18 + ((l'[i].Label.map fun _=>1).sum : Nat) + ((l'[i].Body.map fun _=>1).sum : Nat)) (by omega) (by omega)
 simp only [List.getElem_set_self,List.set_set] at h2
 rw [h2]
 simp only [Option.bind_some]
 rw [show k + 1 + 1 = k + 2 by omega]
 congr 3
 congr 1
 unfold X4
 omega
theorem yj (l : List GRecord) (h : Wt.ln l) : BU Xv l (l.map X4).sum :=
 A8 Xv YV X4 (fun _ _=>rfl) l (Vz h) (fun l' i k hi hx _ h0 hk=>by
  have hk':=hk
  unfold X4 at hk'
  have hln : Wt.ln l'[i]:=jO h hx
  obtain ⟨la,h1⟩:=Am l'[i].Label hln.1 (k + 18) (by omega) (by omega)
  obtain ⟨bo,h2⟩:=Am l'[i].Body hln.2 (k + 18 + ((l'[i].Label.map fun _=>1).sum : Nat)) (by omega) (by omega)
  exact ⟨_,JW l' i k hi h0 hk h1 h2⟩) (fun l' k=>by unfold YV; simp)
theorem Hm (l' : List GEvent) (i : Nat) (k : Int) (hi : i < l'.length) (h0 : 0 ≤ k) (hk : k + 34 ≤ 4611686018427387904) :
  Y4 (l',k,(i : Int)) = some (.nx (l'.set i ⟨k,k + 1,Jm 32 (k + 2)⟩,k + 34,wr ((i : Int) + 1))):=by
 have e1:=ys (k:=k) h0 (by omega)
 have e2:=ys (k:=k + 1) (by omega) (by omega)
 unfold Y4
 have hi2 : i < (l'.set i (⟨k,k + 1,l'[i].Tag⟩ : GEvent)).length:=by simpa using hi
 have h1:=BB (n:=32) (fun x : GEvent=>x.Tag) (fun x v=>⟨x.Kind,x.Number,v⟩) i i rfl (UV (l',k,(i : Int))) (fun s=>by unfold UV; rfl) (fun _ _=>rfl) (fun _ _ _=>rfl) (fun _=>rfl) (by omega) _ hi2 (k + 1 + 1) (by omega) (by omega)
 rw [show k + 1 + 1 + ((32 : Nat) : Int) = k + 34 by omega] at h1
 simp only [List.getElem_set_self,List.set_set] at h1
 simp only [Int.ofNat_lt,hi,decide_true,if_true,Ym,List.getElem?_eq_getElem hi,Option.bind_some,Int.toNat_natCast,e1,List.getElem?_set_self hi,List.set_set,e2,h1]
 rw [show k + 1 + 1 = k + 2 by omega]
theorem js (l : List GEvent) (h : Wt.ln l) : BU XI l (l.map fun _=>34).sum :=
 A8 XI Y4 (fun _=>34) (fun _ _=>rfl) l (Vz h) (fun l' i k hi _ _ h0 hk=>⟨_,Hm l' i k hi h0 (by omega)⟩) (fun l' k=>by unfold Y4; simp)
def TP (x : GVault) : Nat:=(x.Keys.map fun _=>16).sum + ((x.Records.map X4).sum + (x.Events.map fun _=>34).sum)
theorem Zag (l : List UInt8) : (l.map fun _=>1).sum = l.length:=by
 induction l with
 | nil=>rfl
 | cons x l ih=>rw [List.map_cons,List.sum_cons,ih,List.length_cons]; omega
theorem zV (x : GVault) : TP x ≤ 50 * Wt.wt x:=by
 have h1:=B5 (fun _ : Vector UInt8 16=>16) 50 (fun _=>by omega) x.Keys
 have h2:=B5 X4 50 (fun x=>by
  unfold X4
  have e : Wt.wt x = Wt.wt x.Label + Wt.wt x.Body:=rfl
  rw [e,Bz,Bz,Zag,Zag]; omega) x.Records
 have h3:=B5 (fun _ : GEvent=>34) 50 (fun _=>by omega) x.Events
 rw [J3]; unfold TP; omega
theorem ko (x : GVault) (h : Wt.ln x) : BU XB x (TP x):=by
 intro k h0 hk
 unfold TP at hk
 obtain ⟨a,h1⟩:=jE x.Keys h.1 k h0 (by omega)
 obtain ⟨b,h2⟩:=yj x.Records h.2.1 _ (by omega : (0 : Int) ≤ k + ((x.Keys.map fun _=>16).sum : Nat)) (by omega)
 obtain ⟨c,h3⟩:=js x.Events h.2.2 _ (by omega : (0 : Int) ≤ k + ((x.Keys.map fun _=>16).sum : Nat) + ((x.Records.map X4).sum : Nat)) (by omega)
 refine ⟨⟨a,x.Next,b,c,x.Head⟩,?_⟩
 unfold XB
 rw [h1]; simp only [Option.bind_some]; rw [h2]; simp only [Option.bind_some]; rw [h3]; simp only [Option.bind_some]
 unfold TP
 congr 2
 omega
theorem BY (n a b : Int) : Xn n a b = some (decide (a ≤ n ∧ n ≤ b)):=by
 unfold Xn
 by_cases h1 : a ≤ n <;> by_cases h2 : n ≤ b <;> simp [h1,h2]
theorem jg (n a b : Int) : VX n a b = some (decide (a ≤ n ∧ n ≤ b)):=by
 unfold VX
 by_cases h1 : a ≤ n <;> by_cases h2 : n ≤ b <;> simp [h1,h2]
theorem AZ {α : Type} (l : List α) (p : α → Option Bool) (q : α → Bool) (L : Int → Option (Fl Int (Fl Unit Int)))
  (hL : ∀ s,L s = if (decide (s < (l.length : Int))) = true then ((idx l s).bind fun x=>((p x)).bind fun r=>if r = true then (some (Fl.ex (Fl.ex s))) else (some (Fl.nx (wr (s + 1))))) else (some (Fl.ex (Fl.nx ()))))
  (hl : l.length < 9223372036854775807) (hp : ∀ x ∈ l,p x = some (q x)) :
  ((ZB L 0 : Option (Fl Unit Int)).bind fun j1=>j1.el (fun _=>some (-1)) (fun r=>some r)) = some (match l.findIdx? q with | some i=>(i : Int) | none=>-1):=by
 have h:=kR (f:=L) l.length (fun i=>(l[i]?.map q).getD false) (fun i=>(i : Int)) hl (fun i hi=>by
  rw [hL]
  simp only [Int.ofNat_lt,hi,decide_true,if_true,Ym,List.getElem?_eq_getElem hi,Option.bind_some,Option.map_some,Option.getD_some,hp _ (List.getElem_mem hi)]
  split <;> rfl) (by rw [hL]; simp) 0 (Nat.zero_le _)
 have h3 : ZB L 0 = _:=h
 rw [h3]
 have key : (List.range' 0 (l.length - 0)).find? (fun i=>(l[i]?.map q).getD false) = l.findIdx? q:=by
  rw [Nat.sub_zero,← List.range_eq_range']
  clear h h3 hL hp hl
  induction l with
  | nil=>rfl
  | cons x l ih =>
   rw [List.length_cons,List.range_succ_eq_map,List.find?_cons,List.findIdx?_cons]
   simp only [List.getElem?_cons_zero,Option.map_some,Option.getD_some]
   cases q x with
   | true=>rfl
   | false =>
    simp only [Bool.false_eq_true,if_false]
    rw [List.find?_map,← ih]
    congr 1
 rw [key]
 cases l.findIdx? q <;> rfl
theorem Zcd {α : Type} (l : List α) (q : α → Bool) : decide ((match l.findIdx? q with | some i=>(i : Int) | none=>-1) ≥ 0) = l.any q:=by
 rw [Bool.eq_iff_iff,decide_eq_true_eq]
 cases h : l.findIdx? q with
 | none =>
  have:=List.findIdx?_eq_none_iff.1 h
  simp
  exact this
 | some i =>
  have h2:=List.findIdx?_eq_some_iff_getElem.1 h
  obtain ⟨hi,hq,_⟩:=h2
  simp
  exact ⟨_,List.getElem_mem hi,hq⟩
def Tw (e : GEvent) : Bool:=decide ((1 ≤ e.Kind ∧ e.Kind ≤ 4) ∧ (0 ≤ e.Number ∧ e.Number ≤ 1000000))
theorem qj (e : GEvent) : UW e = some (Tw e):=by
 unfold UW Tw
 simp only [jg,Option.bind_some]
 by_cases h1 : (1 ≤ e.Kind ∧ e.Kind ≤ 4) <;> by_cases h2 : (0 ≤ e.Number ∧ e.Number ≤ 1000000) <;> simp [h1,h2]
theorem Zau (e : GEvent) : Ts e = some (Tw e):=by
 unfold Ts Tw Qe
 simp only [BY,Option.bind_some]
 by_cases h1 : (1 ≤ e.Kind ∧ e.Kind ≤ 4) <;> by_cases h2 : (0 ≤ e.Number ∧ e.Number ≤ 1000000) <;> simp [h1,h2]
theorem Ap (l : List GEvent) (p : GEvent → Option Bool) (q : GEvent → Bool) (hl : l.length < 9223372036854775807) (hp : ∀ x ∈ l,p x = some (q x)) : Z3 l p = some (l.any q):=by
 unfold Z3 Yx
 rw [AZ l p q _ (fun s=>by unfold YS; rfl) hl hp]
 simp only [Option.bind_some,Zcd]
def Kc (l : List GRecord) : Nat → Int
 | 0=>0
 | i + 1=>(l[i]?.map (·.Number)).getD 0
def zL (v : GVault) (r : GRecord) : Bool:=!decide ((0 : Int) ≤ r.Version ∧ r.Version ≤ (v.Keys.length : Int) - 1) || decide (32 < r.Label.length) || decide (200 < r.Body.length)
def BM (v : GVault) (i : Nat) : Bool:=match v.Records[i]? with
 | some r=>decide (r.Number ≤ Kc v.Records i) || decide (r.Number ≥ v.Next) || zL v r
 | none=>false
def badI (v : GVault) (i : Nat) : Bool:=match v.Records[i]? with
 | some r=>!decide (1 ≤ r.Number ∧ r.Number ≤ v.Next - 1) || (decide (0 < i) && decide (Kc v.Records i ≥ r.Number)) || zL v r
 | none=>false
def Hk (v : GVault) : Bool:=decide (1 ≤ v.Keys.length ∧ v.Keys.length ≤ 8 ∧ 1 ≤ v.Next ∧ v.Next ≤ 1000000 ∧ v.Records.length ≤ 12 ∧ v.Events.length ≤ 60)
def Xg (v : GVault) : Bool:=Hk v && !((List.range' 0 (v.Records.length - 0)).any (BM v)) && v.Events.all Tw
theorem Zc3 (v : GVault) : (List.range' 0 (v.Records.length - 0)).any (badI v) = (List.range' 0 (v.Records.length - 0)).any (BM v):=by
 have h : ∀ b c : Bool,(b = false ↔ c = false) → b = c:=by intro b c; cases b <;> cases c <;> simp
 apply h
 rw [List.any_eq_false,List.any_eq_false]
 simp only [List.mem_range'_1,Nat.zero_le,true_and,Nat.sub_zero,Nat.zero_add,Bool.not_eq_true]
 constructor
 ·intro hI i hi
  have h1:=hI i hi
  unfold badI BM at *
  rw [List.getElem?_eq_getElem hi] at h1 ⊢
  simp only [Bool.or_eq_false_iff,Bool.not_eq_false',decide_eq_true_eq,Bool.and_eq_false_iff,decide_eq_false_iff_not] at h1 ⊢
  refine ⟨⟨?_,by omega⟩,h1.2⟩
  cases i with
  | zero=>simp only [Kc]; omega
  | succ i =>
   rcases h1.1.2 with h2 | h2
   ·omega
   ·omega
 ·intro hS
  have pos : ∀ i,i < v.Records.length → 0 ≤ Kc v.Records i ∧ Kc v.Records i < (v.Records[i]?.map (·.Number)).getD 0:=by
   intro i
   induction i with
   | zero =>
    intro hi
    have h1:=hS 0 hi
    unfold BM at h1
    rw [List.getElem?_eq_getElem hi] at h1 ⊢
    simp only [Bool.or_eq_false_iff,decide_eq_false_iff_not,Option.map_some,Option.getD_some] at h1 ⊢
    have e : Kc v.Records 0 = 0:=rfl
    have h2:=h1.1.1
    rw [e] at h2 ⊢
    omega
   | succ i ih =>
    intro hi
    have h0:=ih (by omega)
    have h1:=hS (i + 1) hi
    unfold BM at h1
    have e : Kc v.Records (i + 1) = (v.Records[i]?.map (·.Number)).getD 0:=rfl
    rw [List.getElem?_eq_getElem hi] at h1 ⊢
    simp only [Bool.or_eq_false_iff,decide_eq_false_iff_not,Option.map_some,Option.getD_some] at h1 ⊢
    rw [e] at h1 ⊢
    omega
  intro i hi
  have h1:=hS i hi
  have h2:=pos i hi
  unfold badI BM at *
  rw [List.getElem?_eq_getElem hi] at h1 h2 ⊢
  simp only [Bool.or_eq_false_iff,Bool.not_eq_false',decide_eq_true_eq,Bool.and_eq_false_iff,decide_eq_false_iff_not,Option.map_some,Option.getD_some] at h1 h2 ⊢
  exact ⟨⟨by omega,.inr (by omega)⟩,h1.2⟩
theorem Zd2 (v : GVault) (hb : Wt.ln v) : QI v = some (Xg v):=by
 have hb1:=Vz hb.1; have hb2:=Vz hb.2.1; have hb3:=Vz hb.2.2
 unfold QI
 simp only [jg,Option.bind_some]
 by_cases hh : Hk v = true
 ·have hh' : 1 ≤ v.Keys.length ∧ v.Keys.length ≤ 8 ∧ 1 ≤ v.Next ∧ v.Next ≤ 1000000 ∧ v.Records.length ≤ 12 ∧ v.Events.length ≤ 60:=by simpa [Hk] using hh
  have c1 : ¬ ((v.Keys.length : Int) < 1):=by omega
  have c2 : ¬ ((v.Keys.length : Int) > 8):=by omega
  have c3 : 1 ≤ v.Next ∧ v.Next ≤ 1000000:=by omega
  have c4 : ¬ ((v.Records.length : Int) > 12):=by omega
  have c5 : ¬ ((v.Events.length : Int) > 60):=by omega
  simp only [c1,c2,c3,c4,c5,decide_false,decide_true,and_self,Bool.not_true,Bool.false_eq_true,if_false,Option.bind_some]
  have hw : wr ((v.Keys.length : Int) - 1) = (v.Keys.length : Int) - 1:=YZ (by omega)
  have h1:=KR (f:=Te v) (fun i : Nat=>(Kc v.Records i,(i : Int))) (BM v) (fun _=>(.ex false : Fl Unit Bool)) (e:=.nx ()) v.Records.length v.Records.length 0 (by omega) (fun i _ hi=>by
   unfold Te BM
   simp only [Int.ofNat_lt,hi,decide_true,if_true,Ym,List.getElem?_eq_getElem hi,Option.bind_some,jg,hw,Xe (show i < 9223372036854775807 by omega)]
   have e : Kc v.Records (i + 1) = v.Records[i].Number:=by simp [Kc,List.getElem?_eq_getElem hi]
   rw [e]
   unfold zL
   by_cases d1 : v.Records[i].Number ≤ Kc v.Records i
   ·simp [d1]
   ·by_cases d2 : v.Records[i].Number ≥ v.Next
    ·simp [d1,d2]
    ·by_cases d3 : (0 : Int) ≤ v.Records[i].Version ∧ v.Records[i].Version ≤ (v.Keys.length : Int) - 1
     ·by_cases d4 : 32 < v.Records[i].Label.length
      ·have d4' : (v.Records[i].Label.length : Int) > 32:=by omega
       simp [d1,d2,d3,d4,d4']
      ·have d4' : ¬ ((v.Records[i].Label.length : Int) > 32):=by omega
       by_cases d5 : 200 < v.Records[i].Body.length
       ·have d5' : (v.Records[i].Body.length : Int) > 200:=by omega
        simp [d1,d2,d3,d4,d4',d5,d5']
       ·have d5' : ¬ ((v.Records[i].Body.length : Int) > 200):=by omega
        simp [d1,d2,d3,d4,d4',d5,d5']
     ·simp [d1,d2,d3]) (by unfold Te; simp)
  have h2 : ZB (Te v) (0,0) = _:=h1
  rw [h2]
  have h3:=yJ (f:=T8 v) v.Events (fun e=>!Tw e) (t:=false) (by omega) (fun i hi=>by
   unfold T8
   simp only [Int.ofNat_lt,hi,decide_true,if_true,Ym,List.getElem?_eq_getElem hi,Option.bind_some,qj]
   cases Tw v.Events[i] <;> simp) (by unfold T8; simp)
  rw [h3]
  unfold Xg
  rw [hh,Nat.sub_zero]
  cases hf : (List.range' 0 v.Records.length).find? (BM v) with
  | none =>
   have : (List.range' 0 v.Records.length).any (BM v) = false:=by
    rw [List.any_eq_false]; exact List.find?_eq_none.1 hf
   rw [this,List.any_eq_not_all_not]
   simp only [Bool.not_not]
   cases v.Events.all Tw <;> rfl
  | some i =>
   have : (List.range' 0 v.Records.length).any (BM v) = true:=by
    rw [List.any_eq_true]; exact ⟨i,List.mem_of_find?_eq_some hf,List.find?_some hf⟩
   rw [this]; rfl
 ·have hf : Hk v = false:=by simpa using hh
  unfold Xg
  rw [hf]
  have hh' : ¬ (1 ≤ v.Keys.length ∧ v.Keys.length ≤ 8 ∧ 1 ≤ v.Next ∧ v.Next ≤ 1000000 ∧ v.Records.length ≤ 12 ∧ v.Events.length ≤ 60):=by simpa [Hk] using hf
  by_cases c1 : ((v.Keys.length : Int) < 1)
  ·simp [c1]
  ·by_cases c2 : ((v.Keys.length : Int) > 8)
   ·simp [c1,c2]
   ·by_cases c3 : 1 ≤ v.Next ∧ v.Next ≤ 1000000
    ·by_cases c4 : ((v.Records.length : Int) > 12)
     ·simp [c1,c2,c3,c4]
     ·have c5 : ((v.Events.length : Int) > 60):=by omega
      simp [c1,c2,c3,c4,c5]
    ·simp [c1,c2,c3]
theorem zx (v : GVault) (hb : Wt.ln v) : Tv v = some (Xg v):=by
 have hb1:=Vz hb.1; have hb2:=Vz hb.2.1; have hb3:=Vz hb.2.2
 unfold Tv Z5
 simp only [BY,Option.bind_some]
 by_cases hh : Hk v = true
 ·have hh' : 1 ≤ v.Keys.length ∧ v.Keys.length ≤ 8 ∧ 1 ≤ v.Next ∧ v.Next ≤ 1000000 ∧ v.Records.length ≤ 12 ∧ v.Events.length ≤ 60:=by simpa [Hk] using hh
  have c1 : (1 : Int) ≤ v.Keys.length ∧ (v.Keys.length : Int) ≤ 8:=by omega
  have c3 : 1 ≤ v.Next ∧ v.Next ≤ 1000000:=by omega
  have c4 : ¬ ((v.Records.length : Int) > 12):=by omega
  have c5 : ¬ ((v.Events.length : Int) > 60):=by omega
  simp only [c1,c3,c4,c5,decide_false,decide_true,and_self,Bool.not_true,Bool.false_eq_true,if_false,Option.bind_some]
  have hw : wr ((v.Keys.length : Int) - 1) = (v.Keys.length : Int) - 1:=YZ (by omega)
  have hw2 : wr (v.Next - 1) = v.Next - 1:=YZ (by omega)
  have h1:=Zdd (f:=VL v) v.Records.length (badI v) false (by omega) (fun i hi=>by
   unfold VL badI Z5
   simp only [Int.ofNat_lt,hi,decide_true,if_true,Ym,List.getElem?_eq_getElem hi,Option.bind_some,BY,hw,hw2]
   unfold zL
   by_cases d1 : 1 ≤ v.Records[i].Number ∧ v.Records[i].Number ≤ v.Next - 1
   ·have key : (if decide ((i : Int) > 0) = true then (idx v.Records (wr ((i : Int) - 1))).bind fun x=>some (decide (x.Number ≥ v.Records[i].Number)) else some false) = some (decide (0 < i) && decide (Kc v.Records i ≥ v.Records[i].Number)):=by
     cases i with
     | zero=>simp
     | succ i =>
      have e1 : wr (((i + 1 : Nat) : Int) - 1) = (i : Int):=by rw [YZ (by omega)]; omega
      have hi' : i < v.Records.length:=by omega
      have e2 : Kc v.Records (i + 1) = v.Records[i].Number:=by simp [Kc,List.getElem?_eq_getElem hi']
      have e3 : ((i + 1 : Nat) : Int) > 0:=by omega
      simp only [e1,e2,e3,decide_true,if_true,Ym,List.getElem?_eq_getElem hi',Option.bind_some]
      simp
    simp only [d1,decide_true,and_self,Bool.not_true,Bool.false_eq_true,if_false,key,Option.bind_some,Bool.false_or]
    by_cases d2 : (decide (0 < i) && decide (Kc v.Records i ≥ v.Records[i].Number)) = true
    ·simp [d2]
    ·have d2 : (decide (0 < i) && decide (Kc v.Records i ≥ v.Records[i].Number)) = false:=by simpa using d2
     rw [d2]
     by_cases d3 : (0 : Int) ≤ v.Records[i].Version ∧ v.Records[i].Version ≤ (v.Keys.length : Int) - 1
     ·by_cases d4 : 32 < v.Records[i].Label.length
      ·have d4' : (v.Records[i].Label.length : Int) > 32:=by omega
       simp [d3,d4,d4']
      ·have d4' : ¬ ((v.Records[i].Label.length : Int) > 32):=by omega
       by_cases d5 : 200 < v.Records[i].Body.length
       ·have d5' : (v.Records[i].Body.length : Int) > 200:=by omega
        simp [d3,d4,d4',d5,d5']
       ·have d5' : ¬ ((v.Records[i].Body.length : Int) > 200):=by omega
        simp [d3,d4,d4',d5,d5']
     ·simp [d3]
   ·simp [d1]) (by unfold VL; simp) 0 (Nat.zero_le _)
  have h2 : ZB (VL v) 0 = _:=h1
  rw [h2,Zc3,Ap v.Events _ (fun e=>!Tw e) (by omega) (fun x _=>by unfold UB; rw [Zau]; rfl)]
  have ha : (v.Events.any fun e=>!Tw e) = !(v.Events.all Tw):=by rw [List.any_eq_not_all_not]; simp
  unfold Xg
  rw [hh,ha]
  generalize (List.range' 0 (v.Records.length - 0)).any (BM v) = z
  cases z <;> simp [Fl.el]
 ·have hf : Hk v = false:=by simpa using hh
  unfold Xg
  rw [hf]
  have hh' : ¬ (1 ≤ v.Keys.length ∧ v.Keys.length ≤ 8 ∧ 1 ≤ v.Next ∧ v.Next ≤ 1000000 ∧ v.Records.length ≤ 12 ∧ v.Events.length ≤ 60):=by simpa [Hk] using hf
  by_cases c1 : (1 : Int) ≤ v.Keys.length ∧ (v.Keys.length : Int) ≤ 8
  ·by_cases c3 : 1 ≤ v.Next ∧ v.Next ≤ 1000000
   ·by_cases c4 : ((v.Records.length : Int) > 12)
    ·simp [c1,c3,c4]
    ·have c5 : ((v.Events.length : Int) > 60):=by omega
     simp [c1,c3,c4,c5]
   ·simp [c1,c3]
  ·simp [c1]
theorem Zei {α : Type} [Dat α] [Wt α] {f : α → Int → Option Int} {x : α} {left : Int} {G : Int → Option Bool} (hf : Qr f x) (h1 : 0 ≤ left) (h2 : left ≤ 1048576) (hG : ∀ r,0 ≤ r → r ≤ 1048576 → r + (Wt.wt x : Nat) ≤ left → G r = some true) :
  ((f x left).bind fun r=>if decide (r < 0) = true then some true else G r) = some true:=by
 obtain ⟨r,e1,e2,e3⟩:=hf left h1 h2
 rw [e1]
 by_cases hr : r < 0
 ·simp [hr]
 ·have:=hG r (by omega) e2 (e3 (by omega))
  simp [hr,this]
theorem Qv {v : GVault} (h : Xg v = true) : 1 ≤ v.Keys.length ∧ v.Keys.length ≤ 8 ∧ 1 ≤ v.Next ∧ v.Next ≤ 1000000 ∧ v.Records.length ≤ 12 ∧ v.Events.length ≤ 60:=by
 unfold Xg Hk at h
 simp only [Bool.and_eq_true,decide_eq_true_eq] at h
 exact h.1.1
theorem BX (a : Nat) (h : a < 9223372036854775808) : (BitVec.ofInt 64 (a : Int)).toNat = a:=by
 rw [BitVec.toNat_ofInt]
 omega
theorem JN (a b : Nat) (ha : a < 9223372036854775808) (hb : b < 9223372036854775808) : BP (a : Int) (b : Int) = ((a ^^^ b : Nat) : Int):=by
 unfold BP
 rw [BitVec.toNat_xor,BX a ha,BX b hb]
 have : a ^^^ b < 2 ^ 63:=Nat.xor_lt_two_pow ha hb
 exact YZ (by omega)
theorem Zcb (a b : Nat) (ha : a < 9223372036854775808) (hb : b < 9223372036854775808) : Ki (a : Int) (b : Int) = ((a &&& b : Nat) : Int):=by
 unfold Ki
 rw [BitVec.toNat_and,BX a ha,BX b hb]
 have : a &&& b < 2 ^ 63:=Nat.and_lt_two_pow _ hb
 exact YZ (by omega)
theorem k9 (a i : Nat) (hi : i ≤ 63) (h : a <<< i < 9223372036854775808) : yy (a : Int) (i : Int) = ((a <<< i : Nat) : Int):=by
 unfold yy
 rw [show min ((i : Int)).toNat 64 = i by omega]
 have : ((a : Int) * 2 ^ i) = ((a <<< i : Nat) : Int):=by rw [Nat.shiftLeft_eq]; simp
 rw [this]
 generalize a <<< i = x at h ⊢
 exact YZ (by omega)
theorem kX (a i : Nat) (hi : i ≤ 63) : VA (a : Int) (i : Int) = ((a >>> i : Nat) : Int):=by
 unfold VA
 rw [show min ((i : Int)).toNat 64 = i by omega,Nat.shiftRight_eq_div_pow,Int.fdiv_eq_ediv_of_nonneg _ (by exact_mod_cast Nat.zero_le _)]
 simp
theorem jH (a i : Nat) : ((a >>> i) &&& 1 = 1) ↔ a.testBit i = true:=by
 rw [Nat.testBit,Nat.and_comm]
 have h:=Nat.and_one_is_mod (a >>> i)
 rw [Nat.and_comm] at h
 rw [h]
 rcases Nat.mod_two_eq_zero_or_one (a >>> i) with h | h <;> simp [h]
theorem Zc1 (a : Nat) : Int.tmod (a : Int) 2 = ((a % 2 : Nat) : Int):=by
 rw [Int.tmod_eq_emod_of_nonneg (by omega)]; simp
theorem Zdg (a : Nat) : Int.tdiv (a : Int) 2 = ((a / 2 : Nat) : Int):=by
 rw [Int.tdiv_eq_ediv_of_nonneg (by omega)]; simp
theorem Zaj (a : Nat) (h : a < 9223372036854775808) : wr (a : Int) = (a : Int):=YZ (by omega)
theorem Zcg (a : Nat) (h : a < 9223372036854775808) : IntKind.u64.wrap (a : Int) = (a : Int):=by
 simp only [IntKind.wrap,IntKind.bits,IntKind.signed]
 simp
 omega

def Y5 (m deg : Nat) : Nat → Nat → Nat
 | 0,a=>a
 | k + 1,a=>Y5 m deg k (if a.testBit (deg + k) then a ^^^ (m <<< k) else a)
theorem J0 {m k n : Nat} (h : m < 2 ^ n) : m <<< k < 2 ^ (n + k):=by
 rw [Nat.shiftLeft_eq,Nat.pow_add]
 exact Nat.mul_lt_mul_of_pos_right h (Nat.two_pow_pos _)
theorem y9 {a n : Nat} (h : a < 2 ^ (n + 1)) (hb : a.testBit n = false) : a < 2 ^ n:=by
 apply Nat.lt_pow_two_of_testBit
 intro i hi
 rcases Nat.eq_or_lt_of_le hi with rfl | hi
 ·exact hb
 ·exact Nat.testBit_lt_two_pow (Nat.lt_of_lt_of_le h (Nat.pow_le_pow_right (by omega) hi))
theorem qX {m d : Nat} (h1 : 2 ^ d ≤ m) (h2 : m < 2 ^ (d + 1)) : m.testBit d = true:=by
 rw [Nat.testBit,Nat.shiftRight_eq_div_pow]
 have : m / 2 ^ d = 1:=by
  apply Nat.div_eq_of_lt_le
  ·simpa using h1
  ·rw [Nat.pow_succ] at h2; omega
 rw [this]; rfl
theorem Zd0 {m d k a : Nat} (h1 : 2 ^ d ≤ m) (h2 : m < 2 ^ (d + 1)) (ha : a < 2 ^ (d + (k + 1))) (hb : a.testBit (d + k) = true) : a ^^^ (m <<< k) < 2 ^ (d + k):=by
 have hm : m <<< k < 2 ^ (d + (k + 1)):=by have:=J0 (k:=k) h2; rwa [show d + 1 + k = d + (k + 1) by omega] at this
 refine y9 (Nat.xor_lt_two_pow (by rwa [show d + k + 1 = d + (k + 1) by omega]) (by rwa [show d + k + 1 = d + (k + 1) by omega])) ?_
 rw [Nat.testBit_xor,hb,Nat.testBit_shiftLeft]
 simp [qX h1 h2]
theorem Br {m d : Nat} (h1 : 2 ^ d ≤ m) (h2 : m < 2 ^ (d + 1)) : ∀ (k a : Nat),a < 2 ^ (d + k) → Y5 m d k a < 2 ^ d
 | 0,a,h=>by simpa [Y5] using h
 | k + 1,a,h=>by
  unfold Y5
  cases hb : a.testBit (d + k) with
  | true=>simp only [if_true]; exact Br h1 h2 k _ (Zd0 h1 h2 h hb)
  | false=>simp only [Bool.false_eq_true,if_false]; exact Br h1 h2 k a (y9 h hb)
theorem Ko (m d : Nat) : ∀ (k a b : Nat),Y5 m d k (a ^^^ b) = Y5 m d k a ^^^ Y5 m d k b
 | 0,_,_=>rfl
 | k + 1,a,b=>by
  simp only [Y5]
  rw [Nat.testBit_xor]
  cases a.testBit (d + k) <;> cases b.testBit (d + k) <;> simp only [Bool.xor_false,Bool.false_xor,Bool.xor_self,Bool.xor_true,Bool.not_false,Bool.not_true,Bool.false_eq_true,if_true,if_false]
  ·exact Ko m d k a b
  ·rw [Nat.xor_assoc]; exact Ko m d k a _
  ·rw [← Ko m d k]; congr 1; rw [Nat.xor_assoc,Nat.xor_comm b,← Nat.xor_assoc]
  ·rw [← Ko m d k]; congr 1
   rw [Nat.xor_assoc,← Nat.xor_assoc (m <<< k),Nat.xor_comm (m <<< k) b,Nat.xor_assoc,Nat.xor_self,Nat.xor_zero]
theorem TQ {m d : Nat} : ∀ (k a : Nat),a < 2 ^ d → Y5 m d k a = a
 | 0,_,_=>rfl
 | k + 1,a,h=>by
  unfold Y5
  rw [Nat.testBit_lt_two_pow (Nat.lt_of_lt_of_le h (Nat.pow_le_pow_right (by omega) (by omega)))]
  simp only [Bool.false_eq_true,if_false]
  exact TQ k a h
theorem yL {m d k a : Nat} (h : a < 2 ^ (d + k)) : Y5 m d (k + 1) a = Y5 m d k a:=by
 conv=>lhs; unfold Y5
 rw [Nat.testBit_lt_two_pow h]; rfl
theorem KB (m d : Nat) : ∀ (k x : Nat),Y5 m d (k + 1) (x <<< 1) = (if ((Y5 m d k x) <<< 1).testBit d then ((Y5 m d k x) <<< 1) ^^^ m else (Y5 m d k x) <<< 1)
 | 0,x=>by simp [Y5]
 | k + 1,x=>by
  conv=>lhs; unfold Y5
  conv=>rhs; unfold Y5
  have e : (x <<< 1).testBit (d + (k + 1)) = x.testBit (d + k):=by
   rw [Nat.testBit_shiftLeft]
   have : d + (k + 1) ≥ 1:=by omega
   simp only [this,decide_true,Bool.true_and]
   congr 1
  rw [e]
  cases x.testBit (d + k) with
  | false=>simp only [Bool.false_eq_true,if_false]; exact KB m d k x
  | true =>
   simp only [if_true]
   have e2 : x <<< 1 ^^^ m <<< (k + 1) = (x ^^^ m <<< k) <<< 1:=by
    rw [Nat.shiftLeft_xor_distrib,← Nat.shiftLeft_add]
   rw [e2]
   exact KB m d k _

def lenN (n : Nat) : Nat:=if n = 0 then 0 else n.log2 + 1
theorem v_rest (a m d : Nat) (hd : d ≤ 15) (ha : a < 2 ^ 16) (hm : m < 2 ^ 20) : Qy (a : Int) (m : Int) (d : Int) = some ((Y5 m d (16 - d) a : Nat) : Int):=by
 have key : ∀ (k a : Nat),d + k ≤ 16 → a < 2 ^ 40 → ZB (TV (m : Int) (d : Int)) ((a : Int),((d + k : Nat) : Int) - 1) = some ((Y5 m d k a : Nat) : Int):=by
  intro k
  induction k with
  | zero =>
   intro a _ _
   rw [WJ (t:=(a : Int))]
   ·rfl
   ·unfold TV
    have : ¬ (((d + 0 : Nat) : Int) - 1 ≥ (d : Int)):=by omega
    simp only [this,decide_false,Bool.false_eq_true,if_false]
  | succ k ih =>
   intro a hk ha
   have e0 : ((d + (k + 1) : Nat) : Int) - 1 = ((d + k : Nat) : Int):=by omega
   have hsh : m <<< k < 2 ^ (20 + k):=J0 hm
   have hsh2 : m <<< k < 2 ^ 40:=Nat.lt_of_lt_of_le hsh (Nat.pow_le_pow_right (by omega) (by omega))
   have hst : TV (m : Int) (d : Int) ((a : Int),((d + (k + 1) : Nat) : Int) - 1) = some (.nx (((if a.testBit (d + k) then a ^^^ (m <<< k) else a : Nat) : Int),((d + k : Nat) : Int) - 1)):=by
    rw [e0]
    unfold TV
    have c1 : ((d + k : Nat) : Int) ≥ (d : Int):=by omega
    have c2 : We ((d + k : Nat) : Int) = some ():=by unfold We; rw [if_pos (by omega)]
    have c3 : wr (((d + k : Nat) : Int) - (d : Int)) = ((k : Nat) : Int):=by rw [show ((d + k : Nat) : Int) - (d : Int) = ((k : Nat) : Int) by omega,Zaj _ (by omega)]
    have c4 : We ((k : Nat) : Int) = some ():=by unfold We; rw [if_pos (by omega)]
    have c5 : wr (((d + k : Nat) : Int) - 1) = ((d + k : Nat) : Int) - 1:=YZ (by omega)
    simp only [c1,decide_true,if_true,c2,c3,c4,c5,Option.bind_some]
    have c6 : Ki (VA (a : Int) ((d + k : Nat) : Int)) 1 = (((a >>> (d + k)) &&& 1 : Nat) : Int):=by
     rw [kX a (d + k) (by omega)]
     exact Zcb _ 1 (Nat.lt_of_le_of_lt (Nat.shiftRight_le _ _) (by omega)) (by omega)
    rw [c6,k9 m k (by omega) (by omega),JN a _ (by omega) (by omega)]
    cases hb : a.testBit (d + k) with
    | true =>
     have:=(jH a (d + k)).2 hb
     rw [this]; rfl
    | false =>
     have : ¬ ((a >>> (d + k)) &&& 1 = 1):=fun h=>by rw [(jH a (d + k)).1 h] at hb; cases hb
     have h2 : (((((a >>> (d + k)) &&& 1 : Nat) : Int)) == 1) = false:=by
      rw [beq_eq_false_iff_ne]; omega
     rw [h2]; rfl
   rw [W1 hst,ih _ (by omega) ?_]
   ·conv=>rhs; unfold Y5
   ·split
    ·exact Nat.xor_lt_two_pow ha hsh2
    ·exact ha
 unfold Qy
 have:=key (16 - d) a (by omega) (by omega)
 rw [show ((d + (16 - d) : Nat) : Int) - 1 = 15 by omega] at this
 rw [this]; rfl

def BE : Nat → Nat → Nat → Nat
 | 0,_,_=>0
 | n + 1,a,b=>(if b % 2 = 1 then a else 0) ^^^ BE n (a <<< 1) (b / 2)
theorem BS : ∀ (n a : Nat),BE n a 0 = 0
 | 0,_=>rfl
 | n + 1,a=>by simp [BE,BS n]
theorem qQ : ∀ (n a b p : Nat),a < 2 ^ p → BE n a b < 2 ^ (p + n)
 | 0,_,_,_,_=>by simp [BE]; exact Nat.two_pow_pos _
 | n + 1,a,b,p,h=>by
  unfold BE
  have h1 : a <<< 1 < 2 ^ (p + 1):=J0 h
  have h2:=qQ n (a <<< 1) (b / 2) (p + 1) h1
  rw [show p + 1 + n = p + (n + 1) by omega] at h2
  refine Nat.xor_lt_two_pow ?_ h2
  have h3 : 2 ^ p ≤ 2 ^ (p + (n + 1)):=Nat.pow_le_pow_right (by omega) (by omega)
  have h4:=Nat.two_pow_pos (p + (n + 1))
  split <;> omega
def prC : Nat → Nat → Nat → Nat
 | 0,_,_=>0
 | i + 1,a,b=>prC i a b ^^^ (if b.testBit i then a <<< i else 0)
theorem ka : ∀ (n a b : Nat),prC (n + 1) a b = (if b % 2 = 1 then a else 0) ^^^ prC n (a <<< 1) (b / 2)
 | 0,a,b=>by
  simp only [prC,Nat.zero_xor,Nat.xor_zero,Nat.shiftLeft_zero]
  have : b.testBit 0 = decide (b % 2 = 1):=by simp [Nat.testBit_zero]
  rw [this]; simp
 | n + 1,a,b=>by
  conv=>lhs; unfold prC
  rw [ka n a b]
  conv=>rhs; unfold prC
  rw [← Nat.xor_assoc]
  congr 1
  rw [Nat.testBit_succ,← Nat.shiftLeft_add,Nat.add_comm 1 n]
theorem Zdf : ∀ (n a b : Nat),prC n a b = BE n a b
 | 0,_,_=>rfl
 | n + 1,a,b=>by rw [ka,Zdf n]; rfl
theorem qA (a b : Nat) (h : a < 256) : ∀ i,i ≤ 8 → prC i a b < 2 ^ 16
 | 0,_=>by simp [prC]
 | i + 1,hi=>by
  unfold prC
  have h1 : a <<< i < 2 ^ (8 + i):=J0 h
  have h2 : 2 ^ (8 + i) ≤ 2 ^ 16:=Nat.pow_le_pow_right (by omega) (by omega)
  refine Nat.xor_lt_two_pow (qA a b h i (by omega)) ?_
  split
  ·omega
  ·omega
def Yh (m : Nat) (a b : UInt8) : UInt8:=Zp ((Y5 m 8 8 (BE 8 a.toNat b.toNat) : Nat) : Int)
theorem Qc (m : Nat) (hm : m < 512) (a b : UInt8) : Yo (m : Int) a b = some (Yh m a b):=by
 have ha : a.toNat < 256:=a.toNat_lt
 have hb : b.toNat < 256:=b.toNat_lt
 have h:=Z4 (f:=XV a b) (fun i : Nat=>(((prC i a.toNat b.toNat : Nat) : Int),(i : Int))) 0 8 (Nat.zero_le _) (t:=((prC 8 a.toNat b.toNat : Nat) : Int)) (fun i _ hi=>by
  unfold XV
  have c1 : ((i : Int) < 8):=by omega
  have c2 : We (i : Int) = some ():=by unfold We; rw [if_pos (by omega)]
  have c3 : prC i a.toNat b.toNat < 2 ^ 16:=qA _ _ ha i (by omega)
  have c4 : a.toNat <<< i < 2 ^ (8 + i):=J0 ha
  have c5 : 2 ^ (8 + i) ≤ 2 ^ 16:=Nat.pow_le_pow_right (by omega) (by omega)
  have c6 : (((yf b (i : Int)) &&& 1) == 1) = b.toNat.testBit i:=by
   have e1 : (yf b (i : Int)).toNat = b.toNat >>> i:=by
    unfold yf Zp
    rw [show min ((i : Int)).toNat 8 = i by omega,Int.fdiv_eq_ediv_of_nonneg _ (by exact_mod_cast Nat.zero_le _)]
    have : ((b.toNat : Int) / 2 ^ i) = ((b.toNat >>> i : Nat) : Int):=by rw [Nat.shiftRight_eq_div_pow]; simp
    rw [this]
    have h3 : b.toNat >>> i ≤ b.toNat:=Nat.shiftRight_le _ _
    generalize b.toNat >>> i = q at h3 ⊢
    have h4 : (((q : Nat) : Int) % 256).toNat = q:=by omega
    rw [h4]
    simp
    omega
   rw [Bool.eq_iff_iff,beq_iff_eq,← jH,← UInt8.toNat_inj,UInt8.toNat_and,e1]
   simp
  simp only [c1,decide_true,if_true,c2,Option.bind_some,c6,Xe (show i < 9223372036854775807 by omega)]
  rw [k9 _ i (by omega) (by omega),JN _ _ (by omega) (by omega)]
  cases hbit : b.toNat.testBit i with
  | true=>simp [prC,hbit]
  | false=>simp [prC,hbit]) (by unfold XV; simp)
 have h2 : ZB (XV a b) (0,0) = _:=h
 unfold Yo
 rw [h2]
 simp only [Option.bind_some]
 have h3:=v_rest (prC 8 a.toNat b.toNat) m 8 (by omega) (qA _ _ ha 8 (by omega)) (by omega)
 have h4 : Qy ((prC 8 a.toNat b.toNat : Nat) : Int) (m : Int) 8 = _:=h3
 rw [h4,Zdf]
 rfl
theorem HO (m : Nat) (hm : m < 512) (hm2 : 256 ≤ m) (a b : UInt8) : Xb (m : Int) a b = some (Yh m a b):=by
 have ha : a.toNat < 256:=a.toNat_lt
 have hb : b.toNat < 256:=b.toNat_lt
 have h1 : 2 ^ 8 ≤ m:=hm2
 have h2 : m < 2 ^ (8 + 1):=hm
 have hR : ∀ i,i ≤ 8 → Y5 m 8 8 (a.toNat <<< i) < 256:=fun i hi=>Br h1 h2 8 _ (by
  have:=J0 (k:=i) (show a.toNat < 2 ^ 8 from ha)
  exact Nat.lt_of_lt_of_le this (Nat.pow_le_pow_right (by omega) (by omega)))
 have hdbl : ∀ i,i ≤ 7 → Y5 m 8 8 (a.toNat <<< (i + 1)) = if 256 ≤ (Y5 m 8 8 (a.toNat <<< i)) * 2 then (Y5 m 8 8 (a.toNat <<< i)) * 2 ^^^ m else (Y5 m 8 8 (a.toNat <<< i)) * 2:=by
  intro i hi
  have hx : a.toNat <<< i < 2 ^ (8 + 7):=Nat.lt_of_lt_of_le (J0 (show a.toNat < 2 ^ 8 from ha)) (Nat.pow_le_pow_right (by omega) (by omega))
  have e : a.toNat <<< (i + 1) = (a.toNat <<< i) <<< 1:=by rw [← Nat.shiftLeft_add]
  rw [e,KB m 8 7,← yL hx]
  have hlt:=hR i (by omega)
  generalize Y5 m 8 8 (a.toNat <<< i) = y at hlt ⊢
  have e2 : y <<< 1 = y * 2:=by rw [Nat.shiftLeft_eq]
  rw [e2]
  have e3 : (y * 2).testBit 8 = decide (256 ≤ y * 2):=by
   by_cases hy : 256 ≤ y * 2
   ·rw [qX (d:=8) hy (by omega)]; simp [hy]
   ·rw [Nat.testBit_lt_two_pow (by omega : y * 2 < 2 ^ 8)]; simp [hy]
  rw [e3]
  by_cases hy : 256 ≤ y * 2 <;> simp [hy]
 have key : ∀ (n i o r : Nat),i + n ≤ 8 → r < 2 ^ n → o < 256 → ZB (Xz (m : Int)) ((o : Int),((Y5 m 8 8 (a.toNat <<< i) : Nat) : Int),(r : Int)) = some ((o ^^^ Y5 m 8 8 (BE n (a.toNat <<< i) r) : Nat) : Int):=by
  intro n
  induction n with
  | zero =>
   intro i o r _ hr ho
   have : r = 0:=by simpa using hr
   subst this
   rw [WJ (t:=(o : Int))]
   ·rw [BS,TQ 8 0 (by omega),Nat.xor_zero]
   ·unfold Xz; simp
  | succ n ih =>
   intro i o r hi hr ho
   by_cases h0 : r = 0
   ·subst h0
    rw [WJ (t:=(o : Int))]
    ·rw [BS,TQ 8 0 (by omega),Nat.xor_zero]
    ·unfold Xz; simp
   ·have hy:=hR i (by omega)
    have hst : Xz (m : Int) ((o : Int),((Y5 m 8 8 (a.toNat <<< i) : Nat) : Int),(r : Int)) = some (.nx (((o ^^^ Y5 m 8 8 (if r % 2 = 1 then a.toNat <<< i else 0) : Nat) : Int),((Y5 m 8 8 (a.toNat <<< (i + 1)) : Nat) : Int),((r / 2 : Nat) : Int))):=by
     rw [hdbl i (by omega)]
     unfold Xz
     have c1 : (r : Int) > 0:=by omega
     have hr2 : r < 512:=Nat.lt_of_lt_of_le hr (Nat.le_trans (Nat.pow_le_pow_right (by omega) (by omega : n + 1 ≤ 9)) (by omega))
     simp only [c1,decide_true,if_true,Zc1,Zdg]
     have e1 : wr (((Y5 m 8 8 (a.toNat <<< i) : Nat) : Int) * 2) = (((Y5 m 8 8 (a.toNat <<< i)) * 2 : Nat) : Int):=by rw [YZ (by omega)]; omega
     have e2 : wr ((r / 2 : Nat) : Int) = ((r / 2 : Nat) : Int):=Zaj _ (by omega)
     rw [e1,e2,JN _ _ (by omega) (by omega),JN _ _ (by omega) (by omega)]
     have e3 : ((((r % 2 : Nat) : Int)) == 1) = decide (r % 2 = 1):=by
      rw [Bool.eq_iff_iff,beq_iff_eq,decide_eq_true_eq]; omega
     rw [e3]
     have e4 : decide ((((Y5 m 8 8 (a.toNat <<< i)) * 2 : Nat) : Int) ≥ 256) = decide (256 ≤ (Y5 m 8 8 (a.toNat <<< i)) * 2):=by rw [decide_eq_decide]; omega
     rw [e4]
     have e5 : Y5 m 8 8 0 = 0:=TQ 8 0 (by omega)
     by_cases c2 : r % 2 = 1 <;> by_cases c3 : 256 ≤ (Y5 m 8 8 (a.toNat <<< i)) * 2 <;> simp only [c2,c3,decide_true,decide_false,Bool.false_eq_true,if_true,if_false,Option.bind_some,e5,Nat.xor_zero]
    rw [W1 hst,ih (i + 1) _ (r / 2) (by omega) (by rw [Nat.pow_succ] at hr; omega) ?_]
    ·conv=>rhs; unfold BE
     rw [Ko,Nat.xor_assoc,Nat.shiftLeft_add]
    ·refine Nat.xor_lt_two_pow (n:=8) ho ?_
     split
     ·exact hR i (by omega)
     ·rw [TQ 8 0 (by omega)]; omega
 have:=key 8 0 0 b.toNat (by omega) hb (by omega)
 rw [Nat.shiftLeft_zero,TQ 8 a.toNat ha,Nat.zero_xor] at this
 have h3 : ZB (Xz (m : Int)) (0,bI a,bI b) = _:=this
 unfold Xb
 rw [h3]
 rfl

def AG (m : Nat) : Nat → UInt8 → Nat → UInt8 → UInt8
 | 0,_,_,o=>o
 | f + 1,a,k,o=>if k = 0 then o else AG m f (Yh m a a) (k / 2) (if k % 2 = 1 then Yh m o a else o)
theorem kJ (m : Nat) (L : UInt8 × Int × UInt8 → Option (Fl (UInt8 × Int × UInt8) UInt8)) (T : UInt8 → UInt8 → Option UInt8) (hT : ∀ a b,T a b = some (Yh m a b))
  (hL : ∀ s,L s = if (decide (s.2.1 > 0)) = true then (((if ((Int.tmod s.2.1 2) == 1) = true then ((T s.2.2 s.1).bind fun r=>some r) else (some s.2.2) : Option UInt8).bind fun j12=>(T s.1 s.1).bind fun r20=>some (r20,j12) : Option (UInt8 × UInt8)).bind fun j9=>some (Fl.nx (j9.1,wr (Int.tdiv s.2.1 2),j9.2))) else (some (Fl.ex s.2.2))) :
  ∀ (f k : Nat) (a o : UInt8),k < 2 ^ f → f ≤ 62 → ZB L (a,(k : Int),o) = some (AG m f a k o):=by
 intro f
 induction f with
 | zero =>
  intro k a o hk _
  have : k = 0:=by simpa using hk
  subst this
  exact WJ (by rw [hL]; simp [AG])
 | succ f ih =>
  intro k a o hk hf
  by_cases h0 : k = 0
  ·subst h0
   exact WJ (by rw [hL]; simp [AG])
  ·have hlt : k < 9223372036854775808:=Nat.lt_of_lt_of_le hk (Nat.pow_le_pow_right (by omega : 0 < 2) (by omega : f + 1 ≤ 63))
   have hst : L (a,(k : Int),o) = some (.nx (Yh m a a,((k / 2 : Nat) : Int),if k % 2 = 1 then Yh m o a else o)):=by
    rw [hL]
    have c1 : (k : Int) > 0:=by omega
    have e3 : ((((k % 2 : Nat) : Int)) == 1) = decide (k % 2 = 1):=by
     rw [Bool.eq_iff_iff,beq_iff_eq,decide_eq_true_eq]; omega
    simp only [c1,decide_true,if_true,Zc1,Zdg,hT,e3,Option.bind_some,Zaj (k / 2) (by omega)]
    by_cases c2 : k % 2 = 1 <;> simp [c2]
   rw [W1 hst,ih (k / 2) _ _ (by rw [Nat.pow_succ] at hk; omega) (by omega)]
   conv=>rhs; unfold AG
   rw [if_neg h0]
theorem yn (m : Nat) (hm : m < 512) (a : UInt8) (k f : Nat) (hk : k < 2 ^ f) (hf : f ≤ 62) : X9 (m : Int) a (k : Int) = some (AG m f a k 1):=by
 unfold X9
 rw [kJ m (Uf (m : Int)) _ (Qc m hm) (fun s=>by unfold Uf; rfl) f k a 1 hk hf]; rfl
theorem qb (m : Nat) (hm : m < 512) (hm2 : 256 ≤ m) (a : UInt8) (k f : Nat) (hk : k < 2 ^ f) (hf : f ≤ 62) : VK (m : Int) a (k : Int) = some (AG m f a k 1):=by
 unfold VK
 rw [kJ m (TY (m : Int)) _ (HO m hm hm2) (fun s=>by unfold TY; rfl) f k a 1 hk hf]; rfl
def Kv (m : Nat) (a : UInt8) : UInt8:=AG m 8 a 254 1
theorem Jn (m : Nat) (hm : m < 512) (a : UInt8) : YE (m : Int) a = some (Kv m a):=by
 unfold YE
 have:=yn m hm a 254 8 (by omega) (by omega)
 have h2 : X9 (m : Int) a 254 = _:=this
 rw [h2]; rfl
theorem Zcs (m : Nat) (hm : m < 512) (hm2 : 256 ≤ m) (a : UInt8) : Ub (m : Int) a = some (Kv m a):=by
 unfold Ub
 have:=qb m hm hm2 a 254 8 (by omega) (by omega)
 have h2 : VK (m : Int) a 254 = _:=this
 rw [h2]; rfl

def redB (m d : Nat) : Bool:=Y5 d (lenN d - 1) (16 - (lenN d - 1)) m == 0
def Bo (m : Int) : Bool:=decide (256 ≤ m ∧ m ≤ 511) && !((List.range' 2 30).any (redB m.toNat))
theorem ky {m : Int} (h : Bo m = true) : ∃ n : Nat,m = n ∧ 256 ≤ n ∧ n < 512:=by
 unfold Bo at h
 simp only [Bool.and_eq_true,decide_eq_true_eq] at h
 exact ⟨m.toNat,by omega,by omega,by omega⟩
def Zb8 (l : List UInt8) : Bool:=decide l.Nodup
def dbl (m y : Nat) : Nat:=if (y <<< 1).testBit 8 then (y <<< 1) ^^^ m else y <<< 1
theorem kO (a b c d : Nat) : (a ^^^ b) ^^^ (c ^^^ d) = (a ^^^ c) ^^^ (b ^^^ d):=by
 rw [Nat.xor_assoc,Nat.xor_assoc,← Nat.xor_assoc b,← Nat.xor_assoc c,Nat.xor_comm b c]
theorem Zai (m x y : Nat) : dbl m (x ^^^ y) = dbl m x ^^^ dbl m y:=by
 unfold dbl
 rw [Nat.shiftLeft_xor_distrib,Nat.testBit_xor]
 cases (x <<< 1).testBit 8 <;> cases (y <<< 1).testBit 8 <;> simp only [Bool.xor_false,Bool.false_xor,Bool.xor_self,Bool.xor_true,Bool.not_false,Bool.not_true,Bool.false_eq_true,if_true,if_false]
 ·rw [Nat.xor_assoc]
 ·rw [Nat.xor_assoc,Nat.xor_assoc,Nat.xor_comm m]
 ·rw [kO,Nat.xor_self,Nat.xor_zero]
theorem zT (m : Nat) : dbl m 0 = 0:=by simp [dbl]
def opP (m : Nat) : Nat → Nat → Nat → Nat
 | 0,_,_=>0
 | n + 1,b,x=>(if b % 2 = 1 then x else 0) ^^^ opP m n (b / 2) (dbl m x)
theorem kG (m n b x : Nat) : opP m (n + 1) b x = (if b % 2 = 1 then x else 0) ^^^ opP m n (b / 2) (dbl m x):=rfl
theorem ju (m : Nat) : ∀ (n b x y : Nat),opP m n b (x ^^^ y) = opP m n b x ^^^ opP m n b y
 | 0,_,_,_=>by simp [opP]
 | n + 1,b,x,y=>by
  unfold opP
  rw [Zai,ju m n,kO]
  congr 1
  split <;> simp
theorem Bl (m : Nat) : ∀ (n b : Nat),opP m n b 0 = 0
 | 0,_=>rfl
 | n + 1,b=>by unfold opP; rw [zT,Bl m n]; simp
theorem Zab (m : Nat) : ∀ (n b x : Nat),opP m n b (dbl m x) = dbl m (opP m n b x)
 | 0,_,_=>(zT m).symm
 | n + 1,b,x=>by
  unfold opP
  rw [Zab m n,Zai]
  congr 1
  split
  ·rfl
  ·exact (zT m).symm
theorem kU (m : Nat) : ∀ (n b k c x : Nat),opP m n b (opP m k c x) = opP m k c (opP m n b x)
 | 0,_,k,c,_=>(Bl m k c).symm
 | n + 1,b,k,c,x=>by
  rw [kG,kG,← Zab,kU m n,ju]
  congr 1
  split
  ·rfl
  ·exact (Bl m k c).symm
theorem Zbg (a : Nat) : (if a % 2 = 1 then 1 else 0) ^^^ (a / 2) <<< 1 = a:=by
 rw [Nat.shiftLeft_eq]
 have h : (if a % 2 = 1 then 1 else 0) = a % 2:=by split <;> omega
 rw [h]
 apply Nat.eq_of_testBit_eq
 intro i
 rw [Nat.testBit_xor]
 cases i with
 | zero =>
  simp [Nat.testBit_zero]
 | succ i =>
  rw [Nat.testBit_succ,Nat.testBit_succ,Nat.testBit_succ]
  have h1 : a % 2 / 2 = 0:=by omega
  have h2 : a / 2 * 2 ^ 1 / 2 = a / 2:=by omega
  rw [h1,h2]; simp
theorem Zec (m i : Nat) (hi : i < 7) : dbl m (1 <<< i) = 1 <<< (i + 1):=by
 unfold dbl
 rw [← Nat.shiftLeft_add]
 have : (1 <<< (i + 1)).testBit 8 = false:=by
  apply Nat.testBit_lt_two_pow
  rw [Nat.shiftLeft_eq,Nat.one_mul]
  exact Nat.pow_lt_pow_right (by omega) (by omega)
 rw [this]; rfl
theorem jB (m : Nat) : ∀ (n i a : Nat), n + i ≤ 8 → a < 2 ^ n → opP m n a (1 <<< i) = a <<< i
  | 0, i, a, _, ha => by
    have : a = 0 := by simpa using ha
    subst this; simp [opP]
  | n + 1, i, a, hn, ha => by
    have e : a <<< i = (if a % 2 = 1 then 1 <<< i else 0) ^^^ (a / 2) <<< (i + 1) := by
      conv => lhs; rw [← Zbg a]
      rw [Nat.shiftLeft_xor_distrib, ← Nat.shiftLeft_add, Nat.add_comm 1 i]
      congr 1
      split <;> simp
    unfold opP
    rw [e]
    congr 1
    rcases Nat.eq_zero_or_pos n with rfl | hp
    · have : a / 2 = 0 := by have : a < 2 := by simpa using ha
                             omega
      rw [this]; simp [opP]
    · rw [Zec m i (by omega)]
      exact jB m n (i + 1) (a / 2) (by omega) (by rw [Nat.pow_succ] at ha; omega)

theorem Zba (m x : Nat) (hx : x < 2 ^ 15) : Y5 m 8 8 (x <<< 1) = dbl m (Y5 m 8 8 x):=by
 rw [KB m 8 7,← yL (d:=8) (k:=7) hx]; rfl
theorem Zcn (m : Nat) : ∀ (n i a b : Nat),i + n ≤ 8 → a < 2 ^ 8 → Y5 m 8 8 (BE n (a <<< i) b) = opP m n b (Y5 m 8 8 (a <<< i))
 | 0,_,_,_,_,_=>by simp [BE,opP,TQ 8 0]
 | n + 1,i,a,b,hn,ha=>by
  unfold BE opP
  rw [Ko]
  have hx : a <<< i < 2 ^ 15:=Nat.lt_of_lt_of_le (J0 ha) (Nat.pow_le_pow_right (by omega) (by omega))
  rw [← Zba m _ hx,← Nat.shiftLeft_add,Zcn m n (i + 1) a (b / 2) (by omega) ha]
  congr 1
  split
  ·rfl
  ·exact TQ 8 0 (by omega)
theorem Kn (m : Nat) (h1 : 256 ≤ m) (h2 : m < 512) (a b : UInt8) : (Yh m a b).toNat = opP m 8 b.toNat a.toNat:=by
 have ha : a.toNat < 2 ^ 8:=a.toNat_lt
 have hr : Y5 m 8 8 (BE 8 a.toNat b.toNat) < 256:=Br (d:=8) h1 h2 8 _ (qQ 8 a.toNat b.toNat 8 ha)
 have e:=Zcn m 8 0 a.toNat b.toNat (by omega) ha
 rw [Nat.shiftLeft_zero,TQ 8 _ ha] at e
 unfold Yh Zp
 rw [e] at hr ⊢
 generalize opP m 8 b.toNat a.toNat = q at hr ⊢
 have : (((q : Nat) : Int) % 256).toNat = q:=by omega
 rw [this]
 simp
 omega
section
variable {m : Nat} (h1 : 256 ≤ m) (h2 : m < 512)
include h1 h2
theorem K4 (a b : UInt8) : Yh m a b = Yh m b a:=by
 apply UInt8.toNat_inj.1
 rw [Kn m h1 h2,Kn m h1 h2]
 have ea:=jB m 8 0 a.toNat (by omega) a.toNat_lt
 have eb:=jB m 8 0 b.toNat (by omega) b.toNat_lt
 simp only [Nat.shiftLeft_zero] at ea eb
 rw [← ea,kU,eb,ea]
theorem Zbe (a b c : UInt8) : Yh m (a ^^^ b) c = Yh m a c ^^^ Yh m b c:=by
 apply UInt8.toNat_inj.1
 rw [UInt8.toNat_xor,Kn m h1 h2,Kn m h1 h2,Kn m h1 h2,UInt8.toNat_xor,ju]
theorem qF (a b c : UInt8) : Yh m a (b ^^^ c) = Yh m a b ^^^ Yh m a c:=by
 rw [K4 h1 h2,Zbe h1 h2,K4 h1 h2 b,K4 h1 h2 c]
theorem Ht (a : UInt8) : Yh m 0 a = 0:=by
 apply UInt8.toNat_inj.1
 rw [Kn m h1 h2]
 exact Bl m 8 _
end
def vf {α : Type} (n : Nat) (f : Nat → α) : Vector α n:=Vector.ofFn fun i=>f i.1
theorem Je {α : Type} {n i : Nat} (f : Nat → α) (h : i < n) : (vf n f)[i] = f i:=by simp [vf]
theorem BF {α : Type} {n i : Nat} (f : Nat → α) (h : i < n) : (vf n f)[i]? = some (f i):=by rw [Vector.getElem?_eq_getElem h,Je f h]
theorem ZT {α : Type} {n i : Nat} (f : Nat → α) (h : i < n) : ZH (vf n f) (i : Int) = some (f i):=by rw [W6,BF f h]
theorem Xw {α : Type} {n : Nat} {f g : Nat → α} (h : ∀ i,i < n → f i = g i) : vf n f = vf n g:=by
 apply Qn
 intro i hi
 rw [Je f hi,Je g hi,h i hi]
theorem QN {α : Type} {n : Nat} (f : Nat → α) (k : Nat) (x : α) : (vf n f).setIfInBounds k x = vf n (fun i=>if i = k then x else f i):=by
 apply Qn
 intro i hi
 rw [Vector.getElem_setIfInBounds,Je _ hi,Je _ hi]
 by_cases h : k = i
 ·subst h; simp
 ·rw [if_neg h,if_neg (fun e=>h e.symm)]
theorem Qp {α : Type} (n : Nat) (x : α) : Vector.replicate n x = vf n (fun _=>x):=by
 apply Qn
 intro i hi
 rw [Je _ hi]; simp
theorem Zap {α : Type} [Inhabited α] {n : Nat} (v : Vector α n) : v = vf n (fun i=>v[i]?.getD default):=by
 apply Qn
 intro i hi
 rw [Je _ hi,Vector.getElem?_eq_getElem hi]; rfl
abbrev Mat:=Vector (Vector UInt8 4) 4
def mf (f : Nat → Nat → UInt8) : Mat:=vf 4 fun i=>vf 4 (f i)
theorem Vn {f g : Nat → Nat → UInt8} (h : ∀ i,i < 4 → ∀ j,j < 4 → f i j = g i j) : mf f = mf g:=Xw fun i hi=>Xw fun j hj=>h i hi j hj
theorem TU {i : Nat} (f : Nat → Nat → UInt8) (h : i < 4) : ZH (mf f) (i : Int) = some (vf 4 (f i)):=ZT _ h
theorem HW (f : Nat → Nat → UInt8) (k : Nat) (g : Nat → UInt8) : (mf f).setIfInBounds k (vf 4 g) = mf (fun i j=>if i = k then g j else f i j):=by
 unfold mf
 rw [QN]
 apply Xw
 intro i hi
 by_cases h : i = k
 ·simp [h]
 ·simp [h]
theorem jh : Vector.replicate 4 (Vector.replicate 4 (0 : UInt8)) = mf (fun _ _=>0):=by rw [Qp 4 (0 : UInt8),Qp]; rfl
theorem lt4 {i : Nat} (h : i < 4) : decide ((i : Int) < 4) = true:=by simp; omega
theorem lt4' {i : Nat} (h : ¬ i < 4) : decide ((i : Int) < 4) = false:=by simp; omega
theorem wr4 {i : Nat} (h : i < 1000) : wr ((i : Int) + 1) = ((i + 1 : Nat) : Int):=Xe (by omega)

def Bk (i j : Nat) : UInt8:=if i = j then 1 else 0
theorem Zbk (L : Mat × Int → Option (Fl (Mat × Int) Mat))
  (hL : ∀ s8,L s8 = if (decide (s8.2 < 4)) = true then ((ZH s8.1 s8.2).bind fun (x14 : (Vector UInt8 4))=>(ZH x14 s8.2).bind fun (x17 : UInt8)=>some (Fl.nx ((s8.1.setIfInBounds (s8.2).toNat (x14.setIfInBounds (s8.2).toNat 1)),wr (s8.2 + 1)))) else (some (Fl.ex s8.1))) :
  ZB L (Vector.replicate 4 (Vector.replicate 4 (0 : UInt8)),0) = some (mf Bk):=by
 have:=Z4 (f:=L) (fun i : Nat=>(mf fun r c=>if r < i then Bk r c else 0,(i : Int))) 0 4 (by omega) (t:=mf Bk) (fun i _ hi=>by
  rw [hL]
  simp only [lt4 hi,if_true,TU _ hi,ZT _ hi,Option.bind_some,Int.toNat_natCast,QN,HW,wr4 (show i < 1000 by omega)]
  congr 3
  apply Vn
  intro r hr c hc
  by_cases h1 : r = i
  ·subst h1; simp [Bk,eq_comm]
  ·simp only [h1,if_false]
   by_cases h2 : r < i
   ·rw [if_pos h2,if_pos (by omega)]
   ·rw [if_neg h2,if_neg (by omega)]) (by
  rw [hL]
  simp only [lt4' (show ¬ 4 < 4 by omega),Bool.false_eq_true,if_false]
  exact congrArg (fun z=>some (Fl.ex z)) (Vn fun r hr c hc=>by rw [if_pos hr]))
 rw [jh]
 simpa using this
theorem H7 : VQ = some (mf Bk):=by
 unfold VQ
 rw [Zbk Qq fun s=>rfl]; rfl

abbrev MF:=Nat → Nat → UInt8
def Ho (f : MF) (k : Nat) : Nat:=((List.range' k (4 - k)).find? fun i=>!(f i k == 0)).getD 4
def Zbs (f : MF) (i k : Nat) : MF:=fun r c=>if r = k then f i c else if r = i then f k c else f r c
def jS (m : Nat) (f : MF) (k : Nat) (by_ : UInt8) : MF:=fun r c=>if r = k then Yh m (f k c) by_ else f r c
def Tk (m : Nat) (f g : MF) (k : Nat) : MF:=fun r c=>if r = k then g r c else g r c ^^^ Yh m (f r k) (g k c)
structure Red where
 a : MF
 b : MF
 det : UInt8
def Bw (m : Nat) (s : Red) (k : Nat) : Option Red :=
 let i:=Ho s.a k
 if i = 4 then none else
  let f:=Zbs s.a i k
  let g:=Zbs s.b i k
  let q:=Kv m (f k k)
  let f2:=jS m f k q
  let g2:=jS m g k q
  some ⟨Tk m f2 f2 k,Tk m f2 g2 k,Yh m s.det (f k k)⟩
def BH (m : Nat) : Nat → Nat → Red → Option Red
 | 0,_,s=>some s
 | n + 1,k,s=>(Bw m s k).bind (BH m n (k + 1))
def AT (m : Nat) (a : MF) : UInt8 × Mat:=match BH m 4 0 ⟨a,Bk,1⟩ with
 | some s=>(s.det,mf s.b)
 | none=>(0,mf fun _ _=>0)
theorem qn (L : Int → Option (Fl Int Int)) (f : MF) (k : Nat) (hk : k < 4)
  (hL : ∀ s,L s = (if (decide (s < 4)) = true then ((ZH (mf f) s).bind fun (x30 : (Vector UInt8 4))=>(ZH x30 (k : Int)).bind fun (x33 : UInt8)=>some (x33 == 0)) else (some false) : Option (Bool)).bind fun (j25 : Bool)=>if j25 = true then (some (Fl.nx (wr (s + 1)))) else (some (Fl.ex s))) :
  ZB L (k : Int) = some ((Ho f k : Nat) : Int):=by
 have:=KR (f:=L) (fun i : Nat=>(i : Int)) (fun i=>!(f i k == 0)) (fun i=>(i : Int)) (e:=(4 : Int)) 4 (4 - k) k (by omega) (fun i _ hi=>by
  rw [hL]
  simp only [lt4 hi,if_true,TU _ hi,ZT _ hk,Option.bind_some]
  cases h : (f i k == 0)
  ·simp
  ·simp [wr4 (show i < 1000 by omega)]) (by rw [hL]; simp)
 rw [this]
 unfold Ho
 cases (List.range' k (4 - k)).find? fun i=>!(f i k == 0) <;> rfl
theorem Zbu {f : MF} {k : Nat} (h : Ho f k ≠ 4) : Ho f k < 4:=by
 unfold Ho at h ⊢
 cases hf : (List.range' k (4 - k)).find? fun i=>!(f i k == 0) with
 | none=>rw [hf] at h; exact absurd rfl h
 | some i =>
  have:=List.mem_range'_1.1 (List.mem_of_find?_eq_some hf)
  simp only [Option.getD_some]
  omega
theorem yI (L : Mat × Mat × Int → Option (Fl (Mat × Mat × Int) (Mat × Mat))) (f g : MF) (k : Nat) (hk : k < 4) (p q : Nat → UInt8)
  (hL : ∀ c,c < 4 → ∀ a b : MF,(∀ r,r ≠ k → a r = f r) → (∀ r,r ≠ k → b r = g r) → a k c = f k c → b k c = g k c → L (mf a,mf b,(c : Int)) = some (Fl.nx ((mf a).setIfInBounds k ((vf 4 (a k)).setIfInBounds c (p c)),(mf b).setIfInBounds k ((vf 4 (b k)).setIfInBounds c (q c)),wr ((c : Int) + 1))))
  (he : ∀ a b : Mat,L (a,b,4) = some (Fl.ex (a,b))) :
  ZB L (mf f,mf g,0) = some (mf (fun r c=>if r = k then p c else f r c),mf (fun r c=>if r = k then q c else g r c)):=by
 have k1 : (mf fun r c=>if r = k then (if c < 4 then p c else f k c) else f r c) = mf fun r c=>if r = k then p c else f r c:=Vn fun r _ c hc=>by rw [if_pos hc]
 have k2 : (mf fun r c=>if r = k then (if c < 4 then q c else g k c) else g r c) = mf fun r c=>if r = k then q c else g r c:=Vn fun r _ c hc=>by rw [if_pos hc]
 have:=Z4 (f:=L) (fun i : Nat=>(mf fun r c=>if r = k then (if c < i then p c else f k c) else f r c,mf fun r c=>if r = k then (if c < i then q c else g k c) else g r c,(i : Int))) 0 4 (by omega)
  (t:=(mf (fun r c=>if r = k then p c else f r c),mf (fun r c=>if r = k then q c else g r c))) (fun i _ hi=>by
  rw [hL i hi _ _ (fun r hr=>by funext c; rw [if_neg hr]) (fun r hr=>by funext c; rw [if_neg hr]) (by simp) (by simp)]
  simp only [QN,HW,wr4 (show i < 1000 by omega)]
  congr 3
  ·apply Vn
   intro r hr c hc
   by_cases h : r = k
   ·simp only [h,if_true]
    by_cases h2 : c = i
    ·subst h2; simp
    ·by_cases h3 : c < i
     ·rw [if_neg h2,if_pos h3,if_pos (by omega)]
     ·rw [if_neg h2,if_neg h3,if_neg (by omega)]
   ·simp only [h,if_false]
  ·congr 1
   apply Vn
   intro r hr c hc
   by_cases h : r = k
   ·simp only [h,if_true]
    by_cases h2 : c = i
    ·subst h2; simp
    ·by_cases h3 : c < i
     ·rw [if_neg h2,if_pos h3,if_pos (by omega)]
     ·rw [if_neg h2,if_neg h3,if_neg (by omega)]
   ·simp only [h,if_false]) (by
  simp only [k1,k2]
  exact he _ _)
 have e1 : mf (fun r c=>if r = k then (if c < 0 then p c else f k c) else f r c) = mf f:=Vn fun r hr c hc=>by
  by_cases h : r = k
  ·subst h; simp
  ·simp [h]
 have e2 : mf (fun r c=>if r = k then (if c < 0 then q c else g k c) else g r c) = mf g:=Vn fun r hr c hc=>by
  by_cases h : r = k
  ·subst h; simp
  ·simp [h]
 simp only [e1,e2] at this
 exact this
theorem qa {S : Type} (m : Nat) (L : S → Option (Fl S (Fl (Mat × UInt8) (UInt8 × Mat)))) (pk : Red → Nat → S)
  (hstep : ∀ k,k < 4 → ∀ s,L (pk s k) = some (match Bw m s k with | none=>.ex (.ex (0,mf fun _ _=>0)) | some s'=>.nx (pk s' (k + 1))))
  (hend : ∀ s,L (pk s 4) = some (.ex (.nx (mf s.b,s.det)))) : ∀ (n k : Nat) (s : Red),k + n = 4 → ZB L (pk s k) = some (match BH m n k s with | some s'=>.nx (mf s'.b,s'.det) | none=>.ex (0,mf fun _ _=>0))
 | 0,k,s,h=>by
  have : k = 4:=by omega
  subst this
  rw [WJ (hend s)]; rfl
 | n + 1,k,s,h=>by
  have h1:=hstep k (by omega) s
  unfold BH
  cases hr : Bw m s k with
  | none=>rw [hr] at h1; rw [WJ h1]; rfl
  | some s'=>rw [hr] at h1; rw [W1 h1]; exact qa m L pk hstep hend n (k + 1) s' (by omega)
theorem Zdw {i k : Nat} : (((i : Int)) != ((k : Nat) : Int)) = decide (i ≠ k):=by
 by_cases h : i = k
 ·subst h; simp
 ·have : (i : Int) ≠ (k : Int):=by omega
  simp [h,this]
theorem Zbi (m : Nat) (L : Mat × Mat × Int → Option (Fl (Mat × Mat × Int) (Mat × Mat))) (f g : MF) (k : Nat)
  (hL : ∀ i,i < 4 → ∀ a b : MF,(a i = f i) → (b i = g i) → (a k = f k) → (b k = g k) → L (mf a,mf b,(i : Int)) = some (Fl.nx (mf (fun r c=>if r = i then Tk m f f k r c else a r c),mf (fun r c=>if r = i then Tk m f g k r c else b r c),wr ((i : Int) + 1))))
  (he : ∀ a b : Mat,L (a,b,4) = some (Fl.ex (a,b))) : ZB L (mf f,mf g,0) = some (mf (Tk m f f k),mf (Tk m f g k)):=by
 have ek : ∀ h : MF,Tk m f h k k = h k:=fun h=>by funext c; simp [Tk]
 have k1 : (mf fun r c=>if r < 4 then Tk m f f k r c else f r c) = mf (Tk m f f k):=Vn fun r hr c _=>by rw [if_pos hr]
 have k2 : (mf fun r c=>if r < 4 then Tk m f g k r c else g r c) = mf (Tk m f g k):=Vn fun r hr c _=>by rw [if_pos hr]
 have:=Z4 (f:=L) (fun i : Nat=>(mf fun r c=>if r < i then Tk m f f k r c else f r c,mf fun r c=>if r < i then Tk m f g k r c else g r c,(i : Int))) 0 4 (by omega)
  (t:=(mf (Tk m f f k),mf (Tk m f g k))) (fun i _ hi=>by
  rw [hL i hi _ _ (by funext c; simp) (by funext c; simp) (by funext c; by_cases h : k < i <;> simp [h,ek]) (by funext c; by_cases h : k < i <;> simp [h,ek])]
  rw [wr4 (show i < 1000 by omega)]
  have e : ∀ (x y : MF),(mf fun r c=>if r = i then x r c else if r < i then x r c else y r c) = mf fun r c=>if r < i + 1 then x r c else y r c:=fun x y=>Vn fun r _ c _=>by
   by_cases h1 : r = i
   ·subst h1; simp
   ·by_cases h2 : r < i
    ·rw [if_neg h1,if_pos h2,if_pos (by omega)]
    ·rw [if_neg h1,if_neg h2,if_neg (by omega)]
  rw [e,e]) (by
  simp only [k1,k2]
  exact he _ _)
 simpa using this

theorem Zbt (f : MF) {i k : Nat} : ((mf f).setIfInBounds i (vf 4 (f k))).setIfInBounds k (vf 4 (f i)) = mf (Zbs f i k):=by
 rw [HW,HW]; rfl
section
variable (m : Nat) (hm : m < 512) (hm2 : 256 ≤ m)
include hm
theorem qN (A B : Mat) (det : UInt8) (q : UInt8) (f g : MF) (k : Nat) (hk : k < 4) : ZB (Ws (m : Int) (A,B,(k : Int),det) q) (mf f,mf g,0) = some (mf (jS m f k q),mf (jS m g k q)):=by
 refine yI _ f g k hk (fun c=>Yh m (f k c) q) (fun c=>Yh m (g k c) q) (fun c hc a b _ _ ha hb=>?_) (fun a b=>?_)
 ·unfold Ws
  simp only [lt4 hc,if_true,TU _ hk,ZT _ hc,Option.bind_some,Qc m hm,ha,hb,Int.toNat_natCast]
 ·unfold Ws; simp
theorem Zbq (A B : Mat) (det : UInt8) (s1 : Mat × Mat × Int) (x : UInt8) (f g : MF) (k i : Nat) (hk : k < 4) (hi : i < 4) (hik : i ≠ k) (hs : s1.2.2 = (i : Int)) :
  ZB (Wr (m : Int) (A,B,(k : Int),det) s1 x) (mf f,mf g,0) = some (mf (fun r c=>if r = i then f i c ^^^ Yh m x (f k c) else f r c),mf (fun r c=>if r = i then g i c ^^^ Yh m x (g k c) else g r c)):=by
 refine yI _ f g i hi (fun c=>f i c ^^^ Yh m x (f k c)) (fun c=>g i c ^^^ Yh m x (g k c)) (fun c hc a b ha' hb' ha hb=>?_) (fun a b=>?_)
 ·unfold Wr
  have e1:=ha' k (Ne.symm hik)
  have e2:=hb' k (Ne.symm hik)
  simp only [hs,lt4 hc,if_true,TU _ hk,TU _ hi,ZT _ hc,Option.bind_some,Qc m hm,ha,hb,e1,e2,Int.toNat_natCast]
 ·unfold Wr; simp
include hm2
theorem Zar (A B : Mat) (det : UInt8) (f g : MF) (k : Nat) (hk : k < 4) : ZB (Wk (m : Int) (A,B,(k : Int),det)) (mf f,mf g,0) = some (mf (Tk m f f k),mf (Tk m f g k)):=by
 refine Zbi m _ f g k (fun i hi a b hai hbi hak hbk=>?_) (fun a b=>by unfold Wk; simp)
 unfold Wk
 have hfi : a i k = f i k:=by rw [hai]
 simp only [lt4 hi,if_true,TU _ hi,ZT _ hk,Option.bind_some,Zdw,hfi]
 by_cases h : i = k
 ·subst h
  simp only [ne_eq,not_true_eq_false,decide_false,Bool.false_eq_true,if_false,Option.bind_some]
  congr 3
  ·exact Vn fun r _ c _=>by
    by_cases h : r = i
    ·subst h; simp [Tk,hai]
    ·simp [h]
  ·congr 1
   exact Vn fun r _ c _=>by
    by_cases h : r = i
    ·subst h; simp [Tk,hbi]
    ·simp [h]
 ·have hd : decide (i ≠ k) = true:=by simpa using h
  simp only [hd,if_true,Option.bind_some]
  by_cases h0 : f i k = 0
  ·simp only [h0,bne_self_eq_false,Bool.false_eq_true,if_false,Option.bind_some]
   congr 3
   ·exact Vn fun r _ c _=>by
     by_cases h2 : r = i
     ·subst h2; simp [Tk,hai,h,h0,Ht hm2 hm]
     ·simp [h2]
   ·congr 1
    exact Vn fun r _ c _=>by
     by_cases h2 : r = i
     ·subst h2; simp [Tk,hbi,h,h0,Ht hm2 hm]
     ·simp [h2]
  ·have hb0 : (f i k != 0) = true:=by simpa using h0
   simp only [hb0,if_true,Option.bind_some]
   rw [Zbq m hm A B det _ _ a b k i hk hi h rfl]
   simp only [Option.bind_some]
   congr 3
   ·exact Vn fun r _ c _=>by
     by_cases h2 : r = i
     ·subst h2; simp [Tk,hai,hak,h]
     ·simp [h2]
   ·congr 1
    exact Vn fun r _ c _=>by
     by_cases h2 : r = i
     ·subst h2; simp [Tk,hbi,hbk,h]
     ·simp [h2]
theorem Zbb (k : Nat) (hk : k < 4) (s : Red) : Y3 (m : Int) (mf s.a,mf s.b,(k : Int),s.det) = some (match Bw m s k with | none=>.ex (.ex (0,mf fun _ _=>0)) | some s'=>.nx (mf s'.a,mf s'.b,((k + 1 : Nat) : Int),s'.det)):=by
 unfold Y3
 have hp:=qn (TA (mf s.a,mf s.b,(k : Int),s.det)) s.a k hk (fun x=>rfl)
 simp only [lt4 hk,if_true,hp,Option.bind_some]
 unfold Bw
 by_cases h4 : Ho s.a k = 4
 ·have : ((4 : Nat) : Int) = 4:=rfl
  simp only [h4,this,beq_self_eq_true,if_true,jh]
 ·have hi:=Zbu h4
  have h5 : (((Ho s.a k : Nat) : Int) == 4) = false:=by
   have : ((Ho s.a k : Nat) : Int) ≠ 4:=by omega
   simpa using this
  generalize hpi : Ho s.a k = i at *
  simp only [h4,h5,Bool.false_eq_true,if_false]
  have x1 : ZH ((mf s.a).setIfInBounds i (vf 4 (s.a k))) (k : Int) = some (vf 4 (fun c=>if k = i then s.a k c else s.a k c)):=by rw [HW]; exact TU _ hk
  have x2 : ZH ((mf s.b).setIfInBounds i (vf 4 (s.b k))) (k : Int) = some (vf 4 (fun c=>if k = i then s.b k c else s.b k c)):=by rw [HW]; exact TU _ hk
  simp only [TU _ hk,TU _ hi,Option.bind_some,Int.toNat_natCast,x1,x2,Zbt,ZT _ hk,Qc m hm,Jn m hm,qN m hm _ _ _ _ _ _ k hk,Zar m hm hm2 _ _ _ _ _ k hk,wr4 (show k < 1000 by omega)]
theorem zb (f : MF) : XU (m : Int) (mf f) = some (AT m f):=by
 unfold XU
 have h:=qa m (Y3 (m : Int)) (fun s k=>(mf s.a,mf s.b,(k : Int),s.det)) (Zbb m hm hm2) (fun s=>by unfold Y3; simp) 4 0 ⟨f,Bk,1⟩ rfl
 have h2 : ZB (Y3 (m : Int)) (mf f,mf Bk,0,1) = _:=h
 rw [H7,Option.bind_some,h2]
 unfold AT
 cases BH m 4 0 ⟨f,Bk,1⟩ <;> rfl
end
theorem yN {n i : Nat} (v : Vector UInt8 n) (h : i < n) : ZH v (i : Int) = some (v.toList.getD i 0):=by
 rw [W6,Vector.getElem?_eq_getElem h]
 simp [List.getD_eq_getElem?_getD,h]
theorem kb (x : UInt8) : (bI x).toNat = x.toNat:=rfl
def Kf (p : Vector UInt8 16) : Bool:=p.toList.all (fun x=>decide (x < 16)) && Zb8 p.toList
def As (a : Mat) : MF:=fun i j=>(a[i]?.getD default)[j]?.getD default
theorem AU (a : Mat) : a = mf (As a):=calc a = vf 4 (fun i=>a[i]?.getD default):=Zap a
  _ = _:=Xw fun i _=>Zap _
def detC (m : Nat) (a : Mat) : UInt8:=(AT m (As a)).1
def invM (m : Nat) (a : Mat) : Mat:=(AT m (As a)).2
def YJ (c : GCipher) : Bool:=Bo c.Field && Zb8 c.Box.toList && Kf c.Places && decide (1 ≤ c.Rounds ∧ c.Rounds ≤ 20) && (detC c.Field.toNat c.Mix != 0)
theorem Zc7 (m : Nat) (hm : m < 512) (hm2 : 256 ≤ m) (a : Mat) : XU (m : Int) a = some (detC m a,invM m a):=by
 have:=zb m hm hm2 (As a)
 rw [← AU] at this
 exact this
theorem Bc {c : GCipher} (h : YJ c = true) : ∃ m : Nat,c.Field = m ∧ 256 ≤ m ∧ m < 512:=by
 unfold YJ at h
 simp only [Bool.and_eq_true] at h
 exact ky h.1.1.1.1
theorem WH {n : Nat} (L : Vector UInt8 n × Int → Option (Fl (Vector UInt8 n × Int) (Vector UInt8 n))) (f h : Nat → UInt8) (hn : n < 9223372036854775807) (m : Nat) (hm : m ≤ n) (h0 : ∀ j,j < m → h j = f j)
  (hL : ∀ i,m ≤ i → i < n → ∀ a : Nat → UInt8,(∀ j,j < i → a j = h j) → (∀ j,i ≤ j → a j = f j) → L (vf n a,(i : Int)) = some (.nx ((vf n a).setIfInBounds i (h i),wr ((i : Int) + 1))))
  (he : ∀ v,L (v,(n : Int)) = some (.ex v)) : ZB L (vf n f,(m : Int)) = some (vf n h):=by
 have k1 : (vf n fun j=>if j < n then h j else f j) = vf n h:=Xw fun j hj=>by rw [if_pos hj]
 have k0 : (vf n fun j=>if j < m then h j else f j) = vf n f:=Xw fun j hj=>by
  by_cases h1 : j < m
  ·rw [if_pos h1,h0 j h1]
  ·rw [if_neg h1]
 have:=Z4 (f:=L) (fun i : Nat=>(vf n fun j=>if j < i then h j else f j,(i : Int))) m n hm (t:=vf n h) (fun i hmi hi=>by
  rw [hL i hmi hi _ (fun j hj=>by rw [if_pos hj]) (fun j hj=>by rw [if_neg (by omega)]),QN,Xe (show i < 9223372036854775807 by omega)]
  refine congrArg (fun z=>some (Fl.nx (z,((i + 1 : Nat) : Int)))) (Xw fun j hj=>?_)
  by_cases h1 : j = i
  ·subst h1; simp
  ·by_cases h2 : j < i
   ·rw [if_neg h1,if_pos h2,if_pos (by omega)]
   ·rw [if_neg h1,if_neg h2,if_neg (by omega)]) (by
  simp only [k1]
  exact he _)
 simp only [k0] at this
 exact this
def jd (b : Vector UInt8 256) (x : UInt8) : UInt8:=b[x.toNat]'(UInt8.toNat_lt x)
theorem Jb (b : Vector UInt8 256) (x : UInt8) : ZH b (bI x) = some (jd b x):=by
 have : ZH b ((x.toNat : Nat) : Int) = _:=W6 b x.toNat
 rw [Vector.getElem?_eq_getElem (UInt8.toNat_lt x)] at this
 exact this
abbrev Blk:=Vector UInt8 16
def bf (v : Blk) (i : Nat) : UInt8:=v[i]?.getD default
theorem Zcc (v : Blk) : v = vf 16 (bf v):=Zap v
theorem HH {i : Nat} (h : i < 16) : decide ((i : Int) < 16) = true:=by simp; omega
def H6 (f g : Nat → UInt8) : Nat → UInt8:=fun i=>f i ^^^ g i
theorem H9 (f g : Nat → UInt8) : XF (vf 16 f) (vf 16 g) = some (vf 16 (H6 f g)):=by
 unfold XF
 have:=WH (UD (vf 16 g)) f (H6 f g) (by omega) 0 (by omega) (fun j hj=>by omega) (fun i _ hi a _ ha=>by
  unfold UD
  simp only [HH hi,if_true,ZT _ hi,Option.bind_some,Int.toNat_natCast,ha i (Nat.le_refl _),H6]) (fun v=>by unfold UD; simp)
 have h2 : ZB (UD (vf 16 g)) (vf 16 f,0) = _:=this
 rw [h2]; rfl
theorem Qw (f g : Nat → UInt8) : YK (vf 16 f) (vf 16 g) = some (vf 16 (H6 f g)):=by
 unfold YK
 have:=WH (WD (vf 16 g)) f (H6 f g) (by omega) 0 (by omega) (fun j hj=>by omega) (fun i _ hi a _ ha=>by
  unfold WD
  simp only [HH hi,if_true,ZT _ hi,Option.bind_some,Int.toNat_natCast,ha i (Nat.le_refl _),H6]) (fun v=>by unfold WD; simp)
 have h2 : ZB (WD (vf 16 g)) (vf 16 f,0) = _:=this
 rw [h2]; rfl
def zf (b : Vector UInt8 256) (f : Nat → UInt8) : Nat → UInt8:=fun i=>jd b (f i)
theorem qi (b : Vector UInt8 256) (f : Nat → UInt8) : U8 b (vf 16 f) = some (vf 16 (zf b f)):=by
 unfold U8
 have:=WH (Ve b) f (zf b f) (by omega) 0 (by omega) (fun j hj=>by omega) (fun i _ hi a _ ha=>by
  unfold Ve
  simp only [HH hi,if_true,ZT _ hi,Option.bind_some,Int.toNat_natCast,ha i (Nat.le_refl _),Jb,zf]) (fun v=>by unfold Ve; simp)
 have h2 : ZB (Ve b) (vf 16 f,0) = _:=this
 rw [h2]; rfl
def Hi (p : Blk) (f : Nat → UInt8) : Nat → UInt8:=fun i=>f (bf p i).toNat
theorem B8 {p : Blk} (h : Kf p = true) {i : Nat} (hi : i < 16) : (bf p i).toNat < 16:=by
 unfold Kf at h
 simp only [Bool.and_eq_true,List.all_eq_true,decide_eq_true_eq] at h
 have e : bf p i = p[i]:=by unfold bf; rw [Vector.getElem?_eq_getElem hi]; rfl
 have:=h.1 p[i] (by simp)
 rw [UInt8.lt_iff_toNat_lt] at this
 rw [e]; exact this
theorem Bv (p : Blk) {i : Nat} (h : i < 16) : ZH p (i : Int) = some (bf p i):=by
 rw [W6]; unfold bf; rw [Vector.getElem?_eq_getElem h]; rfl
theorem kP (f : Nat → UInt8) {x : UInt8} (h : x.toNat < 16) : ZH (vf 16 f) (bI x) = some (f x.toNat):=ZT f h
theorem Zav (p : Blk) (hp : Kf p = true) (f : Nat → UInt8) : Tz p (vf 16 f) = some (vf 16 (Hi p f)):=by
 unfold Tz
 have:=WH (VG p (vf 16 f)) (fun _=>0) (Hi p f) (by omega) 0 (by omega) (fun j hj=>by omega) (fun i _ hi a _ ha=>by
  unfold VG
  simp only [HH hi,if_true,ZT _ hi,Bv _ hi,Option.bind_some,Int.toNat_natCast,kP f (B8 hp hi),Hi]) (fun v=>by unfold VG; simp)
 have h2 : ZB (VG p (vf 16 f)) (vf 16 (fun _=>0),0) = _:=this
 rw [Qp 16 (0 : UInt8),h2]; rfl
theorem v_move (p : Blk) (hp : Kf p = true) (f : Nat → UInt8) : Vt p (vf 16 f) = some (vf 16 (Hi p f)):=by
 unfold Vt
 have:=WH (XR p (vf 16 f)) (fun _=>0) (Hi p f) (by omega) 0 (by omega) (fun j hj=>by omega) (fun i _ hi a _ ha=>by
  unfold XR
  simp only [HH hi,if_true,ZT _ hi,Bv _ hi,Option.bind_some,Int.toNat_natCast,kP f (B8 hp hi),Hi]) (fun v=>by unfold XR; simp)
 have h2 : ZB (XR p (vf 16 f)) (vf 16 (fun _=>0),0) = _:=this
 rw [Qp 16 (0 : UInt8),h2]; rfl

def KN (b : Vector UInt8 256) (f : Nat → UInt8) (r : Int) : Nat → UInt8
 | 0=>f 0 ^^^ jd b (f 15 ^^^ Zp r)
 | i + 1=>f (i + 1) ^^^ jd b (KN b f r i)
theorem Za5 (b : Vector UInt8 256) (f : Nat → UInt8) (r : Int) : TE b (vf 16 f) r = some (vf 16 (KN b f r)) := by
  unfold TE
  have := WH (VH b r) f (KN b f r) (by omega) 0 (by omega) (fun j hj => by omega) (fun i _ hi a hb ha => by
    unfold VH
    cases i with
    | zero =>
      have e1 : Int.tmod (wr (((0 : Nat) : Int) + 15)) 16 = ((15 : Nat) : Int) := by decide
      simp only [e1, HH hi, if_true, ZT a (show 15 < 16 by omega), Option.bind_some]
      have e2 : (((0 : Nat) : Int) == 0) = true := rfl
      simp only [e2, if_true, Option.bind_some, Jb, ZT a hi, Int.toNat_natCast, ha 0 (by omega), ha 15 (by omega), KN]
    | succ i =>
      have e1 : Int.tmod (wr (((i + 1 : Nat) : Int) + 15)) 16 = ((i : Nat) : Int) := by
        rw [YZ (by omega)]
        have : (((i + 1 : Nat) : Int) + 15) = ((i + 16 : Nat) : Int) := by omega
        rw [this]
        have : Int.tmod ((i + 16 : Nat) : Int) 16 = (((i + 16) % 16 : Nat) : Int) := rfl
        rw [this]
        omega
      have e2 : (((i + 1 : Nat) : Int) == 0) = false := by have : ((i + 1 : Nat) : Int) ≠ 0 := by omega
                                                           simpa using this
      simp only [e1, e2, HH hi, if_true, ZT a (show i < 16 by omega), Option.bind_some, Bool.false_eq_true, if_false, Jb, ZT a hi, Int.toNat_natCast, ha (i + 1) (Nat.le_refl _), hb i (by omega), KN]) (fun v => by unfold VH; simp)
  have h2 : ZB (VH b r) (vf 16 f, 0) = _ := this
  rw [h2]; rfl
theorem Za8 (e : Ref Gengine) (f : Nat → UInt8) (r : Int) : X2 e (vf 16 f) r = some (vf 16 (KN e.v.box f r)):=by
 unfold X2
 have x0 : ZH (vf 16 f) (0 : Int) = some (f 0):=ZT f (show 0 < 16 by omega)
 have x15 : ZH (vf 16 f) (15 : Int) = some (f 15):=ZT f (show 15 < 16 by omega)
 have z : (0 : Int).toNat = 0:=rfl
 simp only [x0,x15,Option.bind_some,Jb,z,QN]
 have:=WH (Xd e) (fun i=>if i = 0 then f 0 ^^^ jd e.v.box (f 15 ^^^ Zp r) else f i) (KN e.v.box f r) (by omega) 1 (by omega) (fun j hj=>by
  have : j = 0:=by omega
  subst this; simp [KN]) (fun i h1 hi a hb ha=>by
  unfold Xd
  obtain ⟨i,rfl⟩ : ∃ k,i = k + 1:=⟨i - 1,by omega⟩
  have e1 : wr (((i + 1 : Nat) : Int) - 1) = ((i : Nat) : Int):=by rw [YZ (by omega)]; omega
  simp only [e1,HH hi,if_true,ZT a (show i < 16 by omega),ZT a hi,Option.bind_some,Jb,Int.toNat_natCast,ha (i + 1) (Nat.le_refl _),hb i (by omega),KN]
  simp) (fun v=>by unfold Xd; simp)
 have h2 : ZB (Xd e) (vf 16 (fun i=>if i = 0 then f 0 ^^^ jd e.v.box (f 15 ^^^ Zp r) else f i),1) = _:=this
 rw [h2]; rfl
def jL (b : Vector UInt8 256) (k : Nat → UInt8) : Nat → Nat → UInt8
 | 0=>k
 | r + 1=>KN b (jL b k r) ((r + 1 : Nat) : Int)
def U5 (b : Vector UInt8 256) (k : Nat → UInt8) (n : Nat) : List Blk:=(List.range (n + 1)).map fun r=>vf 16 (jL b k r)
theorem yM (b : Vector UInt8 256) (k : Nat → UInt8) (n : Nat) : U5 b k (n + 1) = U5 b k n ++ [vf 16 (KN b (jL b k n) ((n + 1 : Nat) : Int))]:=by
 unfold U5
 rw [List.range_succ,List.map_append]; rfl
theorem JA (b : Vector UInt8 256) (k : Nat → UInt8) (n : Nat) : (U5 b k n).length = n + 1:=by simp [U5]
theorem H8 (b : Vector UInt8 256) (k : Nat → UInt8) {n r : Nat} (h : r ≤ n) : idx (U5 b k n) (r : Int) = some (vf 16 (jL b k r)):=by
 rw [Ym]; unfold U5; rw [List.getElem?_map,List.getElem?_range (by omega)]; rfl
theorem Zax (c : GCipher) (k : Nat → UInt8) (n : Nat) (hn : n ≤ 1000) : Tt c (vf 16 k) (n : Int) = some (U5 c.Box k n):=by
 unfold Tt
 have:=Z4 (f:=VD c (n : Int)) (fun i : Nat=>(vf 16 (jL c.Box k (i - 1)),U5 c.Box k (i - 1),(i : Int))) 1 (n + 1) (by omega) (t:=U5 c.Box k n) (fun i h1 hi=>by
  unfold VD
  obtain ⟨i,rfl⟩ : ∃ q,i = q + 1:=⟨i - 1,by omega⟩
  have e1 : decide (((i + 1 : Nat) : Int) ≤ (n : Int)) = true:=by simp; omega
  have e2 : app 16 (U5 c.Box k i) [vf 16 (KN c.Box (jL c.Box k i) ((i + 1 : Nat) : Int))] = _:=YX (by rw [JA]; simp; omega)
  simp only [Nat.add_sub_cancel,e1,if_true,Za5,Option.bind_some,e2,Xe (show i + 1 < 9223372036854775807 by omega),yM]
  rfl) (by
  unfold VD
  have e1 : decide (((n + 1 : Nat) : Int) ≤ (n : Int)) = false:=by simp; omega
  simp only [e1,Bool.false_eq_true,if_false,Nat.add_sub_cancel])
 have h2 : ZB (VD c (n : Int)) (vf 16 k,[vf 16 k],1) = _:=this
 rw [h2]; rfl
theorem v_keys (e : Ref Gengine) (k : Nat → UInt8) (n : Nat) (hn : n ≤ 1000) : Vv e (vf 16 k) (n : Int) = some (U5 e.v.box k n):=by
 unfold Vv
 have:=Z4 (f:=XQ e (n : Int)) (fun i : Nat=>(vf 16 (jL e.v.box k (i - 1)),U5 e.v.box k (i - 1),(i : Int))) 1 (n + 1) (by omega) (t:=U5 e.v.box k n) (fun i h1 hi=>by
  unfold XQ
  obtain ⟨i,rfl⟩ : ∃ q,i = q + 1:=⟨i - 1,by omega⟩
  have e1 : decide (((i + 1 : Nat) : Int) ≤ (n : Int)) = true:=by simp; omega
  have e2 : app 16 (U5 e.v.box k i) [vf 16 (KN e.v.box (jL e.v.box k i) ((i + 1 : Nat) : Int))] = _:=YX (by rw [JA]; simp; omega)
  simp only [Nat.add_sub_cancel,e1,if_true,Za8,Option.bind_some,e2,Xe (show i + 1 < 9223372036854775807 by omega),yM]
  rfl) (by
  unfold XQ
  have e1 : decide (((n + 1 : Nat) : Int) ≤ (n : Int)) = false:=by simp; omega
  simp only [e1,Bool.false_eq_true,if_false,Nat.add_sub_cancel])
 have h2 : ZB (XQ e (n : Int)) (vf 16 k,[vf 16 k],1) = _:=this
 rw [h2]; rfl

def rowF (m : Nat) (a : MF) (f : Nat → UInt8) (c r : Nat) : UInt8:=((Yh m (a r 0) (f c) ^^^ Yh m (a r 1) (f (c + 1))) ^^^ Yh m (a r 2) (f (c + 2))) ^^^ Yh m (a r 3) (f (c + 3))
def Tq (m : Nat) (a : MF) (f : Nat → UInt8) : Nat → UInt8:=fun i=>rowF m a f (i / 4 * 4) (i % 4)
theorem set_set (f : Nat → UInt8) (k : Nat) (x y : UInt8) : (fun i=>if i = k then y else if i = k then x else f i) = fun i=>if i = k then y else f i:=by
 funext i; by_cases h : i = k <;> simp [h]
theorem wr_at {c r : Nat} (hc : c < 4) (hr : r < 4) : wr (wr (4 * (c : Int)) + (r : Int)) = ((c * 4 + r : Nat) : Int):=by
 rw [YZ (x:=4 * (c : Int)) (by omega),YZ (by omega)]; omega
theorem Zdu (m : Nat) (hm : m < 512) (hm2 : 256 ≤ m) (a : MF) (f g : Nat → UInt8) (c r : Nat) (hc : c < 4) (hr : r < 4) (s1 s2 : Blk × Int) (h1 : s1.2 = (c : Int)) (h2 : s2.2 = (r : Int)) (hg : g (c * 4 + r) = 0) :
  ZB (Ww (m : Int) (mf a) (vf 16 f) s1 s2) (vf 16 g,0) = some (vf 16 fun i=>if i = c * 4 + r then rowF m a f (c * 4) r else g i):=by
 have hcr : c * 4 + r < 16:=by omega
 have step : ∀ (j : Nat) (h : Nat → UInt8),j < 4 → Ww (m : Int) (mf a) (vf 16 f) s1 s2 (vf 16 h,(j : Int)) = some (.nx (vf 16 (fun i=>if i = c * 4 + r then h (c * 4 + r) ^^^ Yh m (a r j) (f (c * 4 + j)) else h i),((j + 1 : Nat) : Int))):=fun j h hj=>by
  unfold Ww
  simp only [h1,h2,lt4 hj,if_true,wr_at hc hr,wr_at hc hj,ZT _ hcr,TU _ hr,ZT _ hj,ZT f (show c * 4 + j < 16 by omega),Option.bind_some,HO m hm hm2,Int.toNat_natCast,QN,wr4 (show j < 1000 by omega)]
 have e0:=step 0 g (by omega)
 have e1:=step 1 (fun i=>if i = c * 4 + r then g (c * 4 + r) ^^^ Yh m (a r 0) (f (c * 4 + 0)) else g i) (by omega)
 have e2:=step 2 (fun i=>if i = c * 4 + r then (g (c * 4 + r) ^^^ Yh m (a r 0) (f (c * 4 + 0))) ^^^ Yh m (a r 1) (f (c * 4 + 1)) else g i) (by omega)
 have e3:=step 3 (fun i=>if i = c * 4 + r then ((g (c * 4 + r) ^^^ Yh m (a r 0) (f (c * 4 + 0))) ^^^ Yh m (a r 1) (f (c * 4 + 1))) ^^^ Yh m (a r 2) (f (c * 4 + 2)) else g i) (by omega)
 have e4 : ∀ v : Blk,Ww (m : Int) (mf a) (vf 16 f) s1 s2 (v,((4 : Nat) : Int)) = some (.ex v):=fun v=>by unfold Ww; simp
 simp only [if_true,set_set] at e1 e2 e3
 have e0' : Ww (m : Int) (mf a) (vf 16 f) s1 s2 (vf 16 g,0) = _:=e0
 rw [W1 e0',W1 e1,W1 e2,W1 e3,WJ (e4 _)]
 refine congrArg some (Xw fun i _=>?_)
 by_cases h : i = c * 4 + r
 ·simp [h,hg,rowF]
 ·simp [h]
theorem Zco (m : Nat) (hm : m < 512) (hm2 : 256 ≤ m) (a : MF) (f : Nat → UInt8) : Qb (m : Int) (mf a) (vf 16 f) = some (vf 16 (Tq m a f)):=by
 unfold Qb
 -- after c columns and r rows of the next
 have inner : ∀ c : Nat,c < 4 → ∀ s1 : Blk × Int,s1.2 = (c : Int) → ZB (Uu (m : Int) (mf a) (vf 16 f) s1) (vf 16 (fun i=>if i < c * 4 then Tq m a f i else 0),0) = some (vf 16 fun i=>if i < (c + 1) * 4 then Tq m a f i else 0):=fun c hc s1 h1=>by
  have k1 : (vf 16 fun i=>if i < c * 4 + 4 then Tq m a f i else 0) = vf 16 fun i=>if i < (c + 1) * 4 then Tq m a f i else 0:=by rw [show c * 4 + 4 = (c + 1) * 4 by omega]
  have:=Z4 (f:=Uu (m : Int) (mf a) (vf 16 f) s1) (fun r : Nat=>(vf 16 fun i=>if i < c * 4 + r then Tq m a f i else 0,(r : Int))) 0 4 (by omega) (t:=vf 16 fun i=>if i < (c + 1) * 4 then Tq m a f i else 0) (fun r _ hr=>by
   unfold Uu
   have h2:=Zdu m hm hm2 a f (fun i=>if i < c * 4 + r then Tq m a f i else 0) c r hc hr s1 (vf 16 fun i=>if i < c * 4 + r then Tq m a f i else 0,(r : Int)) h1 rfl (by simp)
   simp only [lt4 hr,if_true,h2,Option.bind_some,wr4 (show r < 1000 by omega)]
   refine congrArg (fun z=>some (Fl.nx (z,((r + 1 : Nat) : Int)))) (Xw fun i _=>?_)
   by_cases h : i = c * 4 + r
   ·subst h
    have q1 : (c * 4 + r) / 4 = c:=by omega
    have q2 : (c * 4 + r) % 4 = r:=by omega
    rw [if_pos rfl,if_pos (by omega)]
    unfold Tq; rw [q1,q2]
   ·by_cases h3 : i < c * 4 + r
    ·rw [if_neg h,if_pos h3,if_pos (by omega)]
    ·rw [if_neg h,if_neg h3,if_neg (by omega)]) (by
   unfold Uu
   simp only [k1]
   simp)
  exact this
 have:=Z4 (f:=UH (m : Int) (mf a) (vf 16 f)) (fun c : Nat=>(vf 16 fun i=>if i < c * 4 then Tq m a f i else 0,(c : Int))) 0 4 (by omega) (t:=vf 16 (Tq m a f)) (fun c _ hc=>by
  unfold UH
  have h2:=inner c hc (vf 16 fun i=>if i < c * 4 then Tq m a f i else 0,(c : Int)) rfl
  simp only [lt4 hc,if_true,h2,Option.bind_some,wr4 (show c < 1000 by omega)]) (by
  unfold UH
  have : (vf 16 fun i=>if i < 4 * 4 then Tq m a f i else 0) = vf 16 (Tq m a f):=Xw fun i hi=>by rw [if_pos (by omega)]
  simp only [this]
  simp)
 have e0 : (vf 16 fun i=>if i < 0 * 4 then Tq m a f i else 0) = vf 16 fun _=>(0 : UInt8):=Xw fun i _=>by rw [if_neg (by omega)]
 simp only [e0] at this
 have h2 : ZB (UH (m : Int) (mf a) (vf 16 f)) (vf 16 fun _=>(0 : UInt8),0) = _:=this
 rw [Qp 16 (0 : UInt8),h2]; rfl

abbrev Tab:=Vector (Vector (Vector UInt8 256) 4) 4
def AE (m : Nat) (a : MF) : Tab:=vf 4 fun i=>vf 4 fun j=>vf 256 fun x=>Yh m (a i j) (UInt8.ofNat x)
theorem Zdc (m : Nat) (a : MF) (i j : Nat) (x : UInt8) : ZH (vf 256 fun x=>Yh m (a i j) (UInt8.ofNat x)) (bI x) = some (Yh m (a i j) x):=by
 rw [show bI x = ((x.toNat : Nat) : Int) from rfl,ZT _ (UInt8.toNat_lt x)]
 simp
theorem v_mix (m : Nat) (a : MF) (f : Nat → UInt8) : Uw ⟨AE m a⟩ (vf 16 f) = some (vf 16 (Tq m a f)):=by
 unfold Uw
 have i0 : ∀ (v : Vector (Vector UInt8 256) 4),ZH v (0 : Int) = v[0]?:=fun v=>W6 v 0
 have i1 : ∀ (v : Vector (Vector UInt8 256) 4),ZH v (1 : Int) = v[1]?:=fun v=>W6 v 1
 have i2 : ∀ (v : Vector (Vector UInt8 256) 4),ZH v (2 : Int) = v[2]?:=fun v=>W6 v 2
 have i3 : ∀ (v : Vector (Vector UInt8 256) 4),ZH v (3 : Int) = v[3]?:=fun v=>W6 v 3
 have inner : ∀ c : Nat,c < 4 → ∀ s1 : Blk × Int,s1.2 = ((c * 4 : Nat) : Int) → ZB (WI ⟨AE m a⟩ s1 (f (c * 4),f (c * 4 + 1),f (c * 4 + 2),f (c * 4 + 3))) (vf 16 (fun i=>if i < c * 4 then Tq m a f i else f i),0) = some (vf 16 fun i=>if i < (c + 1) * 4 then Tq m a f i else f i):=fun c hc s1 h1=>by
  have k1 : (vf 16 fun i=>if i < c * 4 + 4 then Tq m a f i else f i) = vf 16 fun i=>if i < (c + 1) * 4 then Tq m a f i else f i:=by rw [show c * 4 + 4 = (c + 1) * 4 by omega]
  have:=Z4 (f:=WI ⟨AE m a⟩ s1 (f (c * 4),f (c * 4 + 1),f (c * 4 + 2),f (c * 4 + 3))) (fun r : Nat=>(vf 16 fun i=>if i < c * 4 + r then Tq m a f i else f i,(r : Int))) 0 4 (by omega) (t:=vf 16 fun i=>if i < (c + 1) * 4 then Tq m a f i else f i) (fun r _ hr=>by
   unfold WI
   have e1 : wr (s1.2 + (r : Int)) = ((c * 4 + r : Nat) : Int):=by rw [h1,YZ (by omega)]; omega
   have et : ZH (AE m a) (r : Int) = some (vf 4 fun j=>vf 256 fun x=>Yh m (a r j) (UInt8.ofNat x)):=ZT _ hr
   simp only [lt4 hr,if_true,et,i0,i1,i2,i3,BF _ (show 0 < 4 by omega),BF _ (show 1 < 4 by omega),BF _ (show 2 < 4 by omega),BF _ (show 3 < 4 by omega),Zdc,e1,ZT _ (show c * 4 + r < 16 by omega),Option.bind_some,Int.toNat_natCast,QN,wr4 (show r < 1000 by omega)]
   refine congrArg (fun z=>some (Fl.nx (z,((r + 1 : Nat) : Int)))) (Xw fun i _=>?_)
   by_cases h : i = c * 4 + r
   ·subst h
    have q1 : (c * 4 + r) / 4 = c:=by omega
    have q2 : (c * 4 + r) % 4 = r:=by omega
    rw [if_pos rfl,if_pos (by omega)]
    unfold Tq; rw [q1,q2]; rfl
   ·by_cases h3 : i < c * 4 + r
    ·rw [if_neg h,if_pos h3,if_pos (by omega)]
    ·rw [if_neg h,if_neg h3,if_neg (by omega)]) (by
   unfold WI
   simp only [k1]
   simp)
  exact this
 have:=Z4 (f:=WM ⟨AE m a⟩) (fun c : Nat=>(vf 16 fun i=>if i < c * 4 then Tq m a f i else f i,((c * 4 : Nat) : Int))) 0 4 (by omega) (t:=vf 16 (Tq m a f)) (fun c _ hc=>by
  unfold WM
  have hd : decide (((c * 4 : Nat) : Int) < ((vf 16 fun i=>if i < c * 4 then Tq m a f i else f i).toList.length : Int)) = true:=by rw [Vector.length_toList]; simp; omega
  have x0:=ZT (n:=16) (fun i=>if i < c * 4 then Tq m a f i else f i) (show c * 4 < 16 by omega)
  have x1:=ZT (n:=16) (fun i=>if i < c * 4 then Tq m a f i else f i) (show c * 4 + 1 < 16 by omega)
  have x2:=ZT (n:=16) (fun i=>if i < c * 4 then Tq m a f i else f i) (show c * 4 + 2 < 16 by omega)
  have x3:=ZT (n:=16) (fun i=>if i < c * 4 then Tq m a f i else f i) (show c * 4 + 3 < 16 by omega)
  have w1 : wr (((c * 4 : Nat) : Int) + 1) = ((c * 4 + 1 : Nat) : Int):=by rw [YZ (by omega)]; omega
  have w2 : wr (((c * 4 : Nat) : Int) + 2) = ((c * 4 + 2 : Nat) : Int):=by rw [YZ (by omega)]; omega
  have w3 : wr (((c * 4 : Nat) : Int) + 3) = ((c * 4 + 3 : Nat) : Int):=by rw [YZ (by omega)]; omega
  have w4 : wr (((c * 4 : Nat) : Int) + 4) = (((c + 1) * 4 : Nat) : Int):=by rw [YZ (by omega)]; omega
  rw [if_neg (by omega)] at x0 x1 x2 x3
  have h2:=inner c hc (vf 16 fun i=>if i < c * 4 then Tq m a f i else f i,((c * 4 : Nat) : Int)) rfl
  simp only [hd,if_true,x0,w1,x1,w2,x2,w3,x3,Option.bind_some,h2,w4]) (by
  unfold WM
  have : (vf 16 fun i=>if i < 4 * 4 then Tq m a f i else f i) = vf 16 (Tq m a f):=Xw fun i hi=>by rw [if_pos (by omega)]
  simp only [this]
  simp)
 have e0 : (vf 16 fun i=>if i < 0 * 4 then Tq m a f i else f i) = vf 16 f:=Xw fun i _=>by rw [if_neg (by omega)]
 simp only [e0] at this
 have h2 : ZB (WM ⟨AE m a⟩) (vf 16 f,0) = _:=this
 rw [h2]; rfl

def tb (g : Nat → Nat → Nat → UInt8) : Tab:=vf 4 fun i=>vf 4 fun j=>vf 256 (g i j)
theorem B6 {g h : Nat → Nat → Nat → UInt8} (e : ∀ i,i < 4 → ∀ j,j < 4 → ∀ x,x < 256 → g i j x = h i j x) : tb g = tb h :=
 Xw fun i hi=>Xw fun j hj=>Xw fun x hx=>e i hi j hj x hx
theorem Zd5 (g : Nat → Nat → Nat → UInt8) {i : Nat} (hi : i < 4) : ZH (tb g) (i : Int) = some (vf 4 fun j=>vf 256 (g i j)):=ZT _ hi
theorem Zch (g : Nat → Nat → Nat → UInt8) (i : Nat) {j : Nat} (hj : j < 4) : ZH (vf 4 fun j=>vf 256 (g i j)) (j : Int) = some (vf 256 (g i j)):=ZT _ hj
theorem tb_set (g : Nat → Nat → Nat → UInt8) (i j : Nat) (h : Nat → UInt8) : (tb g).setIfInBounds i ((vf 4 fun j=>vf 256 (g i j)).setIfInBounds j (vf 256 h)) = tb (fun i' j'=>if i' = i ∧ j' = j then h else g i' j'):=by
 unfold tb
 rw [QN,QN]
 refine Xw fun i' _=>?_
 by_cases h1 : i' = i
 ·subst h1
  rw [if_pos rfl]
  refine Xw fun j' _=>?_
  by_cases h2 : j' = j
  ·subst h2; simp
  ·simp [h2]
 ·rw [if_neg h1]
  refine Xw fun j' _=>?_
  simp [h1]
theorem Zed (a b : Nat) (ha : a < 9223372036854775808) (hb : b < 9223372036854775808) : orI (a : Int) (b : Int) = ((a ||| b : Nat) : Int):=by
 unfold orI
 rw [BitVec.toNat_or,BX a ha,BX b hb]
 have : a ||| b < 2 ^ 63:=Nat.or_lt_two_pow ha hb
 exact YZ (by omega)
theorem XY (n : Nat) : Zp (n : Int) = UInt8.ofNat n:=by
 unfold Zp
 have : ((n : Int) % 256).toNat = n % 256:=by omega
 rw [this]
 apply UInt8.toNat_inj.1
 simp
theorem Zdn (g : Nat → Nat → Nat → UInt8) (i j : Nat) (h : Nat → UInt8) : (tb g).setIfInBounds i (vf 4 fun j'=>if j' = j then vf 256 h else vf 256 (g i j')) = tb (fun i' j'=>if i' = i ∧ j' = j then h else g i' j'):=by
 have:=tb_set g i j h
 rw [QN] at this
 exact this
theorem Zb3 {p low : Nat} (h : low < 2 ^ p) : 2 ^ p ||| low = 2 ^ p + low:=by
 have:=Nat.two_pow_add_eq_or_of_lt h 1
 simpa using this.symm
theorem Zdb {p low : Nat} (hp : p < 8) (h : low < 2 ^ p) : UInt8.ofNat (2 ^ p + low) = UInt8.ofNat (2 ^ p) ^^^ UInt8.ofNat low:=by
 apply UInt8.toNat_inj.1
 have h7 : 2 ^ p ≤ 2 ^ 7:=Nat.pow_le_pow_right (by omega) (by omega)
 rw [UInt8.toNat_xor]
 simp only [UInt8.toNat_ofNat']
 rw [Nat.mod_eq_of_lt (by omega),Nat.mod_eq_of_lt (by omega),Nat.mod_eq_of_lt (by omega)]
 rw [← Zb3 h]
 apply Nat.eq_of_testBit_eq
 intro i
 rw [Nat.testBit_or,Nat.testBit_xor,Nat.testBit_two_pow]
 by_cases hi : p = i
 ·subst hi
  rw [Nat.testBit_lt_two_pow h]; simp
 ·simp [hi]
section
variable (m : Nat) (hm : m < 512) (hm2 : 256 ≤ m) (a : MF)
include hm hm2
def Jv (m : Nat) (a : MF) (i j n : Nat) (g : Nat → Nat → Nat → UInt8) : Nat → Nat → Nat → UInt8:=fun i' j'=>if i' = i ∧ j' = j then (fun x=>if x < n then Yh m (a i j) (UInt8.ofNat x) else 0) else g i' j'
theorem Zcm (i j p : Nat) (hi : i < 4) (hj : j < 4) (hp : p < 8) (g : Nat → Nat → Nat → UInt8) (s0 s1 s2 : Tab × Int) (h0 : s0.2 = (i : Int)) (h1 : s1.2 = (j : Int)) (h2 : s2.2 = ((2 ^ p : Nat) : Int)) :
  ZB (W7 s0 s1 s2 (Yh m (a i j) (UInt8.ofNat (2 ^ p)))) (tb (Jv m a i j (2 ^ p) g),0) = some (tb (Jv m a i j (2 ^ (p + 1)) g)):=by
 have h7 : 2 ^ p ≤ 2 ^ 7:=Nat.pow_le_pow_right (by omega) (by omega)
 have k1 : 2 ^ p + 2 ^ p = 2 ^ (p + 1):=by rw [Nat.pow_succ]; omega
 have:=Z4 (f:=W7 s0 s1 s2 (Yh m (a i j) (UInt8.ofNat (2 ^ p)))) (fun low : Nat=>(tb (Jv m a i j (2 ^ p + low) g),(low : Int))) 0 (2 ^ p) (Nat.zero_le _) (t:=tb (Jv m a i j (2 ^ (p + 1)) g)) (fun low _ hl=>by
  unfold W7
  have hd : decide ((low : Int) < ((2 ^ p : Nat) : Int)) = true:=by simp only [decide_eq_true_eq]; omega
  have ho : orI ((2 ^ p : Nat) : Int) (low : Int) = ((2 ^ p + low : Nat) : Int):=by rw [Zed _ _ (by omega) (by omega),Zb3 hl]
  have eg : Jv m a i j (2 ^ p + low) g i j = fun x=>if x < 2 ^ p + low then Yh m (a i j) (UInt8.ofNat x) else 0:=by simp [Jv]
  simp only [h0,h1,h2,hd,if_true,Zd5 _ hi,Zch _ i hj,eg,ZT _ (show low < 256 by omega),ho,ZT _ (show 2 ^ p + low < 256 by omega),Option.bind_some,Int.toNat_natCast,QN,Xe (show low < 9223372036854775807 by omega)]
  rw [if_pos (show low < 2 ^ p + low from Nat.lt_add_of_pos_left (Nat.two_pow_pos p)),← qF hm2 hm,← Zdb hp hl]
  have:=Zdn (Jv m a i j (2 ^ p + low) g) i j (fun x=>if x = 2 ^ p + low then Yh m (a i j) (UInt8.ofNat (2 ^ p + low)) else if x < 2 ^ p + low then Yh m (a i j) (UInt8.ofNat x) else 0)
  rw [this]
  refine congrArg (fun z=>some (Fl.nx (z,((low + 1 : Nat) : Int)))) (B6 fun i' _ j' _ x _=>?_)
  unfold Jv
  by_cases h : i' = i ∧ j' = j
  ·simp only [h,and_self,if_true]
   by_cases hx : x = 2 ^ p + low
   ·subst hx; simp
   ·by_cases hx2 : x < 2 ^ p + low
    ·rw [if_neg hx,if_pos hx2,if_pos (by omega)]
    ·rw [if_neg hx,if_neg hx2,if_neg (by omega)]
  ·simp only [h,if_false]) (by
  unfold W7
  simp only [h2,k1]
  simp)
 exact this
theorem Zci (i j : Nat) (hi : i < 4) (hj : j < 4) (g : Nat → Nat → Nat → UInt8) (s0 s1 : Tab × Int) (h0 : s0.2 = (i : Int)) (h1 : s1.2 = (j : Int)) :
  ZB (Vb (m : Int) s0 s1 (a i j)) (tb (Jv m a i j 1 g),1) = some (tb (Jv m a i j 256 g)):=by
 have:=Z4 (f:=Vb (m : Int) s0 s1 (a i j)) (fun p : Nat=>(tb (Jv m a i j (2 ^ p) g),((2 ^ p : Nat) : Int))) 0 8 (by omega) (t:=tb (Jv m a i j 256 g)) (fun p _ hp=>by
  unfold Vb
  have h7 : 2 ^ p ≤ 2 ^ 7:=Nat.pow_le_pow_right (by omega) (by omega)
  have hd : decide (((2 ^ p : Nat) : Int) < 256) = true:=by simp only [decide_eq_true_eq]; omega
  have hb : Zp ((2 ^ p : Nat) : Int) = UInt8.ofNat (2 ^ p):=by rw [XY]
  have hw : wr (((2 ^ p : Nat) : Int) * 2) = ((2 ^ (p + 1) : Nat) : Int):=by
   rw [Nat.pow_succ]
   generalize 2 ^ p = q at h7 ⊢
   rw [YZ (by omega)]; omega
  have h3:=Zcm m hm hm2 a i j p hi hj hp g s0 s1 (tb (Jv m a i j (2 ^ p) g),((2 ^ p : Nat) : Int)) h0 h1 rfl
  simp only [hd,if_true,hb,Qc m hm,Option.bind_some,h3,hw]) (by unfold Vb; simp)
 exact this
theorem zt (A : Mat) (hA : A = mf a) : VE (m : Int) A = some ⟨AE m a⟩:=by
 subst hA
 unfold VE
 let G : Nat → Nat → Nat → Nat → Nat → UInt8:=fun r c i j x=>if i < r ∨ (i = r ∧ j < c) then Yh m (a i j) (UInt8.ofNat x) else 0
 have hGt : ∀ r c i j x,(i < r ∨ (i = r ∧ j < c)) → G r c i j x = Yh m (a i j) (UInt8.ofNat x):=fun r c i j x h=>if_pos h
 have hGf : ∀ r c i j x,¬ (i < r ∨ (i = r ∧ j < c)) → G r c i j x = 0:=fun r c i j x h=>if_neg h
 have hGe : ∀ r c r' c' i j x,((i < r ∨ (i = r ∧ j < c)) ↔ (i < r' ∨ (i = r' ∧ j < c'))) → G r c i j x = G r' c' i j x:=fun r c r' c' i j x h=>by show (if _ then _ else _) = (if _ then _ else _); simp only [h]
 have z0 : ∀ i j,Yh m (a i j) (UInt8.ofNat 0) = 0:=fun i j=>by rw [K4 hm2 hm]; exact Ht hm2 hm _
 have col : ∀ r : Nat,r < 4 → ∀ s0 : Tab × Int,s0.2 = (r : Int) → ZB (W8 (m : Int) s0 (vf 4 (a r))) (tb (G r 0),0) = some (tb (G (r + 1) 0)):=fun r hr s0 h0=>by
  have k1 : tb (G r 4) = tb (G (r + 1) 0):=B6 fun i hi j hj x _=>by
   exact hGe _ _ _ _ _ _ _ (by omega)
  have:=Z4 (f:=W8 (m : Int) s0 (vf 4 (a r))) (fun c : Nat=>(tb (G r c),(c : Int))) 0 4 (by omega) (t:=tb (G (r + 1) 0)) (fun c _ hc=>by
   unfold W8
   have e1 : tb (G r c) = tb (Jv m a r c 1 (G r c)):=B6 fun i _ j _ x _=>by
    unfold Jv
    by_cases h : i = r ∧ j = c
    ·obtain ⟨rfl,rfl⟩:=h
     simp only [and_self,if_true]
     rw [hGf _ _ _ _ _ (by omega)]
     by_cases hx : x < 1
     ·have : x = 0:=by omega
      subst this; rw [if_pos hx,z0]
     ·rw [if_neg hx]
    ·simp only [h,if_false]
   have e2 : tb (Jv m a r c 256 (G r c)) = tb (G r (c + 1)):=B6 fun i _ j _ x hx=>by
    unfold Jv
    by_cases h : i = r ∧ j = c
    ·obtain ⟨rfl,rfl⟩:=h
     simp only [and_self,if_true,hx]
     rw [hGt _ _ _ _ _ (by omega)]
    ·simp only [h,if_false]
     exact hGe _ _ _ _ _ _ _ (by omega)
   have h3:=Zci m hm hm2 a r c hr hc (G r c) s0 (tb (G r c),(c : Int)) h0 rfl
   rw [← e1,e2] at h3
   simp only [lt4 hc,if_true,ZT _ hc,h3,Option.bind_some,wr4 (show c < 1000 by omega)]) (by
   unfold W8
   simp only [k1]
   simp)
  exact this
 have kz : tb (G 0 0) = Vector.replicate 4 (Vector.replicate 4 (Vector.replicate 256 (0 : UInt8))):=by
  rw [Qp 256 (0 : UInt8),Qp 4,Qp 4]
  exact B6 fun i _ j _ x _=>by
   exact hGf _ _ _ _ _ (by omega)
 have k4 : tb (G 4 0) = AE m a:=B6 fun i hi j _ x _=>by
  exact hGt _ _ _ _ _ (by omega)
 have:=Z4 (f:=Vd (m : Int) (mf a)) (fun r : Nat=>(tb (G r 0),(r : Int))) 0 4 (by omega) (t:=AE m a) (fun r _ hr=>by
  unfold Vd
  have h3:=col r hr (tb (G r 0),(r : Int)) rfl
  simp only [lt4 hr,if_true,TU _ hr,h3,Option.bind_some,wr4 (show r < 1000 by omega)]) (by
  unfold Vd
  simp only [k4]
  simp)
 have h2 : ZB (Vd (m : Int) (mf a)) (tb (G 0 0),0) = _:=this
 rw [← kz,h2]; rfl
end

def yc (n : Nat) (p : Vector UInt8 n) : Nat → Vector UInt8 n
 | 0=>Vector.replicate n 0
 | i + 1=>(yc n p i).setIfInBounds (p.toList.getD i 0).toNat (Zp (i : Int))
theorem yp (p : Vector UInt8 256) : Vw p = some (yc 256 p 256):=by
 unfold Vw
 have:=Z4 (f:=XT p) (fun i : Nat=>(yc 256 p i,(i : Int))) 0 256 (by omega) (t:=yc 256 p 256) (fun i _ hi=>by
  unfold XT
  have hd : decide ((i : Int) < 256) = true:=by simp; omega
  simp only [hd,if_true,yN p hi,Jb,Option.bind_some,kb,Xe (show i < 9223372036854775807 by omega)]
  rfl) (by unfold XT; simp)
 have h2 : ZB (XT p) (Vector.replicate 256 0,0) = _:=this
 rw [h2]; rfl
theorem Zdj (p : Blk) {i : Nat} (h : i < 16) : p.toList.getD i 0 = bf p i:=by
 have h1:=yN p h
 rw [Bv p h] at h1
 exact (Option.some.inj h1).symm
theorem B1 (p : Blk) (hp : Kf p = true) : X5 p = some (yc 16 p 16):=by
 unfold X5
 have:=Z4 (f:=Xc p) (fun i : Nat=>(yc 16 p i,(i : Int))) 0 16 (by omega) (t:=yc 16 p 16) (fun i _ hi=>by
  unfold Xc
  have hlt:=B8 hp hi
  have hv : ZH (yc 16 p i) (bI (bf p i)) = some (bf (yc 16 p i) (bf p i).toNat):=Bv _ hlt
  simp only [HH hi,if_true,Bv p hi,hv,Option.bind_some,kb,Xe (show i < 9223372036854775807 by omega)]
  rw [← Zdj p hi]
  rfl) (by unfold Xc; simp)
 have h2 : ZB (Xc p) (Vector.replicate 16 0,0) = _:=this
 rw [h2]; rfl

def Yz (c : GCipher) : Gengine:=⟨c.Box,yc 256 c.Box 256,c.Places,yc 16 c.Places 16,⟨AE c.Field.toNat (As c.Mix)⟩,⟨AE c.Field.toNat (As (invM c.Field.toNat c.Mix))⟩,c.Rounds⟩
theorem KK {c : GCipher} (h : YJ c = true) : Kf c.Places = true:=by
 unfold YJ at h
 simp only [Bool.and_eq_true] at h
 exact h.1.1.2
theorem Hh {c : GCipher} (h : YJ c = true) : 1 ≤ c.Rounds ∧ c.Rounds ≤ 20:=by
 unfold YJ at h
 simp only [Bool.and_eq_true,decide_eq_true_eq] at h
 exact h.1.2
theorem jZ (c : GCipher) (h : YJ c = true) : UK c = some ⟨Yz c⟩:=by
 obtain ⟨m,hm,h1,h2⟩:=Bc h
 have e : c.Field.toNat = m:=by omega
 unfold UK Yz
 rw [e]
 simp only [hm,Zc7 m h2 h1,Option.bind_some,yp,B1 _ (KK h),zt m h2 h1 (As c.Mix) c.Mix (AU _),zt m h2 h1 (As (invM m c.Mix)) (invM m c.Mix) (AU _)]

def zo (c : GCipher) (n r : Nat) (k f : Nat → UInt8) : Nat → UInt8 :=
 H6 (if r < n then Tq c.Field.toNat (As c.Mix) (Hi c.Places (zf c.Box f)) else Hi c.Places (zf c.Box f)) k
def B0 (c : GCipher) (k f : Nat → UInt8) (n : Nat) : Nat → Nat → UInt8
 | 0=>H6 f k
 | r + 1=>zo c n (r + 1) (jL c.Box k (r + 1)) (B0 c k f n r)
def jR (c : GCipher) (k f : Nat → UInt8) (n : Nat) : Nat → UInt8:=B0 c k f n n
theorem yi (c : GCipher) (h : YJ c = true) (k f : Nat → UInt8) (n : Nat) (hn : n ≤ 1000) : Xx c (vf 16 k) (vf 16 f) (n : Int) = some (vf 16 (jR c k f n)):=by
 obtain ⟨m,hm,h1,h2⟩:=Bc h
 have e : c.Field.toNat = m:=by omega
 have hp:=KK h
 unfold Xx
 have i0 : idx (U5 c.Box k n) (0 : Int) = some (vf 16 k):=H8 c.Box k (Nat.zero_le n)
 simp only [Zax c k n hn,Option.bind_some,i0,H9]
 have:=Z4 (f:=XS c (n : Int) (U5 c.Box k n)) (fun i : Nat=>(vf 16 (B0 c k f n (i - 1)),(i : Int))) 1 (n + 1) (by omega) (t:=vf 16 (jR c k f n)) (fun i hi1 hi=>by
  unfold XS
  obtain ⟨r,rfl⟩ : ∃ q,i = q + 1:=⟨i - 1,by omega⟩
  have e1 : decide (((r + 1 : Nat) : Int) ≤ (n : Int)) = true:=by simp only [decide_eq_true_eq]; omega
  have YF:=Zco m h2 h1 (As c.Mix) (Hi c.Places (zf c.Box (B0 c k f n r)))
  rw [← AU] at YF
  simp only [Nat.add_sub_cancel,e1,if_true,qi,Option.bind_some,Zav c.Places hp,hm,YF,H8 c.Box k (show r + 1 ≤ n by omega),Xe (show r + 1 < 9223372036854775807 by omega)]
  by_cases hr : r + 1 < n
  ·have e2 : decide (((r + 1 : Nat) : Int) < (n : Int)) = true:=by simp only [decide_eq_true_eq]; omega
   simp only [e2,if_true,Option.bind_some,H9,B0,zo,hr,e]
  ·have e2 : decide (((r + 1 : Nat) : Int) < (n : Int)) = false:=by simp only [decide_eq_false_iff_not]; omega
   simp only [e2,Bool.false_eq_true,if_false,Option.bind_some,H9,B0,zo,hr]) (by
  unfold XS
  have e1 : decide (((n + 1 : Nat) : Int) ≤ (n : Int)) = false:=by simp only [decide_eq_false_iff_not]; omega
  simp only [e1,Bool.false_eq_true,if_false,Nat.add_sub_cancel,jR])
 have h3 : ZB (XS c (n : Int) (U5 c.Box k n)) (vf 16 (H6 f k),1) = _:=this
 rw [h3]; rfl
theorem qw (e : Ref Gengine) (s : Blk × Int) (f : Nat → UInt8) (hs : s.1 = vf 16 f) : ZB (YI e s) (vf 16 f,0) = some (vf 16 (zf e.v.box f)):=by
 have:=WH (YI e s) f (zf e.v.box f) (by omega) 0 (by omega) (fun j hj=>by omega) (fun i _ hi a _ ha=>by
  unfold YI
  simp only [hs,HH hi,if_true,ZT _ hi,Option.bind_some,Int.toNat_natCast,Jb,zf]) (fun v=>by unfold YI; simp)
 exact this
theorem zS (c : GCipher) (h : YJ c = true) (k f : Nat → UInt8) (n : Nat) (hn : n ≤ 1000) : Y8 ⟨Yz c⟩ (U5 c.Box k n) (vf 16 f) = some (vf 16 (jR c k f n)):=by
 have hp:=KK h
 unfold Y8
 have i0 : idx (U5 c.Box k n) (0 : Int) = some (vf 16 k):=H8 c.Box k (Nat.zero_le n)
 simp only [Option.bind_some,i0,Qw]
 have:=Z4 (f:=YH ⟨Yz c⟩ (U5 c.Box k n)) (fun i : Nat=>(vf 16 (B0 c k f n (i - 1)),(i : Int))) 1 (n + 1) (by omega) (t:=vf 16 (jR c k f n)) (fun i hi1 hi=>by
  unfold YH
  obtain ⟨r,rfl⟩ : ∃ q,i = q + 1:=⟨i - 1,by omega⟩
  have e1 : decide (((r + 1 : Nat) : Int) < ((U5 c.Box k n).length : Int)) = true:=by rw [JA]; simp only [decide_eq_true_eq]; omega
  have e3 : wr (((U5 c.Box k n).length : Int) - 1) = (n : Int):=by rw [JA,YZ (by omega)]; omega
  have hb:=qw ⟨Yz c⟩ (vf 16 (B0 c k f n r),((r + 1 : Nat) : Int)) (B0 c k f n r) rfl
  have hmv:=v_move c.Places hp (zf c.Box (B0 c k f n r))
  have YF:=v_mix c.Field.toNat (As c.Mix) (Hi c.Places (zf c.Box (B0 c k f n r)))
  have hsl : ∀ g : Nat → UInt8,slc (vf 16 g).toList (0 : Int) (16 : Int) = some (vf 16 g).toList:=fun g=>by
   have:=Hs (l:=(vf 16 g).toList) (i:=0) (j:=16) (by omega) (by simp)
   simp only [List.drop_zero] at this
   rw [List.take_of_length_le (by simp)] at this
   exact this
  have q1 : (Yz c).box = c.Box:=rfl
  have q2 : (Yz c).places = c.Places:=rfl
  have q3 : (Yz c).mixer = ⟨AE c.Field.toNat (As c.Mix)⟩:=rfl
  simp only [q1] at hb
  simp only [Nat.add_sub_cancel,e1,if_true,hb,Option.bind_some,q2,q3,hmv,e3,hsl,YF,H8 c.Box k (show r + 1 ≤ n by omega),Xe (show r + 1 < 9223372036854775807 by omega)]
  by_cases hr : r + 1 < n
  ·have e2 : decide (((r + 1 : Nat) : Int) < (n : Int)) = true:=by simp only [decide_eq_true_eq]; omega
   simp only [e2,if_true,Option.bind_some,Qw,B0,zo,hr]
  ·have e2 : decide (((r + 1 : Nat) : Int) < (n : Int)) = false:=by simp only [decide_eq_false_iff_not]; omega
   simp only [e2,Bool.false_eq_true,if_false,Option.bind_some,Qw,B0,zo,hr]) (by
  unfold YH
  have e1 : decide (((n + 1 : Nat) : Int) < ((U5 c.Box k n).length : Int)) = false:=by rw [JA]; simp only [decide_eq_false_iff_not]; omega
  simp only [e1,Bool.false_eq_true,if_false,Nat.add_sub_cancel,jR])
 have h3 : ZB (YH ⟨Yz c⟩ (U5 c.Box k n)) (vf 16 (H6 f k),1) = _:=this
 rw [h3]; rfl
theorem Bf (c : GCipher) (h : YJ c = true) (k f : Nat → UInt8) : YQ ⟨Yz c⟩ (vf 16 k) (vf 16 f) = some (vf 16 (jR c k f c.Rounds.toNat)):=by
 have hr:=Hh h
 obtain ⟨n,hn⟩ : ∃ n : Nat,c.Rounds = n:=⟨c.Rounds.toNat,by omega⟩
 have e1 : (Yz c).rounds = (n : Int):=hn
 have e2 : (Yz c).box = c.Box:=rfl
 have hk:=v_keys ⟨Yz c⟩ k n (by omega)
 rw [e2] at hk
 unfold YQ
 simp only [e1,hk,Option.bind_some,zS c h k f n (by omega),hn,Int.toNat_natCast]
theorem Bg (c : GCipher) (h : YJ c = true) (k f : Nat → UInt8) : Xx c (vf 16 k) (vf 16 f) c.Rounds = some (vf 16 (jR c k f c.Rounds.toNat)):=by
 have hr:=Hh h
 obtain ⟨n,hn⟩ : ∃ n : Nat,c.Rounds = n:=⟨c.Rounds.toNat,by omega⟩
 rw [hn]
 exact yi c h k f n (by omega)
theorem yU (x : Nat) : UInt8.ofNat (x % 256) = UInt8.ofNat x:=by
 apply UInt8.toNat_inj.1; simp
def tab (n : Nat) (f : Nat → UInt8) : List UInt8:=(List.range n).map f
@[simp] theorem tab_len (n : Nat) (f : Nat → UInt8) : (tab n f).length = n:=by simp [tab]
theorem Zbp {α : Type} (by_ : Nat) (z : α) (n : Nat) (h : n * by_ ≤ 140737488355328) (hby : 0 < by_) :
  ((if (decide ((n : Int) < 0)) = true then (none) else (some ()) : Option (Unit)).bind fun (_ : Unit)=>(if (decide ((wr ((n : Int) - (wr (0 - 0)))) > 0)) = true then ((mkS by_ z (wr ((n : Int) - (wr (0 - 0))))).bind fun (l14 : List α)=>(slc l14 (0 : Int) (0 : Int)).bind fun (l16 : List α)=>some l16) else (some ([])) : Option (List α)).bind fun (j6 : List α)=>some j6) = some []:=by
 have hn : n ≤ 140737488355328:=Nat.le_trans (Nat.le_mul_of_pos_right _ hby) h
 have e0 : wr (0 - 0) = 0:=by decide
 have e1 : wr ((n : Int) - (wr (0 - 0))) = (n : Int):=by rw [e0,YZ (by omega)]; omega
 have e2 : ¬ ((n : Int) < 0):=by omega
 rw [e1]
 simp only [e2,decide_false,Bool.false_eq_true,if_false,Option.bind_some]
 by_cases h3 : (n : Int) > 0
 ·have hm : mkS by_ z (n : Int) = some (List.replicate n z):=by
   have h4 : ((n * by_ : Nat) : Int) ≤ 140737488355328:=by omega
   rw [Int.natCast_mul] at h4
   unfold mkS
   rw [if_pos ⟨by omega,h4⟩,Int.toNat_natCast]
  have hs : slc (List.replicate n z) (0 : Int) (0 : Int) = some []:=by
   have:=Hs (l:=List.replicate n z) (i:=0) (j:=0) (Nat.le_refl _) (Nat.zero_le _)
   simpa using this
  simp [h3,hm,hs]
 ·have h4 : decide ((n : Int) > 0) = false:=by simp only [decide_eq_false_iff_not]; exact h3
  simp only [h4,Bool.false_eq_true,if_false,Option.bind_some]
theorem jD {α : Type} (by_ : Nat) (p0 : List (List α)) (L0 : Int × Int → Option (Fl (Int × Int) Int)) (L1 : Int × List α → Option (Fl (Int × List α) (List α)))
  (h0 : ∀ s,L0 s = if (decide (s.1 < (p0.length : Int))) = true then (((idx p0 s.1).bind fun (x : List α)=>(if (decide ((wr (s.2 + (x.length : Int))) < 0)) = true then (none) else (some ()) : Option (Unit)).bind fun (_ : Unit)=>some (wr (s.2 + (x.length : Int))) : Option (Int)).bind fun (j : Int)=>some (Fl.nx (wr (s.1 + 1),j))) else (some (Fl.ex s.2)))
  (h1 : ∀ s,L1 s = if (decide (s.1 < (p0.length : Int))) = true then ((idx p0 s.1).bind fun (x : List α)=>(app by_ s.2 x).bind fun (_ : List α)=>some (Fl.nx (wr (s.1 + 1),(s.2 ++ x)))) else (some (Fl.ex s.2)))
  (hl : p0.flatten.length * by_ ≤ 140737488355328) (hby : 0 < by_) (hn : p0.length < 9223372036854775807) :
  ZB L0 (0,0) = some (p0.flatten.length : Int) ∧ ZB L1 (0,[]) = some p0.flatten:=by
 have hlen : p0.flatten.length ≤ 140737488355328:=Nat.le_trans (Nat.le_mul_of_pos_right _ hby) hl
 have hstep : ∀ i (hi : i < p0.length),(p0.take (i + 1)).flatten = (p0.take i).flatten ++ p0[i]:=fun i hi=>by
  rw [List.take_succ_eq_append_getElem hi,List.flatten_append]; simp
 have hle : ∀ i,(p0.take i).flatten.length ≤ p0.flatten.length:=fun i=>by
  have : p0.flatten = (p0.take i).flatten ++ (p0.drop i).flatten:=by rw [← List.flatten_append,List.take_append_drop]
  rw [this,List.length_append]; omega
 constructor
 ·have:=Z4 (f:=L0) (fun i : Nat=>((i : Int),((p0.take i).flatten.length : Int))) 0 p0.length (Nat.zero_le _) (t:=(p0.flatten.length : Int)) (fun i _ hi=>by
   have hs:=congrArg List.length (hstep i hi)
   rw [List.length_append] at hs
   have h3:=hle (i + 1)
   have e1 : wr (((p0.take i).flatten.length : Int) + (p0[i].length : Int)) = ((p0.take (i + 1)).flatten.length : Int):=by rw [YZ (by omega)]; omega
   have e2 : ¬ (((p0.take (i + 1)).flatten.length : Int) < 0):=by omega
   rw [h0]
   simp only [Int.ofNat_lt,hi,decide_true,if_true,Ym,List.getElem?_eq_getElem hi,Option.bind_some,e1,e2,decide_false,Bool.false_eq_true,if_false,Xe (show i < 9223372036854775807 by omega)]) (by
   rw [h0]; simp)
  exact this
 ·have:=Z4 (f:=L1) (fun i : Nat=>((i : Int),(p0.take i).flatten)) 0 p0.length (Nat.zero_le _) (t:=p0.flatten) (fun i _ hi=>by
   have hs:=congrArg List.length (hstep i hi)
   rw [List.length_append] at hs
   have h3:=hle (i + 1)
   have hap : app by_ (p0.take i).flatten p0[i] = some ((p0.take i).flatten ++ p0[i]):=YX (by
    have : ((p0.take i).flatten.length + p0[i].length) * by_ ≤ p0.flatten.length * by_:=Nat.mul_le_mul_right _ (by omega)
    omega)
   rw [h1]
   simp only [Int.ofNat_lt,hi,decide_true,if_true,Ym,List.getElem?_eq_getElem hi,Option.bind_some,hap,Xe (show i < 9223372036854775807 by omega),hstep i hi]) (by
   rw [h1]; simp)
  exact this
def Hu (k : Nat) (b : UInt8) : UInt8:=shlB b (k : Int) ||| yf b ((8 - k : Nat) : Int)
theorem v_rot1 (b : UInt8) : YA b 1 = some (Hu 1 b):=by
 have e1 : wru (BitVec.ofInt 64 (IntKind.u64.wrap 1) &&& BitVec.ofInt 64 7).toNat = 1:=by decide +kernel
 have e2 : IntKind.u64.wrap (8 - 1) = 7:=by decide +kernel
 have e3 : We 1 = some ():=rfl
 have e4 : We 7 = some ():=rfl
 unfold YA
 simp only [e1,e2,e3,e4,Option.bind_some]
 rfl
theorem v_rot4 (b : UInt8) : YA b 4 = some (Hu 4 b):=by
 have e1 : wru (BitVec.ofInt 64 (IntKind.u64.wrap 4) &&& BitVec.ofInt 64 7).toNat = 4:=by decide +kernel
 have e2 : IntKind.u64.wrap (8 - 4) = 4:=by decide +kernel
 have e3 : We 4 = some ():=rfl
 unfold YA
 simp only [e1,e2,e3,Option.bind_some]
 rfl
def ya (k : Nat) (b : UInt8) : UInt8:=Zp (Ki (orI (yy (bI b) (k : Int)) (VA (yy (bI b) (k : Int)) 8)) 255)
theorem zN {p : UInt8 → Bool} (h : ((List.range 256).all fun n=>p (UInt8.ofNat n)) = true) (b : UInt8) : p b = true:=by
 have:=List.all_eq_true.1 h b.toNat (by simpa using UInt8.toNat_lt b)
 simpa using this
theorem turn0 (b : UInt8) : ya 0 b = b:=by
 have:=zN (p:=fun b=>ya 0 b == b) (by decide +kernel) b
 simpa using this
theorem turn1 (b : UInt8) : ya 1 b = Hu 1 b:=by
 have:=zN (p:=fun b=>ya 1 b == Hu 1 b) (by decide +kernel) b
 simpa using this
theorem turn4 (b : UInt8) : ya 4 b = Hu 4 b:=by
 have:=zN (p:=fun b=>ya 4 b == Hu 4 b) (by decide +kernel) b
 simpa using this
theorem ql (b : UInt8) (k : Nat) (h : k < 64) : Wx b (k : Int) = some (ya k b):=by
 have e1 : IntKind.u64.wrap (k : Int) = (k : Int):=Zcg k (by omega)
 unfold Wx
 rw [e1]
 have e2 : We (k : Int) = some ():=by unfold We; rw [if_pos (by omega)]
 rw [e2]; rfl
def zK (x : UInt8) : UInt8:=((Kv 285 x ^^^ Hu 1 (Kv 285 x)) ^^^ Hu 4 (Kv 285 x)) ^^^ 90
def YM (n : Int) : GCipher:=⟨285,vf 256 fun x=>zK (UInt8.ofNat x),mf fun i j=>Kv 285 (UInt8.ofNat (i ^^^ (4 + j))),vf 16 fun i=>UInt8.ofNat ((13 * i + 4) % 16),n⟩
theorem jx {i : Nat} (h : i < 256) : decide ((i : Int) < 256) = true:=by simp; omega
theorem AX (L : Vector UInt8 256 × Int → Option (Fl (Vector UInt8 256 × Int) (Vector UInt8 256))) (h : Nat → UInt8) (hL : ∀ i : Nat,i < 256 → ∀ a : Nat → UInt8,L (vf 256 a,(i : Int)) = some (.nx ((vf 256 a).setIfInBounds i (h i),wr ((i : Int) + 1))))
  (he : ∀ v,L (v,256) = some (.ex v)) : ZB L (Vector.replicate 256 0,0) = some (vf 256 h):=by
 rw [Qp]
 exact WH L (fun _=>0) h (by omega) 0 (by omega) (fun j hj=>by omega) (fun i _ hi a _ _=>hL i hi a) he
theorem kT (E : UInt8 → Option UInt8) (hE : ∀ a,E a = some (Kv 285 a)) (L1 : Mat × Int → Mat × Int → Option (Fl (Mat × Int) Mat)) (L0 : Mat × Int → Option (Fl (Mat × Int) Mat))
  (h1 : ∀ s t,L1 s t = if (decide (t.2 < 4)) = true then ((E (Zp (BP s.2 (wr (4 + t.2))))).bind fun r=>(ZH t.1 s.2).bind fun x=>(ZH x t.2).bind fun _=>some (Fl.nx ((t.1.setIfInBounds (s.2).toNat (x.setIfInBounds (t.2).toNat r)),wr (t.2 + 1)))) else (some (Fl.ex t.1)))
  (h0 : ∀ s,L0 s = if (decide (s.2 < 4)) = true then ((ZB (L1 s) (s.1,0) : Option Mat).bind fun j=>some (Fl.nx (j,wr (s.2 + 1)))) else (some (Fl.ex s.1))) :
  ZB L0 (Vector.replicate 4 (Vector.replicate 4 (0 : UInt8)),0) = some (mf fun i j=>Kv 285 (UInt8.ofNat (i ^^^ (4 + j)))):=by
 have inner : ∀ (i : Nat) (hi : i < 4) (g : MF),ZB (L1 (mf g,(i : Int))) (mf g,0) = some (mf fun r c=>if r = i then Kv 285 (UInt8.ofNat (i ^^^ (4 + c))) else g r c):=by
  intro i hi g
  have:=Z4 (f:=L1 (mf g,(i : Int))) (fun j : Nat=>(mf fun r c=>if r = i ∧ c < j then Kv 285 (UInt8.ofNat (i ^^^ (4 + c))) else g r c,(j : Int))) 0 4 (by omega) (t:=mf fun r c=>if r = i then Kv 285 (UInt8.ofNat (i ^^^ (4 + c))) else g r c) (fun j _ hj=>by
   have e1 : wr (4 + (j : Int)) = ((4 + j : Nat) : Int):=by rw [YZ (by omega)]; omega
   rw [h1]
   simp only [lt4 hj,if_true,e1,JN i (4 + j) (by omega) (by omega),XY,hE,Option.bind_some,TU _ hi,ZT _ hj,Int.toNat_natCast,QN,HW,wr4 (show j < 1000 by omega)]
   refine congrArg (fun z=>some (Fl.nx (z,((j + 1 : Nat) : Int)))) (Vn fun r _ c _=>?_)
   by_cases hr : r = i
   ·subst hr
    by_cases hc : c = j
    ·subst hc; simp
    ·by_cases hc2 : c < j
     ·simp [hc,hc2,show c < j + 1 by omega]
     ·simp [hc,hc2,show ¬ c < j + 1 by omega]
   ·simp [hr]) (by
   rw [h1]
   simp only [show decide (((4 : Nat) : Int) < 4) = false from rfl,Bool.false_eq_true,if_false]
   refine congrArg (fun z=>some (Fl.ex z)) (Vn fun r _ c hc=>?_)
   by_cases hr : r = i <;> simp [hr,hc])
  have e0 : (mf fun r c=>if r = i ∧ c < 0 then Kv 285 (UInt8.ofNat (i ^^^ (4 + c))) else g r c) = mf g:=Vn fun r _ c _=>by simp
  simp only [e0] at this
  exact this
 have:=Z4 (f:=L0) (fun i : Nat=>(mf fun r c=>if r < i then Kv 285 (UInt8.ofNat (r ^^^ (4 + c))) else 0,(i : Int))) 0 4 (by omega) (t:=mf fun i j=>Kv 285 (UInt8.ofNat (i ^^^ (4 + j)))) (fun i _ hi=>by
  rw [h0]
  simp only [lt4 hi,if_true,inner i hi,Option.bind_some,wr4 (show i < 1000 by omega)]
  refine congrArg (fun z=>some (Fl.nx (z,((i + 1 : Nat) : Int)))) (Vn fun r _ c _=>?_)
  by_cases hr : r = i
  ·subst hr; simp
  ·by_cases hc2 : r < i
   ·simp [hr,hc2,show r < i + 1 by omega]
   ·simp [hr,hc2,show ¬ r < i + 1 by omega]) (by
  rw [h0]
  simp only [show decide (((4 : Nat) : Int) < 4) = false from rfl,Bool.false_eq_true,if_false]
  exact congrArg (fun z=>some (Fl.ex z)) (Vn fun r hr c hc=>by simp [hr]))
 have e0 : (mf fun r c=>if r < 0 then Kv 285 (UInt8.ofNat (r ^^^ (4 + c))) else 0) = mf fun _ _=>0:=Vn fun r _ c _=>by simp
 simp only [e0] at this
 rw [jh]
 exact this
theorem zA (L : Blk × Int → Option (Fl (Blk × Int) Blk))
  (hL : ∀ s,L s = if (decide (s.2 < 16)) = true then ((ZH s.1 s.2).bind fun _=>some (Fl.nx ((s.1.setIfInBounds (s.2).toNat (Zp (Int.tmod (wr ((wr (13 * s.2)) + 4)) 16))),wr (s.2 + 1)))) else (some (Fl.ex s.1))) :
  ZB L (Vector.replicate 16 0,0) = some (vf 16 fun i=>UInt8.ofNat ((13 * i + 4) % 16)):=by
 rw [Qp]
 exact WH L (fun _=>0) (fun i=>UInt8.ofNat ((13 * i + 4) % 16)) (by omega) 0 (by omega) (fun j hj=>by omega) (fun i _ hi a _ _=>by
  have e1 : wr (13 * (i : Int)) = 13 * (i : Int):=YZ (by omega)
  have e2 : wr (13 * (i : Int) + 4) = ((13 * i + 4 : Nat) : Int):=by rw [YZ (by omega)]; omega
  have e3 : Int.tmod ((13 * i + 4 : Nat) : Int) 16 = (((13 * i + 4) % 16 : Nat) : Int):=by rw [Int.tmod_eq_emod_of_nonneg (by omega)]; omega
  rw [hL]
  simp only [HH hi,if_true,ZT _ hi,Option.bind_some,e1,e2,e3,XY,Int.toNat_natCast]) (fun v=>by rw [hL]; simp)
theorem yl (n : Int) : Vk n = some (YM n):=by
 have hinv : ∀ a,YE 285 a = some (Kv 285 a):=fun a=>Jn 285 (by omega) a
 have h1:=AX WU (fun x=>zK (UInt8.ofNat x)) (fun i hi a=>by
  unfold WU
  simp only [jx hi,if_true,XY,hinv,v_rot1,v_rot4,Option.bind_some,ZT _ hi,Int.toNat_natCast]
  rfl) (fun v=>by unfold WU; simp)
 have h2:=kT (YE 285) hinv Ue Ul (fun s t=>by unfold Ue; rfl) (fun s=>by unfold Ul; rfl)
 have h3:=zA Um (fun s=>by unfold Um; rfl)
 unfold Vk YM
 simp only [h1,h2,h3,Option.bind_some]
theorem Zcp (L : UInt8 × UInt8 × Int → Option (Fl (UInt8 × UInt8 × Int) UInt8)) (T : UInt8 → UInt8 → Option UInt8) (hT : ∀ a b,T a b = some (Yh 285 a b))
  (hL : ∀ s,L s = if (decide (s.2.2 > 0)) = true then (((if ((Int.tmod s.2.2 2) == 1) = true then ((T s.1 s.2.1).bind fun r=>some r) else (some s.1) : Option UInt8).bind fun j24=>(T s.2.1 s.2.1).bind fun r32=>some (j24,r32) : Option (UInt8 × UInt8)).bind fun j21=>some (Fl.nx (j21.1,j21.2,wr (Int.tdiv s.2.2 2)))) else (some (Fl.ex s.1))) :
  ∀ (f k : Nat) (a o : UInt8),k < 2 ^ f → f ≤ 62 → ZB L (o,a,(k : Int)) = some (AG 285 f a k o):=by
 intro f
 induction f with
 | zero =>
  intro k a o hk _
  have : k = 0:=by simpa using hk
  subst this
  exact WJ (by rw [hL]; simp [AG])
 | succ f ih =>
  intro k a o hk hf
  by_cases h0 : k = 0
  ·subst h0
   exact WJ (by rw [hL]; simp [AG])
  ·have hlt : k < 9223372036854775808:=Nat.lt_of_lt_of_le hk (Nat.pow_le_pow_right (by omega : 0 < 2) (by omega : f + 1 ≤ 63))
   have hst : L (o,a,(k : Int)) = some (.nx (if k % 2 = 1 then Yh 285 o a else o,Yh 285 a a,((k / 2 : Nat) : Int))):=by
    rw [hL]
    have c1 : (k : Int) > 0:=by omega
    have e3 : ((((k % 2 : Nat) : Int)) == 1) = decide (k % 2 = 1):=by
     rw [Bool.eq_iff_iff,beq_iff_eq,decide_eq_true_eq]; omega
    simp only [c1,decide_true,if_true,Zc1,Zdg,hT,e3,Option.bind_some,Zaj (k / 2) (by omega)]
    by_cases c2 : k % 2 = 1 <;> simp [c2]
   rw [W1 hst,ih (k / 2) _ _ (by rw [Nat.pow_succ] at hk; omega) (by omega)]
   conv=>rhs; unfold AG
   rw [if_neg h0]
theorem qC : U3 285 254 = some (vf 256 fun x=>Kv 285 (UInt8.ofNat x)):=by
 have hp:=Zcp (Ut 285) (Xb 285) (HO 285 (by omega) (by omega)) (fun s=>by unfold Ut; rfl)
 have hp2 : ∀ a,ZB (Ut 285) (1,a,254) = some (Kv 285 a):=fun a=>hp 8 254 a 1 (by omega) (by omega)
 have h1:=AX (UG 285 254) (fun x=>Kv 285 (UInt8.ofNat x)) (fun i hi a=>by
  unfold UG
  simp only [jx hi,if_true,XY,hp2,Option.bind_some,ZT _ hi,Int.toNat_natCast]) (fun v=>by unfold UG; simp)
 unfold U3
 simp only [h1,Option.bind_some]
def rots (x : UInt8) : UInt8:=((90 ^^^ x) ^^^ Hu 1 x) ^^^ Hu 4 x
theorem yg : WT ([0,1,4] : List Int) 90 = some (vf 256 fun x=>rots (UInt8.ofNat x)):=by
 have t0 : ∀ b,Wx b 0 = some b:=fun b=>by have:=ql b 0 (by omega); rw [turn0] at this; exact this
 have t1 : ∀ b,Wx b 1 = some (Hu 1 b):=fun b=>by have:=ql b 1 (by omega); rw [turn1] at this; exact this
 have t4 : ∀ b,Wx b 4 = some (Hu 4 b):=fun b=>by have:=ql b 4 (by omega); rw [turn4] at this; exact this
 have w1 : wr 1 = 1:=by decide
 have w2 : wr 2 = 2:=by decide
 have w3 : wr 3 = 3:=by decide
 have hin : ∀ (s : Vector UInt8 256 × Int),ZB (Yu [0,1,4] s) (90,0) = some (rots (Zp s.2)):=by
  intro s
  rw [W1 (f:=Yu [0,1,4] s) (s:=(90,0)) (s':=(90 ^^^ Zp s.2,1)) (by unfold Yu; simp [t0,w1,idx])]
  rw [W1 (f:=Yu [0,1,4] s) (s':=((90 ^^^ Zp s.2) ^^^ Hu 1 (Zp s.2),2)) (by unfold Yu; simp [t1,w2,idx])]
  rw [W1 (f:=Yu [0,1,4] s) (s':=(((90 ^^^ Zp s.2) ^^^ Hu 1 (Zp s.2)) ^^^ Hu 4 (Zp s.2),3)) (by unfold Yu; simp [t4,w3,idx])]
  exact WJ (by unfold Yu; simp; rfl)
 have h1:=AX (Wg [0,1,4] 90) (fun x=>rots (UInt8.ofNat x)) (fun i hi a=>by
  unfold Wg
  simp only [jx hi,if_true,hin,XY,Option.bind_some,ZT _ hi,Int.toNat_natCast]) (fun v=>by unfold Wg; simp)
 unfold WT
 simp only [h1,Option.bind_some]
theorem Zbc (f g : Nat → UInt8) : TD (vf 256 f) (vf 256 g) = some (vf 256 fun x=>g (f x).toNat):=by
 have hv : ∀ x : UInt8,ZH (vf 256 g) (bI x) = some (g x.toNat):=fun x=>ZT g (UInt8.toNat_lt x)
 have h1:=AX (U7 (vf 256 f) (vf 256 g)) (fun x=>g (f x).toNat) (fun i hi a=>by
  unfold U7
  simp only [jx hi,if_true,Option.bind_some,ZT _ hi,hv,Int.toNat_natCast]) (fun v=>by unfold U7; simp)
 unfold TD
 simp only [h1,Option.bind_some]
theorem qe (x : UInt8) : rots (UInt8.ofNat (Kv 285 x).toNat) = zK x:=by
 rw [UInt8.ofNat_toNat]
 unfold rots zK
 ac_rfl
theorem qt (n : Int) : U0 n = some (YM n):=by
 have hinv : ∀ a,Ub 285 a = some (Kv 285 a):=fun a=>Zcs 285 (by omega) (by omega) a
 have h2:=kT (Ub 285) hinv TW TX (fun s t=>by unfold TW; rfl) (fun s=>by unfold TX; rfl)
 have h3:=zA TL (fun s=>by unfold TL; rfl)
 unfold U0 YM
 simp only [qC,yg,Zbc,qe,h2,h3,Option.bind_some]

theorem J6 {α : Type} (n : Nat) (f : Nat → α) : (vf n f).toList = (List.range n).map f:=by
 apply List.ext_getElem
 ·simp
 ·intro i h1 h2
  simp at h1
  rw [Vector.getElem_toList,Je f h1]; simp
theorem Zbl : Zb8 ((List.range 256).map fun x=>zK (UInt8.ofNat x)) = true:=by decide +kernel
theorem jV : Kf (vf 16 fun i=>UInt8.ofNat ((13 * i + 4) % 16)) = true:=by
 unfold Kf
 rw [J6]
 decide +kernel
theorem kd : Bo 285 = true:=by decide +kernel
theorem Za0 : (detC 285 (mf fun i j=>Kv 285 (UInt8.ofNat (i ^^^ (4 + j)))) != 0) = true:=by decide +kernel
theorem kp (n : Int) (h : 1 ≤ n ∧ n ≤ 20) : YJ (YM n) = true:=by
 unfold YJ YM
 simp only [J6,Zbl,jV,kd,Bool.true_and,h,decide_true,Bool.and_true,and_self]
 exact Za0
theorem K9 (p0 : List (List UInt8)) (hl : p0.flatten.length ≤ 140737488355328) (hn : p0.length < 9223372036854775807) : Ya p0 = some p0.flatten:=by
 obtain ⟨a1,a2⟩:=jD 1 p0 (XL p0) (XJ p0) (fun s=>by unfold XL; rfl) (fun s=>by unfold XJ; rfl) (by omega) (by omega) hn
 have hg : YY (p0.flatten.length : Int) = some []:=by
  unfold YY
  exact Zbp 1 _ _ (by omega) (by omega)
 unfold Ya
 simp only [a1,a2,hg,Option.bind_some]
theorem Q0 (l : List UInt8) (h : l.length ≤ 140737488355328) : ZZ l = some l:=by
 unfold ZZ
 rw [YX (by simp; omega)]; rfl
theorem Ha (l : List UInt8) (h : l.length ≤ 140737488355328) : Xs l = some l:=by
 unfold Xs
 rw [YX (by simp; omega)]; rfl
theorem zU {l : List UInt8} {n : Nat} (h : n ≤ l.length) : QP n l = some (vf n fun j=>l.getD j 0):=by
 unfold QP
 rw [dif_pos h]
 refine congrArg some (Qn fun i hi=>?_)
 rw [Je _ hi,List.getD_eq_getElem?_getD,List.getElem?_eq_getElem (by omega)]
 simp
theorem kL {l : List UInt8} {i j : Nat} (h : i ≤ j) (h2 : j ≤ l.length) : ∃ r,slc l (i : Int) (j : Int) = some r ∧ r.length = j - i ∧ ∀ k,k < j - i → r.getD k 0 = l.getD (i + k) 0:=by
 refine ⟨_,Hs h h2,by simp; omega,fun k hk=>?_⟩
 rw [List.getD_eq_getElem?_getD,List.getD_eq_getElem?_getD,List.getElem?_drop,List.getElem?_take,if_pos (by omega)]

def beL (n : Int) : Nat → List UInt8
 | 0=>[]
 | k + 1=>Zp (VA n ((8 * k : Nat) : Int)) :: beL n k
theorem To (n : Int) : ∀ k,(beL n k).length = k
 | 0=>rfl
 | k + 1=>by rw [beL,List.length_cons,To n k]
theorem qP (n : Int) (L : List UInt8 × Int → Option (Fl (List UInt8 × Int) (List UInt8))) (K : Nat)
  (hL : ∀ (k : Nat) (acc : List UInt8),k < K → acc.length ≤ 100000000 → L (acc,(k : Int)) = some (.nx (acc ++ [Zp (VA n ((8 * k : Nat) : Int))],(k : Int) - 1))) (he : ∀ acc,L (acc,-1) = some (.ex acc)) :
  ∀ (k : Nat) (acc : List UInt8),k ≤ K → acc.length + k ≤ 100000000 → ZB L (acc,(k : Int) - 1) = some (acc ++ beL n k):=by
 intro k
 induction k with
 | zero=>intro acc _ _; rw [show ((0 : Nat) : Int) - 1 = -1 from rfl,WJ (he acc)]; simp [beL]
 | succ k ih =>
  intro acc hk hl
  have e : ((k + 1 : Nat) : Int) - 1 = (k : Int):=by omega
  rw [e,W1 (hL k acc (by omega) (by omega)),ih _ (by omega) (by simp; omega)]
  simp [beL]
theorem JK (n : Int) (m : Nat) (hm : m ≤ 100) : YU n (m : Int) = some (beL n m):=by
 have h:=qP n (V5 n) 100 (fun k acc hk hl=>by
  unfold V5
  have e1 : wr (8 * (k : Int)) = ((8 * k : Nat) : Int):=by rw [YZ (by omega)]; omega
  have e2 : We ((8 * k : Nat) : Int) = some ():=by unfold We; rw [if_pos (by omega)]
  have e3 : wr ((k : Int) - 1) = (k : Int) - 1:=YZ (by omega)
  have e4 : decide ((k : Int) ≥ 0) = true:=by simp
  simp only [e1,e2,e3,e4,if_true,Option.bind_some]
  rw [YX (by simp; omega)]; rfl) (fun acc=>by unfold V5; simp) m [] hm (by simp; omega)
 have e : wr ((m : Int) - 1) = (m : Int) - 1:=YZ (by omega)
 unfold YU
 rw [e,h]; rfl
theorem Zde (x : Int) : Zp (Ki x 255) = Zp x:=by
 have h1 : (BitVec.ofInt 64 255) = (255 : BitVec 64):=rfl
 have h2 : (BitVec.ofInt 64 x &&& BitVec.ofInt 64 255).toNat = (x % 256).toNat:=by
  rw [BitVec.toNat_and,h1,show (255 : BitVec 64).toNat = 2 ^ 8 - 1 from rfl,Nat.and_two_pow_sub_one_eq_mod,BitVec.toNat_ofInt]
  omega
 unfold Ki Zp
 rw [h2,YZ (by omega)]
 congr 1
 omega
theorem yD (n : Int) : UI n = some (beL n 4):=by
 have e0 : VA n 0 = n:=by unfold VA; simp
 unfold UI
 simp only [Zde]
 have : beL n 4 = [Zp (VA n 24),Zp (VA n 16),Zp (VA n 8),Zp (VA n 0)]:=rfl
 rw [this,e0]

def Uv (n : Nat) : Nat:=(24 - n % 16) % 16
def JY (d : List UInt8) : List UInt8:=((d ++ [128]) ++ List.replicate (Uv (d.length + 1)) 0) ++ beL (d.length : Int) 8
theorem kk (d : List UInt8) : ∃ n,(JY d).length = 16 * n ∧ n ≤ d.length + 2:=by
 have : (JY d).length = d.length + 1 + Uv (d.length + 1) + 8:=by simp [JY,To]; omega
 refine ⟨(d.length + 1 + Uv (d.length + 1) + 8) / 16,?_,?_⟩
 ·rw [this]; unfold Uv; omega
 ·unfold Uv; omega
theorem kH (L : List UInt8 → Option (Fl (List UInt8) (List UInt8))) (hL : ∀ s,L s = if ((Int.tmod (s.length : Int) 16) != 8) = true then ((app 1 s ([0] : List UInt8)).bind fun (_ : List UInt8)=>some (Fl.nx (s ++ ([0] : List UInt8)))) else (some (Fl.ex s)))
  (l : List UInt8) (hl : l.length ≤ 100000000) : ZB L l = some (l ++ List.replicate (Uv l.length) 0):=by
 have ht : ∀ n : Nat,Int.tmod (n : Int) 16 = ((n % 16 : Nat) : Int):=fun n=>by rw [Int.tmod_eq_emod_of_nonneg (by omega)]; omega
 have:=Z4 (f:=L) (fun i : Nat=>l ++ List.replicate i 0) 0 (Uv l.length) (Nat.zero_le _) (t:=l ++ List.replicate (Uv l.length) 0) (fun i _ hi=>by
  rw [hL,ht]
  have hz : Uv l.length < 16:=by unfold Uv; omega
  have e : ((((l ++ List.replicate i 0).length % 16 : Nat) : Int) != 8) = true:=by
   simp only [List.length_append,List.length_replicate,bne_iff_ne,ne_eq]
   unfold Uv at hi; omega
  rw [e,if_pos rfl,YX (by simp; omega)]
  simp [List.replicate_succ']) (by
  rw [hL,ht]
  have e : ((((l ++ List.replicate (Uv l.length) 0).length % 16 : Nat) : Int) != 8) = false:=by
   simp only [List.length_append,List.length_replicate,bne_eq_false_iff_eq]
   unfold Uv; omega
  rw [e]; rfl)
 simpa using this
theorem jk (d : List UInt8) (h : d.length ≤ 10000000) : VU d = some (JY d):=by
 have h1:=kH UN (fun s=>by unfold UN; rfl) (d ++ [128]) (by simp; omega)
 have h2:=JK (d.length : Int) 8 (by omega)
 have h3 : YU (d.length : Int) 8 = some (beL (d.length : Int) 8):=h2
 have hz : Uv (d.length + 1) < 16:=by unfold Uv; omega
 have e : (d ++ [128]).length = d.length + 1:=by simp
 rw [e] at h1
 unfold VU JY
 rw [Q0 d (by omega),Option.bind_some,YX (by simp; omega),Option.bind_some,h1,Option.bind_some,h3,Option.bind_some,YX (by simp [To]; omega)]
 rfl
theorem Zb9 (d : List UInt8) (h : d.length ≤ 10000000) : T5 d = some (JY d):=by
 have h1:=kH QF (fun s=>by unfold QF; rfl) (d ++ [128]) (by simp; omega)
 have hz : Uv (d.length + 1) < 16:=by unfold Uv; omega
 have e : (d ++ [128]).length = d.length + 1:=by simp
 rw [e] at h1
 have h2:=qP (d.length : Int) (Uz d) 100 (fun k acc hk hl=>by
  unfold Uz
  have e1 : wr (8 * (k : Int)) = ((8 * k : Nat) : Int):=by rw [YZ (by omega)]; omega
  have e5 : IntKind.u64.wrap ((8 * k : Nat) : Int) = ((8 * k : Nat) : Int):=Zcg _ (by omega)
  have e2 : We ((8 * k : Nat) : Int) = some ():=by unfold We; rw [if_pos (by omega)]
  have e3 : wr ((k : Int) - 1) = (k : Int) - 1:=YZ (by omega)
  have e4 : decide ((k : Int) ≥ 0) = true:=by simp
  simp only [e1,e5,e2,e3,e4,if_true,Option.bind_some,Zde]
  rw [YX (by simp; omega)]; rfl) (fun acc=>by unfold Uz; simp) 8 ((d ++ [128]) ++ List.replicate (Uv (d.length + 1)) 0) (by omega) (by simp; omega)
 have h3 : ZB (Uz d) ((d ++ [128]) ++ List.replicate (Uv (d.length + 1)) 0,7) = some (((d ++ [128]) ++ List.replicate (Uv (d.length + 1)) 0) ++ beL (d.length : Int) 8):=h2
 unfold T5 JY
 rw [Ha d (by omega),Option.bind_some,YX (by simp; omega),Option.bind_some,h1,Option.bind_some,h3]
 rfl

def Zah (l : List UInt8) (i : Nat) : Blk:=vf 16 fun j=>l.getD (16 * i + j) 0
def WF (l : List UInt8) (n : Nat) : List Blk:=(List.range n).map (Zah l)
theorem KE (l : List UInt8) (n : Nat) : (WF l n).length = n:=by simp [WF]
theorem H4 (l : List UInt8) (n : Nat) : WF l (n + 1) = WF l n ++ [Zah l n]:=by simp [WF,List.range_succ]
theorem qM (l : List UInt8) (n : Nat) (hl : l.length = 16 * n) (hn : n ≤ 100000000) : UY l = some (WF l n):=by
 have:=Z4 (f:=Va l) (fun i : Nat=>(WF l i,((16 * i : Nat) : Int))) 0 n (Nat.zero_le _) (t:=WF l n) (fun i _ hi=>by
  unfold Va
  have e1 : wr (((16 * i : Nat) : Int) + 16) = ((16 * (i + 1) : Nat) : Int):=by rw [YZ (by omega)]; omega
  have e2 : decide (((16 * i : Nat) : Int) < (l.length : Int)) = true:=by simp; omega
  obtain ⟨r,r1,r2,r3⟩:=kL (l:=l) (i:=16 * i) (j:=16 * (i + 1)) (by omega) (by omega)
  have e3 : QP 16 r = some (Zah l i):=by
   rw [zU (by omega)]
   exact congrArg some (Xw fun j hj=>r3 j (by omega))
  simp only [e1,e2,if_true,r1,e3,Option.bind_some]
  rw [YX (by rw [KE]; simp; omega),H4]; rfl) (by
  unfold Va
  have e2 : decide (((16 * n : Nat) : Int) < (l.length : Int)) = false:=by simp; omega
  simp only [e2,Bool.false_eq_true,if_false])
 have h2 : ZB (Va l) ([],0) = _:=this
 unfold UY
 rw [h2]; rfl
theorem kB (l : List UInt8) (n : Nat) (hl : l.length = 16 * n) (hn : n ≤ 100000000) : Ur l = some (WF l n):=by
 have:=Z4 (f:=WN l) (fun i : Nat=>(WF l i,((16 * i : Nat) : Int))) 0 n (Nat.zero_le _) (t:=WF l n) (fun i _ hi=>by
  unfold WN
  have e1 : wr (((16 * i : Nat) : Int) + 16) = ((16 * (i + 1) : Nat) : Int):=by rw [YZ (by omega)]; omega
  have e2 : decide (((16 * (i + 1) : Nat) : Int) ≤ (l.length : Int)) = true:=by simp; omega
  have h3:=WH (WO l (WF l i,((16 * i : Nat) : Int))) (fun _=>0) (fun j=>l.getD (16 * i + j) 0) (by omega) 0 (by omega) (fun j hj=>by omega) (fun j _ hj a _ _=>by
   unfold WO
   have e4 : wr (((16 * i : Nat) : Int) + (j : Int)) = ((16 * i + j : Nat) : Int):=by rw [YZ (by omega)]; omega
   have e5 : 16 * i + j < l.length:=by omega
   simp only [HH hj,if_true,e4,Ym,List.getElem?_eq_getElem e5,ZT _ hj,Option.bind_some,Int.toNat_natCast,List.getD_eq_getElem?_getD,Option.getD_some]) (fun v=>by unfold WO; simp)
  have h4 : ZB (WO l (WF l i,((16 * i : Nat) : Int))) (Vector.replicate 16 0,0) = some (Zah l i):=by rw [Qp]; exact h3
  simp only [e1,e2,if_true,h4,Option.bind_some]
  rw [YX (by rw [KE]; simp; omega),H4]; rfl) (by
  unfold WN
  have e1 : wr (((16 * n : Nat) : Int) + 16) = ((16 * (n + 1) : Nat) : Int):=by rw [YZ (by omega)]; omega
  have e2 : decide (((16 * (n + 1) : Nat) : Int) ≤ (l.length : Int)) = false:=by simp; omega
  simp only [e1,e2,Bool.false_eq_true,if_false])
 have h2 : ZB (WN l) ([],0) = _:=this
 unfold Ur
 rw [h2]; rfl

abbrev Dig:=Vector UInt8 32
def df (v : Dig) (i : Nat) : UInt8:=v[i]?.getD default
theorem Zbv (v : Dig) : v = vf 32 (df v):=Zap v
def K5 : Dig:=vf 32 fun i=>UInt8.ofNat (17 * i)
theorem lt32 {i : Nat} (h : i < 32) : decide ((i : Int) < 32) = true:=by simp; omega
theorem Zee : Wn = some K5:=by
 have h:=WH Xm (fun _=>0) (fun i=>UInt8.ofNat (17 * i)) (by omega) 0 (by omega) (fun j hj=>by omega) (fun i _ hi a _ _=>by
  unfold Xm
  have e1 : wr (17 * (i : Int)) = ((17 * i : Nat) : Int):=by rw [YZ (by omega)]; omega
  simp only [lt32 hi,if_true,ZT _ hi,Option.bind_some,e1,XY,Int.toNat_natCast]) (fun v=>by unfold Xm; simp)
 have h2 : ZB Xm (Vector.replicate 32 0,0) = some K5:=by rw [Qp]; exact h
 unfold Wn
 rw [h2]; rfl
theorem qy : UZ = some K5:=by
 have h:=WH W9 (fun _=>0) (fun i=>UInt8.ofNat (17 * i)) (by omega) 0 (by omega) (fun j hj=>by omega) (fun i _ hi a _ _=>by
  unfold W9
  have e1 : wr (17 * (i : Int)) = ((17 * i : Nat) : Int):=by rw [YZ (by omega)]; omega
  have e2 : Int.tmod ((17 * i : Nat) : Int) 256 = ((17 * i % 256 : Nat) : Int):=by rw [Int.tmod_eq_emod_of_nonneg (by omega)]; omega
  simp only [lt32 hi,if_true,ZT _ hi,Option.bind_some,e1,e2,XY,yU,Int.toNat_natCast]) (fun v=>by unfold W9; simp)
 have h2 : ZB W9 (Vector.replicate 32 0,0) = some K5:=by rw [Qp]; exact h
 unfold UZ
 rw [h2]; rfl
def hiF (s : Nat → UInt8) : Nat → UInt8:=fun i=>s (16 + i)
def yV (f g : Nat → UInt8) : Nat → UInt8:=fun i=>if i < 16 then f i else g (i - 16)
def qR (c : GCipher) (k a : Nat → UInt8) : Nat → UInt8:=H6 (jR c k a c.Rounds.toNat) a
def absC (c : GCipher) (s m : Nat → UInt8) : Nat → UInt8 :=
 yV (qR c (hiF s) (H6 s m)) (qR c (qR c (hiF s) (H6 s m)) (H6 (hiF s) m))
theorem jT (s : Nat → UInt8) : Uo (vf 32 s) = some (vf 16 s,vf 16 (hiF s)):=by
 have:=Z4 (f:=WA (vf 32 s)) (fun i : Nat=>(vf 16 (fun j=>if j < i then hiF s j else 0),vf 16 (fun j=>if j < i then s j else 0),(i : Int))) 0 16 (by omega) (t:=(vf 16 (hiF s),vf 16 s)) (fun i _ hi=>by
  unfold WA
  have e1 : wr (16 + (i : Int)) = ((16 + i : Nat) : Int):=by rw [YZ (by omega)]; omega
  simp only [HH hi,if_true,e1,ZT _ (show i < 32 by omega),ZT _ (show 16 + i < 32 by omega),ZT _ hi,Option.bind_some,Int.toNat_natCast,QN,Xe (show i < 9223372036854775807 by omega)]
  have e : ∀ f : Nat → UInt8,(vf 16 fun j=>if j = i then f i else if j < i then f j else 0) = vf 16 fun j=>if j < i + 1 then f j else 0:=fun f=>Xw fun j _=>by
   by_cases h1 : j = i
   ·subst h1; simp
   ·by_cases h2 : j < i
    ·rw [if_neg h1,if_pos h2,if_pos (by omega)]
    ·rw [if_neg h1,if_neg h2,if_neg (by omega)]
  have ea:=e (hiF s)
  have eb:=e s
  rw [eb]
  have ea' : (vf 16 fun j=>if j = i then s (16 + i) else if j < i then hiF s j else 0) = vf 16 fun j=>if j < i + 1 then hiF s j else 0:=ea
  rw [ea']) (by
  unfold WA
  simp only [show decide (((16 : Nat) : Int) < 16) = false from rfl,Bool.false_eq_true,if_false]
  refine congrArg (fun z=>some (Fl.ex z)) (congr (congrArg Prod.mk (Xw fun j hj=>by rw [if_pos hj])) (Xw fun j hj=>by rw [if_pos hj])))
 have h2 : ZB (WA (vf 32 s)) (vf 16 (fun _=>0),vf 16 (fun _=>0),0) = some (vf 16 (hiF s),vf 16 s):=by
  have e0 : ∀ f : Nat → UInt8,(vf 16 fun j=>if j < 0 then f j else 0) = vf 16 fun _=>0:=fun f=>Xw fun j _=>by simp
  simp only [e0] at this
  exact this
 unfold Uo
 rw [Qp,h2]; rfl
theorem kw (c : GCipher) (h : YJ c = true) (s m : Nat → UInt8) : Vc c (vf 32 s) (vf 16 m) = some (vf 32 (absC c s m)):=by
 have hj : ∀ f g : Nat → UInt8,ZB (WK (vf 16 f) (vf 16 g)) (Vector.replicate 32 0,0) = some (vf 32 (yV f g)):=by
  intro f g
  have:=Z4 (f:=WK (vf 16 f) (vf 16 g)) (fun i : Nat=>(vf 32 (fun j=>if j < i then f j else if 16 ≤ j ∧ j < 16 + i then g (j - 16) else 0),(i : Int))) 0 16 (by omega) (t:=vf 32 (yV f g)) (fun i _ hi=>by
   unfold WK
   have e1 : wr (16 + (i : Int)) = ((16 + i : Nat) : Int):=by rw [YZ (by omega)]; omega
   simp only [HH hi,if_true,e1,ZT _ (show i < 32 by omega),ZT _ (show 16 + i < 32 by omega),ZT _ hi,Option.bind_some,Int.toNat_natCast,QN,Xe (show i < 9223372036854775807 by omega)]
   refine congrArg (fun z=>some (Fl.nx (z,((i + 1 : Nat) : Int)))) (Xw fun j hj=>?_)
   by_cases h1 : j = 16 + i
   ·subst h1
    rw [if_pos rfl,if_neg (by omega),if_pos (by omega)]
    congr 1; omega
   ·rw [if_neg h1]
    by_cases h2 : j = i
    ·subst h2; rw [if_pos rfl,if_pos (by omega)]
    ·rw [if_neg h2]
     by_cases h3 : j < i
     ·rw [if_pos h3,if_pos (by omega)]
     ·rw [if_neg h3,if_neg (show ¬ j < i + 1 by omega)]
      by_cases h4 : 16 ≤ j ∧ j < 16 + i
      ·rw [if_pos h4,if_pos (by omega)]
      ·rw [if_neg h4,if_neg (by omega)]) (by
   unfold WK
   simp only [show decide (((16 : Nat) : Int) < 16) = false from rfl,Bool.false_eq_true,if_false]
   refine congrArg (fun z=>some (Fl.ex z)) (Xw fun j hj=>?_)
   unfold yV
   by_cases h3 : j < 16
   ·rw [if_pos h3,if_pos h3]
   ·rw [if_neg h3,if_neg h3,if_pos (by omega)])
  have e0 : (vf 32 fun j=>if j < 0 then f j else if 16 ≤ j ∧ j < 16 + 0 then g (j - 16) else 0) = vf 32 fun _=>0:=Xw fun j _=>by rw [if_neg (by omega),if_neg (by omega)]
  simp only [e0] at this
  rw [Qp]
  exact this
 unfold Vc
 simp only [jT,Option.bind_some,H9,Bg c h,hj]
 rfl
theorem Zb5 (c : GCipher) (h : YJ c = true) (s m : Nat → UInt8) : XC ⟨Yz c⟩ (vf 32 s) (vf 16 m) = some (vf 32 (absC c s m)):=by
 have g1 : ∀ {n : Nat} (f : Nat → UInt8) (k : Nat),k < n → (vf n f).toList.getD k 0 = f k:=fun f k hk=>by
  rw [J6,List.getD_eq_getElem?_getD,List.getElem?_map,List.getElem?_range hk]; rfl
 have hl : ∀ {n : Nat} (f : Nat → UInt8),(vf n f).toList.length = n:=fun f=>by simp
 have cut : ∀ {n : Nat} (f : Nat → UInt8) (i j : Nat),i ≤ j → j ≤ n → ∃ r,slc (vf n f).toList (i : Int) (j : Int) = some r ∧ r.length = j - i ∧ QP (j - i) r = some (vf (j - i) fun k=>f (i + k)) ∧ ∀ k,k < j - i → r.getD k 0 = f (i + k):=by
  intro n f i j hij hjn
  obtain ⟨r,r1,r2,r3⟩:=kL (l:=(vf n f).toList) (i:=i) (j:=j) hij (by rw [hl]; exact hjn)
  have r4 : ∀ k,k < j - i → r.getD k 0 = f (i + k):=fun k hk=>by rw [r3 k hk,g1 f (i + k) (by omega)]
  refine ⟨r,r1,r2,?_,r4⟩
  rw [zU (by omega)]
  exact congrArg some (Xw r4)
 obtain ⟨l,l1,l2,l3,l4⟩:=cut (n:=32) s 0 16 (by omega) (by omega)
 obtain ⟨l',l1',l2',l3',l4'⟩:=cut (n:=32) s 16 32 (by omega) (by omega)
 have a1 : slc (vf 32 s).toList (0 : Int) (16 : Int) = some l:=l1
 have a2 : slc (vf 32 s).toList (16 : Int) (32 : Int) = some l':=l1'
 have a3 : QP 16 l = some (vf 16 s):=by
  have : QP 16 l = some (vf 16 fun k=>s (0 + k)):=l3
  rw [this]; exact congrArg some (Xw fun k _=>by rw [Nat.zero_add])
 have a4 : QP 16 l' = some (vf 16 (hiF s)):=l3'
 have join : ∀ f g : Nat → UInt8,((slc (vf 16 f).toList (0 : Int) (16 : Int)).bind fun (l56 : (List UInt8))=>(slc (vf 16 g).toList (0 : Int) (16 : Int)).bind fun (l59 : (List UInt8))=>(Ya ([l56,l59] : (List (List UInt8)))).bind fun (r64 : (List UInt8))=>(QP 32 r64).bind fun (x67 : (Vector UInt8 32))=>some x67 : Option ((Vector UInt8 32))) = some (vf 32 (yV f g)):=by
  intro f g
  obtain ⟨p,p1,p2,_,p4⟩:=cut (n:=16) f 0 16 (by omega) (by omega)
  obtain ⟨q,q1,q2,_,q4⟩:=cut (n:=16) g 0 16 (by omega) (by omega)
  have b1 : slc (vf 16 f).toList (0 : Int) (16 : Int) = some p:=p1
  have b2 : slc (vf 16 g).toList (0 : Int) (16 : Int) = some q:=q1
  have b3 : Ya [p,q] = some (p ++ q):=by
   have:=K9 [p,q] (by simp; omega) (by simp)
   simpa using this
  rw [b1,Option.bind_some,b2,Option.bind_some,b3,Option.bind_some,zU (by simp; omega),Option.bind_some]
  refine congrArg some (Xw fun k hk=>?_)
  unfold yV
  rw [List.getD_eq_getElem?_getD]
  by_cases h1 : k < 16
  ·rw [if_pos h1,List.getElem?_append_left (by omega),← List.getD_eq_getElem?_getD,p4 k (by omega),Nat.zero_add]
  ·rw [if_neg h1,List.getElem?_append_right (by omega),← List.getD_eq_getElem?_getD,q4 (k - p.length) (by omega),Nat.zero_add,show p.length = 16 from p2]
 have in1 : ∀ k a : Nat → UInt8,((YQ ⟨Yz c⟩ (vf 16 k) (vf 16 a)).bind fun (r34 : (Vector UInt8 16))=>(YK r34 (vf 16 a)).bind fun (r36 : (Vector UInt8 16))=>some r36 : Option (Vector UInt8 16)) = some (vf 16 (qR c k a)):=fun k a=>by
  rw [Bf c h,Option.bind_some,Qw,Option.bind_some]; rfl
 unfold XC
 rw [a1,Option.bind_some,a3,Option.bind_some,a2,Option.bind_some,a4,Option.bind_some,Qw,Option.bind_some,in1,Option.bind_some,Qw,Option.bind_some,in1,Option.bind_some,join,Option.bind_some]
 rfl

def absV (c : GCipher) (s : Dig) (m : Blk) : Dig:=vf 32 (absC c (df s) (bf m))
theorem qZ (c : GCipher) (h : YJ c = true) (s : Dig) (m : Blk) : XC ⟨Yz c⟩ s m = some (absV c s m) ∧ Vc c s m = some (absV c s m):=by
 have h1:=Zb5 c h (df s) (bf m)
 have h2:=kw c h (df s) (bf m)
 rw [← Zbv,← Zcc] at h1 h2
 exact ⟨h1,h2⟩
def KZ (c : GCipher) (d : List UInt8) : Dig:=(WF (JY d) ((JY d).length / 16)).foldl (absV c) K5
theorem H5 (c : GCipher) (h : YJ c = true) (ps : List (List UInt8)) (hl : ps.flatten.length ≤ 10000000) (hn : ps.length < 9223372036854775807) : YN ⟨Yz c⟩ ps = some (KZ c ps.flatten):=by
 obtain ⟨n,n1,n2⟩:=kk ps.flatten
 have e : (JY ps.flatten).length / 16 = n:=by omega
 have h1:=K1 (f:=Xl ⟨Yz c⟩ (WF (JY ps.flatten) n)) (WF (JY ps.flatten) n) (fun (b : Dig) i=>(b,i)) (absV c) K5 (t:=KZ c ps.flatten) (by rw [KE]; omega) (fun i hi=>by
  unfold Xl
  simp only [Int.ofNat_lt,hi,decide_true,if_true,Ym,List.getElem?_eq_getElem hi,Option.bind_some,(qZ c h _ _).1]) (by
  unfold Xl KZ
  rw [e]; simp)
 unfold YN
 rw [Zee,Option.bind_some,K9 ps (by omega) hn,Option.bind_some,jk _ hl,Option.bind_some,qM _ n n1 (by omega),Option.bind_some]
 have h2 : ZB (Xl ⟨Yz c⟩ (WF (JY ps.flatten) n)) (K5,0) = _:=h1
 rw [h2]; rfl
theorem A9 (c : GCipher) (h : YJ c = true) (d : List UInt8) (hl : d.length ≤ 10000000) : WY c d = some (KZ c d):=by
 obtain ⟨n,n1,n2⟩:=kk d
 have e : (JY d).length / 16 = n:=by omega
 have h1:=K1 (f:=Tf c (WF (JY d) n)) (WF (JY d) n) (fun (b : Dig) i=>(b,i)) (absV c) K5 (t:=KZ c d) (by rw [KE]; omega) (fun i hi=>by
  unfold Tf
  simp only [Int.ofNat_lt,hi,decide_true,if_true,Ym,List.getElem?_eq_getElem hi,Option.bind_some,(qZ c h _ _).2]) (by
  unfold Tf KZ
  rw [e]; simp)
 unfold WY
 rw [Zb9 _ hl,Option.bind_some,kB _ n n1 (by omega),Option.bind_some,qy,Option.bind_some]
 have h2 : ZB (Tf c (WF (JY d) n)) (K5,0) = _:=h1
 rw [h2]; rfl
theorem Ja (d : Dig) : XZ d = some d.toList:=by
 have h:=z7 (f:=UJ d) (List.range 32) (fun i=>df d i) (t:=d.toList) (by simp) (fun i hi=>by
  have hi' : i < 32:=by simpa using hi
  unfold UJ
  have hv : ZH d (i : Int) = some (df d i):=by
   have:=ZT (df d) hi'
   rwa [← Zbv] at this
  simp only [lt32 hi',if_true,hv,Option.bind_some]
  rw [YX (by simp; omega)]
  simp) (by
  unfold UJ
  have e : (List.range 32).map (fun i=>df d i) = d.toList:=by
   conv=>rhs; rw [Zbv d]
   rw [J6]
  simp only [List.length_range,show decide (((32 : Nat) : Int) < 32) = false from rfl,Bool.false_eq_true,if_false,e])
 unfold XZ
 rw [h]; rfl
def J4 (d : Dig) (e : GEvent) : List UInt8:=((d.toList ++ [Zp e.Kind]) ++ beL e.Number 4) ++ e.Tag.toList
theorem kr (d : Dig) (e : GEvent) : (J4 d e).length = 69:=by simp [J4,To]
def Ai (c : GCipher) (d : Dig) (e : GEvent) : Dig:=KZ c (J4 d e)
def zl (c : GCipher) (l : List GEvent) : Dig:=l.foldl (Ai c) (KZ c (List.replicate 32 0))
theorem HZ : YJ (YM 4) = true:=kp 4 (by omega)
theorem KF : XD = some (YM 4):=by
 unfold XD
 rw [qt]; rfl
theorem Zd1 (n : Int) (h : 1 ≤ n ∧ n ≤ 20) : Qz n = some ⟨Yz (YM n)⟩:=by
 unfold Qz
 rw [yl,Option.bind_some,jZ _ (kp n h)]; rfl
theorem yw : Vr = some ⟨Yz (YM 4)⟩:=by
 unfold Vr
 rw [Zd1 4 (by omega)]; rfl
theorem jo (d : Dig) : slc d.toList (0 : Int) (32 : Int) = some d.toList:=by
 have h1 : slc d.toList ((0 : Nat) : Int) ((32 : Nat) : Int) = _:=Hs (Nat.zero_le _) (by simp)
 have h2 : slc d.toList (0 : Int) (32 : Int) = _:=h1
 rw [h2,List.drop_zero,List.take_of_length_le (by simp)]
theorem yo (c : GCipher) (h : YJ c = true) (l : List GEvent) (hl : l.length < 9223372036854775807) : Vh ⟨Yz c⟩ l = some (zl c l):=by
 have hm : mkS 1 (0 : UInt8) 32 = some (List.replicate 32 0):=by unfold mkS; rw [if_pos (by omega)]; rfl
 have h0:=H5 c h [List.replicate 32 0] (by simp) (by simp)
 have e0 : ([List.replicate 32 0] : List (List UInt8)).flatten = List.replicate 32 0:=by simp
 rw [e0] at h0
 have h1:=K1 (f:=XP ⟨Yz c⟩ l) l (fun (b : Dig) i=>(b,i)) (Ai c) (KZ c (List.replicate 32 0)) (t:=zl c l) hl (fun i hi=>by
  unfold XP
  have hb : YU l[i].Number 4 = some (beL l[i].Number 4):=JK _ 4 (by omega)
  have hd:=H5 c h [((l.take i).foldl (Ai c) (KZ c (List.replicate 32 0))).toList,[Zp l[i].Kind],beL l[i].Number 4,l[i].Tag.toList] (by simp [To]) (by simp)
  have ed : ([((l.take i).foldl (Ai c) (KZ c (List.replicate 32 0))).toList,[Zp l[i].Kind],beL l[i].Number 4,l[i].Tag.toList] : List (List UInt8)).flatten = J4 ((l.take i).foldl (Ai c) (KZ c (List.replicate 32 0))) l[i]:=by simp [J4]
  rw [ed] at hd
  simp only [Int.ofNat_lt,hi,decide_true,if_true,Ym,List.getElem?_eq_getElem hi,Option.bind_some,jo,hb,hd]
  rfl) (by unfold XP zl; simp)
 unfold Vh
 rw [hm,Option.bind_some,h0,Option.bind_some]
 have h2 : ZB (XP ⟨Yz c⟩ l) (KZ c (List.replicate 32 0),0) = _:=h1
 rw [h2]; rfl
theorem Zat (d : Dig) (e : GEvent) : TH d e = some (Ai (YM 4) d e):=by
 have h1:=A9 (YM 4) HZ (J4 d e) (by rw [kr]; omega)
 unfold TH
 rw [Ja,Option.bind_some,YX (by simp),Option.bind_some,Option.bind_some,yD,Option.bind_some,YX (by simp [To]),Option.bind_some,KF,Option.bind_some,Ja,Option.bind_some,YX (by simp [To]),Option.bind_some]
 have h2 : WY (YM 4) (((d.toList ++ [Zp e.Kind]) ++ beL e.Number 4) ++ e.Tag.toList) = some (Ai (YM 4) d e):=h1
 rw [h2]; rfl
theorem Zaz (l : List GEvent) (hl : l.length < 9223372036854775807) : TI l = some (zl (YM 4) l):=by
 have hm : mkS 1 (0 : UInt8) 32 = some (List.replicate 32 0):=by unfold mkS; rw [if_pos (by omega)]; rfl
 have h1:=K1 (f:=VB l) l (fun (b : Dig) i=>(b,i)) (Ai (YM 4)) (KZ (YM 4) (List.replicate 32 0)) (t:=zl (YM 4) l) hl (fun i hi=>by
  unfold VB
  simp only [Int.ofNat_lt,hi,decide_true,if_true,Ym,List.getElem?_eq_getElem hi,Option.bind_some,Zat]) (by unfold VB zl; simp)
 unfold TI
 rw [KF,Option.bind_some,hm,Option.bind_some,A9 _ HZ _ (by simp),Option.bind_some]
 have h2 : ZB (VB l) (KZ (YM 4) (List.replicate 32 0),0) = _:=h1
 rw [h2]; rfl
theorem jQ (l : List GEvent) (h : Wt.ln l) : z3 XI VZ l (l.map fun _=>34).sum :=
 J9 XI VZ Y4 Vi (fun _=>34) (fun _ _=>rfl) (fun _ _=>rfl) l (Vz h) (fun l' i k hi _ _ h0 hk=>by
  refine ⟨_,Hm l' i k hi h0 (by omega),fun m hm=>?_⟩
  have hi':=(List.getElem?_eq_some_iff.1 hm).1
  have e1:=ys (k:=k) h0 (by omega)
  have e2 : wr (k + 2) = k + 2:=YZ (by omega)
  unfold Vi
  have h1:=Bb (n:=32) (fun x : GEvent=>x.Tag) m i i rfl (UU m (k,(i : Int))) (fun s=>by unfold UU; rfl) hm (k + 2) (by omega) (by omega) rfl
  rw [show k + 2 + ((32 : Nat) : Int) = k + 34 by omega] at h1
  simp only [Int.ofNat_lt,hi',decide_true,if_true,Ym,hm,Option.bind_some,bne_self_eq_false,Bool.false_eq_true,if_false,e1,e2,show k + 1 + 1 = k + 2 by omega,h1,Fl.el]
  rfl) (fun l' k=>by unfold Y4; simp) (fun m k=>by unfold Vi; simp)
theorem yz (l : List GRecord) (h : Wt.ln l) : z3 Xv Vp l (l.map X4).sum :=
 J9 Xv Vp YV WV X4 (fun _ _=>rfl) (fun _ _=>rfl) l (Vz h) (fun l' i k hi hx _ h0 hk=>by
  have hk':=hk
  unfold X4 at hk'
  have hln : Wt.ln l'[i]:=jO h hx
  obtain ⟨la,a1,a2⟩:=Ab l'[i].Label hln.1 (k + 18) (by omega) (by omega)
  obtain ⟨bo,b1,b2⟩:=Ab l'[i].Body hln.2 (k + 18 + ((l'[i].Label.map fun _=>1).sum : Nat)) (by omega) (by omega)
  refine ⟨_,JW l' i k hi h0 hk a1 b1,fun m hm=>?_⟩
  have hi':=(List.getElem?_eq_some_iff.1 hm).1
  have e1:=ys (k:=k) h0 (by omega)
  have e2 : wr (k + 2) = k + 2:=YZ (by omega)
  have h1:=Bb (n:=16) (fun x : GRecord=>x.Nonce) m i i rfl (Uj m (k,(i : Int))) (fun s=>by unfold Uj; rfl) hm (k + 2) (by omega) (by omega) rfl
  have h2:=Bb (n:=32) (fun x : GRecord=>x.Tag) m i i rfl (Uh m (k,(i : Int))) (fun s=>by unfold Uh; rfl) hm (k + 18 + ((l'[i].Label.map fun _=>1).sum : Nat) + ((l'[i].Body.map fun _=>1).sum : Nat)) (by omega) (by omega) rfl
  rw [show k + 2 + ((16 : Nat) : Int) = k + 18 by omega] at h1
  have c1 : ¬ (k + 18 + ((l'[i].Label.map fun _=>1).sum : Nat) < 0):=by omega
  have c2 : ¬ (k + 18 + ((l'[i].Label.map fun _=>1).sum : Nat) + ((l'[i].Body.map fun _=>1).sum : Nat) < 0):=by omega
  unfold WV
  simp only [Int.ofNat_lt,hi',decide_true,if_true,Ym,hm,Option.bind_some,bne_self_eq_false,Bool.false_eq_true,if_false,e1,e2,show k + 1 + 1 = k + 2 by omega,h1,Fl.el,a2,b2,c1,c2,decide_false,h2]
  refine congrArg (fun z=>some (Fl.nx (z,wr ((i : Int) + 1)))) ?_
  unfold X4; omega) (fun l' k=>by unfold YV; simp) (fun m k=>by unfold WV; simp)
theorem kf (x : GVault) (h : Wt.ln x) (k : Int) (h0 : 0 ≤ k) (hk : k + (TP x : Nat) ≤ 4611686018427387904) :
  ∃ x',XB x k = some (x',k + (TP x : Nat)) ∧ ∀ n hd,Vf ⟨x'.Keys,n,x'.Records,x'.Events,hd⟩ k = some (k + (TP x : Nat)):=by
 unfold TP at hk
 obtain ⟨a,a1,a2⟩:=jz x.Keys h.1 k h0 (by omega)
 obtain ⟨b,b1,b2⟩:=yz x.Records h.2.1 _ (by omega : (0 : Int) ≤ k + ((x.Keys.map fun _=>16).sum : Nat)) (by omega)
 obtain ⟨c,c1,c2⟩:=jQ x.Events h.2.2 _ (by omega : (0 : Int) ≤ k + ((x.Keys.map fun _=>16).sum : Nat) + ((x.Records.map X4).sum : Nat)) (by omega)
 refine ⟨⟨a,x.Next,b,c,x.Head⟩,?_,fun n hd=>?_⟩
 ·unfold XB TP
  simp only [a1,b1,c1,Option.bind_some]
  refine congrArg (fun z=>some (_,z)) ?_
  omega
 ·have d1 : ¬ (k + ((x.Keys.map fun _=>16).sum : Nat) < 0):=by omega
  have d2 : ¬ (k + ((x.Keys.map fun _=>16).sum : Nat) + ((x.Records.map X4).sum : Nat) < 0):=by omega
  have d3 : ¬ (k + ((x.Keys.map fun _=>16).sum : Nat) + ((x.Records.map X4).sum : Nat) + ((x.Events.map fun _=>34).sum : Nat) < 0):=by omega
  unfold Vf TP
  simp only [a2,b2,c2,d1,d2,d3,decide_false,Bool.false_eq_true,if_false,Option.bind_some]
  refine congrArg some ?_
  omega

def T6 (k : Blk) (b : UInt8) : Blk:=vf 16 fun i=>bf k i ^^^ b
theorem jc (b : UInt8) (L : Blk × Int → Option (Fl (Blk × Int) Blk)) (hL : ∀ s,L s = if (decide (s.2 < 16)) = true then ((ZH s.1 s.2).bind fun x=>(ZH s.1 s.2).bind fun _=>some (Fl.nx ((s.1.setIfInBounds (s.2).toNat (x ^^^ b)),wr (s.2 + 1)))) else (some (Fl.ex s.1))) (k : Blk) :
  ZB L (k,0) = some (T6 k b):=by
 have h:=WH L (bf k) (fun i=>bf k i ^^^ b) (by omega) 0 (by omega) (fun j hj=>by omega) (fun i _ hi a _ ha=>by
  rw [hL]
  simp only [HH hi,if_true,ZT _ hi,Option.bind_some,Int.toNat_natCast,ha i (Nat.le_refl _)]) (fun v=>by rw [hL]; simp)
 rw [← Zcc] at h
 exact h
theorem K7 (k : Blk) (b : UInt8) : XK k b = some (T6 k b).toList:=by
 have hs : ∀ v : Blk,slc v.toList (0 : Int) (16 : Int) = some v.toList:=fun v=>by
  have h1 : slc v.toList ((0 : Nat) : Int) ((16 : Nat) : Int) = _:=Hs (Nat.zero_le _) (by simp)
  have h2 : slc v.toList (0 : Int) (16 : Int) = _:=h1
  rw [h2,List.drop_zero,List.take_of_length_le (by simp)]
 unfold XK
 rw [jc b (UR b) (fun s=>by unfold UR; rfl),Option.bind_some,hs]; rfl
theorem jN (k : Blk) (b : UInt8) : VR k b = some (T6 k b):=by
 unfold VR
 rw [jc b (UT b) (fun s=>by unfold UT; rfl)]; rfl
theorem k7 {n : Nat} (v : Vector UInt8 n) (g : UInt8 → UInt8) (L : List UInt8 × Int → Option (Fl (List UInt8 × Int) (List UInt8))) (acc : List UInt8) (hn : n ≤ 1000) (ha : acc.length ≤ 100000000)
  (hL : ∀ s,L s = if (decide (s.2 < (n : Int))) = true then ((ZH v s.2).bind fun x=>(app 1 s.1 ([g x] : List UInt8)).bind fun _=>some (Fl.nx ((s.1 ++ ([g x] : List UInt8)),wr (s.2 + 1)))) else (some (Fl.ex s.1))) :
  ZB L (acc,0) = some (acc ++ v.toList.map g):=by
 have hlen : v.toList.length = n:=by simp
 have:=Z4 (f:=L) (fun i : Nat=>(acc ++ (v.toList.take i).map g,(i : Int))) 0 n (Nat.zero_le _) (t:=acc ++ v.toList.map g) (fun i _ hi=>by
  have hi' : i < v.toList.length:=by omega
  rw [hL]
  simp only [Int.ofNat_lt,hi,decide_true,if_true,W6,Vector.getElem?_eq_getElem hi,Option.bind_some,Xe (show i < 9223372036854775807 by omega)]
  rw [YX (by simp; omega),List.take_succ_eq_append_getElem hi']
  simp) (by
  rw [hL]
  have e : v.toList.take n = v.toList:=List.take_of_length_le (by omega)
  simp only [Int.ofNat_lt,Nat.lt_irrefl,decide_false,Bool.false_eq_true,if_false,e])
 simpa using this
theorem Zaw (k : Blk) (b : UInt8) : (T6 k b).toList = k.toList.map fun x=>x ^^^ b:=by
 conv=>rhs; rw [Zcc k]
 unfold T6
 rw [J6,J6,List.map_map]; rfl
theorem Ah (k : Blk) (b : UInt8) : W3 k b = some (T6 k b).toList:=by
 unfold W3
 rw [k7 k (fun x=>x ^^^ b) (Tn k b) [] (by omega) (by simp) (fun s=>by unfold Tn; rfl),Zaw]; rfl
theorem Zbd {n : Nat} (v : Vector UInt8 n) : QP n v.toList = some v:=by
 unfold QP
 rw [dif_pos (by simp)]
 refine congrArg some (Qn fun i hi=>?_)
 simp
def Jo (l : List Blk) : List UInt8:=(l.map fun b=>b.toList).flatten
theorem je (l : List Blk) (h : l.length ≤ 1000000) : Wq l = some (Jo l):=by
 have hlen : ∀ i,i ≤ l.length → (Jo (l.take i)).length = 16 * i:=by
  intro i
  induction i with
  | zero=>intro _; rfl
  | succ i ih =>
   intro hi
   have e : Jo (l.take (i + 1)) = Jo (l.take i) ++ (l[i]'(by omega)).toList:=by
    unfold Jo
    rw [List.take_succ_eq_append_getElem (by omega),List.map_append,List.flatten_append]; simp
   rw [e,List.length_append,ih (by omega)]; simp; omega
 have:=Z4 (f:=VM l) (fun i : Nat=>(Jo (l.take i),(i : Int))) 0 l.length (Nat.zero_le _) (t:=Jo l) (fun i _ hi=>by
  unfold VM
  have h1:=k7 l[i] (fun x=>x) (Qm l (Jo (l.take i),(i : Int))) (Jo (l.take i)) (by omega) (by rw [hlen i (by omega)]; omega) (fun s=>by
   unfold Qm
   simp only [Ym,List.getElem?_eq_getElem hi,Option.bind_some]; rfl)
  simp only [Int.ofNat_lt,hi,decide_true,if_true,h1,Option.bind_some,Xe (show i < 9223372036854775807 by omega)]
  refine congrArg (fun z=>some (Fl.nx (z,((i + 1 : Nat) : Int)))) ?_
  unfold Jo
  rw [List.take_succ_eq_append_getElem hi,List.map_append,List.flatten_append]; simp) (by
  unfold VM
  simp)
 have h2 : ZB (VM l) ([],0) = _:=this
 unfold Wq
 rw [h2]; rfl

def tagC (c : GCipher) (key : Blk) (d : List UInt8) : Dig:=KZ c ((T6 key 165).toList ++ (KZ c ((T6 key 90).toList ++ d)).toList)
theorem v_tag (c : GCipher) (h : YJ c = true) (key : Blk) (ps : List (List UInt8)) (hl : ps.flatten.length ≤ 1000000) (hn : ps.length < 9223372036854775807) : WL ⟨Yz c⟩ key ps = some (tagC c key ps.flatten):=by
 have e1 : ([(T6 key 90).toList,ps.flatten] : List (List UInt8)).flatten = (T6 key 90).toList ++ ps.flatten:=by simp
 have d1:=H5 c h [(T6 key 90).toList,ps.flatten] (by rw [e1,List.length_append,Vector.length_toList]; omega) (by simp)
 rw [e1] at d1
 have d2:=H5 c h [(T6 key 165).toList,(KZ c ((T6 key 90).toList ++ ps.flatten)).toList] (by simp) (by simp)
 have e2 : ([(T6 key 165).toList,(KZ c ((T6 key 90).toList ++ ps.flatten)).toList] : List (List UInt8)).flatten = (T6 key 165).toList ++ (KZ c ((T6 key 90).toList ++ ps.flatten)).toList:=by simp
 rw [e2] at d2
 unfold WL
 rw [K7,Option.bind_some,K9 ps (by omega) hn,Option.bind_some,d1,Option.bind_some,K7,Option.bind_some,jo,Option.bind_some,d2]
 rfl
theorem kx (c : GCipher) (h : YJ c = true) (key : Blk) (d : List UInt8) (hl : d.length ≤ 1000000) : Ua c key d = some (tagC c key d):=by
 unfold Ua
 rw [Ah,Option.bind_some,YX (by simp; omega),Option.bind_some,A9 c h _ (by simp; omega),Option.bind_some,Ah,Option.bind_some,Ja,Option.bind_some,YX (by simp),Option.bind_some,A9 c h _ (by simp)]
 rfl

def V8 (v : GVault) (n : Int) : Int:=match v.Records.findIdx? (fun r=>r.Number == n) with | some i=>(i : Int) | none=>-1
theorem Zeg (v : GVault) (n : Int) (h : v.Records.length < 9223372036854775807) : Vj v n = some (V8 v n):=by
 unfold Vj ZU
 rw [AZ v.Records _ (fun r=>r.Number == n) _ (fun s=>by unfold Z2; rfl) h (fun x _=>rfl)]
 rfl
theorem zZ (v : GVault) (n : Int) (h : v.Records.length < 9223372036854775807) : VF v n = some (V8 v n):=by
 unfold VF
 have:=AZ v.Records (fun r=>some (r.Number == n)) (fun r=>r.Number == n) (TM v n) (fun s=>by
  unfold TM
  simp only [Option.bind_some]) h (fun x _=>rfl)
 exact this
theorem kQ {v : GVault} {n : Int} (h : ¬ V8 v n < 0) : ∃ i : Nat,V8 v n = i ∧ ∃ hi : i < v.Records.length,v.Records[i].Number = n:=by
 unfold V8 at h ⊢
 cases hf : v.Records.findIdx? (fun r=>r.Number == n) with
 | none=>rw [hf] at h; simp at h
 | some i =>
  obtain ⟨hi,hq,_⟩:=List.findIdx?_eq_some_iff_getElem.1 hf
  exact ⟨i,rfl,hi,by simpa using hq⟩
def Zcw (v : GVault) (n : Int) : Int × Int:=if Xg v then (if V8 v n < 0 then (0,4) else (V8 v n,0)) else (0,1)
theorem ym (v : GVault) (hb : Wt.ln v) (n : Int) : Vl v n = some (Zcw v n):=by
 unfold Vl Zcw
 rw [zx v hb,Option.bind_some]
 cases hv : Xg v with
 | false=>rfl
 | true =>
  have hs:=Qv hv
  simp only [Bool.not_true,Bool.false_eq_true,if_false,if_true]
  rw [Zeg v n (by omega),Option.bind_some]
  by_cases h : V8 v n < 0 <;> simp [h]
theorem KM {v : GVault} (h : Xg v = true) {r : GRecord} (hr : r ∈ v.Records) : 0 ≤ r.Version ∧ r.Version ≤ (v.Keys.length : Int) - 1 ∧ r.Label.length ≤ 32 ∧ r.Body.length ≤ 200:=by
 unfold Xg at h
 simp only [Bool.and_eq_true,Bool.not_eq_true',List.any_eq_false,List.mem_range'_1] at h
 obtain ⟨i,hi,rfl⟩:=List.mem_iff_getElem.1 hr
 have:=h.1.2 i (by omega)
 unfold BM zL at this
 rw [List.getElem?_eq_getElem hi] at this
 simp only [Bool.or_eq_true,Bool.not_eq_true',decide_eq_true_eq,decide_eq_false_iff_not,not_or,Classical.not_not] at this
 omega

def Jk (v : GVault) (n : Int) : Blk:=v.Keys.getD n.toNat default
theorem AW {v : GVault} {n : Int} (h0 : 0 ≤ n) (h1 : n ≤ (v.Keys.length : Int) - 1) : idx v.Keys n = some (Jk v n):=by
 have e : n = ((n.toNat : Nat) : Int):=by omega
 have hl : n.toNat < v.Keys.length:=by omega
 rw [e,Ym]
 unfold Jk
 rw [Int.toNat_natCast,List.getD_eq_getElem?_getD,List.getElem?_eq_getElem hl]; rfl
def JB (r : GRecord) : List UInt8:=((((beL r.Number 4 ++ [Zp r.Version]) ++ r.Nonce.toList) ++ [Zp (r.Label.length : Int)]) ++ r.Label) ++ r.Body
def Kr (v : GVault) (r : GRecord) : Dig:=tagC (YM 4) (T6 (Jk v r.Version) 129) (JB r)
theorem Zal (v : Blk) : slc v.toList (0 : Int) (16 : Int) = some v.toList:=by
 have h1 : slc v.toList ((0 : Nat) : Int) ((16 : Nat) : Int) = _:=Hs (Nat.zero_le _) (by simp)
 have h2 : slc v.toList (0 : Int) (16 : Int) = _:=h1
 rw [h2,List.drop_zero,List.take_of_length_le (by simp)]
theorem Zam (v : GVault) (r : GRecord) (h : 0 ≤ r.Version ∧ r.Version ≤ (v.Keys.length : Int) - 1) (hl : r.Label.length ≤ 1000) (hb : r.Body.length ≤ 1000) : YW ⟨Yz (YM 4)⟩ v r = some (Kr v r):=by
 have hbe : YU r.Number 4 = some (beL r.Number 4):=JK _ 4 (by omega)
 have ht:=v_tag (YM 4) HZ (T6 (Jk v r.Version) 129) [beL r.Number 4,[Zp r.Version],r.Nonce.toList,[Zp (r.Label.length : Int)],r.Label,r.Body] (by simp [To]; omega) (by simp)
 have e : ([beL r.Number 4,[Zp r.Version],r.Nonce.toList,[Zp (r.Label.length : Int)],r.Label,r.Body] : List (List UInt8)).flatten = JB r:=by simp [JB]
 rw [e] at ht
 unfold YW
 rw [AW h.1 h.2,Option.bind_some,K7,Option.bind_some,Zbd,Option.bind_some,hbe,Option.bind_some,Zal,Option.bind_some,ht]
 rfl
theorem kS (v : GVault) (r : GRecord) (h : 0 ≤ r.Version ∧ r.Version ≤ (v.Keys.length : Int) - 1) (hl : r.Label.length ≤ 1000) (hb : r.Body.length ≤ 1000) : V9 v r = some (Kr v r):=by
 have hd : Wq [r.Nonce] = some r.Nonce.toList:=by
  have:=je [r.Nonce] (by simp)
  simpa [Jo] using this
 have ht:=kx (YM 4) HZ (T6 (Jk v r.Version) 129) (JB r) (by simp [JB,To]; omega)
 unfold V9
 rw [yD,Option.bind_some,YX (by simp [To]),Option.bind_some,Option.bind_some,hd,Option.bind_some,YX (by simp [To]),Option.bind_some,YX (by simp [To]),Option.bind_some,YX (by simp [To]; omega),Option.bind_some,YX (by simp [To]; omega),Option.bind_some,KF,Option.bind_some,AW h.1 h.2,Option.bind_some,jN,Option.bind_some]
 have ht' : Ua (YM 4) (T6 (Jk v r.Version) 129) (((((beL r.Number 4 ++ [Zp r.Version]) ++ r.Nonce.toList) ++ [Zp (r.Label.length : Int)]) ++ r.Label) ++ r.Body) = some (Kr v r):=ht
 rw [ht']; rfl
def Xa (v : GVault) (n : Int) : GRecord:=v.Records.getD (V8 v n).toNat ⟨0,0,default,[],[],default⟩
theorem Zbm {v : GVault} {n : Int} (h : ¬ V8 v n < 0) : idx v.Records (V8 v n) = some (Xa v n) ∧ Xa v n ∈ v.Records:=by
 obtain ⟨i,e,hi,_⟩:=kQ h
 unfold Xa
 rw [e,Ym,Int.toNat_natCast,List.getD_eq_getElem?_getD,List.getElem?_eq_getElem hi]
 exact ⟨rfl,List.getElem_mem hi⟩
def jJ (c : GCipher) (key nonce : Blk) (j : Nat) : List UInt8:=(tagC c key (nonce.toList ++ [UInt8.ofNat (j / 256),UInt8.ofNat j])).toList
def zD (c : GCipher) (key nonce : Blk) (k : Nat) : List UInt8:=((List.range k).map (jJ c key nonce)).flatten
theorem y0 (c : GCipher) (key nonce : Blk) (k : Nat) : zD c key nonce (k + 1) = zD c key nonce k ++ jJ c key nonce k:=by
 unfold zD
 rw [List.range_succ,List.map_append,List.flatten_append]; simp
theorem JI (c : GCipher) (key nonce : Blk) : ∀ k,(zD c key nonce k).length = 32 * k
 | 0=>rfl
 | k + 1=>by rw [y0,List.length_append,JI c key nonce k]; simp [jJ]; omega
def QD (c : GCipher) (key nonce : Blk) (n : Nat) : List UInt8:=(zD c key nonce ((n + 31) / 32)).take n
theorem Qu (c : GCipher) (key nonce : Blk) (n : Nat) : (QD c key nonce n).length = n:=by
 unfold QD
 rw [List.length_take,JI]; omega
theorem Ao (c : GCipher) (key nonce : Blk) (n : Nat) (hn : n ≤ 100000) (L : Int × List UInt8 → Option (Fl (Int × List UInt8) (List UInt8)))
  (hL : ∀ (j : Nat) (out : List UInt8),j ≤ 100000 → out.length ≤ 1000000 → L ((j : Int),out) = if (decide ((out.length : Int) < (n : Int))) = true then some (Fl.nx (((j + 1 : Nat) : Int),out ++ jJ c key nonce j)) else some (Fl.ex out)) :
  ((ZB L (0,[]) : Option (List UInt8)).bind fun j=>slc j (0 : Int) (n : Int)) = some (QD c key nonce n):=by
 have:=Z4 (f:=L) (fun j : Nat=>((j : Int),zD c key nonce j)) 0 ((n + 31) / 32) (Nat.zero_le _) (t:=zD c key nonce ((n + 31) / 32)) (fun j _ hj=>by
  have hlen:=JI c key nonce j
  have e : decide (((zD c key nonce j).length : Int) < (n : Int)) = true:=by rw [hlen]; simp only [decide_eq_true_eq]; omega
  rw [hL j _ (by omega) (by omega),e,if_pos rfl,y0]) (by
  have hlen:=JI c key nonce ((n + 31) / 32)
  have e : decide (((zD c key nonce ((n + 31) / 32)).length : Int) < (n : Int)) = false:=by rw [hlen]; simp only [decide_eq_false_iff_not]; omega
  rw [hL _ _ (by omega) (by omega),e]; rfl)
 have h2 : ZB L (0,[]) = _:=this
 rw [h2,Option.bind_some]
 have h3 : slc (zD c key nonce ((n + 31) / 32)) ((0 : Nat) : Int) (n : Int) = _:=Hs (Nat.zero_le _) (by rw [JI]; omega)
 have h4 : slc (zD c key nonce ((n + 31) / 32)) (0 : Int) (n : Int) = _:=h3
 rw [h4,List.drop_zero]; rfl
theorem Zc8 (c : GCipher) (h : YJ c = true) (key nonce : Blk) (n : Nat) (hn : n ≤ 100000) : Wo ⟨Yz c⟩ key nonce (n : Int) = some (QD c key nonce n):=by
 have h1:=Ao c key nonce n hn (Xk ⟨Yz c⟩ key nonce (n : Int)) (fun j out hj ho=>by
  have e1 : Zp (VA (j : Int) 8) = UInt8.ofNat (j / 256):=by
   have:=kX j 8 (by omega)
   rw [Nat.shiftRight_eq_div_pow] at this
   have h2 : VA (j : Int) 8 = ((j / 2 ^ 8 : Nat) : Int):=this
   rw [h2,XY]
  have ht:=v_tag c h key [nonce.toList,[UInt8.ofNat (j / 256),UInt8.ofNat j]] (by simp) (by simp)
  have ef : ([nonce.toList,[UInt8.ofNat (j / 256),UInt8.ofNat j]] : List (List UInt8)).flatten = nonce.toList ++ [UInt8.ofNat (j / 256),UInt8.ofNat j]:=by simp
  rw [ef] at ht
  unfold Xk
  simp only [Zal,Option.bind_some,e1,XY,ht,jo,Xe (show j < 9223372036854775807 by omega)]
  split
  ·rw [YX (by simp; omega)]; rfl
  ·rfl)
 unfold Wo
 rw [show (ZB (Xk ⟨Yz c⟩ key nonce (n : Int)) (0,([] : List UInt8)) : Option (List UInt8)).bind (fun j7=>(slc j7 (0 : Int) (n : Int)).bind fun l46=>(ZZ l46).bind fun r48=>some r48) = ((ZB (Xk ⟨Yz c⟩ key nonce (n : Int)) (0,([] : List UInt8)) : Option (List UInt8)).bind (fun j7=>slc j7 (0 : Int) (n : Int))).bind (fun l46=>(ZZ l46).bind fun r48=>some r48) from (Option.bind_assoc _ _ _).symm,h1,Option.bind_some,Q0 _ (by rw [Qu]; omega)]
 rfl
theorem kW (c : GCipher) (h : YJ c = true) (key nonce : Blk) (n : Nat) (hn : n ≤ 100000) : UA c key nonce (n : Int) = some (QD c key nonce n):=by
 have hd : Wq [nonce] = some nonce.toList:=by
  have:=je [nonce] (by simp)
  simpa [Jo] using this
 have h1:=Ao c key nonce n hn (Wz c key nonce (n : Int)) (fun j out hj ho=>by
  have e1 : Zp (wr (Int.tdiv (j : Int) 256)) = UInt8.ofNat (j / 256):=by
   have : Int.tdiv (j : Int) 256 = ((j / 256 : Nat) : Int):=by rw [Int.tdiv_eq_ediv_of_nonneg (by omega)]; omega
   rw [this,YZ (by omega),XY]
  have e2 : Zp (Int.tmod (j : Int) 256) = UInt8.ofNat j:=by
   have : Int.tmod (j : Int) 256 = ((j % 256 : Nat) : Int):=by rw [Int.tmod_eq_emod_of_nonneg (by omega)]; omega
   rw [this,XY,yU]
  unfold Wz
  split
  ·rw [hd,Option.bind_some,e1,e2,YX (by simp),Option.bind_some,kx c h key _ (by simp),Option.bind_some,Ja,Option.bind_some,YX (by simp; omega),Option.bind_some,Xe (by omega)]
   rfl
  ·rfl)
 unfold UA
 rw [show (ZB (Wz c key nonce (n : Int)) (0,([] : List UInt8)) : Option (List UInt8)).bind (fun j9=>(slc j9 (0 : Int) (n : Int)).bind fun l44=>(Xs l44).bind fun r46=>some r46) = ((ZB (Wz c key nonce (n : Int)) (0,([] : List UInt8)) : Option (List UInt8)).bind (fun j7=>slc j7 (0 : Int) (n : Int))).bind (fun l46=>(Xs l46).bind fun r48=>some r48) from (Option.bind_assoc _ _ _).symm,h1,Option.bind_some,Ha _ (by rw [Qu]; omega)]
 rfl

def Tl (a b : List UInt8) : List UInt8:=List.zipWith (fun x y=>x ^^^ y) a b
theorem J5 {a b : List UInt8} (h : b.length = a.length) : (Tl a b).length = a.length:=by simp [Tl,h]
theorem kI {a b : List UInt8} {i : Nat} (ha : i < a.length) (hb : i < b.length) (h : i < (Tl a b).length) : (Tl a b)[i] = a[i] ^^^ b[i]:=by simp [Tl]
theorem zn (v : GVault) (r : GRecord) (d : List UInt8) (h : 0 ≤ r.Version ∧ r.Version ≤ (v.Keys.length : Int) - 1) (hd : d.length ≤ 100000) :
  YP ⟨Yz (YM 4)⟩ v r d = some (Tl d (QD (YM 4) (Jk v r.Version) r.Nonce d.length)):=by
 unfold YP
 rw [Q0 d (by omega),Option.bind_some,AW h.1 h.2,Option.bind_some,Zc8 (YM 4) HZ _ _ _ hd,Option.bind_some,Option.bind_some]
 generalize hs : QD (YM 4) (Jk v r.Version) r.Nonce d.length = s
 have hsl : s.length = d.length:=by rw [← hs,Qu]
 have hxl:=J5 hsl
 have:=Z4 (f:=Y0 (s,(s.length : Int),0)) (fun i : Nat=>((i : Int),(Tl d s).take i ++ d.drop i)) 0 d.length (Nat.zero_le _) (t:=Tl d s) (fun i _ hi=>by
  have h1 : i < s.length:=by omega
  have h2 : i < (Tl d s).length:=by omega
  have h3 : ((Tl d s).take i ++ d.drop i)[i]? = some d[i]:=by
   rw [List.getElem?_append_right (by simp; omega),List.length_take,List.getElem?_drop]
   have e : i + (i - min i (Tl d s).length) = i:=by omega
   rw [e,List.getElem?_eq_getElem hi]
  have h4 : ((Tl d s).take i ++ d.drop i).set i (d[i] ^^^ s[i]) = (Tl d s).take (i + 1) ++ d.drop (i + 1):=by
   rw [List.set_append_right _ _ (by simp; omega),List.drop_eq_getElem_cons hi]
   have e : i - ((Tl d s).take i).length = 0:=by simp; omega
   rw [e,List.set_cons_zero,List.take_succ_eq_append_getElem h2,kI hi h1 h2,List.append_assoc]; rfl
  unfold Y0
  simp only [Int.ofNat_lt,h1,decide_true,if_true,Ym,List.getElem?_eq_getElem h1,h3,Option.bind_some,Int.toNat_natCast,h4,Xe (show i < 9223372036854775807 by omega)]) (by
  have e : (Tl d s).take d.length ++ d.drop d.length = Tl d s:=by rw [List.take_of_length_le (by omega),List.drop_length,List.append_nil]
  unfold Y0
  simp only [hsl,Int.ofNat_lt,Nat.lt_irrefl,decide_false,Bool.false_eq_true,if_false,e])
 have h2 : ZB (Y0 (s,(s.length : Int),0)) (0,d) = _:=this
 rw [h2]; rfl
theorem Ae (v : GVault) (r : GRecord) (d : List UInt8) (h : 0 ≤ r.Version ∧ r.Version ≤ (v.Keys.length : Int) - 1) (hd : d.length ≤ 100000) :
  X8 v r d = some (Tl d (QD (YM 4) (Jk v r.Version) r.Nonce d.length)):=by
 unfold X8
 rw [KF,Option.bind_some,AW h.1 h.2,Option.bind_some,kW (YM 4) HZ _ _ _ hd,Option.bind_some,Option.bind_some]
 generalize hs : QD (YM 4) (Jk v r.Version) r.Nonce d.length = s
 have hsl : s.length = d.length:=by rw [← hs,Qu]
 have hxl:=J5 hsl
 have:=Z4 (f:=WC d (s,[])) (fun i : Nat=>((Tl d s).take i,(i : Int))) 0 d.length (Nat.zero_le _) (t:=Tl d s) (fun i _ hi=>by
  have h1 : i < s.length:=by omega
  have h2 : i < (Tl d s).length:=by omega
  unfold WC
  simp only [Int.ofNat_lt,hi,decide_true,if_true,Ym,List.getElem?_eq_getElem h1,List.getElem?_eq_getElem hi,Option.bind_some,Xe (show i < 9223372036854775807 by omega)]
  rw [YX (by simp; omega),List.take_succ_eq_append_getElem h2,kI hi h1 h2]; rfl) (by
  have e : (Tl d s).take d.length = Tl d s:=List.take_of_length_le (by omega)
  unfold WC
  simp only [Int.ofNat_lt,Nat.lt_irrefl,decide_false,Bool.false_eq_true,if_false,e])
 have h2 : ZB (WC d (s,[])) ([],0) = _:=this
 rw [h2]; rfl

def QQ (v : GVault) (r : GRecord) : List UInt8:=Tl r.Body (QD (YM 4) (Jk v r.Version) r.Nonce r.Body.length)
def zc (v : GVault) (n : Int) : List UInt8 × Int:=if Xg v then (if V8 v n < 0 then ([],4) else if Kr v (Xa v n) = (Xa v n).Tag then (QQ v (Xa v n),0) else ([],5)) else ([],1)
theorem Bj (v : GVault) (hb : Wt.ln v) (n : Int) : V6 v n = some (zc v n):=by
 unfold V6 zc
 rw [Zd2 v hb,Option.bind_some]
 cases hv : Xg v with
 | false=>rfl
 | true =>
  have hs:=Qv hv
  simp only [Bool.not_true,Bool.false_eq_true,if_false,if_true]
  rw [zZ v n (by omega),Option.bind_some]
  by_cases h : V8 v n < 0
  ·simp [h]
  ·obtain ⟨h1,h2⟩:=Zbm h
   obtain ⟨a1,a2,a3,a4⟩:=KM hv h2
   simp only [h,decide_false,Bool.false_eq_true,if_false,h1,Option.bind_some,kS v _ ⟨a1,a2⟩ (show (Xa v n).Label.length ≤ 1000 by omega) (show (Xa v n).Body.length ≤ 1000 by omega)]
   by_cases ht : Kr v (Xa v n) = (Xa v n).Tag
   ·simp only [ht,decide_true,Bool.not_true,Bool.false_eq_true,if_false,if_true]
    rw [Ae v _ _ ⟨a1,a2⟩ (by omega)]; rfl
   ·simp [ht]
theorem jK (l : List Blk) (h : l.length ≤ 1000000) : Yq l = some l:=by
 unfold Yq
 rw [YX (by simp; omega)]; rfl
theorem jj (l : List GEvent) (h : l.length ≤ 1000000) : Ys l = some l:=by
 unfold Ys
 rw [YX (by simp; omega)]; rfl
theorem kK (l : List GRecord) : l.map (fun r=>(⟨r.Number,r.Version,r.Nonce,r.Label,r.Body,r.Tag⟩ : GRecord)) = l:=by
 induction l with
 | nil=>rfl
 | cons r l ih=>rw [List.map_cons,ih]
def jm (v : GVault) : Prop:=v.Keys.length ≤ 1000 ∧ v.Events.length ≤ 1000 ∧ v.Records.length ≤ 1000 ∧ ∀ r ∈ v.Records,r.Label.length ≤ 1000000 ∧ r.Body.length ≤ 1000000
theorem Zdo (v : GVault) (h : jm v) : Vm v = some v:=by
 obtain ⟨h1,h2,h3,h4⟩:=h
 have hl:=z7 (f:=WW v) v.Records (fun r=>(⟨r.Number,r.Version,r.Nonce,r.Label,r.Body,r.Tag⟩ : GRecord)) (t:=v.Records) (by omega) (fun i hi=>by
  obtain ⟨a1,a2⟩:=h4 _ (List.getElem_mem hi)
  unfold WW
  simp only [Int.ofNat_lt,hi,decide_true,if_true,Ym,List.getElem?_eq_getElem hi,Option.bind_some,Q0 _ (show v.Records[i].Label.length ≤ 140737488355328 by omega),Q0 _ (show v.Records[i].Body.length ≤ 140737488355328 by omega)]
  rw [YX (by simp; omega)]; rfl) (by
  unfold WW
  rw [kK]; simp)
 unfold Vm
 rw [jK _ (by omega),Option.bind_some,jj _ (by omega),Option.bind_some,hl]; rfl
theorem Zc0 (v : GVault) (h : jm v) : T7 v = some v:=by
 obtain ⟨h1,h2,h3,h4⟩:=h
 have hl:=z7 (f:=TF v) v.Records (fun r=>(⟨r.Number,r.Version,r.Nonce,r.Label,r.Body,r.Tag⟩ : GRecord)) (t:=v.Records) (by omega) (fun i hi=>by
  obtain ⟨a1,a2⟩:=h4 _ (List.getElem_mem hi)
  unfold TF
  simp only [Int.ofNat_lt,hi,decide_true,if_true,Ym,List.getElem?_eq_getElem hi,Option.bind_some,Ha _ (show v.Records[i].Label.length ≤ 140737488355328 by omega),Ha _ (show v.Records[i].Body.length ≤ 140737488355328 by omega)]
  rw [YX (by simp; omega)]; rfl) (by
  unfold TF
  rw [kK]; simp)
 unfold T7
 rw [YX (by simp; omega),Option.bind_some,YX (by simp; omega),Option.bind_some,hl]; rfl
theorem jt {v : GVault} (h : Xg v = true) (hb : ∀ r ∈ v.Records,r.Label.length ≤ 1000000 ∧ r.Body.length ≤ 1000000) : jm v:=by
 obtain ⟨h1,h2,h3,h4,h5,h6⟩:=Qv h
 exact ⟨by omega,by omega,by omega,hb⟩
def Jf (v : GVault) (e : GEvent) : GVault:=⟨v.Keys,v.Next,v.Records,v.Events ++ [e],zl (YM 4) (v.Events ++ [e])⟩
theorem Zdl (v : GVault) (e : GEvent) (h : v.Events.length ≤ 1000) : XO ⟨Yz (YM 4)⟩ v e = some (Jf v e):=by
 unfold XO
 rw [YX (by simp; omega),Option.bind_some,yo _ HZ _ (by simp; omega)]; rfl
theorem Za7 (v : GVault) (k n : Int) (t : Dig) (h : v.Events.length ≤ 1000) : Uy v k n t = some (Jf v ⟨k,n,t⟩):=by
 unfold Uy
 rw [YX (by simp; omega),Option.bind_some,Zaz _ (by simp; omega)]; rfl
def JL : GVault:=⟨[],0,[],[],Vector.replicate 32 0⟩
def ku (v : GVault) (nonce : Blk) : Bool:=v.Records.any fun r=>(r.Version == (v.Keys.length : Int) - 1) && decide (r.Nonce = nonce)
theorem A0 {v : GVault} (h : v.Keys.length ≤ 1000) : wr ((v.Keys.length : Int) - 1) = (v.Keys.length : Int) - 1:=YZ (by omega)
theorem qd (v : GVault) (nonce : Blk) (hk : v.Keys.length ≤ 1000) (hr : v.Records.length ≤ 1000) : X3 v nonce = some (ku v nonce):=by
 have h1 : ∀ z,YB z v nonce = some ((z.Version == (v.Keys.length : Int) - 1) && decide (z.Nonce = nonce)):=fun z=>by
  have hlen : Z5 v.Keys = some (v.Keys.length : Int):=rfl
  unfold YB
  rw [hlen,Option.bind_some,A0 hk]
  cases z.Version == (v.Keys.length : Int) - 1 <;> rfl
 unfold X3 Yk ZU
 rw [AZ v.Records (fun z=>YB z v nonce) (fun z=>(z.Version == (v.Keys.length : Int) - 1) && decide (z.Nonce = nonce)) (Z2 v.Records (fun z0=>YB z0 v nonce)) (fun s=>by
  unfold Z2
  rfl) (by omega) (fun x _=>h1 x)]
 simp only [Option.bind_some,Zcd]
 rfl
theorem Zbf (v : GVault) (nonce : Blk) (hk : v.Keys.length ≤ 1000) (hr : v.Records.length ≤ 1000) : Tx v nonce = some (ku v nonce):=by
 unfold Tx
 rw [yJ (f:=U9 v nonce) v.Records (fun z=>(z.Version == (v.Keys.length : Int) - 1) && decide (z.Nonce = nonce)) (t:=true) (by omega) (fun i hi=>by
  unfold U9
  simp only [Int.ofNat_lt,hi,decide_true,if_true,Ym,List.getElem?_eq_getElem hi,Option.bind_some,A0 hk]
  cases v.Records[i].Version == (v.Keys.length : Int) - 1 with
  | true =>
   simp only [if_true,Option.bind_some,Bool.true_and]
   cases decide (v.Records[i].Nonce = nonce) <;> rfl
  | false=>rfl) (by unfold U9; simp)]
 rw [Option.bind_some]
 show Fl.el _ _ _ = some (List.any v.Records fun z=>(z.Version == (v.Keys.length : Int) - 1) && decide (z.Nonce = nonce))
 cases List.any v.Records fun z=>(z.Version == (v.Keys.length : Int) - 1) && decide (z.Nonce = nonce) <;> rfl
def Q5 (v : GVault) (ver : Int) (nonce : Blk) (data : List UInt8) : List UInt8:=Tl data (QD (YM 4) (Jk v ver) nonce data.length)
theorem Hz (v : GVault) (ver : Int) (nonce : Blk) (data : List UInt8) : (Q5 v ver nonce data).length = data.length:=J5 (Qu _ _ _ _)
def jr (v : GVault) (n ver : Int) (nonce : Blk) (label data : List UInt8) : GRecord:=⟨n,ver,nonce,label,Q5 v ver nonce data,Kr v ⟨n,ver,nonce,label,Q5 v ver nonce data,Vector.replicate 32 0⟩⟩
theorem kg {v : GVault} (hv : Xg v = true) : jm v:=jt hv fun r hr=>by
 obtain ⟨_,_,h1,h2⟩:=KM hv hr
 omega
theorem Zdh (v : GVault) (n ver : Int) (nonce : Blk) (label data : List UInt8) (t : Dig) (b : List UInt8) (h : 0 ≤ ver ∧ ver ≤ (v.Keys.length : Int) - 1) (hl : label.length ≤ 32) (hd : data.length ≤ 200) :
  Wp ⟨Yz (YM 4)⟩ v ⟨n,ver,nonce,label,b,t⟩ data = some (jr v n ver nonce label data):=by
 unfold Wp
 rw [zn v ⟨n,ver,nonce,label,b,t⟩ data h (by omega),Option.bind_some]
 have hb:=Hz v ver nonce data
 have ht : YW ⟨Yz (YM 4)⟩ v ⟨n,ver,nonce,label,Q5 v ver nonce data,t⟩ = some (Kr v ⟨n,ver,nonce,label,Q5 v ver nonce data,t⟩):=Zam v _ h (show label.length ≤ 1000 by omega) (show (Q5 v ver nonce data).length ≤ 1000 by omega)
 show (YW ⟨Yz (YM 4)⟩ v ⟨n,ver,nonce,label,Q5 v ver nonce data,t⟩).bind _ = _
 rw [ht]; rfl
theorem Zeh {α : Type} [Dat α] [Wt α] (l : List α) (x : α) : Wt.wt (l ++ [x]) = Wt.wt l + (Wt.wt x + 1):=by
 rw [QZ,QZ,List.map_append,List.sum_append,List.length_append,List.map_cons,List.map_nil,List.sum_cons,List.sum_nil,List.length_singleton]; omega
theorem Zds (r : GRecord) : Wt.wt r = r.Label.length + r.Body.length:=by
 have e : Wt.wt r = Wt.wt r.Label + Wt.wt r.Body:=rfl
 rw [e,Bz,Bz]
theorem Zc6 (v : GVault) (e : GEvent) : Wt.wt (Jf v e) = Wt.wt v + 1:=by
 unfold Jf
 rw [J3,J3]
 have e0 : Wt.wt e = 0:=rfl
 have:=Zeh v.Events e
 simp only [this,e0]; omega
theorem Zcj {v : GVault} (e : GEvent) (h : Wt.ln v) (he : v.Events.length ≤ 1000) : Wt.ln (Jf v e):=⟨h.1,h.2.1,⟨by simp [Jf]; omega,fun _ _=>trivial⟩⟩
theorem Zck : Wt.wt JL = 0:=rfl
theorem JD : Wt.ln JL:=⟨⟨by simp [JL],fun _ _=>trivial⟩,⟨by simp [JL],fun x hx=>by simp [JL] at hx⟩,⟨by simp [JL],fun _ _=>trivial⟩⟩
def KI (v : GVault) (i : Nat) (r : GRecord) : GVault:=⟨v.Keys,v.Next,v.Records.set i r,v.Events,v.Head⟩
def Un (v : GVault) (n : Int) (nonce : Blk) : GRecord:=jr v n ((v.Keys.length : Int) - 1) nonce (Xa v n).Label (QQ v (Xa v n))
def Jz (v : GVault) (n : Int) (nonce : Blk) : GVault × Int :=
 if Xg v then (if V8 v n < 0 then (JL,4) else if Kr v (Xa v n) = (Xa v n).Tag then (if ku v nonce then (JL,5) else if v.Events.length == 60 then (JL,3) else
  (Jf (KI v (V8 v n).toNat (Un v n nonce)) ⟨4,n,(Un v n nonce).Tag⟩,0)) else (JL,5)) else (JL,1)
theorem Zac (v : GVault) : ((v.Events.length : Int) == 60) = (v.Events.length == 60):=by rw [Bool.eq_iff_iff,beq_iff_eq,beq_iff_eq]; omega
theorem B7 (v : GVault) (r : GRecord) : (QQ v r).length = r.Body.length:=J5 (Qu _ _ _ _)
theorem z6 {v : GVault} {n : Int} (h : ¬ V8 v n < 0) : ∃ i : Nat,V8 v n = i ∧ i < v.Records.length ∧ v.Records[i]? = some (Xa v n) ∧ (Xa v n).Number = n:=by
 obtain ⟨i,h1,h2,h3⟩:=kQ h
 refine ⟨i,h1,h2,?_,?_⟩
 ·unfold Xa
  rw [h1,Int.toNat_natCast,List.getD_eq_getElem?_getD,List.getElem?_eq_getElem h2]; rfl
 ·unfold Xa
  rw [h1,Int.toNat_natCast,List.getD_eq_getElem?_getD,List.getElem?_eq_getElem h2]; exact h3
theorem AL (v : GVault) (hb : Wt.ln v) (n : Int) (nonce : Blk) : VJ v n nonce = some (Jz v n nonce):=by
 unfold VJ Jz
 rw [ym v hb,Option.bind_some]
 unfold Zcw
 cases hv : Xg v with
 | false=>rfl
 | true =>
  obtain ⟨h1,h2,h3,h4,h5,h6⟩:=Qv hv
  simp only [if_true]
  by_cases hp : V8 v n < 0
  ·simp only [if_pos hp]; rfl
  ·simp only [if_neg hp]
   obtain ⟨i,p1,p2,p3,p4⟩:=z6 hp
   have hmem : Xa v n ∈ v.Records:=List.mem_of_getElem? p3
   obtain ⟨q1,q2,q3,q4⟩:=KM hv hmem
   have hlen : Z5 v.Keys = some (v.Keys.length : Int):=rfl
   simp only [bne_self_eq_false,Bool.false_eq_true,if_false]
   rw [yw,Option.bind_some,Zdo v (kg hv),Option.bind_some,p1,Ym,p3,Option.bind_some,Zam v _ ⟨q1,q2⟩ (by omega) (by omega),Option.bind_some,qd v nonce (by omega) (by omega),Option.bind_some]
   by_cases ht : Kr v (Xa v n) = (Xa v n).Tag
   ·simp only [ht,decide_true,Bool.not_true,Bool.false_eq_true,if_false,if_true,Option.bind_some]
    cases ku v nonce with
    | true=>rfl
    | false =>
     simp only [Bool.false_eq_true,if_false,Zac]
     cases (v.Events.length == 60) with
     | true=>rfl
     | false =>
      simp only [Bool.false_eq_true,if_false]
      have hs : YP ⟨Yz (YM 4)⟩ v (Xa v n) (Xa v n).Body = some (QQ v (Xa v n)):=zn v _ _ ⟨q1,q2⟩ (by omega)
      have hpl:=B7 v (Xa v n)
      have hse:=Zdh v (Xa v n).Number ((v.Keys.length : Int) - 1) nonce (Xa v n).Label (QQ v (Xa v n)) (Xa v n).Tag (Xa v n).Body ⟨by omega,by omega⟩ q3 (by omega)
      rw [hs,Option.bind_some,hlen,Option.bind_some,A0 (by omega),Option.bind_some]
      simp only []
      rw [hse]
      simp only [Option.bind_some,Int.toNat_natCast,p4]
      have hset : (v.Records.set i (Un v n nonce))[i]? = some (Un v n nonce):=by rw [List.getElem?_set_self p2]
      have hn : ∀ e,XO ⟨Yz (YM 4)⟩ (KI v i (Un v n nonce)) e = some (Jf (KI v i (Un v n nonce)) e):=fun e=>Zdl _ e (show v.Events.length ≤ 1000 by omega)
      have:=hn ⟨4,n,(Un v n nonce).Tag⟩
      unfold KI at this
      unfold Un at hset this
      rw [Ym,hset,Option.bind_some,this]
      rfl
   ·simp only [ht,decide_false,Bool.not_false,if_true,if_false,Option.bind_some]; rfl
theorem Av (v : GVault) (hb : Wt.ln v) (n : Int) (nonce : Blk) : Ta v n nonce = some (Jz v n nonce):=by
 unfold Ta Jz
 rw [Bj v hb,Option.bind_some]
 unfold zc
 cases hv : Xg v with
 | false=>rfl
 | true =>
  obtain ⟨h1,h2,h3,h4,h5,h6⟩:=Qv hv
  simp only [if_true]
  by_cases hp : V8 v n < 0
  ·simp only [if_pos hp]; rfl
  ·simp only [if_neg hp]
   obtain ⟨i,p1,p2,p3,p4⟩:=z6 hp
   have hmem : Xa v n ∈ v.Records:=List.mem_of_getElem? p3
   obtain ⟨q1,q2,q3,q4⟩:=KM hv hmem
   by_cases ht : Kr v (Xa v n) = (Xa v n).Tag
   ·simp only [if_pos ht,bne_self_eq_false,Bool.false_eq_true,if_false]
    rw [Zbf v nonce (by omega) (by omega),Option.bind_some]
    cases ku v nonce with
    | true=>rfl
    | false =>
     simp only [Bool.false_eq_true,if_false,Zac]
     cases (v.Events.length == 60) with
     | true=>rfl
     | false =>
      simp only [Bool.false_eq_true,if_false]
      have hpl:=B7 v (Xa v n)
      have hbl:=Hz v ((v.Keys.length : Int) - 1) nonce (QQ v (Xa v n))
      have hm : ∀ t,X8 v ⟨n,(v.Keys.length : Int) - 1,nonce,(Xa v n).Label,[],t⟩ (QQ v (Xa v n)) = some (Q5 v ((v.Keys.length : Int) - 1) nonce (QQ v (Xa v n))):=fun t=>Ae v _ _ ⟨by show (0 : Int) ≤ (v.Keys.length : Int) - 1; omega,Int.le_refl _⟩ (by omega)
      have htg : ∀ t,V9 v ⟨n,(v.Keys.length : Int) - 1,nonce,(Xa v n).Label,Q5 v ((v.Keys.length : Int) - 1) nonce (QQ v (Xa v n)),t⟩ = some (Kr v ⟨n,(v.Keys.length : Int) - 1,nonce,(Xa v n).Label,Q5 v ((v.Keys.length : Int) - 1) nonce (QQ v (Xa v n)),t⟩):=fun t=>kS v _ ⟨by show (0 : Int) ≤ (v.Keys.length : Int) - 1; omega,Int.le_refl _⟩ (show (Xa v n).Label.length ≤ 1000 by omega) (show (Q5 v ((v.Keys.length : Int) - 1) nonce (QQ v (Xa v n))).length ≤ 1000 by omega)
      rw [Zc0 v (kg hv),Option.bind_some,zZ v n (by omega),Option.bind_some,p1]
      simp only [Ym,p3,Option.bind_some,A0 (show v.Keys.length ≤ 1000 by omega),hm,htg,Int.toNat_natCast]
      have hn : ∀ k n' t,Uy (KI v i (Un v n nonce)) k n' t = some (Jf (KI v i (Un v n nonce)) ⟨k,n',t⟩):=fun k n' t=>Za7 _ k n' t (show v.Events.length ≤ 1000 by omega)
      have:=hn 4 n (Un v n nonce).Tag
      unfold KI Un jr at this
      rw [this]
      rfl
   ·simp only [if_neg ht]; rfl
theorem wt_set (l : List GRecord) (i : Nat) (r : GRecord) : Wt.wt (l.set i r) ≤ Wt.wt l + Wt.wt r:=by
 rw [QZ,QZ,List.length_set]
 have : ((l.set i r).map Wt.wt).sum ≤ (l.map Wt.wt).sum + Wt.wt r:=by
  induction l generalizing i with
  | nil=>simp
  | cons x l ih =>
   cases i with
   | zero=>simp; omega
   | succ i=>have:=ih i; simp only [List.set_cons_succ,List.map_cons,List.sum_cons]; omega
 omega
theorem Ac {v : GVault} {n : Int} (nonce : Blk) (hv : Xg v = true) (hp : ¬ V8 v n < 0) : (Un v n nonce).Label.length ≤ 32 ∧ (Un v n nonce).Body.length ≤ 200:=by
 obtain ⟨i,p1,p2,p3,p4⟩:=z6 hp
 obtain ⟨q1,q2,q3,q4⟩:=KM hv (List.mem_of_getElem? p3)
 have hbl:=Hz v ((v.Keys.length : Int) - 1) nonce (QQ v (Xa v n))
 have hpl:=B7 v (Xa v n)
 exact ⟨q3,by show (Q5 v ((v.Keys.length : Int) - 1) nonce (QQ v (Xa v n))).length ≤ 200; omega⟩
theorem Zbx (v : GVault) (n : Int) (nonce : Blk) (hw : Wt.wt v ≤ 1048576) : Wt.wt (Jz v n nonce).1 ≤ 1049000:=by
 have hz:=Zck
 unfold Jz
 cases hv : Xg v with
 | false=>simp only [Bool.false_eq_true,if_false,hz]; omega
 | true =>
  simp only [if_true]
  split
  ·simp only [hz]; omega
  ·rename_i hp
   split
   ·split
    ·simp only [hz]; omega
    ·split
     ·simp only [hz]; omega
     ·simp only [Zc6]
      unfold KI
      rw [J3] at hw ⊢
      have h1:=wt_set v.Records (V8 v n).toNat (Un v n nonce)
      have h2:=Zds (Un v n nonce)
      have h3:=Ac nonce hv hp
      simp only
      omega
   ·simp only [hz]; omega
theorem Zbz (v : GVault) (n : Int) (nonce : Blk) (hl : Wt.ln v) : Wt.ln (Jz v n nonce).1:=by
 unfold Jz
 cases hv : Xg v with
 | false=>exact JD
 | true =>
  obtain ⟨h1,h2,h3,h4,h5,h6⟩:=Qv hv
  simp only [if_true]
  split
  ·exact JD
  ·rename_i hp
   split
   ·split
    ·exact JD
    ·split
     ·exact JD
     ·refine Zcj _ ⟨hl.1,⟨by simp [KI]; omega,fun x hx=>?_⟩,hl.2.2⟩ (by show v.Events.length ≤ 1000; omega)
      simp only [KI] at hx
      rcases List.mem_or_eq_of_mem_set hx with hx | rfl
      ·exact hl.2.1.2 x hx
      ·have h3:=Ac nonce hv hp
       exact ⟨⟨by omega,fun _ _=>trivial⟩,⟨by omega,fun _ _=>trivial⟩⟩
   ·exact JD
theorem He (v : GVault) (n : Int) (nonce : Blk) (h : Dat.bd v) (_ : Dat.bd n) (_ : Dat.bd nonce) : W0 v n nonce = some true:=by
 unfold W0
 refine Zei (Za2 v (Wt.bdln v h)) (by omega) (by omega) fun r _ _ hw=>?_
 have hw : Wt.wt v ≤ 1048576:=by omega
 have hl:=Wt.wtln v hw
 have hz:=Zbx v n nonce hw
 have hln:=Zbz v n nonce hl
 have hle:=zV v
 have hle2:=zV (Jz v n nonce).1
 obtain ⟨x',m1⟩:=ko v hl 1 (by omega) (by omega)
 obtain ⟨y',m2,m3⟩:=kf (Jz v n nonce).1 hln 1 (by omega) (by omega)
 have e1 : ¬ ((1 : Int) + (TP v : Nat) < 0):=by omega
 have e2 : ¬ ((1 : Int) + (TP (Jz v n nonce).1 : Nat) < 0):=by omega
 simp [Zbh v hw,BV,Av v hl,AL v hl,yO v hl,yO _ hln,m1,m2,m3,e1,e2]
end Go.Proofs.YtpibglnacohdkaaGreat
