/- Plain laws, no program in sight. -/
import Derived.Test.YtpibglnacohdkaaGreatC3
set_option linter.unusedVariables false
set_option linter.unusedSimpArgs false
set_option maxRecDepth 20000
set_option maxHeartbeats 400000
namespace Go.Proofs.YtpibglnacohdkaaGreat
open Go
open Flat (enc)
theorem Ak {α : Type} {l : List α} {i : Nat} (h : i < l.length) : idx l (i : Int) = some l[i]:=by
 unfold idx
 rw [if_pos (by omega)]
 simp
theorem Y8 {i : Nat} (h : i < 9223372036854775807) : wr ((i : Int) + 1) = ((i + 1 : Nat) : Int):=by
 rw [YP (by omega)]; rfl

section
variable {S T : Type} {f : S → Option (Fl S T)}
theorem Zd0 (g : Nat → S) (m n : Nat) (hmn : m ≤ n) (h : ∀ i, m ≤ i → i < n → f (g i) = some (.nx (g (i + 1)))) : ZB f (g m) = ZB f (g n) := by
  induction n with
  | zero => have : m = 0 := by omega
            subst this; rfl
  | succ n ih =>
    rcases Nat.lt_or_ge m (n + 1) with h1 | h1
    · rw [ih (by omega) (fun i h2 h3 => h i h2 (by omega)), Wl (h n (by omega) (by omega))]
    · have : m = n + 1 := by omega
      subst this; rfl
theorem Z6 (g : Nat → S) (m n : Nat) (hmn : m ≤ n) {t : T} (h : ∀ i,m ≤ i → i < n → f (g i) = some (.nx (g (i + 1)))) (he : f (g n) = some (.ex t)) : ZB f (g m) = some t:=by
 rw [Zd0 g m n hmn h,X8 he]
theorem Ks (g : Nat → S) (p : Nat → Bool) (t : Nat → T) {e : T} (n : Nat) : ∀ (k m : Nat),m + k = n → (∀ i,m ≤ i → i < n → f (g i) = some (if p i then .ex (t i) else .nx (g (i + 1)))) → f (g n) = some (.ex e) →
  ZB f (g m) = some (((List.range' m k).find? p).elim e t)
 | 0,m,hk,_,he=>by
  have : m = n:=by omega
  subst this
  rw [X8 he]; rfl
 | k + 1,m,hk,h,he=>by
  have h1:=h m (Nat.le_refl _) (by omega)
  rw [List.range'_succ,List.find?_cons]
  cases hp : p m with
  | true=>rw [hp] at h1; rw [X8 h1]; rfl
  | false =>
   rw [hp] at h1
   rw [Wl h1,Ks g p t n k (m + 1) (by omega) (fun i h2 h3=>h i (by omega) h3) he]
end

theorem jF {T : Type} {f : Int → Option (Fl Int (Fl Unit T))} (p : Nat → Bool) {t : T} {n m : Nat} (hm : m ≤ n)
  (h : ∀ i,m ≤ i → i < n → f (i : Int) = some (if p i then .ex (.ex t) else .nx ((i + 1 : Nat) : Int))) (he : f (n : Int) = some (.ex (.nx ()))) :
  ZB f (m : Int) = some (if (List.range' m (n - m)).any p then .ex t else .nx ()):=by
 rw [Ks (fun i : Nat=>(i : Int)) p (fun _=>.ex t) n (n - m) m (by omega) h he]
 cases hf : (List.range' m (n - m)).find? p with
 | none =>
  have : (List.range' m (n - m)).any p = false:=by
   rw [List.any_eq_false]
   rw [List.find?_eq_none] at hf
   exact hf
  rw [this]; rfl
 | some i =>
  have : (List.range' m (n - m)).any p = true:=by
   rw [List.any_eq_true]
   exact ⟨i,List.mem_of_find?_eq_some hf,List.find?_some hf⟩
  rw [this]; rfl
theorem Zag {p : Nat → Bool} {m n : Nat} : (List.range' m (n - m)).any p = true ↔ ∃ i,m ≤ i ∧ i < n ∧ p i = true:=by
 rw [List.any_eq_true]
 simp only [List.mem_range'_1]
 constructor
 ·rintro ⟨i,⟨h1,h2⟩,h3⟩; exact ⟨i,h1,by omega,h3⟩
 ·rintro ⟨i,h1,h2,h3⟩; exact ⟨i,⟨h1,by omega⟩,h3⟩
theorem Zct {α : Type} {q : α → Bool} {l : List α} {p : Nat → Bool} (hp : ∀ i (h : i < l.length),p i = q l[i]) : (List.range' 0 (l.length - 0)).any p = l.any q:=by
 rw [Bool.eq_iff_iff,Zag,List.any_eq_true]
 constructor
 ·rintro ⟨i,_,h,h3⟩; exact ⟨l[i],List.getElem_mem h,by rw [← hp i h]; exact h3⟩
 ·rintro ⟨x,hx,h⟩
  obtain ⟨i,hi,rfl⟩:=List.mem_iff_getElem.1 hx
  exact ⟨i,Nat.zero_le _,hi,by rw [hp i hi]; exact h⟩

theorem Zal {T α : Type} {f : Int → Option (Fl Int (Fl Unit T))} (l : List α) (q : α → Bool) {t : T} (hl : l.length < 9223372036854775807)
  (h : ∀ i (hi : i < l.length),f (i : Int) = some (if q l[i] then .ex (.ex t) else .nx (wr ((i : Int) + 1)))) (he : f (l.length : Int) = some (.ex (.nx ()))) :
  ZB f 0 = some (if l.any q then .ex t else .nx ()):=by
 have:=jF (f:=f) (fun i=>if hi : i < l.length then q l[i] else false) (t:=t) (n:=l.length) (m:=0) (Nat.zero_le _) (fun i _ hi=>by
  rw [h i hi,Y8 (by omega)]; simp [hi]) he
 rw [Zct (q:=q) (fun i hi=>by simp [hi])] at this
 exact this

class Wt (α : Type) [Dat α] where
 wt : α → Nat
 ln : α → Prop
 bdln : ∀ x,Dat.bd x → ln x
 wtln : ∀ x,wt x ≤ 1048576 → ln x
instance : Wt Int:=⟨fun _=>0,fun _=>True,fun _ _=>trivial,fun _ _=>trivial⟩
instance : Wt UInt8:=⟨fun _=>0,fun _=>True,fun _ _=>trivial,fun _ _=>trivial⟩
instance : Wt Bool:=⟨fun _=>0,fun _=>True,fun _ _=>trivial,fun _ _=>trivial⟩
instance : Wt Str:=⟨fun s=>s.l.length,fun s=>s.l.length ≤ 9223372036854775807,fun _ h=>h,fun _ h=>by omega⟩
instance {n : Nat} : Wt (Vector UInt8 n):=⟨fun _=>0,fun _=>True,fun _ _=>trivial,fun _ _=>trivial⟩
instance {n m : Nat} : Wt (Vector (Vector UInt8 m) n):=⟨fun _=>0,fun _=>True,fun _ _=>trivial,fun _ _=>trivial⟩
theorem qs {α : Type} {f : α → Nat} {l : List α} {x : α} (h : x ∈ l) : f x ≤ (l.map f).sum:=by
 induction l with
 | nil=>cases h
 | cons y l ih =>
  rw [List.map_cons,List.sum_cons]
  rcases List.mem_cons.1 h with rfl | h
  ·omega
  ·have:=ih h; omega
instance {α : Type} [Dat α] [Wt α] : Wt (List α):=⟨fun l=>l.length + (l.map Wt.wt).sum,fun l=>l.length ≤ 9223372036854775807 ∧ ∀ x ∈ l,Wt.ln x,fun _ h=>⟨h.1,fun x hx=>Wt.bdln x (h.2 x hx)⟩,
 fun l h=>⟨by omega,fun x hx=>Wt.wtln x (by have:=qs (f:=Wt.wt) hx; omega)⟩⟩
instance {α β : Type} [Dat α] [Dat β] [Wt α] [Wt β] : Wt (α × β):=⟨fun x=>Wt.wt x.1 + Wt.wt x.2,fun x=>Wt.ln x.1 ∧ Wt.ln x.2,fun x h=>⟨Wt.bdln x.1 h.1,Wt.bdln x.2 h.2⟩,fun x h=>⟨Wt.wtln x.1 (by omega),Wt.wtln x.2 (by omega)⟩⟩
theorem Jm {α : Type} [Dat α] [Wt α] (l : List α) : Wt.wt l = l.length + (l.map Wt.wt).sum:=rfl
theorem wt_mem {α : Type} [Dat α] [Wt α] {l : List α} {x : α} (h : x ∈ l) : Wt.wt x ≤ (l.map Wt.wt).sum:=qs h
theorem Zc4 {α : Type} [Dat α] [Wt α] {l : List α} {x : α} (h : x ∈ l) : Wt.wt x ≤ Wt.wt l:=by
 have:=wt_mem h; rw [Jm]; omega
theorem yP {α : Type} [Dat α] [Wt α] (l : List α) : l.length ≤ Wt.wt l:=by rw [Jm]; omega
theorem WX {α : Type} [Dat α] [Wt α] {l : List α} (h : Wt.ln l) : l.length ≤ 9223372036854775807:=h.1
theorem AS {α : Type} [Dat α] [Wt α] {l : List α} {x : α} (h : Wt.ln l) (hx : x ∈ l) : Wt.ln x:=h.2 x hx

theorem Jg {α β : Type} (p0 : List α) (c : α → Option β) (g : α → β) (by_ : Nat) (z : β) (L : List β × Int → Option (Fl (List β × Int) (List β)))
  (hL : ∀ s,L s = if (decide (s.2 < (p0.length : Int))) = true then ((idx p0 s.2).bind fun x=>(c x).bind fun r=>(idx s.1 s.2).bind fun _=>some (Fl.nx ((s.1.set (s.2).toNat r),wr (s.2 + 1)))) else (some (Fl.ex s.1)))
  (hc : ∀ x ∈ p0,c x = some (g x)) (hl : p0.length * by_ ≤ 140737488355328) (hl' : p0.length < 9223372036854775807) :
  ((mkS by_ z (p0.length : Int)).bind fun l1=>(ZB L (l1,0) : Option (List β)).bind fun j=>some j) = some (p0.map g):=by
 have hm : mkS by_ z (p0.length : Int) = some (List.replicate p0.length z):=by
  have h3 : ((p0.length * by_ : Nat) : Int) ≤ ((140737488355328 : Nat) : Int):=Int.ofNat_le.2 hl
  rw [Int.natCast_mul] at h3
  unfold mkS
  rw [if_pos ⟨by omega,h3⟩,Int.toNat_natCast]
 rw [hm]
 simp only [Option.bind_some]
 have hrun:=Z6 (f:=L) (fun i : Nat=>((p0.take i).map g ++ List.replicate (p0.length - i) z,(i : Int))) 0 p0.length (Nat.zero_le _) (t:=p0.map g) (fun i _ hi=>by
  rw [hL]
  simp only [Int.ofNat_lt,hi,decide_true,if_true,Ak hi,Option.bind_some,hc _ (List.getElem_mem hi)]
  rw [Ak (by simp; omega)]
  simp only [Option.bind_some,Y8 (show i < 9223372036854775807 by omega),Int.toNat_natCast]
  congr 3
  rw [List.set_append_right _ _ (by simp; omega)]
  have e1 : p0.length - i = (p0.length - (i + 1)) + 1:=by omega
  have e2 : i - ((p0.take i).map g).length = 0:=by simp; omega
  rw [e1,List.replicate_succ,e2,List.set_cons_zero]
  rw [List.take_succ_eq_append_getElem hi,List.map_append,List.append_assoc]
  rfl) (by
  rw [hL]
  simp)
 simp at hrun
 simp [hrun]

theorem Jo {α : Type} (p0 : List α) (ne : α → α → Option Bool) (L : Int → Option (Fl Int (Fl Unit Bool)))
  (hL : ∀ s,L s = if (decide (s < (p0.length : Int))) = true then (((idx p0 s).bind fun x=>(idx p0 s).bind fun y=>ne x y : Option Bool).bind fun j=>if j = true then (some (Fl.ex (Fl.ex false))) else (some (Fl.nx (wr (s + 1))))) else (some (Fl.ex (Fl.nx ()))))
  (hn : ∀ x ∈ p0,ne x x = some false) (hl : p0.length ≤ 9223372036854775807) :
  (if ((p0.length : Int) != (p0.length : Int)) = true then (some false) else ((ZB L 0 : Option (Fl Unit Bool)).bind fun j2=>j2.el (fun _=>some true) (fun r=>some r))) = some true:=by
 have:=Z6 (f:=L) (fun i : Nat=>(i : Int)) 0 p0.length (Nat.zero_le _) (t:=.nx ()) (fun i _ hi=>by
  rw [hL]
  simp only [Int.ofNat_lt,hi,decide_true,if_true,Ak hi,Option.bind_some,hn _ (List.getElem_mem hi)]
  simp [Y8 (show i < 9223372036854775807 by omega)]) (by
  rw [hL]; simp)
 have h2 : ZB L 0 = some (.nx ()):=this
 simp [h2,Fl.el]

def TY {α : Type} [Dat α] [Wt α] (f : α → Int → Option Int) (x : α) : Prop:=∀ left : Int,0 ≤ left → left ≤ 1048576 → ∃ r,f x left = some r ∧ r ≤ 1048576 ∧ (0 ≤ r → r + Wt.wt x ≤ left)
theorem J1 {α : Type} [Dat α] [Wt α] {l : List α} (h0 : ∀ x : α,Wt.wt x = 0) (f : List α → Int → Option Int)
  (hf : ∀ left,f l left = if (decide ((wr (left - (l.length : Int))) < 0)) = true then (some (-1)) else (some (wr (left - (l.length : Int))))) (hl : l.length ≤ 9223372036854775807) : TY f l:=by
 intro left h1 h2
 have hs : (l.map Wt.wt).sum = 0:=by
  clear hf hl
  induction l with
  | nil=>rfl
  | cons x l ih=>rw [List.map_cons,List.sum_cons,h0,ih]
 have hw : Wt.wt l = l.length:=by rw [Jm,hs]; rfl
 rw [hf,YP (by omega),hw]
 by_cases h : left - (l.length : Int) < 0
 ·exact ⟨-1,by simp [h],by omega,by omega⟩
 ·exact ⟨left - l.length,by simp [h],by omega,by omega⟩
theorem qe {α : Type} [Dat α] [Wt α] {p0 : List α} (f : List α → Int → Option Int) (c : α → Int → Option Int) (L : Int × Int → Option (Fl (Int × Int) (Fl Int Int)))
  (hL : ∀ s,L s = if (decide (s.2 < (p0.length : Int))) = true then ((idx p0 s.2).bind fun x=>(c x s.1).bind fun r=>if (decide (r < 0)) = true then (some (Fl.ex (Fl.ex (-1)))) else (some (Fl.nx (r,wr (s.2 + 1))))) else (some (Fl.ex (Fl.nx s.1))))
  (hf : ∀ left,f p0 left = if (decide ((wr (left - (p0.length : Int))) < 0)) = true then (some (-1)) else ((ZB L (wr (left - (p0.length : Int)),0) : Option (Fl Int Int)).bind fun j2=>j2.el (fun s=>some s) (fun r=>some r)))
  (hl : p0.length ≤ 9223372036854775807) (hc : ∀ x ∈ p0,TY c x) : TY f p0:=by
 intro left h1 h2
 rw [hf,YP (by omega)]
 by_cases h : left - (p0.length : Int) < 0
 ·exact ⟨-1,by simp [h],by omega,by omega⟩
 simp only [h,decide_false,Bool.false_eq_true,if_false]
 have key : ∀ (k m : Nat) (a : Int),m + k = p0.length → 0 ≤ a → a ≤ 1048576 → ∃ o : Fl Int Int,ZB L (a,(m : Int)) = some o ∧ ((o = .ex (-1)) ∨ ∃ r,o = .nx r ∧ 0 ≤ r ∧ r + (((p0.drop m).map Wt.wt).sum : Nat) ≤ a):=by
  intro k
  induction k with
  | zero =>
   intro m a hm h0 h3
   have : m = p0.length:=by omega
   subst this
   refine ⟨.nx a,?_,.inr ⟨a,rfl,h0,?_⟩⟩
   ·rw [X8 (t:=.nx a)]; rw [hL]; simp
   ·simp
  | succ k ih =>
   intro m a hm h0 h3
   have hi : m < p0.length:=by omega
   obtain ⟨r,e1,e2,e3⟩:=hc _ (List.getElem_mem hi) a h0 h3
   have hst : L (a,(m : Int)) = (if (decide (r < 0)) = true then (some (Fl.ex (Fl.ex (-1)))) else (some (Fl.nx (r,((m + 1 : Nat) : Int))))):=by
    rw [hL]
    simp only [Int.ofNat_lt,hi,decide_true,if_true,Ak hi,Option.bind_some,e1,Y8 (show m < 9223372036854775807 by omega)]
   by_cases hr : r < 0
   ·simp only [hr,decide_true,if_true] at hst
    exact ⟨_,X8 hst,.inl rfl⟩
   ·simp only [hr,decide_false,Bool.false_eq_true,if_false] at hst
    obtain ⟨o,k1,k2⟩:=ih (m + 1) r (by omega) (by omega) e2
    refine ⟨o,by rw [Wl hst]; exact k1,k2.imp id ?_⟩
    rintro ⟨q,rfl,q1,q2⟩
    refine ⟨q,rfl,q1,?_⟩
    have e3:=e3 (by omega)
    rw [List.drop_eq_getElem_cons hi,List.map_cons,List.sum_cons]
    omega
 obtain ⟨o,k1,k2⟩:=key p0.length 0 (left - p0.length) (by omega) (by omega) (by omega)
 have k1' : ZB L (left - (p0.length : Int),0) = some o:=k1
 rw [k1']
 rcases k2 with rfl | ⟨r,rfl,q1,q2⟩
 ·exact ⟨-1,rfl,by omega,by omega⟩
 ·refine ⟨r,rfl,by omega,fun _=>?_⟩
  rw [List.drop_zero] at q2
  rw [Jm]; omega
@[simp] theorem Z7 {α : Type} (l : List α) (i : Nat) : idx l (i : Int) = l[i]?:=by unfold idx; simp
@[simp] theorem idx_zero {α : Type} (l : List α) : idx l (0 : Int) = l[0]?:=Z7 l 0
theorem jZ {T : Type} {f : Int → Option (Fl Int (Fl Unit T))} (n : Nat) (p : Nat → Bool) (t : Nat → T) (hn : n < 9223372036854775807)
  (h : ∀ i,i < n → f (i : Int) = some (if p i then .ex (.ex (t i)) else .nx (wr ((i : Int) + 1)))) (he : f (n : Int) = some (.ex (.nx ()))) (m : Nat) (hm : m ≤ n) :
  ZB f (m : Int) = some (match (List.range' m (n - m)).find? p with | some i=>.ex (t i) | none=>.nx ()):=by
 rw [Ks (fun i : Nat=>(i : Int)) p (fun i=>.ex (t i)) n (n - m) m (by omega) (fun i _ hi=>by rw [h i hi,Y8 (by omega)]) he]
 cases (List.range' m (n - m)).find? p <;> rfl
theorem Zca {T : Type} {f : Int → Option (Fl Int (Fl Unit T))} (n : Nat) (p : Nat → Bool) (t : T) (hn : n < 9223372036854775807)
  (h : ∀ i,i < n → f (i : Int) = some (if p i then .ex (.ex t) else .nx (wr ((i : Int) + 1)))) (he : f (n : Int) = some (.ex (.nx ()))) (m : Nat) (hm : m ≤ n) :
  ZB f (m : Int) = some (if (List.range' m (n - m)).any p then .ex t else .nx ()) :=
 jF p hm (fun i _ hi=>by rw [h i hi,Y8 (by omega)]) he
theorem Wr {α β S T : Type} {f : S → Option (Fl S T)} (l : List α) (pack : β → Int → S) (g : β → α → β) (b0 : β) {t : T} (hn : l.length < 9223372036854775807)
  (h : ∀ i (hi : i < l.length),f (pack ((l.take i).foldl g b0) (i : Int)) = some (.nx (pack (g ((l.take i).foldl g b0) l[i]) (wr ((i : Int) + 1))))) (he : f (pack (l.foldl g b0) (l.length : Int)) = some (.ex t)) :
  ZB f (pack b0 0) = some t:=by
 have:=Z6 (f:=f) (fun i : Nat=>pack ((l.take i).foldl g b0) (i : Int)) 0 l.length (Nat.zero_le _) (t:=t) (fun i _ hi=>by
  rw [h i hi,Y8 (by omega)]
  congr 3
  rw [List.take_succ_eq_append_getElem hi,List.foldl_append]; rfl) (by rw [List.take_length]; exact he)
 simpa using this
theorem zC {α β : Type} (g : α → β) (l : List α) (acc : List β) : l.foldl (fun b x=>b ++ [g x]) acc = acc ++ l.map g:=by
 induction l generalizing acc with
 | nil=>simp
 | cons x l ih=>simp [ih]
theorem jW {α β T : Type} {f : List β × Int → Option (Fl (List β × Int) T)} (l : List α) (g : α → β) {t : T} (hn : l.length < 9223372036854775807)
  (h : ∀ i (hi : i < l.length),f ((l.take i).map g,(i : Int)) = some (.nx ((l.take i).map g ++ [g l[i]],wr ((i : Int) + 1)))) (he : f (l.map g,(l.length : Int)) = some (.ex t)) :
  ZB f ([],0) = some t:=by
 have e : ∀ m : List α,m.foldl (fun b x=>b ++ [g x]) [] = m.map g:=fun m=>by rw [zC]; rfl
 exact Wr (f:=f) l (fun b i=>(b,i)) (fun b x=>b ++ [g x]) [] hn (fun i hi=>by simp only [e]; exact h i hi) (by simp only [e]; exact he)
theorem YC {α : Type} {by_ : Nat} {l m : List α} (h : (l.length + m.length) * by_ ≤ 140737488355328) : app by_ l m = some (l ++ m):=by unfold app; rw [if_pos h]
theorem KP {α : Type} {l : List α} {i j : Nat} (h : i ≤ j) (h2 : j ≤ l.length) : slc l (i : Int) (j : Int) = some ((l.take j).drop i):=by
 unfold slc; rw [if_pos (by omega)]; simp

theorem TS {α : Type} {n : Nat} {v w : Vector α n} (h : ∀ i (hi : i < n),v[i] = w[i]) : v = w:=Vector.ext h
@[simp] theorem W0 {α : Type} {n : Nat} (v : Vector α n) (i : Nat) : ZH v (i : Int) = v[i]?:=by unfold ZH; simp
theorem jo {n : Nat} (p0 : Vector UInt8 n) (L : Vector UInt8 n × Int → Option (Fl (Vector UInt8 n × Int) (Vector UInt8 n)))
  (hL : ∀ s,L s = if decide (s.2 < (n : Int)) = true then ((ZH p0 s.2).bind fun x=>(ZH s.1 s.2).bind fun _=>some (Fl.nx (s.1.setIfInBounds (s.2).toNat x,wr (s.2 + 1)))) else (some (Fl.ex s.1))) (hn : n < 9223372036854775807) (z : Vector UInt8 n) :
  ZB L (z,0) = some p0:=by
 have:=Z6 (f:=L) (fun i : Nat=>(Vector.ofFn fun j : Fin n=>if j.1 < i then p0[j] else z[j],(i : Int))) 0 n (Nat.zero_le _) (t:=p0) (fun i _ hi=>by
  rw [hL]
  simp only [Int.ofNat_lt,hi,decide_true,if_true,W0,Vector.getElem?_eq_getElem hi,Option.bind_some,Int.toNat_natCast,Y8 (show i < 9223372036854775807 by omega)]
  congr 3
  apply TS
  intro j hj
  rw [Vector.getElem_setIfInBounds]
  simp only [Vector.getElem_ofFn,Fin.getElem_fin]
  by_cases h : i = j
  ·subst h; simp
  ·by_cases h2 : j < i
   ·simp [h,h2,show j < i + 1 by omega]
   ·simp [h,h2,show ¬ j < i + 1 by omega]) (by
  rw [hL]
  simp only [Int.ofNat_lt,Nat.lt_irrefl,decide_false,Bool.false_eq_true,if_false]
  congr 2
  apply TS
  intro j hj
  simp [hj])
 have h0 : (Vector.ofFn fun j : Fin n=>if j.1 < 0 then p0[j] else z[j]) = z:=by
  apply TS
  intro j hj
  simp
 rw [h0] at this
 exact this
theorem Zc2 {n : Nat} (p0 : Vector UInt8 n) (L : Int → Option (Fl Int (Fl Unit Bool)))
  (hL : ∀ s,L s = if decide (s < (n : Int)) = true then (((ZH p0 s).bind fun x=>(ZH p0 s).bind fun y=>some (x != y) : Option Bool).bind fun j=>if j = true then (some (Fl.ex (Fl.ex false))) else (some (Fl.nx (wr (s + 1))))) else (some (Fl.ex (Fl.nx ())))) (hn : n < 9223372036854775807) :
  ((ZB L 0 : Option (Fl Unit Bool)).bind fun j5=>j5.el (fun _=>some true) (fun r=>some r)) = some true:=by
 have:=Z6 (f:=L) (fun i : Nat=>(i : Int)) 0 n (Nat.zero_le _) (t:=.nx ()) (fun i _ hi=>by
  rw [hL]
  simp only [Int.ofNat_lt,hi,decide_true,if_true,W0,Vector.getElem?_eq_getElem hi,Option.bind_some]
  simp [Y8 (show i < 9223372036854775807 by omega)]) (by rw [hL]; simp)
 have h2 : ZB L 0 = some (.nx ()):=this
 rw [h2]; rfl

def Hb (n : Nat) (k : Int) : Vector UInt8 n:=Vector.ofFn fun j=>Zv (k + j)
theorem kB {k : Int} (h : 0 ≤ k) (h2 : k < 9223372036854775807) : wr (k + 1) = k + 1:=YP (by omega)
theorem Hh {α : Type} {n : Nat} (get : α → Vector UInt8 n) (put : α → Vector UInt8 n → α) (i : Nat) (I : Int) (hI : I = i) (L : List α × Int × Int → Option (Fl (List α × Int × Int) (List α × Int)))
  (hL : ∀ s,L s = if decide (s.2.2 < (n : Int)) = true then ((idx s.1 I).bind fun x=>(ZH (get x) s.2.2).bind fun _=>some (Fl.nx (s.1.set (I).toNat (put x ((get x).setIfInBounds (s.2.2).toNat (Zv s.2.1))),wr (s.2.1 + 1),wr (s.2.2 + 1)))) else (some (Fl.ex (s.1,s.2.1))))
  (hgp : ∀ x v,get (put x v) = v) (hpp : ∀ x v w,put (put x v) w = put x w) (hpg : ∀ x,put x (get x) = x) (hn : n < 9223372036854775807)
  (l : List α) (hi : i < l.length) (k : Int) (h0 : 0 ≤ k) (hk : k + n ≤ 4611686018427387904) : ZB L (l,k,0) = some (l.set i (put l[i] (Hb n k)),k + n):=by
 subst hI
 have:=Z6 (f:=L) (fun j : Nat=>(l.set i (put l[i] (Vector.ofFn fun q : Fin n=>if q.1 < j then Zv (k + q) else (get l[i])[q])),k + j,(j : Int))) 0 n (Nat.zero_le _) (t:=(l.set i (put l[i] (Hb n k)),k + n)) (fun j _ hj=>by
  rw [hL]
  have hi' : i < (l.set i (put l[i] (Vector.ofFn fun q : Fin n=>if q.1 < j then Zv (k + q) else (get l[i])[q]))).length:=by simpa using hi
  simp only [Int.ofNat_lt,hj,decide_true,if_true,Z7,W0,List.getElem?_eq_getElem hi',Vector.getElem?_eq_getElem hj,Option.bind_some,Int.toNat_natCast,Y8 (show j < 9223372036854775807 by omega),List.getElem_set_self,hgp,hpp,List.set_set]
  rw [kB (by omega) (by omega)]
  congr 3
  ·congr 2
   apply TS
   intro q hq
   rw [Vector.getElem_setIfInBounds]
   simp only [Vector.getElem_ofFn,Fin.getElem_fin]
   by_cases h : j = q
   ·subst h; simp
   ·by_cases h2 : q < j
    ·simp [h,h2,show q < j + 1 by omega]
    ·simp [h,h2,show ¬ q < j + 1 by omega]
  ·congr 1
   omega) (by
  rw [hL]
  simp only [Int.ofNat_lt,Nat.lt_irrefl,decide_false,Bool.false_eq_true,if_false]
  have e : (Vector.ofFn fun q : Fin n=>if q.1 < n then Zv (k + q) else (get l[i])[q]) = Hb n k:=by
   unfold Hb
   apply TS
   intro j hj
   simp [hj]
  rw [e])
 have h0' : (Vector.ofFn fun q : Fin n=>if q.1 < 0 then Zv (k + q) else (get l[i])[q]) = get l[i]:=by
  apply TS
  intro j hj
  simp
 rw [h0',hpg,List.set_getElem_self] at this
 simpa using this
def qb {α : Type} (Fm : α → Int → Option (α × Int)) (Fh : α → Int → Option Int) (x : α) (n : Nat) : Prop :=
 ∀ k : Int,0 ≤ k → k + n ≤ 4611686018427387904 → ∃ x',Fm x k = some (x',k + n) ∧ Fh x' k = some (k + n)
theorem yj {α : Type} (Fm : List α → Int → Option (List α × Int)) (Fh : List α → Int → Option Int) (Lm : List α × Int × Int → Option (Fl (List α × Int × Int) (List α × Int))) (Lh : List α → Int × Int → Option (Fl (Int × Int) (Fl Int Int))) (mk : α → Nat)
  (hFm : ∀ l k,Fm l k = (ZB Lm (l,k,0) : Option (List α × Int)).bind fun j1=>some (j1.1,j1.2)) (hFh : ∀ l k,Fh l k = (ZB (Lh l) (k,0) : Option (Fl Int Int)).bind fun j1=>j1.el (fun s=>some s) (fun r=>some r))
  (l : List α) (hl : l.length ≤ 9223372036854775807)
  (hm : ∀ (l' : List α) (i : Nat) (k : Int) (hi : i < l'.length),l'[i] ∈ l → i < 9223372036854775807 → 0 ≤ k → k + mk l'[i] ≤ 4611686018427387904 → ∃ x',Lm (l',k,(i : Int)) = some (.nx (l'.set i x',k + mk l'[i],wr ((i : Int) + 1))) ∧
   ∀ (m : List α),m[i]? = some x' → Lh m (k,(i : Int)) = some (.nx (k + mk l'[i],wr ((i : Int) + 1))))
  (hme : ∀ (l' : List α) k,Lm (l',k,(l'.length : Int)) = some (.ex (l',k))) (hhe : ∀ (m : List α) k,Lh m (k,(m.length : Int)) = some (.ex (.nx k))) : qb Fm Fh l (l.map mk).sum:=by
 have aux : ∀ (n i : Nat) (l' : List α) (k : Int),i + n = l'.length → l'.length = l.length → l'.drop i = l.drop i → 0 ≤ k → k + (((l.drop i).map mk).sum : Nat) ≤ 4611686018427387904 →
   ∃ l'',ZB Lm (l',k,(i : Int)) = some (l'',k + (((l.drop i).map mk).sum : Nat)) ∧ l''.length = l'.length ∧ (∀ j,j < i → l''[j]? = l'[j]?) ∧ ZB (Lh l'') (k,(i : Int)) = some (.nx (k + (((l.drop i).map mk).sum : Nat))):=by
  intro n
  induction n with
  | zero =>
   intro i l' k hi hll hd h0 hk
   have hi : i = l'.length:=by omega
   subst hi
   have e : l.drop l'.length = []:=by rw [hll]; simp
   rw [e]
   refine ⟨l',?_,rfl,fun _ _=>rfl,?_⟩
   ·rw [X8 (hme l' k)]; simp
   ·rw [X8 (hhe l' k)]; simp
  | succ n ih =>
   intro i l' k hi hll hd h0 hk
   have hil : i < l'.length:=by omega
   have hil2 : i < l.length:=by omega
   have e1 : l'[i] = l[i]:=by
    have h1:=List.drop_eq_getElem_cons hil
    have h2:=List.drop_eq_getElem_cons hil2
    rw [h1,h2] at hd
    exact (List.cons.inj hd).1
   have e2 : l.drop i = l[i] :: l.drop (i + 1):=List.drop_eq_getElem_cons hil2
   rw [e2,List.map_cons,List.sum_cons] at hk ⊢
   obtain ⟨x',h1,h2⟩:=hm l' i k hil (by rw [e1]; exact List.getElem_mem hil2) (by omega) h0 (by rw [e1]; omega)
   rw [e1] at h1 h2
   rw [Y8 (by omega)] at h1 h2
   obtain ⟨l'',k1,k2,k3,k4⟩:=ih (i + 1) (l'.set i x') (k + mk l[i]) (by simp; omega) (by simpa using hll) (by
    rw [List.drop_set_of_lt (by omega)]
    have h1:=List.drop_eq_getElem_cons hil
    rw [h1,e2] at hd
    exact (List.cons.inj hd).2) (by omega) (by omega)
   refine ⟨l'',?_,by simpa using k2,fun j hj=>?_,?_⟩
   ·rw [Wl h1,k1]; congr 2; omega
   ·rw [k3 j (by omega),List.getElem?_set_ne (by omega)]
   ·rw [Wl (h2 l'' (by rw [k3 i (by omega)]; simp [hil])),k4]; congr 2; omega
 intro k h0 hk
 obtain ⟨l'',k1,k2,k3,k4⟩:=aux l.length 0 l k (by omega) rfl rfl h0 (by simpa using hk)
 simp only [List.drop_zero] at k1 k4
 refine ⟨l'',?_,?_⟩
 ·rw [hFm]
  have : ZB Lm (l,k,0) = _:=k1
  rw [this]; rfl
 ·rw [hFh]
  have : ZB (Lh l'') (k,0) = _:=k4
  rw [this]; rfl
theorem Bt {α : Type} [Dat α] [Wt α] (mk : α → Nat) (c : Nat) (h : ∀ x,mk x ≤ c * (1 + Wt.wt x)) (l : List α) : (l.map mk).sum ≤ c * Wt.wt l:=by
 rw [Jm]
 induction l with
 | nil=>simp
 | cons x l ih =>
  have:=h x
  simp only [List.map_cons,List.sum_cons,List.length_cons]
  have e : c * (l.length + 1 + (Wt.wt x + (l.map Wt.wt).sum)) = c * (1 + Wt.wt x) + c * (l.length + (l.map Wt.wt).sum):=by
   rw [← Nat.mul_add]; congr 1; omega
  omega
theorem ke (l : List UInt8) : Wt.wt l = l.length:=by
 rw [Jm]
 have : (l.map Wt.wt).sum = 0:=by
  induction l with
  | nil=>rfl
  | cons x l ih=>rw [List.map_cons,List.sum_cons,ih]; rfl
 omega
theorem ym (l : List UInt8) (h : Wt.wt l ≤ 1048576) : VK l = some l:=by
 have:=yP l
 unfold VK
 have:=Jg l (fun x=>some x) id 1 0 (TT l) (fun s=>by unfold TT; rfl) (fun _ _=>rfl) (by omega) (by omega)
 simpa using this
theorem z3 (l : List UInt8) (h : Wt.ln l) : VM l l = some true:=by
 unfold VM
 exact Jo l (fun x y=>some (x != y)) (TP l l) (fun s=>by unfold TP; rfl) (fun x _=>by simp) (WX h)
theorem yp (l : List UInt8) (h : Wt.ln l) : TY XN l :=
 J1 (fun _=>rfl) XN (fun left=>by unfold XN; rfl) (WX h)
theorem kH (l : List Int) (h : Wt.ln l) : Vc l l = some true:=by
 unfold Vc
 exact Jo l (fun x y=>some (x != y)) (Tw l l) (fun s=>by unfold Tw; rfl) (fun x _=>by simp) (WX h)
theorem yS (l : List Int) (h : Wt.ln l) : qb Vl Vm l (l.map fun _=>1).sum :=
 yj Vl Vm WQ WJ (fun _=>1) (fun _ _=>rfl) (fun _ _=>rfl) l (WX h) (fun l' i k hi _ _ h0 hk=>by
  have e:=kB (k:=k) h0 (by omega)
  refine ⟨k,?_,fun m hm=>?_⟩
  ·unfold WQ
   simp only [Int.ofNat_lt,hi,decide_true,if_true,Z7,List.getElem?_eq_getElem hi,Option.bind_some,Int.toNat_natCast,e]; rfl
  ·have hi':=(List.getElem?_eq_some_iff.1 hm).1
   unfold WJ
   simp only [Int.ofNat_lt,hi',decide_true,if_true,Z7,hm,Option.bind_some,bne_self_eq_false,Bool.false_eq_true,if_false,e]; rfl) (fun l' k=>by unfold WQ; simp) (fun m k=>by unfold WJ; simp)
instance : Wt GRecord:=⟨fun x=>Wt.wt x.Label + Wt.wt x.Body,fun x=>Wt.ln x.Label ∧ Wt.ln x.Body,fun x h=>⟨Wt.bdln x.Label h.2.2.2.1,Wt.bdln x.Body h.2.2.2.2.1⟩,fun x h=>⟨Wt.wtln x.Label (by omega),Wt.wtln x.Body (by omega)⟩⟩
instance : Wt GEvent:=⟨fun _=>0,fun _=>True,fun _ _=>trivial,fun _ _=>trivial⟩
instance : Wt GVault:=⟨fun x=>Wt.wt x.Keys + (Wt.wt x.Records + Wt.wt x.Events),fun x=>Wt.ln x.Keys ∧ Wt.ln x.Records ∧ Wt.ln x.Events,fun x h=>⟨Wt.bdln x.Keys h.1,Wt.bdln x.Records h.2.2.1,Wt.bdln x.Events h.2.2.2.1⟩,
 fun x h=>⟨Wt.wtln x.Keys (by omega),Wt.wtln x.Records (by omega),Wt.wtln x.Events (by omega)⟩⟩
theorem yf (x : Vector UInt8 16) : WI x = some x:=by
 unfold WI
 rw [jo x (TU x) (fun s=>by unfold TU; rfl) (by omega)]; rfl
theorem JO (x : Vector UInt8 32) : Wb x = some x:=by
 unfold Wb
 rw [jo x (Tt x) (fun s=>by unfold Tt; rfl) (by omega)]; rfl
theorem yo (x : Vector UInt8 16) : WN x x = some true:=by
 unfold WN
 exact Zc2 x (TN x x) (fun s=>by unfold TN; rfl) (by omega)
theorem J5 (x : Vector UInt8 32) : Wc x x = some true:=by
 unfold Wc
 exact Zc2 x (Tp x x) (fun s=>by unfold Tp; rfl) (by omega)
theorem kR (l : List (Vector UInt8 16)) (h : Wt.wt l ≤ 1048576) : Us l = some l:=by
 have:=yP l
 unfold Us
 have:=Jg l WI id 16 (Vector.replicate 16 0) (Ti l) (fun s=>by unfold Ti; rfl) (fun x _=>yf x) (by omega) (by omega)
 simpa using this
theorem kT (l : List (Vector UInt8 16)) (h : Wt.ln l) : UA l l = some true:=by
 unfold UA
 exact Jo l (fun x y=>(WN x y).bind fun r=>some (!r)) (Ts l l) (fun s=>by unfold Ts; rfl) (fun x _=>by simp [yo x]) (WX h)
theorem kJ (l : List (Vector UInt8 16)) (h : Wt.ln l) : TY W2 l :=
 J1 (fun _=>rfl) W2 (fun left=>by unfold W2; rfl) (WX h)
theorem zN (l' : List (Vector UInt8 16)) (i : Nat) (k : Int) (hi : i < l'.length) (h0 : 0 ≤ k) (hk : k + 16 ≤ 4611686018427387904) :
  XG (l',k,(i : Int)) = some (.nx (l'.set i (Hb 16 k),k + 16,wr ((i : Int) + 1))):=by
 unfold XG
 have h1:=Hh (n:=16) (fun x : Vector UInt8 16=>x) (fun _ v=>v) i i rfl (Ul (l',k,(i : Int))) (fun s=>by unfold Ul; rfl) (fun _ _=>rfl) (fun _ _ _=>rfl) (fun _=>rfl) (by omega) l' hi k h0 hk
 simp only [Int.ofNat_lt,hi,decide_true,if_true,h1,Option.bind_some]
 rfl
theorem qa (x : GRecord) (h : Wt.wt x ≤ 1048576) : W8 x = some x:=by
 have h : Wt.wt x.Label + Wt.wt x.Body ≤ 1048576:=h
 unfold W8
 simp [yf,JO,ym x.Label (by omega),ym x.Body (by omega)]
theorem jX (l : List GRecord) (h : Wt.wt l ≤ 1048576) : VI l = some l:=by
 have:=yP l
 unfold VI
 have:=Jg l W8 id 112 ⟨0,0,Vector.replicate 16 0,[],[],Vector.replicate 32 0⟩ (US l) (fun s=>by unfold US; rfl) (fun x hx=>qa x (Nat.le_trans (Zc4 hx) h)) (by omega) (by omega)
 simpa using this
theorem kh (x : GRecord) (h : Wt.ln x) : W4 x x = some true:=by
 unfold W4
 simp [yo,J5,z3 x.Label h.1,z3 x.Body h.2]
theorem jK (l : List GRecord) (h : Wt.ln l) : V5 l l = some true:=by
 unfold V5
 exact Jo l (fun x y=>(W4 x y).bind fun r=>some (!r)) (UQ l l) (fun s=>by unfold UQ; rfl) (fun x hx=>by simp [kh x (AS h hx)]) (WX h)
theorem J2 {α β : Type} [Dat α] [Wt α] [Dat β] [Wt β] {f : α → Int → Option Int} {g : β → Int → Option Int} {x : α} {y : β} (hf : TY f x) (hg : TY g y) (left : Int) (h1 : 0 ≤ left) (h2 : left ≤ 1048576) :
  ∃ r,((f x left).bind fun r=>if decide (r < 0) = true then some (-1) else g y r) = some r ∧ r ≤ 1048576 ∧ (0 ≤ r → r + (Wt.wt x + Wt.wt y : Nat) ≤ left):=by
 obtain ⟨r,e1,e2,e3⟩:=hf left h1 h2
 rw [e1]
 by_cases hr : r < 0
 ·exact ⟨-1,by simp [hr],by omega,by omega⟩
 ·have e3:=e3 (by omega)
  obtain ⟨q,k1,k2,k3⟩:=hg r (by omega) e2
  refine ⟨q,by simp [hr,k1],k2,fun hq=>?_⟩
  have:=k3 hq
  omega
theorem yh {f : Option Int} {left w : Int} (h : ∃ r,f = some r ∧ r ≤ 1048576 ∧ (0 ≤ r → r + w ≤ left)) : ∃ r,(f.bind fun r=>if decide (r < 0) = true then some (-1) else some r) = some r ∧ r ≤ 1048576 ∧ (0 ≤ r → r + w ≤ left):=by
 obtain ⟨r,e1,e2,e3⟩:=h
 by_cases hr : r < 0
 ·exact ⟨-1,by simp [e1,hr],by omega,by omega⟩
 ·exact ⟨r,by simp [e1,hr],e2,e3⟩
theorem qd (x : GRecord) (h : Wt.ln x) : TY Uq x:=by
 intro left h1 h2
 have h3 : TY (fun (y : List UInt8) r=>(XN y r).bind fun r=>if decide (r < 0) = true then some (-1) else some r) x.Body:=fun left h1 h2=>yh (yp x.Body h.2 left h1 h2)
 have:=J2 (yp x.Label h.1) h3 left h1 h2
 exact this
theorem jR (l : List GRecord) (h : Wt.ln l) : TY XF l :=
 qe XF Uq (UT l) (fun s=>by unfold UT; rfl) (fun left=>by unfold XF; rfl) (WX h) (fun x hx=>qd x (AS h hx))
theorem qV (x : GEvent) : VV x = some x:=by
 unfold VV
 simp [JO]
theorem ko (l : List GEvent) (h : Wt.wt l ≤ 1048576) : Uv l = some l:=by
 have:=yP l
 unfold Uv
 have:=Jg l VV id 48 ⟨0,0,Vector.replicate 32 0⟩ (Tv l) (fun s=>by unfold Tv; rfl) (fun x _=>qV x) (by omega) (by omega)
 simpa using this
theorem Zah (x : GEvent) : V6 x x = some true:=by
 unfold V6
 simp [J5]
theorem kF (l : List GEvent) (h : Wt.ln l) : Ut l l = some true:=by
 unfold Ut
 exact Jo l (fun x y=>(V6 x y).bind fun r=>some (!r)) (To l l) (fun s=>by unfold To; rfl) (fun x _=>by simp [Zah x]) (WX h)
theorem kO (l : List GEvent) (h : Wt.ln l) : TY Xr l :=
 J1 (fun _=>rfl) Xr (fun left=>by unfold Xr; rfl) (WX h)
theorem ka (x : GVault) : Wt.wt x = Wt.wt x.Keys + (Wt.wt x.Records + Wt.wt x.Events):=rfl
theorem Zap (x : GVault) (h : Wt.wt x ≤ 1048576) : XU x = some x:=by
 rw [ka] at h
 unfold XU
 simp [JO,kR x.Keys (by omega),jX x.Records (by omega),ko x.Events (by omega)]
theorem Zam (x : GVault) (h : Wt.ln x) : U5 x x = some true:=by
 unfold U5
 simp [J5,kT x.Keys h.1,jK x.Records h.2.1,kF x.Events h.2.2]
theorem Zaq (x : GVault) (h : Wt.ln x) : TY T3 x:=by
 intro left h1 h2
 have h3 : TY (fun (y : List GEvent) r=>(Xr y r).bind fun r=>if decide (r < 0) = true then some (-1) else some r) x.Events:=fun left h1 h2=>yh (kO x.Events h.2.2 left h1 h2)
 have h4 : TY (α:=List GRecord × List GEvent) (fun y r=>(XF y.1 r).bind fun r=>if decide (r < 0) = true then some (-1) else (Xr y.2 r).bind fun r=>if decide (r < 0) = true then some (-1) else some r) (x.Records,x.Events):=fun left h1 h2=>J2 (jR x.Records h.2.1) h3 left h1 h2
 exact J2 (kJ x.Keys h.1) h4 left h1 h2
def Bi {α : Type} (Fm : α → Int → Option (α × Int)) (x : α) (n : Nat) : Prop :=
 ∀ k : Int,0 ≤ k → k + n ≤ 4611686018427387904 → ∃ x',Fm x k = some (x',k + n)
theorem Af {α : Type} (Fm : List α → Int → Option (List α × Int)) (Lm : List α × Int × Int → Option (Fl (List α × Int × Int) (List α × Int))) (mk : α → Nat)
  (hFm : ∀ l k,Fm l k = (ZB Lm (l,k,0) : Option (List α × Int)).bind fun j1=>some (j1.1,j1.2)) (l : List α) (hl : l.length ≤ 9223372036854775807)
  (hm : ∀ (l' : List α) (i : Nat) (k : Int) (hi : i < l'.length),l'[i] ∈ l → i < 9223372036854775807 → 0 ≤ k → k + mk l'[i] ≤ 4611686018427387904 → ∃ x',Lm (l',k,(i : Int)) = some (.nx (l'.set i x',k + mk l'[i],wr ((i : Int) + 1))))
  (hme : ∀ (l' : List α) k,Lm (l',k,(l'.length : Int)) = some (.ex (l',k))) : Bi Fm l (l.map mk).sum:=by
 intro k h0 hk
 have aux : ∀ (n i : Nat) (l' : List α) (k : Int),i + n = l'.length → l'.length = l.length → l'.drop i = l.drop i → 0 ≤ k → k + (((l.drop i).map mk).sum : Nat) ≤ 4611686018427387904 →
   ∃ l'',ZB Lm (l',k,(i : Int)) = some (l'',k + (((l.drop i).map mk).sum : Nat)):=by
  intro n
  induction n with
  | zero =>
   intro i l' k hi hll hd h0 hk
   have hi : i = l'.length:=by omega
   subst hi
   have e : l.drop l'.length = []:=by rw [hll]; simp
   rw [e]
   exact ⟨l',by rw [X8 (hme l' k)]; simp⟩
  | succ n ih =>
   intro i l' k hi hll hd h0 hk
   have hil : i < l'.length:=by omega
   have hil2 : i < l.length:=by omega
   have h1:=List.drop_eq_getElem_cons hil
   have e2 : l.drop i = l[i] :: l.drop (i + 1):=List.drop_eq_getElem_cons hil2
   rw [h1,e2] at hd
   have e1:=(List.cons.inj hd).1
   rw [e2,List.map_cons,List.sum_cons] at hk ⊢
   obtain ⟨x',h1⟩:=hm l' i k hil (by rw [e1]; exact List.getElem_mem hil2) (by omega) h0 (by rw [e1]; omega)
   rw [e1,Y8 (by omega)] at h1
   obtain ⟨l'',k1⟩:=ih (i + 1) (l'.set i x') (k + mk l[i]) (by simp; omega) (by simpa using hll) (by
    rw [List.drop_set_of_lt (by omega)]
    exact (List.cons.inj hd).2) (by omega) (by omega)
   exact ⟨l'',by rw [Wl h1,k1]; congr 2; omega⟩
 obtain ⟨l'',k1⟩:=aux l.length 0 l k (by omega) rfl rfl h0 (by simpa using hk)
 simp only [List.drop_zero] at k1
 refine ⟨l'',?_⟩
 rw [hFm]
 have : ZB Lm (l,k,0) = _:=k1
 rw [this]; rfl
theorem BD (l : List UInt8) (h : Wt.ln l) : Bi Y5 l (l.map fun _=>1).sum :=
 Af Y5 Vd (fun _=>1) (fun _ _=>rfl) l (WX h) (fun l' i k hi _ _ h0 hk=>by
  have e:=kB (k:=k) h0 (by omega)
  refine ⟨Zv k,?_⟩
  unfold Vd
  simp only [Int.ofNat_lt,hi,decide_true,if_true,Z7,List.getElem?_eq_getElem hi,Option.bind_some,Int.toNat_natCast,e]; rfl) (fun l' k=>by unfold Vd; simp)
theorem jc (l : List (Vector UInt8 16)) (h : Wt.ln l) : Bi Vn l (l.map fun _=>16).sum :=
 Af Vn XG (fun _=>16) (fun _ _=>rfl) l (WX h) (fun l' i k hi _ _ h0 hk=>⟨_,zN l' i k hi h0 (by omega)⟩) (fun l' k=>by unfold XG; simp)
def UZ (x : GRecord) : Nat:=50 + ((x.Label.map fun _=>1).sum + (x.Body.map fun _=>1).sum)
theorem zj (l' : List GRecord) (i : Nat) (k : Int) (hi : i < l'.length) (h0 : 0 ≤ k) (hk : k + UZ l'[i] ≤ 4611686018427387904) {la bo : List UInt8}
  (hla : Y5 l'[i].Label (k + 18) = some (la,k + 18 + ((l'[i].Label.map fun _=>1).sum : Nat))) (hbo : Y5 l'[i].Body (k + 18 + ((l'[i].Label.map fun _=>1).sum : Nat)) = some (bo,k + 18 + ((l'[i].Label.map fun _=>1).sum : Nat) + ((l'[i].Body.map fun _=>1).sum : Nat))) :
  Xh (l',k,(i : Int)) = some (.nx (l'.set i ⟨k,k + 1,Hb 16 (k + 2),la,bo,Hb 32 (k + 18 + ((l'[i].Label.map fun _=>1).sum : Nat) + ((l'[i].Body.map fun _=>1).sum : Nat))⟩,k + UZ l'[i],wr ((i : Int) + 1))):=by
 unfold UZ at hk
 have e1:=kB (k:=k) h0 (by omega)
 have e2:=kB (k:=k + 1) (by omega) (by omega)
 unfold Xh
 have hi2 : i < (l'.set i (⟨k,k + 1,l'[i].Nonce,l'[i].Label,l'[i].Body,l'[i].Tag⟩ : GRecord)).length:=by simpa using hi
 have h1:=Hh (n:=16) (fun x : GRecord=>x.Nonce) (fun x v=>⟨x.Number,x.Version,v,x.Label,x.Body,x.Tag⟩) i i rfl (VC (l',k,(i : Int))) (fun s=>by unfold VC; rfl) (fun _ _=>rfl) (fun _ _ _=>rfl) (fun _=>rfl) (by omega) _ hi2 (k + 1 + 1) (by omega) (by omega)
 rw [show k + 1 + 1 + ((16 : Nat) : Int) = k + 18 by omega] at h1
 simp only [List.getElem_set_self,List.set_set] at h1
 simp only [Int.ofNat_lt,hi,decide_true,if_true,Z7,List.getElem?_eq_getElem hi,Option.bind_some,Int.toNat_natCast,e1,List.getElem?_set_self hi,List.set_set,e2,h1,hla,hbo]
 have hi3 : i < (l'.set i (⟨k,k + 1,Hb 16 (k + 1 + 1),la,bo,l'[i].Tag⟩ : GRecord)).length:=by simpa using hi
 have h2:=Hh (n:=32) (fun x : GRecord=>x.Tag) (fun x v=>⟨x.Number,x.Version,x.Nonce,x.Label,x.Body,v⟩) i i rfl (VB (l',k,(i : Int))) (fun s=>by unfold VB; rfl) (fun _ _=>rfl) (fun _ _ _=>rfl) (fun _=>rfl) (by omega) _ hi3
  (k + 18 + ((l'[i].Label.map fun _=>1).sum : Nat) + ((l'[i].Body.map fun _=>1).sum : Nat)) (by omega) (by omega)
 simp only [List.getElem_set_self,List.set_set] at h2
 rw [h2]
 simp only [Option.bind_some]
 rw [show k + 1 + 1 = k + 2 by omega]
 congr 3
 congr 1
 unfold UZ
 omega
theorem zS (l : List GRecord) (h : Wt.ln l) : Bi WG l (l.map UZ).sum :=
 Af WG Xh UZ (fun _ _=>rfl) l (WX h) (fun l' i k hi hx _ h0 hk=>by
  have hk':=hk
  unfold UZ at hk'
  have hln : Wt.ln l'[i]:=AS h hx
  obtain ⟨la,h1⟩:=BD l'[i].Label hln.1 (k + 18) (by omega) (by omega)
  obtain ⟨bo,h2⟩:=BD l'[i].Body hln.2 (k + 18 + ((l'[i].Label.map fun _=>1).sum : Nat)) (by omega) (by omega)
  exact ⟨_,zj l' i k hi h0 hk h1 h2⟩) (fun l' k=>by unfold Xh; simp)
theorem zH (l' : List GEvent) (i : Nat) (k : Int) (hi : i < l'.length) (h0 : 0 ≤ k) (hk : k + 34 ≤ 4611686018427387904) :
  XC (l',k,(i : Int)) = some (.nx (l'.set i ⟨k,k + 1,Hb 32 (k + 2)⟩,k + 34,wr ((i : Int) + 1))):=by
 have e1:=kB (k:=k) h0 (by omega)
 have e2:=kB (k:=k + 1) (by omega) (by omega)
 unfold XC
 have hi2 : i < (l'.set i (⟨k,k + 1,l'[i].Tag⟩ : GEvent)).length:=by simpa using hi
 have h1:=Hh (n:=32) (fun x : GEvent=>x.Tag) (fun x v=>⟨x.Kind,x.Number,v⟩) i i rfl (Uk (l',k,(i : Int))) (fun s=>by unfold Uk; rfl) (fun _ _=>rfl) (fun _ _ _=>rfl) (fun _=>rfl) (by omega) _ hi2 (k + 1 + 1) (by omega) (by omega)
 rw [show k + 1 + 1 + ((32 : Nat) : Int) = k + 34 by omega] at h1
 simp only [List.getElem_set_self,List.set_set] at h1
 simp only [Int.ofNat_lt,hi,decide_true,if_true,Z7,List.getElem?_eq_getElem hi,Option.bind_some,Int.toNat_natCast,e1,List.getElem?_set_self hi,List.set_set,e2,h1]
 rw [show k + 1 + 1 = k + 2 by omega]
theorem yN (l : List GEvent) (h : Wt.ln l) : Bi Vk l (l.map fun _=>34).sum :=
 Af Vk XC (fun _=>34) (fun _ _=>rfl) l (WX h) (fun l' i k hi _ _ h0 hk=>⟨_,zH l' i k hi h0 (by omega)⟩) (fun l' k=>by unfold XC; simp)
def Jp (x : GVault) : Nat:=(x.Keys.map fun _=>16).sum + ((x.Records.map UZ).sum + (x.Events.map fun _=>34).sum)
theorem ql (l : List UInt8) : (l.map fun _=>1).sum = l.length:=by
 induction l with
 | nil=>rfl
 | cons x l ih=>rw [List.map_cons,List.sum_cons,ih,List.length_cons]; omega
theorem kV (x : GVault) : Jp x ≤ 50 * Wt.wt x:=by
 have h1:=Bt (fun _ : Vector UInt8 16=>16) 50 (fun _=>by omega) x.Keys
 have h2:=Bt UZ 50 (fun x=>by
  unfold UZ
  have e : Wt.wt x = Wt.wt x.Label + Wt.wt x.Body:=rfl
  rw [e,ke,ke,ql,ql]; omega) x.Records
 have h3:=Bt (fun _ : GEvent=>34) 50 (fun _=>by omega) x.Events
 rw [ka]; unfold Jp; omega
theorem kf (x : GVault) (h : Wt.ln x) : Bi VZ x (Jp x):=by
 intro k h0 hk
 unfold Jp at hk
 obtain ⟨a,h1⟩:=jc x.Keys h.1 k h0 (by omega)
 obtain ⟨b,h2⟩:=zS x.Records h.2.1 _ (by omega : (0 : Int) ≤ k + ((x.Keys.map fun _=>16).sum : Nat)) (by omega)
 obtain ⟨c,h3⟩:=yN x.Events h.2.2 _ (by omega : (0 : Int) ≤ k + ((x.Keys.map fun _=>16).sum : Nat) + ((x.Records.map UZ).sum : Nat)) (by omega)
 refine ⟨⟨a,x.Next,b,c,x.Head⟩,?_⟩
 unfold VZ
 rw [h1]; simp only [Option.bind_some]; rw [h2]; simp only [Option.bind_some]; rw [h3]; simp only [Option.bind_some]
 unfold Jp
 congr 2
 omega
theorem H0 (n a b : Int) : YX n a b = some (decide (a ≤ n ∧ n ≤ b)):=by
 unfold YX
 by_cases h1 : a ≤ n <;> by_cases h2 : n ≤ b <;> simp [h1,h2]
theorem yL (n a b : Int) : Vh n a b = some (decide (a ≤ n ∧ n ≤ b)):=by
 unfold Vh
 by_cases h1 : a ≤ n <;> by_cases h2 : n ≤ b <;> simp [h1,h2]
theorem qI {α : Type} (l : List α) (p : α → Option Bool) (q : α → Bool) (L : Int → Option (Fl Int (Fl Unit Int)))
  (hL : ∀ s,L s = if (decide (s < (l.length : Int))) = true then ((idx l s).bind fun x=>((p x)).bind fun r=>if r = true then (some (Fl.ex (Fl.ex s))) else (some (Fl.nx (wr (s + 1))))) else (some (Fl.ex (Fl.nx ()))))
  (hl : l.length < 9223372036854775807) (hp : ∀ x ∈ l,p x = some (q x)) :
  ((ZB L 0 : Option (Fl Unit Int)).bind fun j1=>j1.el (fun _=>some (-1)) (fun r=>some r)) = some (match l.findIdx? q with | some i=>(i : Int) | none=>-1):=by
 have h:=jZ (f:=L) l.length (fun i=>(l[i]?.map q).getD false) (fun i=>(i : Int)) hl (fun i hi=>by
  rw [hL]
  simp only [Int.ofNat_lt,hi,decide_true,if_true,Z7,List.getElem?_eq_getElem hi,Option.bind_some,Option.map_some,Option.getD_some,hp _ (List.getElem_mem hi)]
  split <;> rfl) (by rw [hL]; simp) 0 (Nat.zero_le _)
 have h3 : ZB L 0 = _:=h
 rw [h3]
 have key : (List.range' 0 (l.length - 0)).find? (fun i=>(l[i]?.map q).getD false) = l.findIdx? q:=by
  rw [Nat.sub_zero,← List.range_eq_range']
  clear h h3 hL hp hl
  induction l with
  | nil=>rfl
  | cons x l ih =>
   rw [List.length_cons,List.range_succ_eq_map,List.find?_cons,List.findIdx?_cons]
   simp only [List.getElem?_cons_zero,Option.map_some,Option.getD_some]
   cases q x with
   | true=>rfl
   | false =>
    simp only [Bool.false_eq_true,if_false]
    rw [List.find?_map,← ih]
    congr 1
 rw [key]
 cases l.findIdx? q <;> rfl
theorem has_of {α : Type} (l : List α) (q : α → Bool) : decide ((match l.findIdx? q with | some i=>(i : Int) | none=>-1) ≥ 0) = l.any q:=by
 rw [Bool.eq_iff_iff,decide_eq_true_eq]
 cases h : l.findIdx? q with
 | none =>
  have:=List.findIdx?_eq_none_iff.1 h
  simp
  exact this
 | some i =>
  have h2:=List.findIdx?_eq_some_iff_getElem.1 h
  obtain ⟨hi,hq,_⟩:=h2
  simp
  exact ⟨_,List.getElem_mem hi,hq⟩
def U8 (e : GEvent) : Bool:=decide ((1 ≤ e.Kind ∧ e.Kind ≤ 4) ∧ (0 ≤ e.Number ∧ e.Number ≤ 1000000))
theorem kG (e : GEvent) : Un e = some (U8 e):=by
 unfold Un U8
 simp only [yL,Option.bind_some]
 by_cases h1 : (1 ≤ e.Kind ∧ e.Kind ≤ 4) <;> by_cases h2 : (0 ≤ e.Number ∧ e.Number ≤ 1000000) <;> simp [h1,h2]
theorem Za0 (e : GEvent) : Tf e = some (U8 e):=by
 unfold Tf U8 TO
 simp only [H0,Option.bind_some]
 by_cases h1 : (1 ≤ e.Kind ∧ e.Kind ≤ 4) <;> by_cases h2 : (0 ≤ e.Number ∧ e.Number ≤ 1000000) <;> simp [h1,h2]
theorem BS (l : List GEvent) (p : GEvent → Option Bool) (q : GEvent → Bool) (hl : l.length < 9223372036854775807) (hp : ∀ x ∈ l,p x = some (q x)) : ZU l p = some (l.any q):=by
 unfold ZU Yf
 rw [qI l p q _ (fun s=>by unfold Yu; rfl) hl hp]
 simp only [Option.bind_some,has_of]
def Qw (l : List GRecord) : Nat → Int
 | 0=>0
 | i + 1=>(l[i]?.map (·.Number)).getD 0
def zp (v : GVault) (r : GRecord) : Bool:=!decide ((0 : Int) ≤ r.Version ∧ r.Version ≤ (v.Keys.length : Int) - 1) || decide (32 < r.Label.length) || decide (200 < r.Body.length)
def HG (v : GVault) (i : Nat) : Bool:=match v.Records[i]? with
 | some r=>decide (r.Number ≤ Qw v.Records i) || decide (r.Number ≥ v.Next) || zp v r
 | none=>false
def badI (v : GVault) (i : Nat) : Bool:=match v.Records[i]? with
 | some r=>!decide (1 ≤ r.Number ∧ r.Number ≤ v.Next - 1) || (decide (0 < i) && decide (Qw v.Records i ≥ r.Number)) || zp v r
 | none=>false
def Jz (v : GVault) : Bool:=decide (1 ≤ v.Keys.length ∧ v.Keys.length ≤ 8 ∧ 1 ≤ v.Next ∧ v.Next ≤ 1000000 ∧ v.Records.length ≤ 12 ∧ v.Events.length ≤ 60)
def YO (v : GVault) : Bool:=Jz v && !((List.range' 0 (v.Records.length - 0)).any (HG v)) && v.Events.all U8
theorem Zbe (v : GVault) : (List.range' 0 (v.Records.length - 0)).any (badI v) = (List.range' 0 (v.Records.length - 0)).any (HG v):=by
 have h : ∀ b c : Bool,(b = false ↔ c = false) → b = c:=by intro b c; cases b <;> cases c <;> simp
 apply h
 rw [List.any_eq_false,List.any_eq_false]
 simp only [List.mem_range'_1,Nat.zero_le,true_and,Nat.sub_zero,Nat.zero_add,Bool.not_eq_true]
 constructor
 ·intro hI i hi
  have h1:=hI i hi
  unfold badI HG at *
  rw [List.getElem?_eq_getElem hi] at h1 ⊢
  simp only [Bool.or_eq_false_iff,Bool.not_eq_false',decide_eq_true_eq,Bool.and_eq_false_iff,decide_eq_false_iff_not] at h1 ⊢
  refine ⟨⟨?_,by omega⟩,h1.2⟩
  cases i with
  | zero=>simp only [Qw]; omega
  | succ i =>
   rcases h1.1.2 with h2 | h2
   ·omega
   ·omega
 ·intro hS
  have pos : ∀ i,i < v.Records.length → 0 ≤ Qw v.Records i ∧ Qw v.Records i < (v.Records[i]?.map (·.Number)).getD 0:=by
   intro i
   induction i with
   | zero =>
    intro hi
    have h1:=hS 0 hi
    unfold HG at h1
    rw [List.getElem?_eq_getElem hi] at h1 ⊢
    simp only [Bool.or_eq_false_iff,decide_eq_false_iff_not,Option.map_some,Option.getD_some] at h1 ⊢
    have e : Qw v.Records 0 = 0:=rfl
    have h2:=h1.1.1
    rw [e] at h2 ⊢
    omega
   | succ i ih =>
    intro hi
    have h0:=ih (by omega)
    have h1:=hS (i + 1) hi
    unfold HG at h1
    have e : Qw v.Records (i + 1) = (v.Records[i]?.map (·.Number)).getD 0:=rfl
    rw [List.getElem?_eq_getElem hi] at h1 ⊢
    simp only [Bool.or_eq_false_iff,decide_eq_false_iff_not,Option.map_some,Option.getD_some] at h1 ⊢
    rw [e] at h1 ⊢
    omega
  intro i hi
  have h1:=hS i hi
  have h2:=pos i hi
  unfold badI HG at *
  rw [List.getElem?_eq_getElem hi] at h1 h2 ⊢
  simp only [Bool.or_eq_false_iff,Bool.not_eq_false',decide_eq_true_eq,Bool.and_eq_false_iff,decide_eq_false_iff_not,Option.map_some,Option.getD_some] at h1 h2 ⊢
  exact ⟨⟨by omega,.inr (by omega)⟩,h1.2⟩
theorem Zdl (v : GVault) (hb : Wt.ln v) : Qd v = some (YO v):=by
 have hb1:=WX hb.1; have hb2:=WX hb.2.1; have hb3:=WX hb.2.2
 unfold Qd
 simp only [yL,Option.bind_some]
 by_cases hh : Jz v = true
 ·have hh' : 1 ≤ v.Keys.length ∧ v.Keys.length ≤ 8 ∧ 1 ≤ v.Next ∧ v.Next ≤ 1000000 ∧ v.Records.length ≤ 12 ∧ v.Events.length ≤ 60:=by simpa [Jz] using hh
  have c1 : ¬ ((v.Keys.length : Int) < 1):=by omega
  have c2 : ¬ ((v.Keys.length : Int) > 8):=by omega
  have c3 : 1 ≤ v.Next ∧ v.Next ≤ 1000000:=by omega
  have c4 : ¬ ((v.Records.length : Int) > 12):=by omega
  have c5 : ¬ ((v.Events.length : Int) > 60):=by omega
  simp only [c1,c2,c3,c4,c5,decide_false,decide_true,and_self,Bool.not_true,Bool.false_eq_true,if_false,Option.bind_some]
  have hw : wr ((v.Keys.length : Int) - 1) = (v.Keys.length : Int) - 1:=YP (by omega)
  have h1:=Ks (f:=UH v) (fun i : Nat=>(Qw v.Records i,(i : Int))) (HG v) (fun _=>(.ex false : Fl Unit Bool)) (e:=.nx ()) v.Records.length v.Records.length 0 (by omega) (fun i _ hi=>by
   unfold UH HG
   simp only [Int.ofNat_lt,hi,decide_true,if_true,Z7,List.getElem?_eq_getElem hi,Option.bind_some,yL,hw,Y8 (show i < 9223372036854775807 by omega)]
   have e : Qw v.Records (i + 1) = v.Records[i].Number:=by simp [Qw,List.getElem?_eq_getElem hi]
   rw [e]
   unfold zp
   by_cases d1 : v.Records[i].Number ≤ Qw v.Records i
   ·simp [d1]
   ·by_cases d2 : v.Records[i].Number ≥ v.Next
    ·simp [d1,d2]
    ·by_cases d3 : (0 : Int) ≤ v.Records[i].Version ∧ v.Records[i].Version ≤ (v.Keys.length : Int) - 1
     ·by_cases d4 : 32 < v.Records[i].Label.length
      ·have d4' : (v.Records[i].Label.length : Int) > 32:=by omega
       simp [d1,d2,d3,d4,d4']
      ·have d4' : ¬ ((v.Records[i].Label.length : Int) > 32):=by omega
       by_cases d5 : 200 < v.Records[i].Body.length
       ·have d5' : (v.Records[i].Body.length : Int) > 200:=by omega
        simp [d1,d2,d3,d4,d4',d5,d5']
       ·have d5' : ¬ ((v.Records[i].Body.length : Int) > 200):=by omega
        simp [d1,d2,d3,d4,d4',d5,d5']
     ·simp [d1,d2,d3]) (by unfold UH; simp)
  have h2 : ZB (UH v) (0,0) = _:=h1
  rw [h2]
  have h3:=Zal (f:=TG v) v.Events (fun e=>!U8 e) (t:=false) (by omega) (fun i hi=>by
   unfold TG
   simp only [Int.ofNat_lt,hi,decide_true,if_true,Z7,List.getElem?_eq_getElem hi,Option.bind_some,kG]
   cases U8 v.Events[i] <;> simp) (by unfold TG; simp)
  rw [h3]
  unfold YO
  rw [hh,Nat.sub_zero]
  cases hf : (List.range' 0 v.Records.length).find? (HG v) with
  | none =>
   have : (List.range' 0 v.Records.length).any (HG v) = false:=by
    rw [List.any_eq_false]; exact List.find?_eq_none.1 hf
   rw [this,List.any_eq_not_all_not]
   simp only [Bool.not_not]
   cases v.Events.all U8 <;> rfl
  | some i =>
   have : (List.range' 0 v.Records.length).any (HG v) = true:=by
    rw [List.any_eq_true]; exact ⟨i,List.mem_of_find?_eq_some hf,List.find?_some hf⟩
   rw [this]; rfl
 ·have hf : Jz v = false:=by simpa using hh
  unfold YO
  rw [hf]
  have hh' : ¬ (1 ≤ v.Keys.length ∧ v.Keys.length ≤ 8 ∧ 1 ≤ v.Next ∧ v.Next ≤ 1000000 ∧ v.Records.length ≤ 12 ∧ v.Events.length ≤ 60):=by simpa [Jz] using hf
  by_cases c1 : ((v.Keys.length : Int) < 1)
  ·simp [c1]
  ·by_cases c2 : ((v.Keys.length : Int) > 8)
   ·simp [c1,c2]
   ·by_cases c3 : 1 ≤ v.Next ∧ v.Next ≤ 1000000
    ·by_cases c4 : ((v.Records.length : Int) > 12)
     ·simp [c1,c2,c3,c4]
     ·have c5 : ((v.Events.length : Int) > 60):=by omega
      simp [c1,c2,c3,c4,c5]
    ·simp [c1,c2,c3]
theorem Av (v : GVault) (hb : Wt.ln v) : U1 v = some (YO v):=by
 have hb1:=WX hb.1; have hb2:=WX hb.2.1; have hb3:=WX hb.2.2
 unfold U1 Yx
 simp only [H0,Option.bind_some]
 by_cases hh : Jz v = true
 ·have hh' : 1 ≤ v.Keys.length ∧ v.Keys.length ≤ 8 ∧ 1 ≤ v.Next ∧ v.Next ≤ 1000000 ∧ v.Records.length ≤ 12 ∧ v.Events.length ≤ 60:=by simpa [Jz] using hh
  have c1 : (1 : Int) ≤ v.Keys.length ∧ (v.Keys.length : Int) ≤ 8:=by omega
  have c3 : 1 ≤ v.Next ∧ v.Next ≤ 1000000:=by omega
  have c4 : ¬ ((v.Records.length : Int) > 12):=by omega
  have c5 : ¬ ((v.Events.length : Int) > 60):=by omega
  simp only [c1,c3,c4,c5,decide_false,decide_true,and_self,Bool.not_true,Bool.false_eq_true,if_false,Option.bind_some]
  have hw : wr ((v.Keys.length : Int) - 1) = (v.Keys.length : Int) - 1:=YP (by omega)
  have hw2 : wr (v.Next - 1) = v.Next - 1:=YP (by omega)
  have h1:=Zca (f:=Va v) v.Records.length (badI v) false (by omega) (fun i hi=>by
   unfold Va badI Yx
   simp only [Int.ofNat_lt,hi,decide_true,if_true,Z7,List.getElem?_eq_getElem hi,Option.bind_some,H0,hw,hw2]
   unfold zp
   by_cases d1 : 1 ≤ v.Records[i].Number ∧ v.Records[i].Number ≤ v.Next - 1
   ·have key : (if decide ((i : Int) > 0) = true then (idx v.Records (wr ((i : Int) - 1))).bind fun x=>some (decide (x.Number ≥ v.Records[i].Number)) else some false) = some (decide (0 < i) && decide (Qw v.Records i ≥ v.Records[i].Number)):=by
     cases i with
     | zero=>simp
     | succ i =>
      have e1 : wr (((i + 1 : Nat) : Int) - 1) = (i : Int):=by rw [YP (by omega)]; omega
      have hi' : i < v.Records.length:=by omega
      have e2 : Qw v.Records (i + 1) = v.Records[i].Number:=by simp [Qw,List.getElem?_eq_getElem hi']
      have e3 : ((i + 1 : Nat) : Int) > 0:=by omega
      simp only [e1,e2,e3,decide_true,if_true,Z7,List.getElem?_eq_getElem hi',Option.bind_some]
      simp
    simp only [d1,decide_true,and_self,Bool.not_true,Bool.false_eq_true,if_false,key,Option.bind_some,Bool.false_or]
    by_cases d2 : (decide (0 < i) && decide (Qw v.Records i ≥ v.Records[i].Number)) = true
    ·simp [d2]
    ·have d2 : (decide (0 < i) && decide (Qw v.Records i ≥ v.Records[i].Number)) = false:=by simpa using d2
     rw [d2]
     by_cases d3 : (0 : Int) ≤ v.Records[i].Version ∧ v.Records[i].Version ≤ (v.Keys.length : Int) - 1
     ·by_cases d4 : 32 < v.Records[i].Label.length
      ·have d4' : (v.Records[i].Label.length : Int) > 32:=by omega
       simp [d3,d4,d4']
      ·have d4' : ¬ ((v.Records[i].Label.length : Int) > 32):=by omega
       by_cases d5 : 200 < v.Records[i].Body.length
       ·have d5' : (v.Records[i].Body.length : Int) > 200:=by omega
        simp [d3,d4,d4',d5,d5']
       ·have d5' : ¬ ((v.Records[i].Body.length : Int) > 200):=by omega
        simp [d3,d4,d4',d5,d5']
     ·simp [d3]
   ·simp [d1]) (by unfold Va; simp) 0 (Nat.zero_le _)
  have h2 : ZB (Va v) 0 = _:=h1
  rw [h2,Zbe,BS v.Events _ (fun e=>!U8 e) (by omega) (fun x _=>by unfold VL; rw [Za0]; rfl)]
  have ha : (v.Events.any fun e=>!U8 e) = !(v.Events.all U8):=by rw [List.any_eq_not_all_not]; simp
  unfold YO
  rw [hh,ha]
  generalize (List.range' 0 (v.Records.length - 0)).any (HG v) = z
  cases z <;> simp [Fl.el]
 ·have hf : Jz v = false:=by simpa using hh
  unfold YO
  rw [hf]
  have hh' : ¬ (1 ≤ v.Keys.length ∧ v.Keys.length ≤ 8 ∧ 1 ≤ v.Next ∧ v.Next ≤ 1000000 ∧ v.Records.length ≤ 12 ∧ v.Events.length ≤ 60):=by simpa [Jz] using hf
  by_cases c1 : (1 : Int) ≤ v.Keys.length ∧ (v.Keys.length : Int) ≤ 8
  ·by_cases c3 : 1 ≤ v.Next ∧ v.Next ≤ 1000000
   ·by_cases c4 : ((v.Records.length : Int) > 12)
    ·simp [c1,c3,c4]
    ·have c5 : ((v.Events.length : Int) > 60):=by omega
     simp [c1,c3,c4,c5]
   ·simp [c1,c3]
  ·simp [c1]
theorem Zc6 {α : Type} [Dat α] [Wt α] {f : α → Int → Option Int} {x : α} {left : Int} {G : Int → Option Bool} (hf : TY f x) (h1 : 0 ≤ left) (h2 : left ≤ 1048576) (hG : ∀ r,0 ≤ r → r ≤ 1048576 → r + (Wt.wt x : Nat) ≤ left → G r = some true) :
  ((f x left).bind fun r=>if decide (r < 0) = true then some true else G r) = some true:=by
 obtain ⟨r,e1,e2,e3⟩:=hf left h1 h2
 rw [e1]
 by_cases hr : r < 0
 ·simp [hr]
 ·have:=hG r (by omega) e2 (e3 (by omega))
  simp [hr,this]
theorem Qv {v : GVault} (h : YO v = true) : 1 ≤ v.Keys.length ∧ v.Keys.length ≤ 8 ∧ 1 ≤ v.Next ∧ v.Next ≤ 1000000 ∧ v.Records.length ≤ 12 ∧ v.Events.length ≤ 60:=by
 unfold YO Jz at h
 simp only [Bool.and_eq_true,decide_eq_true_eq] at h
 exact h.1.1
theorem H8 (a : Nat) (h : a < 9223372036854775808) : (BitVec.ofInt 64 (a : Int)).toNat = a:=by
 rw [BitVec.toNat_ofInt]
 omega
theorem KR (a b : Nat) (ha : a < 9223372036854775808) (hb : b < 9223372036854775808) : Bn (a : Int) (b : Int) = ((a ^^^ b : Nat) : Int):=by
 unfold Bn
 rw [BitVec.toNat_xor,H8 a ha,H8 b hb]
 have : a ^^^ b < 2 ^ 63:=Nat.xor_lt_two_pow ha hb
 exact YP (by omega)
theorem Zbd (a b : Nat) (ha : a < 9223372036854775808) (hb : b < 9223372036854775808) : QM (a : Int) (b : Int) = ((a &&& b : Nat) : Int):=by
 unfold QM
 rw [BitVec.toNat_and,H8 a ha,H8 b hb]
 have : a &&& b < 2 ^ 63:=Nat.and_lt_two_pow _ hb
 exact YP (by omega)
theorem jk (a i : Nat) (hi : i ≤ 63) (h : a <<< i < 9223372036854775808) : zU (a : Int) (i : Int) = ((a <<< i : Nat) : Int):=by
 unfold zU
 rw [show min ((i : Int)).toNat 64 = i by omega]
 have : ((a : Int) * 2 ^ i) = ((a <<< i : Nat) : Int):=by rw [Nat.shiftLeft_eq]; simp
 rw [this]
 generalize a <<< i = x at h ⊢
 exact YP (by omega)
theorem Zcp (a i : Nat) (hi : i ≤ 63) : TB (a : Int) (i : Int) = ((a >>> i : Nat) : Int):=by
 unfold TB
 rw [show min ((i : Int)).toNat 64 = i by omega,Nat.shiftRight_eq_div_pow,Int.fdiv_eq_ediv_of_nonneg _ (by exact_mod_cast Nat.zero_le _)]
 simp
theorem yW (a i : Nat) : ((a >>> i) &&& 1 = 1) ↔ a.testBit i = true:=by
 rw [Nat.testBit,Nat.and_comm]
 have h:=Nat.and_one_is_mod (a >>> i)
 rw [Nat.and_comm] at h
 rw [h]
 rcases Nat.mod_two_eq_zero_or_one (a >>> i) with h | h <;> simp [h]
theorem Zch (a : Nat) : Int.tmod (a : Int) 2 = ((a % 2 : Nat) : Int):=by
 rw [Int.tmod_eq_emod_of_nonneg (by omega)]; simp
theorem Zb8 (a : Nat) : Int.tdiv (a : Int) 2 = ((a / 2 : Nat) : Int):=by
 rw [Int.tdiv_eq_ediv_of_nonneg (by omega)]; simp
theorem qx (a : Nat) (h : a < 9223372036854775808) : wr (a : Int) = (a : Int):=YP (by omega)
theorem Zbp (a : Nat) (h : a < 9223372036854775808) : IntKind.u64.wrap (a : Int) = (a : Int):=by
 simp only [IntKind.wrap,IntKind.bits,IntKind.signed]
 simp
 omega

def YF (m deg : Nat) : Nat → Nat → Nat
 | 0,a=>a
 | k + 1,a=>YF m deg k (if a.testBit (deg + k) then a ^^^ (m <<< k) else a)
theorem KU {m k n : Nat} (h : m < 2 ^ n) : m <<< k < 2 ^ (n + k):=by
 rw [Nat.shiftLeft_eq,Nat.pow_add]
 exact Nat.mul_lt_mul_of_pos_right h (Nat.two_pow_pos _)
theorem z9 {a n : Nat} (h : a < 2 ^ (n + 1)) (hb : a.testBit n = false) : a < 2 ^ n:=by
 apply Nat.lt_pow_two_of_testBit
 intro i hi
 rcases Nat.eq_or_lt_of_le hi with rfl | hi
 ·exact hb
 ·exact Nat.testBit_lt_two_pow (Nat.lt_of_lt_of_le h (Nat.pow_le_pow_right (by omega) hi))
theorem qk {m d : Nat} (h1 : 2 ^ d ≤ m) (h2 : m < 2 ^ (d + 1)) : m.testBit d = true:=by
 rw [Nat.testBit,Nat.shiftRight_eq_div_pow]
 have : m / 2 ^ d = 1:=by
  apply Nat.div_eq_of_lt_le
  ·simpa using h1
  ·rw [Nat.pow_succ] at h2; omega
 rw [this]; rfl
theorem Zdw {m d k a : Nat} (h1 : 2 ^ d ≤ m) (h2 : m < 2 ^ (d + 1)) (ha : a < 2 ^ (d + (k + 1))) (hb : a.testBit (d + k) = true) : a ^^^ (m <<< k) < 2 ^ (d + k):=by
 have hm : m <<< k < 2 ^ (d + (k + 1)):=by have:=KU (k:=k) h2; rwa [show d + 1 + k = d + (k + 1) by omega] at this
 refine z9 (Nat.xor_lt_two_pow (by rwa [show d + k + 1 = d + (k + 1) by omega]) (by rwa [show d + k + 1 = d + (k + 1) by omega])) ?_
 rw [Nat.testBit_xor,hb,Nat.testBit_shiftLeft]
 simp [qk h1 h2]
theorem Ht {m d : Nat} (h1 : 2 ^ d ≤ m) (h2 : m < 2 ^ (d + 1)) : ∀ (k a : Nat),a < 2 ^ (d + k) → YF m d k a < 2 ^ d
 | 0,a,h=>by simpa [YF] using h
 | k + 1,a,h=>by
  unfold YF
  cases hb : a.testBit (d + k) with
  | true=>simp only [if_true]; exact Ht h1 h2 k _ (Zdw h1 h2 h hb)
  | false=>simp only [Bool.false_eq_true,if_false]; exact Ht h1 h2 k a (z9 h hb)
theorem QR (m d : Nat) : ∀ (k a b : Nat),YF m d k (a ^^^ b) = YF m d k a ^^^ YF m d k b
 | 0,_,_=>rfl
 | k + 1,a,b=>by
  simp only [YF]
  rw [Nat.testBit_xor]
  cases a.testBit (d + k) <;> cases b.testBit (d + k) <;> simp only [Bool.xor_false,Bool.false_xor,Bool.xor_self,Bool.xor_true,Bool.not_false,Bool.not_true,Bool.false_eq_true,if_true,if_false]
  ·exact QR m d k a b
  ·rw [Nat.xor_assoc]; exact QR m d k a _
  ·rw [← QR m d k]; congr 1; rw [Nat.xor_assoc,Nat.xor_comm b,← Nat.xor_assoc]
  ·rw [← QR m d k]; congr 1
   rw [Nat.xor_assoc,← Nat.xor_assoc (m <<< k),Nat.xor_comm (m <<< k) b,Nat.xor_assoc,Nat.xor_self,Nat.xor_zero]
theorem Tl {m d : Nat} : ∀ (k a : Nat),a < 2 ^ d → YF m d k a = a
 | 0,_,_=>rfl
 | k + 1,a,h=>by
  unfold YF
  rw [Nat.testBit_lt_two_pow (Nat.lt_of_lt_of_le h (Nat.pow_le_pow_right (by omega) (by omega)))]
  simp only [Bool.false_eq_true,if_false]
  exact Tl k a h
theorem yc {m d k a : Nat} (h : a < 2 ^ (d + k)) : YF m d (k + 1) a = YF m d k a:=by
 conv=>lhs; unfold YF
 rw [Nat.testBit_lt_two_pow h]; rfl
theorem Ka (m d : Nat) : ∀ (k x : Nat),YF m d (k + 1) (x <<< 1) = (if ((YF m d k x) <<< 1).testBit d then ((YF m d k x) <<< 1) ^^^ m else (YF m d k x) <<< 1)
 | 0,x=>by simp [YF]
 | k + 1,x=>by
  conv=>lhs; unfold YF
  conv=>rhs; unfold YF
  have e : (x <<< 1).testBit (d + (k + 1)) = x.testBit (d + k):=by
   rw [Nat.testBit_shiftLeft]
   have : d + (k + 1) ≥ 1:=by omega
   simp only [this,decide_true,Bool.true_and]
   congr 1
  rw [e]
  cases x.testBit (d + k) with
  | false=>simp only [Bool.false_eq_true,if_false]; exact Ka m d k x
  | true =>
   simp only [if_true]
   have e2 : x <<< 1 ^^^ m <<< (k + 1) = (x ^^^ m <<< k) <<< 1:=by
    rw [Nat.shiftLeft_xor_distrib,← Nat.shiftLeft_add]
   rw [e2]
   exact Ka m d k _

def lenN (n : Nat) : Nat:=if n = 0 then 0 else n.log2 + 1
theorem v_rest (a m d : Nat) (hd : d ≤ 15) (ha : a < 2 ^ 16) (hm : m < 2 ^ 20) : T0 (a : Int) (m : Int) (d : Int) = some ((YF m d (16 - d) a : Nat) : Int):=by
 have key : ∀ (k a : Nat),d + k ≤ 16 → a < 2 ^ 40 → ZB (Tj (m : Int) (d : Int)) ((a : Int),((d + k : Nat) : Int) - 1) = some ((YF m d k a : Nat) : Int):=by
  intro k
  induction k with
  | zero =>
   intro a _ _
   rw [X8 (t:=(a : Int))]
   ·rfl
   ·unfold Tj
    have : ¬ (((d + 0 : Nat) : Int) - 1 ≥ (d : Int)):=by omega
    simp only [this,decide_false,Bool.false_eq_true,if_false]
  | succ k ih =>
   intro a hk ha
   have e0 : ((d + (k + 1) : Nat) : Int) - 1 = ((d + k : Nat) : Int):=by omega
   have hsh : m <<< k < 2 ^ (20 + k):=KU hm
   have hsh2 : m <<< k < 2 ^ 40:=Nat.lt_of_lt_of_le hsh (Nat.pow_le_pow_right (by omega) (by omega))
   have hst : Tj (m : Int) (d : Int) ((a : Int),((d + (k + 1) : Nat) : Int) - 1) = some (.nx (((if a.testBit (d + k) then a ^^^ (m <<< k) else a : Nat) : Int),((d + k : Nat) : Int) - 1)):=by
    rw [e0]
    unfold Tj
    have c1 : ((d + k : Nat) : Int) ≥ (d : Int):=by omega
    have c2 : XP ((d + k : Nat) : Int) = some ():=by unfold XP; rw [if_pos (by omega)]
    have c3 : wr (((d + k : Nat) : Int) - (d : Int)) = ((k : Nat) : Int):=by rw [show ((d + k : Nat) : Int) - (d : Int) = ((k : Nat) : Int) by omega,qx _ (by omega)]
    have c4 : XP ((k : Nat) : Int) = some ():=by unfold XP; rw [if_pos (by omega)]
    have c5 : wr (((d + k : Nat) : Int) - 1) = ((d + k : Nat) : Int) - 1:=YP (by omega)
    simp only [c1,decide_true,if_true,c2,c3,c4,c5,Option.bind_some]
    have c6 : QM (TB (a : Int) ((d + k : Nat) : Int)) 1 = (((a >>> (d + k)) &&& 1 : Nat) : Int):=by
     rw [Zcp a (d + k) (by omega)]
     exact Zbd _ 1 (Nat.lt_of_le_of_lt (Nat.shiftRight_le _ _) (by omega)) (by omega)
    rw [c6,jk m k (by omega) (by omega),KR a _ (by omega) (by omega)]
    cases hb : a.testBit (d + k) with
    | true =>
     have:=(yW a (d + k)).2 hb
     rw [this]; rfl
    | false =>
     have : ¬ ((a >>> (d + k)) &&& 1 = 1):=fun h=>by rw [(yW a (d + k)).1 h] at hb; cases hb
     have h2 : (((((a >>> (d + k)) &&& 1 : Nat) : Int)) == 1) = false:=by
      rw [beq_eq_false_iff_ne]; omega
     rw [h2]; rfl
   rw [Wl hst,ih _ (by omega) ?_]
   ·conv=>rhs; unfold YF
   ·split
    ·exact Nat.xor_lt_two_pow ha hsh2
    ·exact ha
 unfold T0
 have:=key (16 - d) a (by omega) (by omega)
 rw [show ((d + (16 - d) : Nat) : Int) - 1 = 15 by omega] at this
 rw [this]; rfl

def Hc : Nat → Nat → Nat → Nat
 | 0,_,_=>0
 | n + 1,a,b=>(if b % 2 = 1 then a else 0) ^^^ Hc n (a <<< 1) (b / 2)
theorem Bk : ∀ (n a : Nat),Hc n a 0 = 0
 | 0,_=>rfl
 | n + 1,a=>by simp [Hc,Bk n]
theorem qi : ∀ (n a b p : Nat),a < 2 ^ p → Hc n a b < 2 ^ (p + n)
 | 0,_,_,_,_=>by simp [Hc]; exact Nat.two_pow_pos _
 | n + 1,a,b,p,h=>by
  unfold Hc
  have h1 : a <<< 1 < 2 ^ (p + 1):=KU h
  have h2:=qi n (a <<< 1) (b / 2) (p + 1) h1
  rw [show p + 1 + n = p + (n + 1) by omega] at h2
  refine Nat.xor_lt_two_pow ?_ h2
  have h3 : 2 ^ p ≤ 2 ^ (p + (n + 1)):=Nat.pow_le_pow_right (by omega) (by omega)
  have h4:=Nat.two_pow_pos (p + (n + 1))
  split <;> omega
def prC : Nat → Nat → Nat → Nat
 | 0,_,_=>0
 | i + 1,a,b=>prC i a b ^^^ (if b.testBit i then a <<< i else 0)
theorem jQ : ∀ (n a b : Nat),prC (n + 1) a b = (if b % 2 = 1 then a else 0) ^^^ prC n (a <<< 1) (b / 2)
 | 0,a,b=>by
  simp only [prC,Nat.zero_xor,Nat.xor_zero,Nat.shiftLeft_zero]
  have : b.testBit 0 = decide (b % 2 = 1):=by simp [Nat.testBit_zero]
  rw [this]; simp
 | n + 1,a,b=>by
  conv=>lhs; unfold prC
  rw [jQ n a b]
  conv=>rhs; unfold prC
  rw [← Nat.xor_assoc]
  congr 1
  rw [Nat.testBit_succ,← Nat.shiftLeft_add,Nat.add_comm 1 n]
theorem Zcl : ∀ (n a b : Nat),prC n a b = Hc n a b
 | 0,_,_=>rfl
 | n + 1,a,b=>by rw [jQ,Zcl n]; rfl
theorem ku (a b : Nat) (h : a < 256) : ∀ i,i ≤ 8 → prC i a b < 2 ^ 16
 | 0,_=>by simp [prC]
 | i + 1,hi=>by
  unfold prC
  have h1 : a <<< i < 2 ^ (8 + i):=KU h
  have h2 : 2 ^ (8 + i) ≤ 2 ^ 16:=Nat.pow_le_pow_right (by omega) (by omega)
  refine Nat.xor_lt_two_pow (ku a b h i (by omega)) ?_
  split
  ·omega
  ·omega
def Z9 (m : Nat) (a b : UInt8) : UInt8:=Zv ((YF m 8 8 (Hc 8 a.toNat b.toNat) : Nat) : Int)
theorem TI (m : Nat) (hm : m < 512) (a b : UInt8) : Yb (m : Int) a b = some (Z9 m a b):=by
 have ha : a.toNat < 256:=a.toNat_lt
 have hb : b.toNat < 256:=b.toNat_lt
 have h:=Z6 (f:=Xk a b) (fun i : Nat=>(((prC i a.toNat b.toNat : Nat) : Int),(i : Int))) 0 8 (Nat.zero_le _) (t:=((prC 8 a.toNat b.toNat : Nat) : Int)) (fun i _ hi=>by
  unfold Xk
  have c1 : ((i : Int) < 8):=by omega
  have c2 : XP (i : Int) = some ():=by unfold XP; rw [if_pos (by omega)]
  have c3 : prC i a.toNat b.toNat < 2 ^ 16:=ku _ _ ha i (by omega)
  have c4 : a.toNat <<< i < 2 ^ (8 + i):=KU ha
  have c5 : 2 ^ (8 + i) ≤ 2 ^ 16:=Nat.pow_le_pow_right (by omega) (by omega)
  have c6 : (((AT b (i : Int)) &&& 1) == 1) = b.toNat.testBit i:=by
   have e1 : (AT b (i : Int)).toNat = b.toNat >>> i:=by
    unfold AT Zv
    rw [show min ((i : Int)).toNat 8 = i by omega,Int.fdiv_eq_ediv_of_nonneg _ (by exact_mod_cast Nat.zero_le _)]
    have : ((b.toNat : Int) / 2 ^ i) = ((b.toNat >>> i : Nat) : Int):=by rw [Nat.shiftRight_eq_div_pow]; simp
    rw [this]
    have h3 : b.toNat >>> i ≤ b.toNat:=Nat.shiftRight_le _ _
    generalize b.toNat >>> i = q at h3 ⊢
    have h4 : (((q : Nat) : Int) % 256).toNat = q:=by omega
    rw [h4]
    simp
    omega
   rw [Bool.eq_iff_iff,beq_iff_eq,← yW,← UInt8.toNat_inj,UInt8.toNat_and,e1]
   simp
  simp only [c1,decide_true,if_true,c2,Option.bind_some,c6,Y8 (show i < 9223372036854775807 by omega)]
  rw [jk _ i (by omega) (by omega),KR _ _ (by omega) (by omega)]
  cases hbit : b.toNat.testBit i with
  | true=>simp [prC,hbit]
  | false=>simp [prC,hbit]) (by unfold Xk; simp)
 have h2 : ZB (Xk a b) (0,0) = _:=h
 unfold Yb
 rw [h2]
 simp only [Option.bind_some]
 have h3:=v_rest (prC 8 a.toNat b.toNat) m 8 (by omega) (ku _ _ ha 8 (by omega)) (by omega)
 have h4 : T0 ((prC 8 a.toNat b.toNat : Nat) : Int) (m : Int) 8 = _:=h3
 rw [h4,Zcl]
 rfl
theorem JX (m : Nat) (hm : m < 512) (hm2 : 256 ≤ m) (a b : UInt8) : YL (m : Int) a b = some (Z9 m a b):=by
 have ha : a.toNat < 256:=a.toNat_lt
 have hb : b.toNat < 256:=b.toNat_lt
 have h1 : 2 ^ 8 ≤ m:=hm2
 have h2 : m < 2 ^ (8 + 1):=hm
 have hR : ∀ i,i ≤ 8 → YF m 8 8 (a.toNat <<< i) < 256:=fun i hi=>Ht h1 h2 8 _ (by
  have:=KU (k:=i) (show a.toNat < 2 ^ 8 from ha)
  exact Nat.lt_of_lt_of_le this (Nat.pow_le_pow_right (by omega) (by omega)))
 have hdbl : ∀ i,i ≤ 7 → YF m 8 8 (a.toNat <<< (i + 1)) = if 256 ≤ (YF m 8 8 (a.toNat <<< i)) * 2 then (YF m 8 8 (a.toNat <<< i)) * 2 ^^^ m else (YF m 8 8 (a.toNat <<< i)) * 2:=by
  intro i hi
  have hx : a.toNat <<< i < 2 ^ (8 + 7):=Nat.lt_of_lt_of_le (KU (show a.toNat < 2 ^ 8 from ha)) (Nat.pow_le_pow_right (by omega) (by omega))
  have e : a.toNat <<< (i + 1) = (a.toNat <<< i) <<< 1:=by rw [← Nat.shiftLeft_add]
  rw [e,Ka m 8 7,← yc hx]
  have hlt:=hR i (by omega)
  generalize YF m 8 8 (a.toNat <<< i) = y at hlt ⊢
  have e2 : y <<< 1 = y * 2:=by rw [Nat.shiftLeft_eq]
  rw [e2]
  have e3 : (y * 2).testBit 8 = decide (256 ≤ y * 2):=by
   by_cases hy : 256 ≤ y * 2
   ·rw [qk (d:=8) hy (by omega)]; simp [hy]
   ·rw [Nat.testBit_lt_two_pow (by omega : y * 2 < 2 ^ 8)]; simp [hy]
  rw [e3]
  by_cases hy : 256 ≤ y * 2 <;> simp [hy]
 have key : ∀ (n i o r : Nat),i + n ≤ 8 → r < 2 ^ n → o < 256 → ZB (Y4 (m : Int)) ((o : Int),((YF m 8 8 (a.toNat <<< i) : Nat) : Int),(r : Int)) = some ((o ^^^ YF m 8 8 (Hc n (a.toNat <<< i) r) : Nat) : Int):=by
  intro n
  induction n with
  | zero =>
   intro i o r _ hr ho
   have : r = 0:=by simpa using hr
   subst this
   rw [X8 (t:=(o : Int))]
   ·rw [Bk,Tl 8 0 (by omega),Nat.xor_zero]
   ·unfold Y4; simp
  | succ n ih =>
   intro i o r hi hr ho
   by_cases h0 : r = 0
   ·subst h0
    rw [X8 (t:=(o : Int))]
    ·rw [Bk,Tl 8 0 (by omega),Nat.xor_zero]
    ·unfold Y4; simp
   ·have hy:=hR i (by omega)
    have hst : Y4 (m : Int) ((o : Int),((YF m 8 8 (a.toNat <<< i) : Nat) : Int),(r : Int)) = some (.nx (((o ^^^ YF m 8 8 (if r % 2 = 1 then a.toNat <<< i else 0) : Nat) : Int),((YF m 8 8 (a.toNat <<< (i + 1)) : Nat) : Int),((r / 2 : Nat) : Int))):=by
     rw [hdbl i (by omega)]
     unfold Y4
     have c1 : (r : Int) > 0:=by omega
     have hr2 : r < 512:=Nat.lt_of_lt_of_le hr (Nat.le_trans (Nat.pow_le_pow_right (by omega) (by omega : n + 1 ≤ 9)) (by omega))
     simp only [c1,decide_true,if_true,Zch,Zb8]
     have e1 : wr (((YF m 8 8 (a.toNat <<< i) : Nat) : Int) * 2) = (((YF m 8 8 (a.toNat <<< i)) * 2 : Nat) : Int):=by rw [YP (by omega)]; omega
     have e2 : wr ((r / 2 : Nat) : Int) = ((r / 2 : Nat) : Int):=qx _ (by omega)
     rw [e1,e2,KR _ _ (by omega) (by omega),KR _ _ (by omega) (by omega)]
     have e3 : ((((r % 2 : Nat) : Int)) == 1) = decide (r % 2 = 1):=by
      rw [Bool.eq_iff_iff,beq_iff_eq,decide_eq_true_eq]; omega
     rw [e3]
     have e4 : decide ((((YF m 8 8 (a.toNat <<< i)) * 2 : Nat) : Int) ≥ 256) = decide (256 ≤ (YF m 8 8 (a.toNat <<< i)) * 2):=by rw [decide_eq_decide]; omega
     rw [e4]
     have e5 : YF m 8 8 0 = 0:=Tl 8 0 (by omega)
     by_cases c2 : r % 2 = 1 <;> by_cases c3 : 256 ≤ (YF m 8 8 (a.toNat <<< i)) * 2 <;> simp only [c2,c3,decide_true,decide_false,Bool.false_eq_true,if_true,if_false,Option.bind_some,e5,Nat.xor_zero]
    rw [Wl hst,ih (i + 1) _ (r / 2) (by omega) (by rw [Nat.pow_succ] at hr; omega) ?_]
    ·conv=>rhs; unfold Hc
     rw [QR,Nat.xor_assoc,Nat.shiftLeft_add]
    ·refine Nat.xor_lt_two_pow (n:=8) ho ?_
     split
     ·exact hR i (by omega)
     ·rw [Tl 8 0 (by omega)]; omega
 have:=key 8 0 0 b.toNat (by omega) hb (by omega)
 rw [Nat.shiftLeft_zero,Tl 8 a.toNat ha,Nat.zero_xor] at this
 have h3 : ZB (Y4 (m : Int)) (0,bI a,bI b) = _:=this
 unfold YL
 rw [h3]
 rfl

def B1 (m : Nat) : Nat → UInt8 → Nat → UInt8 → UInt8
 | 0,_,_,o=>o
 | f + 1,a,k,o=>if k = 0 then o else B1 m f (Z9 m a a) (k / 2) (if k % 2 = 1 then Z9 m o a else o)
theorem jI (m : Nat) (L : UInt8 × Int × UInt8 → Option (Fl (UInt8 × Int × UInt8) UInt8)) (T : UInt8 → UInt8 → Option UInt8) (hT : ∀ a b,T a b = some (Z9 m a b))
  (hL : ∀ s,L s = if (decide (s.2.1 > 0)) = true then (((if ((Int.tmod s.2.1 2) == 1) = true then ((T s.2.2 s.1).bind fun r=>some r) else (some s.2.2) : Option UInt8).bind fun j12=>(T s.1 s.1).bind fun r20=>some (r20,j12) : Option (UInt8 × UInt8)).bind fun j9=>some (Fl.nx (j9.1,wr (Int.tdiv s.2.1 2),j9.2))) else (some (Fl.ex s.2.2))) :
  ∀ (f k : Nat) (a o : UInt8),k < 2 ^ f → f ≤ 62 → ZB L (a,(k : Int),o) = some (B1 m f a k o):=by
 intro f
 induction f with
 | zero =>
  intro k a o hk _
  have : k = 0:=by simpa using hk
  subst this
  exact X8 (by rw [hL]; simp [B1])
 | succ f ih =>
  intro k a o hk hf
  by_cases h0 : k = 0
  ·subst h0
   exact X8 (by rw [hL]; simp [B1])
  ·have hlt : k < 9223372036854775808:=Nat.lt_of_lt_of_le hk (Nat.pow_le_pow_right (by omega : 0 < 2) (by omega : f + 1 ≤ 63))
   have hst : L (a,(k : Int),o) = some (.nx (Z9 m a a,((k / 2 : Nat) : Int),if k % 2 = 1 then Z9 m o a else o)):=by
    rw [hL]
    have c1 : (k : Int) > 0:=by omega
    have e3 : ((((k % 2 : Nat) : Int)) == 1) = decide (k % 2 = 1):=by
     rw [Bool.eq_iff_iff,beq_iff_eq,decide_eq_true_eq]; omega
    simp only [c1,decide_true,if_true,Zch,Zb8,hT,e3,Option.bind_some,qx (k / 2) (by omega)]
    by_cases c2 : k % 2 = 1 <;> simp [c2]
   rw [Wl hst,ih (k / 2) _ _ (by rw [Nat.pow_succ] at hk; omega) (by omega)]
   conv=>rhs; unfold B1
   rw [if_neg h0]
theorem zL (m : Nat) (hm : m < 512) (a : UInt8) (k f : Nat) (hk : k < 2 ^ f) (hf : f ≤ 62) : XE (m : Int) a (k : Int) = some (B1 m f a k 1):=by
 unfold XE
 rw [jI m (VE (m : Int)) _ (TI m hm) (fun s=>by unfold VE; rfl) f k a 1 hk hf]; rfl
theorem kA (m : Nat) (hm : m < 512) (hm2 : 256 ≤ m) (a : UInt8) (k f : Nat) (hk : k < 2 ^ f) (hf : f ≤ 62) : W7 (m : Int) a (k : Int) = some (B1 m f a k 1):=by
 unfold W7
 rw [jI m (Tu (m : Int)) _ (JX m hm hm2) (fun s=>by unfold Tu; rfl) f k a 1 hk hf]; rfl
def QW (m : Nat) (a : UInt8) : UInt8:=B1 m 8 a 254 1
theorem KK (m : Nat) (hm : m < 512) (a : UInt8) : Yh (m : Int) a = some (QW m a):=by
 unfold Yh
 have:=zL m hm a 254 8 (by omega) (by omega)
 have h2 : XE (m : Int) a 254 = _:=this
 rw [h2]; rfl
theorem Zcn (m : Nat) (hm : m < 512) (hm2 : 256 ≤ m) (a : UInt8) : Vx (m : Int) a = some (QW m a):=by
 unfold Vx
 have:=kA m hm hm2 a 254 8 (by omega) (by omega)
 have h2 : W7 (m : Int) a 254 = _:=this
 rw [h2]; rfl

def redB (m d : Nat) : Bool:=YF d (lenN d - 1) (16 - (lenN d - 1)) m == 0
def HK (m : Int) : Bool:=decide (256 ≤ m ∧ m ≤ 511) && !((List.range' 2 30).any (redB m.toNat))
theorem jJ {m : Int} (h : HK m = true) : ∃ n : Nat,m = n ∧ 256 ≤ n ∧ n < 512:=by
 unfold HK at h
 simp only [Bool.and_eq_true,decide_eq_true_eq] at h
 exact ⟨m.toNat,by omega,by omega,by omega⟩
def Zcc (l : List UInt8) : Bool:=decide l.Nodup
def dbl (m y : Nat) : Nat:=if (y <<< 1).testBit 8 then (y <<< 1) ^^^ m else y <<< 1
theorem jB (a b c d : Nat) : (a ^^^ b) ^^^ (c ^^^ d) = (a ^^^ c) ^^^ (b ^^^ d):=by
 rw [Nat.xor_assoc,Nat.xor_assoc,← Nat.xor_assoc b,← Nat.xor_assoc c,Nat.xor_comm b c]
theorem qD (m x y : Nat) : dbl m (x ^^^ y) = dbl m x ^^^ dbl m y:=by
 unfold dbl
 rw [Nat.shiftLeft_xor_distrib,Nat.testBit_xor]
 cases (x <<< 1).testBit 8 <;> cases (y <<< 1).testBit 8 <;> simp only [Bool.xor_false,Bool.false_xor,Bool.xor_self,Bool.xor_true,Bool.not_false,Bool.not_true,Bool.false_eq_true,if_true,if_false]
 ·rw [Nat.xor_assoc]
 ·rw [Nat.xor_assoc,Nat.xor_assoc,Nat.xor_comm m]
 ·rw [jB,Nat.xor_self,Nat.xor_zero]
theorem AU (m : Nat) : dbl m 0 = 0:=by simp [dbl]
def opP (m : Nat) : Nat → Nat → Nat → Nat
 | 0,_,_=>0
 | n + 1,b,x=>(if b % 2 = 1 then x else 0) ^^^ opP m n (b / 2) (dbl m x)
theorem jL (m n b x : Nat) : opP m (n + 1) b x = (if b % 2 = 1 then x else 0) ^^^ opP m n (b / 2) (dbl m x):=rfl
theorem y6 (m : Nat) : ∀ (n b x y : Nat),opP m n b (x ^^^ y) = opP m n b x ^^^ opP m n b y
 | 0,_,_,_=>by simp [opP]
 | n + 1,b,x,y=>by
  unfold opP
  rw [qD,y6 m n,jB]
  congr 1
  split <;> simp
theorem Hw (m : Nat) : ∀ (n b : Nat),opP m n b 0 = 0
 | 0,_=>rfl
 | n + 1,b=>by unfold opP; rw [AU,Hw m n]; simp
theorem qF (m : Nat) : ∀ (n b x : Nat),opP m n b (dbl m x) = dbl m (opP m n b x)
 | 0,_,_=>(AU m).symm
 | n + 1,b,x=>by
  unfold opP
  rw [qF m n,qD]
  congr 1
  split
  ·rfl
  ·exact (AU m).symm
theorem jS (m : Nat) : ∀ (n b k c x : Nat),opP m n b (opP m k c x) = opP m k c (opP m n b x)
 | 0,_,k,c,_=>(Hw m k c).symm
 | n + 1,b,k,c,x=>by
  rw [jL,jL,← qF,jS m n,y6]
  congr 1
  split
  ·rfl
  ·exact (Hw m k c).symm
theorem Za1 (a : Nat) : (if a % 2 = 1 then 1 else 0) ^^^ (a / 2) <<< 1 = a:=by
 rw [Nat.shiftLeft_eq]
 have h : (if a % 2 = 1 then 1 else 0) = a % 2:=by split <;> omega
 rw [h]
 apply Nat.eq_of_testBit_eq
 intro i
 rw [Nat.testBit_xor]
 cases i with
 | zero =>
  simp [Nat.testBit_zero]
 | succ i =>
  rw [Nat.testBit_succ,Nat.testBit_succ,Nat.testBit_succ]
  have h1 : a % 2 / 2 = 0:=by omega
  have h2 : a / 2 * 2 ^ 1 / 2 = a / 2:=by omega
  rw [h1,h2]; simp
theorem Zdd (m i : Nat) (hi : i < 7) : dbl m (1 <<< i) = 1 <<< (i + 1):=by
 unfold dbl
 rw [← Nat.shiftLeft_add]
 have : (1 <<< (i + 1)).testBit 8 = false:=by
  apply Nat.testBit_lt_two_pow
  rw [Nat.shiftLeft_eq,Nat.one_mul]
  exact Nat.pow_lt_pow_right (by omega) (by omega)
 rw [this]; rfl
theorem y5 (m : Nat) : ∀ (n i a : Nat), n + i ≤ 8 → a < 2 ^ n → opP m n a (1 <<< i) = a <<< i
  | 0, i, a, _, ha => by
    have : a = 0 := by simpa using ha
    subst this; simp [opP]
  | n + 1, i, a, hn, ha => by
    have e : a <<< i = (if a % 2 = 1 then 1 <<< i else 0) ^^^ (a / 2) <<< (i + 1) := by
      conv => lhs; rw [← Za1 a]
      rw [Nat.shiftLeft_xor_distrib, ← Nat.shiftLeft_add, Nat.add_comm 1 i]
      congr 1
      split <;> simp
    unfold opP
    rw [e]
    congr 1
    rcases Nat.eq_zero_or_pos n with rfl | hp
    · have : a / 2 = 0 := by have : a < 2 := by simpa using ha
                             omega
      rw [this]; simp [opP]
    · rw [Zdd m i (by omega)]
      exact y5 m n (i + 1) (a / 2) (by omega) (by rw [Nat.pow_succ] at ha; omega)

theorem qX (m x : Nat) (hx : x < 2 ^ 15) : YF m 8 8 (x <<< 1) = dbl m (YF m 8 8 x):=by
 rw [Ka m 8 7,← yc (d:=8) (k:=7) hx]; rfl
theorem Zb2 (m : Nat) : ∀ (n i a b : Nat),i + n ≤ 8 → a < 2 ^ 8 → YF m 8 8 (Hc n (a <<< i) b) = opP m n b (YF m 8 8 (a <<< i))
 | 0,_,_,_,_,_=>by simp [Hc,opP,Tl 8 0]
 | n + 1,i,a,b,hn,ha=>by
  unfold Hc opP
  rw [QR]
  have hx : a <<< i < 2 ^ 15:=Nat.lt_of_lt_of_le (KU ha) (Nat.pow_le_pow_right (by omega) (by omega))
  rw [← qX m _ hx,← Nat.shiftLeft_add,Zb2 m n (i + 1) a (b / 2) (by omega) ha]
  congr 1
  split
  ·rfl
  ·exact Tl 8 0 (by omega)
theorem QV (m : Nat) (h1 : 256 ≤ m) (h2 : m < 512) (a b : UInt8) : (Z9 m a b).toNat = opP m 8 b.toNat a.toNat:=by
 have ha : a.toNat < 2 ^ 8:=a.toNat_lt
 have hr : YF m 8 8 (Hc 8 a.toNat b.toNat) < 256:=Ht (d:=8) h1 h2 8 _ (qi 8 a.toNat b.toNat 8 ha)
 have e:=Zb2 m 8 0 a.toNat b.toNat (by omega) ha
 rw [Nat.shiftLeft_zero,Tl 8 _ ha] at e
 unfold Z9 Zv
 rw [e] at hr ⊢
 generalize opP m 8 b.toNat a.toNat = q at hr ⊢
 have : (((q : Nat) : Int) % 256).toNat = q:=by omega
 rw [this]
 simp
 omega
section
variable {m : Nat} (h1 : 256 ≤ m) (h2 : m < 512)
include h1 h2
theorem KG (a b : UInt8) : Z9 m a b = Z9 m b a:=by
 apply UInt8.toNat_inj.1
 rw [QV m h1 h2,QV m h1 h2]
 have ea:=y5 m 8 0 a.toNat (by omega) a.toNat_lt
 have eb:=y5 m 8 0 b.toNat (by omega) b.toNat_lt
 simp only [Nat.shiftLeft_zero] at ea eb
 rw [← ea,jS,eb,ea]
theorem qW (a b c : UInt8) : Z9 m (a ^^^ b) c = Z9 m a c ^^^ Z9 m b c:=by
 apply UInt8.toNat_inj.1
 rw [UInt8.toNat_xor,QV m h1 h2,QV m h1 h2,QV m h1 h2,UInt8.toNat_xor,y6]
theorem qg (a b c : UInt8) : Z9 m a (b ^^^ c) = Z9 m a b ^^^ Z9 m a c:=by
 rw [KG h1 h2,qW h1 h2,KG h1 h2 b,KG h1 h2 c]
theorem JG (a : UInt8) : Z9 m 0 a = 0:=by
 apply UInt8.toNat_inj.1
 rw [QV m h1 h2]
 exact Hw m 8 _
end
def vf {α : Type} (n : Nat) (f : Nat → α) : Vector α n:=Vector.ofFn fun i=>f i.1
theorem KD {α : Type} {n i : Nat} (f : Nat → α) (h : i < n) : (vf n f)[i] = f i:=by simp [vf]
theorem Hs {α : Type} {n i : Nat} (f : Nat → α) (h : i < n) : (vf n f)[i]? = some (f i):=by rw [Vector.getElem?_eq_getElem h,KD f h]
theorem ZO {α : Type} {n i : Nat} (f : Nat → α) (h : i < n) : ZH (vf n f) (i : Int) = some (f i):=by rw [W0,Hs f h]
theorem Y2 {α : Type} {n : Nat} {f g : Nat → α} (h : ∀ i,i < n → f i = g i) : vf n f = vf n g:=by
 apply TS
 intro i hi
 rw [KD f hi,KD g hi,h i hi]
theorem T9 {α : Type} {n : Nat} (f : Nat → α) (k : Nat) (x : α) : (vf n f).setIfInBounds k x = vf n (fun i=>if i = k then x else f i):=by
 apply TS
 intro i hi
 rw [Vector.getElem_setIfInBounds,KD _ hi,KD _ hi]
 by_cases h : k = i
 ·subst h; simp
 ·rw [if_neg h,if_neg (fun e=>h e.symm)]
theorem TV {α : Type} (n : Nat) (x : α) : Vector.replicate n x = vf n (fun _=>x):=by
 apply TS
 intro i hi
 rw [KD _ hi]; simp
theorem qK {α : Type} [Inhabited α] {n : Nat} (v : Vector α n) : v = vf n (fun i=>v[i]?.getD default):=by
 apply TS
 intro i hi
 rw [KD _ hi,Vector.getElem?_eq_getElem hi]; rfl
abbrev Mat:=Vector (Vector UInt8 4) 4
def mf (f : Nat → Nat → UInt8) : Mat:=vf 4 fun i=>vf 4 (f i)
theorem WT {f g : Nat → Nat → UInt8} (h : ∀ i,i < 4 → ∀ j,j < 4 → f i j = g i j) : mf f = mf g:=Y2 fun i hi=>Y2 fun j hj=>h i hi j hj
theorem Tr {i : Nat} (f : Nat → Nat → UInt8) (h : i < 4) : ZH (mf f) (i : Int) = some (vf 4 (f i)):=ZO _ h
theorem JM (f : Nat → Nat → UInt8) (k : Nat) (g : Nat → UInt8) : (mf f).setIfInBounds k (vf 4 g) = mf (fun i j=>if i = k then g j else f i j):=by
 unfold mf
 rw [T9]
 apply Y2
 intro i hi
 by_cases h : i = k
 ·simp [h]
 ·simp [h]
theorem yH : Vector.replicate 4 (Vector.replicate 4 (0 : UInt8)) = mf (fun _ _=>0):=by rw [TV 4 (0 : UInt8),TV]; rfl
theorem lt4 {i : Nat} (h : i < 4) : decide ((i : Int) < 4) = true:=by simp; omega
theorem lt4' {i : Nat} (h : ¬ i < 4) : decide ((i : Int) < 4) = false:=by simp; omega
theorem wr4 {i : Nat} (h : i < 1000) : wr ((i : Int) + 1) = ((i + 1 : Nat) : Int):=Y8 (by omega)

def Hp (i j : Nat) : UInt8:=if i = j then 1 else 0
theorem Zat (L : Mat × Int → Option (Fl (Mat × Int) Mat))
  (hL : ∀ s8,L s8 = if (decide (s8.2 < 4)) = true then ((ZH s8.1 s8.2).bind fun (x14 : (Vector UInt8 4))=>(ZH x14 s8.2).bind fun (x17 : UInt8)=>some (Fl.nx ((s8.1.setIfInBounds (s8.2).toNat (x14.setIfInBounds (s8.2).toNat 1)),wr (s8.2 + 1)))) else (some (Fl.ex s8.1))) :
  ZB L (Vector.replicate 4 (Vector.replicate 4 (0 : UInt8)),0) = some (mf Hp):=by
 have:=Z6 (f:=L) (fun i : Nat=>(mf fun r c=>if r < i then Hp r c else 0,(i : Int))) 0 4 (by omega) (t:=mf Hp) (fun i _ hi=>by
  rw [hL]
  simp only [lt4 hi,if_true,Tr _ hi,ZO _ hi,Option.bind_some,Int.toNat_natCast,T9,JM,wr4 (show i < 1000 by omega)]
  congr 3
  apply WT
  intro r hr c hc
  by_cases h1 : r = i
  ·subst h1; simp [Hp,eq_comm]
  ·simp only [h1,if_false]
   by_cases h2 : r < i
   ·rw [if_pos h2,if_pos (by omega)]
   ·rw [if_neg h2,if_neg (by omega)]) (by
  rw [hL]
  simp only [lt4' (show ¬ 4 < 4 by omega),Bool.false_eq_true,if_false]
  exact congrArg (fun z=>some (Fl.ex z)) (WT fun r hr c hc=>by rw [if_pos hr]))
 rw [yH]
 simpa using this
theorem Ho : Vp = some (mf Hp):=by
 unfold Vp
 rw [Zat TW fun s=>rfl]; rfl

abbrev MF:=Nat → Nat → UInt8
def Jy (f : MF) (k : Nat) : Nat:=((List.range' k (4 - k)).find? fun i=>!(f i k == 0)).getD 4
def Zbg (f : MF) (i k : Nat) : MF:=fun r c=>if r = k then f i c else if r = i then f k c else f r c
def jd (m : Nat) (f : MF) (k : Nat) (by_ : UInt8) : MF:=fun r c=>if r = k then Z9 m (f k c) by_ else f r c
def UX (m : Nat) (f g : MF) (k : Nat) : MF:=fun r c=>if r = k then g r c else g r c ^^^ Z9 m (f r k) (g k c)
structure Red where
 a : MF
 b : MF
 det : UInt8
def HI (m : Nat) (s : Red) (k : Nat) : Option Red :=
 let i:=Jy s.a k
 if i = 4 then none else
  let f:=Zbg s.a i k
  let g:=Zbg s.b i k
  let q:=QW m (f k k)
  let f2:=jd m f k q
  let g2:=jd m g k q
  some ⟨UX m f2 f2 k,UX m f2 g2 k,Z9 m s.det (f k k)⟩
def HU (m : Nat) : Nat → Nat → Red → Option Red
 | 0,_,s=>some s
 | n + 1,k,s=>(HI m s k).bind (HU m n (k + 1))
def Al (m : Nat) (a : MF) : UInt8 × Mat:=match HU m 4 0 ⟨a,Hp,1⟩ with
 | some s=>(s.det,mf s.b)
 | none=>(0,mf fun _ _=>0)
theorem kQ (L : Int → Option (Fl Int Int)) (f : MF) (k : Nat) (hk : k < 4)
  (hL : ∀ s,L s = (if (decide (s < 4)) = true then ((ZH (mf f) s).bind fun (x30 : (Vector UInt8 4))=>(ZH x30 (k : Int)).bind fun (x33 : UInt8)=>some (x33 == 0)) else (some false) : Option (Bool)).bind fun (j25 : Bool)=>if j25 = true then (some (Fl.nx (wr (s + 1)))) else (some (Fl.ex s))) :
  ZB L (k : Int) = some ((Jy f k : Nat) : Int):=by
 have:=Ks (f:=L) (fun i : Nat=>(i : Int)) (fun i=>!(f i k == 0)) (fun i=>(i : Int)) (e:=(4 : Int)) 4 (4 - k) k (by omega) (fun i _ hi=>by
  rw [hL]
  simp only [lt4 hi,if_true,Tr _ hi,ZO _ hk,Option.bind_some]
  cases h : (f i k == 0)
  ·simp
  ·simp [wr4 (show i < 1000 by omega)]) (by rw [hL]; simp)
 rw [this]
 unfold Jy
 cases (List.range' k (4 - k)).find? fun i=>!(f i k == 0) <;> rfl
theorem Zbo {f : MF} {k : Nat} (h : Jy f k ≠ 4) : Jy f k < 4:=by
 unfold Jy at h ⊢
 cases hf : (List.range' k (4 - k)).find? fun i=>!(f i k == 0) with
 | none=>rw [hf] at h; exact absurd rfl h
 | some i =>
  have:=List.mem_range'_1.1 (List.mem_of_find?_eq_some hf)
  simp only [Option.getD_some]
  omega
theorem ya (L : Mat × Mat × Int → Option (Fl (Mat × Mat × Int) (Mat × Mat))) (f g : MF) (k : Nat) (hk : k < 4) (p q : Nat → UInt8)
  (hL : ∀ c,c < 4 → ∀ a b : MF,(∀ r,r ≠ k → a r = f r) → (∀ r,r ≠ k → b r = g r) → a k c = f k c → b k c = g k c → L (mf a,mf b,(c : Int)) = some (Fl.nx ((mf a).setIfInBounds k ((vf 4 (a k)).setIfInBounds c (p c)),(mf b).setIfInBounds k ((vf 4 (b k)).setIfInBounds c (q c)),wr ((c : Int) + 1))))
  (he : ∀ a b : Mat,L (a,b,4) = some (Fl.ex (a,b))) :
  ZB L (mf f,mf g,0) = some (mf (fun r c=>if r = k then p c else f r c),mf (fun r c=>if r = k then q c else g r c)):=by
 have k1 : (mf fun r c=>if r = k then (if c < 4 then p c else f k c) else f r c) = mf fun r c=>if r = k then p c else f r c:=WT fun r _ c hc=>by rw [if_pos hc]
 have k2 : (mf fun r c=>if r = k then (if c < 4 then q c else g k c) else g r c) = mf fun r c=>if r = k then q c else g r c:=WT fun r _ c hc=>by rw [if_pos hc]
 have:=Z6 (f:=L) (fun i : Nat=>(mf fun r c=>if r = k then (if c < i then p c else f k c) else f r c,mf fun r c=>if r = k then (if c < i then q c else g k c) else g r c,(i : Int))) 0 4 (by omega)
  (t:=(mf (fun r c=>if r = k then p c else f r c),mf (fun r c=>if r = k then q c else g r c))) (fun i _ hi=>by
  rw [hL i hi _ _ (fun r hr=>by funext c; rw [if_neg hr]) (fun r hr=>by funext c; rw [if_neg hr]) (by simp) (by simp)]
  simp only [T9,JM,wr4 (show i < 1000 by omega)]
  congr 3
  ·apply WT
   intro r hr c hc
   by_cases h : r = k
   ·simp only [h,if_true]
    by_cases h2 : c = i
    ·subst h2; simp
    ·by_cases h3 : c < i
     ·rw [if_neg h2,if_pos h3,if_pos (by omega)]
     ·rw [if_neg h2,if_neg h3,if_neg (by omega)]
   ·simp only [h,if_false]
  ·congr 1
   apply WT
   intro r hr c hc
   by_cases h : r = k
   ·simp only [h,if_true]
    by_cases h2 : c = i
    ·subst h2; simp
    ·by_cases h3 : c < i
     ·rw [if_neg h2,if_pos h3,if_pos (by omega)]
     ·rw [if_neg h2,if_neg h3,if_neg (by omega)]
   ·simp only [h,if_false]) (by
  simp only [k1,k2]
  exact he _ _)
 have e1 : mf (fun r c=>if r = k then (if c < 0 then p c else f k c) else f r c) = mf f:=WT fun r hr c hc=>by
  by_cases h : r = k
  ·subst h; simp
  ·simp [h]
 have e2 : mf (fun r c=>if r = k then (if c < 0 then q c else g k c) else g r c) = mf g:=WT fun r hr c hc=>by
  by_cases h : r = k
  ·subst h; simp
  ·simp [h]
 simp only [e1,e2] at this
 exact this
theorem jC {S : Type} (m : Nat) (L : S → Option (Fl S (Fl (Mat × UInt8) (UInt8 × Mat)))) (pk : Red → Nat → S)
  (hstep : ∀ k,k < 4 → ∀ s,L (pk s k) = some (match HI m s k with | none=>.ex (.ex (0,mf fun _ _=>0)) | some s'=>.nx (pk s' (k + 1))))
  (hend : ∀ s,L (pk s 4) = some (.ex (.nx (mf s.b,s.det)))) : ∀ (n k : Nat) (s : Red),k + n = 4 → ZB L (pk s k) = some (match HU m n k s with | some s'=>.nx (mf s'.b,s'.det) | none=>.ex (0,mf fun _ _=>0))
 | 0,k,s,h=>by
  have : k = 4:=by omega
  subst this
  rw [X8 (hend s)]; rfl
 | n + 1,k,s,h=>by
  have h1:=hstep k (by omega) s
  unfold HU
  cases hr : HI m s k with
  | none=>rw [hr] at h1; rw [X8 h1]; rfl
  | some s'=>rw [hr] at h1; rw [Wl h1]; exact jC m L pk hstep hend n (k + 1) s' (by omega)
theorem Zc7 {i k : Nat} : (((i : Int)) != ((k : Nat) : Int)) = decide (i ≠ k):=by
 by_cases h : i = k
 ·subst h; simp
 ·have : (i : Int) ≠ (k : Int):=by omega
  simp [h,this]
theorem Zab (m : Nat) (L : Mat × Mat × Int → Option (Fl (Mat × Mat × Int) (Mat × Mat))) (f g : MF) (k : Nat)
  (hL : ∀ i,i < 4 → ∀ a b : MF,(a i = f i) → (b i = g i) → (a k = f k) → (b k = g k) → L (mf a,mf b,(i : Int)) = some (Fl.nx (mf (fun r c=>if r = i then UX m f f k r c else a r c),mf (fun r c=>if r = i then UX m f g k r c else b r c),wr ((i : Int) + 1))))
  (he : ∀ a b : Mat,L (a,b,4) = some (Fl.ex (a,b))) : ZB L (mf f,mf g,0) = some (mf (UX m f f k),mf (UX m f g k)):=by
 have ek : ∀ h : MF,UX m f h k k = h k:=fun h=>by funext c; simp [UX]
 have k1 : (mf fun r c=>if r < 4 then UX m f f k r c else f r c) = mf (UX m f f k):=WT fun r hr c _=>by rw [if_pos hr]
 have k2 : (mf fun r c=>if r < 4 then UX m f g k r c else g r c) = mf (UX m f g k):=WT fun r hr c _=>by rw [if_pos hr]
 have:=Z6 (f:=L) (fun i : Nat=>(mf fun r c=>if r < i then UX m f f k r c else f r c,mf fun r c=>if r < i then UX m f g k r c else g r c,(i : Int))) 0 4 (by omega)
  (t:=(mf (UX m f f k),mf (UX m f g k))) (fun i _ hi=>by
  rw [hL i hi _ _ (by funext c; simp) (by funext c; simp) (by funext c; by_cases h : k < i <;> simp [h,ek]) (by funext c; by_cases h : k < i <;> simp [h,ek])]
  rw [wr4 (show i < 1000 by omega)]
  have e : ∀ (x y : MF),(mf fun r c=>if r = i then x r c else if r < i then x r c else y r c) = mf fun r c=>if r < i + 1 then x r c else y r c:=fun x y=>WT fun r _ c _=>by
   by_cases h1 : r = i
   ·subst h1; simp
   ·by_cases h2 : r < i
    ·rw [if_neg h1,if_pos h2,if_pos (by omega)]
    ·rw [if_neg h1,if_neg h2,if_neg (by omega)]
  rw [e,e]) (by
  simp only [k1,k2]
  exact he _ _)
 simpa using this

theorem Zc1 (f : MF) {i k : Nat} : ((mf f).setIfInBounds i (vf 4 (f k))).setIfInBounds k (vf 4 (f i)) = mf (Zbg f i k):=by
 rw [JM,JM]; rfl
section
variable (m : Nat) (hm : m < 512) (hm2 : 256 ≤ m)
include hm
theorem kZ (A B : Mat) (det : UInt8) (q : UInt8) (f g : MF) (k : Nat) (hk : k < 4) : ZB (XK (m : Int) (A,B,(k : Int),det) q) (mf f,mf g,0) = some (mf (jd m f k q),mf (jd m g k q)):=by
 refine ya _ f g k hk (fun c=>Z9 m (f k c) q) (fun c=>Z9 m (g k c) q) (fun c hc a b _ _ ha hb=>?_) (fun a b=>?_)
 ·unfold XK
  simp only [lt4 hc,if_true,Tr _ hk,ZO _ hc,Option.bind_some,TI m hm,ha,hb,Int.toNat_natCast]
 ·unfold XK; simp
theorem Zck (A B : Mat) (det : UInt8) (s1 : Mat × Mat × Int) (x : UInt8) (f g : MF) (k i : Nat) (hk : k < 4) (hi : i < 4) (hik : i ≠ k) (hs : s1.2.2 = (i : Int)) :
  ZB (XR (m : Int) (A,B,(k : Int),det) s1 x) (mf f,mf g,0) = some (mf (fun r c=>if r = i then f i c ^^^ Z9 m x (f k c) else f r c),mf (fun r c=>if r = i then g i c ^^^ Z9 m x (g k c) else g r c)):=by
 refine ya _ f g i hi (fun c=>f i c ^^^ Z9 m x (f k c)) (fun c=>g i c ^^^ Z9 m x (g k c)) (fun c hc a b ha' hb' ha hb=>?_) (fun a b=>?_)
 ·unfold XR
  have e1:=ha' k (Ne.symm hik)
  have e2:=hb' k (Ne.symm hik)
  simp only [hs,lt4 hc,if_true,Tr _ hk,Tr _ hi,ZO _ hc,Option.bind_some,TI m hm,ha,hb,e1,e2,Int.toNat_natCast]
 ·unfold XR; simp
include hm2
theorem Zas (A B : Mat) (det : UInt8) (f g : MF) (k : Nat) (hk : k < 4) : ZB (XL (m : Int) (A,B,(k : Int),det)) (mf f,mf g,0) = some (mf (UX m f f k),mf (UX m f g k)):=by
 refine Zab m _ f g k (fun i hi a b hai hbi hak hbk=>?_) (fun a b=>by unfold XL; simp)
 unfold XL
 have hfi : a i k = f i k:=by rw [hai]
 simp only [lt4 hi,if_true,Tr _ hi,ZO _ hk,Option.bind_some,Zc7,hfi]
 by_cases h : i = k
 ·subst h
  simp only [ne_eq,not_true_eq_false,decide_false,Bool.false_eq_true,if_false,Option.bind_some]
  congr 3
  ·exact WT fun r _ c _=>by
    by_cases h : r = i
    ·subst h; simp [UX,hai]
    ·simp [h]
  ·congr 1
   exact WT fun r _ c _=>by
    by_cases h : r = i
    ·subst h; simp [UX,hbi]
    ·simp [h]
 ·have hd : decide (i ≠ k) = true:=by simpa using h
  simp only [hd,if_true,Option.bind_some]
  by_cases h0 : f i k = 0
  ·simp only [h0,bne_self_eq_false,Bool.false_eq_true,if_false,Option.bind_some]
   congr 3
   ·exact WT fun r _ c _=>by
     by_cases h2 : r = i
     ·subst h2; simp [UX,hai,h,h0,JG hm2 hm]
     ·simp [h2]
   ·congr 1
    exact WT fun r _ c _=>by
     by_cases h2 : r = i
     ·subst h2; simp [UX,hbi,h,h0,JG hm2 hm]
     ·simp [h2]
  ·have hb0 : (f i k != 0) = true:=by simpa using h0
   simp only [hb0,if_true,Option.bind_some]
   rw [Zck m hm A B det _ _ a b k i hk hi h rfl]
   simp only [Option.bind_some]
   congr 3
   ·exact WT fun r _ c _=>by
     by_cases h2 : r = i
     ·subst h2; simp [UX,hai,hak,h]
     ·simp [h2]
   ·congr 1
    exact WT fun r _ c _=>by
     by_cases h2 : r = i
     ·subst h2; simp [UX,hbi,hbk,h]
     ·simp [h2]
theorem qY (k : Nat) (hk : k < 4) (s : Red) : YJ (m : Int) (mf s.a,mf s.b,(k : Int),s.det) = some (match HI m s k with | none=>.ex (.ex (0,mf fun _ _=>0)) | some s'=>.nx (mf s'.a,mf s'.b,((k + 1 : Nat) : Int),s'.det)):=by
 unfold YJ
 have hp:=kQ (U2 (mf s.a,mf s.b,(k : Int),s.det)) s.a k hk (fun x=>rfl)
 simp only [lt4 hk,if_true,hp,Option.bind_some]
 unfold HI
 by_cases h4 : Jy s.a k = 4
 ·have : ((4 : Nat) : Int) = 4:=rfl
  simp only [h4,this,beq_self_eq_true,if_true,yH]
 ·have hi:=Zbo h4
  have h5 : (((Jy s.a k : Nat) : Int) == 4) = false:=by
   have : ((Jy s.a k : Nat) : Int) ≠ 4:=by omega
   simpa using this
  generalize hpi : Jy s.a k = i at *
  simp only [h4,h5,Bool.false_eq_true,if_false]
  have x1 : ZH ((mf s.a).setIfInBounds i (vf 4 (s.a k))) (k : Int) = some (vf 4 (fun c=>if k = i then s.a k c else s.a k c)):=by rw [JM]; exact Tr _ hk
  have x2 : ZH ((mf s.b).setIfInBounds i (vf 4 (s.b k))) (k : Int) = some (vf 4 (fun c=>if k = i then s.b k c else s.b k c)):=by rw [JM]; exact Tr _ hk
  simp only [Tr _ hk,Tr _ hi,Option.bind_some,Int.toNat_natCast,x1,x2,Zc1,ZO _ hk,TI m hm,KK m hm,kZ m hm _ _ _ _ _ _ k hk,Zas m hm hm2 _ _ _ _ _ k hk,wr4 (show k < 1000 by omega)]
theorem AY (f : MF) : Xo (m : Int) (mf f) = some (Al m f):=by
 unfold Xo
 have h:=jC m (YJ (m : Int)) (fun s k=>(mf s.a,mf s.b,(k : Int),s.det)) (qY m hm hm2) (fun s=>by unfold YJ; simp) 4 0 ⟨f,Hp,1⟩ rfl
 have h2 : ZB (YJ (m : Int)) (mf f,mf Hp,0,1) = _:=h
 rw [Ho,Option.bind_some,h2]
 unfold Al
 cases HU m 4 0 ⟨f,Hp,1⟩ <;> rfl
end
theorem z4 {n i : Nat} (v : Vector UInt8 n) (h : i < n) : ZH v (i : Int) = some (v.toList.getD i 0):=by
 rw [W0,Vector.getElem?_eq_getElem h]
 simp [List.getD_eq_getElem?_getD,h]
theorem kd (x : UInt8) : (bI x).toNat = x.toNat:=rfl
def QN (p : Vector UInt8 16) : Bool:=p.toList.all (fun x=>decide (x < 16)) && Zcc p.toList
def B2 (a : Mat) : MF:=fun i j=>(a[i]?.getD default)[j]?.getD default
theorem Ah (a : Mat) : a = mf (B2 a):=calc a = vf 4 (fun i=>a[i]?.getD default):=qK a
  _ = _:=Y2 fun i _=>qK _
def detC (m : Nat) (a : Mat) : UInt8:=(Al m (B2 a)).1
def invM (m : Nat) (a : Mat) : Mat:=(Al m (B2 a)).2
def Yr (c : GCipher) : Bool:=HK c.Field && Zcc c.Box.toList && QN c.Places && decide (1 ≤ c.Rounds ∧ c.Rounds ≤ 20) && (detC c.Field.toNat c.Mix != 0)
theorem Zcv (m : Nat) (hm : m < 512) (hm2 : 256 ≤ m) (a : Mat) : Xo (m : Int) a = some (detC m a,invM m a):=by
 have:=AY m hm hm2 (B2 a)
 rw [← Ah] at this
 exact this
theorem Hj {c : GCipher} (h : Yr c = true) : ∃ m : Nat,c.Field = m ∧ 256 ≤ m ∧ m < 512:=by
 unfold Yr at h
 simp only [Bool.and_eq_true] at h
 exact jJ h.1.1.1.1
theorem X2 {n : Nat} (L : Vector UInt8 n × Int → Option (Fl (Vector UInt8 n × Int) (Vector UInt8 n))) (f h : Nat → UInt8) (hn : n < 9223372036854775807) (m : Nat) (hm : m ≤ n) (h0 : ∀ j,j < m → h j = f j)
  (hL : ∀ i,m ≤ i → i < n → ∀ a : Nat → UInt8,(∀ j,j < i → a j = h j) → (∀ j,i ≤ j → a j = f j) → L (vf n a,(i : Int)) = some (.nx ((vf n a).setIfInBounds i (h i),wr ((i : Int) + 1))))
  (he : ∀ v,L (v,(n : Int)) = some (.ex v)) : ZB L (vf n f,(m : Int)) = some (vf n h):=by
 have k1 : (vf n fun j=>if j < n then h j else f j) = vf n h:=Y2 fun j hj=>by rw [if_pos hj]
 have k0 : (vf n fun j=>if j < m then h j else f j) = vf n f:=Y2 fun j hj=>by
  by_cases h1 : j < m
  ·rw [if_pos h1,h0 j h1]
  ·rw [if_neg h1]
 have:=Z6 (f:=L) (fun i : Nat=>(vf n fun j=>if j < i then h j else f j,(i : Int))) m n hm (t:=vf n h) (fun i hmi hi=>by
  rw [hL i hmi hi _ (fun j hj=>by rw [if_pos hj]) (fun j hj=>by rw [if_neg (by omega)]),T9,Y8 (show i < 9223372036854775807 by omega)]
  refine congrArg (fun z=>some (Fl.nx (z,((i + 1 : Nat) : Int)))) (Y2 fun j hj=>?_)
  by_cases h1 : j = i
  ·subst h1; simp
  ·by_cases h2 : j < i
   ·rw [if_neg h1,if_pos h2,if_pos (by omega)]
   ·rw [if_neg h1,if_neg h2,if_neg (by omega)]) (by
  simp only [k1]
  exact he _)
 simp only [k0] at this
 exact this
def yi (b : Vector UInt8 256) (x : UInt8) : UInt8:=b[x.toNat]'(UInt8.toNat_lt x)
theorem Kw (b : Vector UInt8 256) (x : UInt8) : ZH b (bI x) = some (yi b x):=by
 have : ZH b ((x.toNat : Nat) : Int) = _:=W0 b x.toNat
 rw [Vector.getElem?_eq_getElem (UInt8.toNat_lt x)] at this
 exact this
abbrev Blk:=Vector UInt8 16
def bf (v : Blk) (i : Nat) : UInt8:=v[i]?.getD default
theorem Zcz (v : Blk) : v = vf 16 (bf v):=qK v
theorem J9 {i : Nat} (h : i < 16) : decide ((i : Int) < 16) = true:=by simp; omega
def HP (f g : Nat → UInt8) : Nat → UInt8:=fun i=>f i ^^^ g i
theorem Hx (f g : Nat → UInt8) : Xa (vf 16 f) (vf 16 g) = some (vf 16 (HP f g)):=by
 unfold Xa
 have:=X2 (V3 (vf 16 g)) f (HP f g) (by omega) 0 (by omega) (fun j hj=>by omega) (fun i _ hi a _ ha=>by
  unfold V3
  simp only [J9 hi,if_true,ZO _ hi,Option.bind_some,Int.toNat_natCast,ha i (Nat.le_refl _),HP]) (fun v=>by unfold V3; simp)
 have h2 : ZB (V3 (vf 16 g)) (vf 16 f,0) = _:=this
 rw [h2]; rfl
theorem T2 (f g : Nat → UInt8) : Yo (vf 16 f) (vf 16 g) = some (vf 16 (HP f g)):=by
 unfold Yo
 have:=X2 (X1 (vf 16 g)) f (HP f g) (by omega) 0 (by omega) (fun j hj=>by omega) (fun i _ hi a _ ha=>by
  unfold X1
  simp only [J9 hi,if_true,ZO _ hi,Option.bind_some,Int.toNat_natCast,ha i (Nat.le_refl _),HP]) (fun v=>by unfold X1; simp)
 have h2 : ZB (X1 (vf 16 g)) (vf 16 f,0) = _:=this
 rw [h2]; rfl
def zn (b : Vector UInt8 256) (f : Nat → UInt8) : Nat → UInt8:=fun i=>yi b (f i)
theorem kE (b : Vector UInt8 256) (f : Nat → UInt8) : UB b (vf 16 f) = some (vf 16 (zn b f)):=by
 unfold UB
 have:=X2 (Wx b) f (zn b f) (by omega) 0 (by omega) (fun j hj=>by omega) (fun i _ hi a _ ha=>by
  unfold Wx
  simp only [J9 hi,if_true,ZO _ hi,Option.bind_some,Int.toNat_natCast,ha i (Nat.le_refl _),Kw,zn]) (fun v=>by unfold Wx; simp)
 have h2 : ZB (Wx b) (vf 16 f,0) = _:=this
 rw [h2]; rfl
def JC (p : Blk) (f : Nat → UInt8) : Nat → UInt8:=fun i=>f (bf p i).toNat
theorem Bu {p : Blk} (h : QN p = true) {i : Nat} (hi : i < 16) : (bf p i).toNat < 16:=by
 unfold QN at h
 simp only [Bool.and_eq_true,List.all_eq_true,decide_eq_true_eq] at h
 have e : bf p i = p[i]:=by unfold bf; rw [Vector.getElem?_eq_getElem hi]; rfl
 have:=h.1 p[i] (by simp)
 rw [UInt8.lt_iff_toNat_lt] at this
 rw [e]; exact this
theorem Hn (p : Blk) {i : Nat} (h : i < 16) : ZH p (i : Int) = some (bf p i):=by
 rw [W0]; unfold bf; rw [Vector.getElem?_eq_getElem h]; rfl
theorem jM (f : Nat → UInt8) {x : UInt8} (h : x.toNat < 16) : ZH (vf 16 f) (bI x) = some (f x.toNat):=ZO f h
theorem Zaj (p : Blk) (hp : QN p = true) (f : Nat → UInt8) : U3 p (vf 16 f) = some (vf 16 (JC p f)):=by
 unfold U3
 have:=X2 (W3 p (vf 16 f)) (fun _=>0) (JC p f) (by omega) 0 (by omega) (fun j hj=>by omega) (fun i _ hi a _ ha=>by
  unfold W3
  simp only [J9 hi,if_true,ZO _ hi,Hn _ hi,Option.bind_some,Int.toNat_natCast,jM f (Bu hp hi),JC]) (fun v=>by unfold W3; simp)
 have h2 : ZB (W3 p (vf 16 f)) (vf 16 (fun _=>0),0) = _:=this
 rw [TV 16 (0 : UInt8),h2]; rfl
theorem v_move (p : Blk) (hp : QN p = true) (f : Nat → UInt8) : WH p (vf 16 f) = some (vf 16 (JC p f)):=by
 unfold WH
 have:=X2 (Xn p (vf 16 f)) (fun _=>0) (JC p f) (by omega) 0 (by omega) (fun j hj=>by omega) (fun i _ hi a _ ha=>by
  unfold Xn
  simp only [J9 hi,if_true,ZO _ hi,Hn _ hi,Option.bind_some,Int.toNat_natCast,jM f (Bu hp hi),JC]) (fun v=>by unfold Xn; simp)
 have h2 : ZB (Xn p (vf 16 f)) (vf 16 (fun _=>0),0) = _:=this
 rw [TV 16 (0 : UInt8),h2]; rfl

def Kn (b : Vector UInt8 256) (f : Nat → UInt8) (r : Int) : Nat → UInt8
 | 0=>f 0 ^^^ yi b (f 15 ^^^ Zv r)
 | i + 1=>f (i + 1) ^^^ yi b (Kn b f r i)
theorem qU (b : Vector UInt8 256) (f : Nat → UInt8) (r : Int) : Tg b (vf 16 f) r = some (vf 16 (Kn b f r)) := by
  unfold Tg
  have := X2 (W9 b r) f (Kn b f r) (by omega) 0 (by omega) (fun j hj => by omega) (fun i _ hi a hb ha => by
    unfold W9
    cases i with
    | zero =>
      have e1 : Int.tmod (wr (((0 : Nat) : Int) + 15)) 16 = ((15 : Nat) : Int) := by decide
      simp only [e1, J9 hi, if_true, ZO a (show 15 < 16 by omega), Option.bind_some]
      have e2 : (((0 : Nat) : Int) == 0) = true := rfl
      simp only [e2, if_true, Option.bind_some, Kw, ZO a hi, Int.toNat_natCast, ha 0 (by omega), ha 15 (by omega), Kn]
    | succ i =>
      have e1 : Int.tmod (wr (((i + 1 : Nat) : Int) + 15)) 16 = ((i : Nat) : Int) := by
        rw [YP (by omega)]
        have : (((i + 1 : Nat) : Int) + 15) = ((i + 16 : Nat) : Int) := by omega
        rw [this]
        have : Int.tmod ((i + 16 : Nat) : Int) 16 = (((i + 16) % 16 : Nat) : Int) := rfl
        rw [this]
        omega
      have e2 : (((i + 1 : Nat) : Int) == 0) = false := by have : ((i + 1 : Nat) : Int) ≠ 0 := by omega
                                                           simpa using this
      simp only [e1, e2, J9 hi, if_true, ZO a (show i < 16 by omega), Option.bind_some, Bool.false_eq_true, if_false, Kw, ZO a hi, Int.toNat_natCast, ha (i + 1) (Nat.le_refl _), hb i (by omega), Kn]) (fun v => by unfold W9; simp)
  have h2 : ZB (W9 b r) (vf 16 f, 0) = _ := this
  rw [h2]; rfl
theorem Zan (e : Ref Gengine) (f : Nat → UInt8) (r : Int) : Xx e (vf 16 f) r = some (vf 16 (Kn e.v.box f r)):=by
 unfold Xx
 have x0 : ZH (vf 16 f) (0 : Int) = some (f 0):=ZO f (show 0 < 16 by omega)
 have x15 : ZH (vf 16 f) (15 : Int) = some (f 15):=ZO f (show 15 < 16 by omega)
 have z : (0 : Int).toNat = 0:=rfl
 simp only [x0,x15,Option.bind_some,Kw,z,T9]
 have:=X2 (YN e) (fun i=>if i = 0 then f 0 ^^^ yi e.v.box (f 15 ^^^ Zv r) else f i) (Kn e.v.box f r) (by omega) 1 (by omega) (fun j hj=>by
  have : j = 0:=by omega
  subst this; simp [Kn]) (fun i h1 hi a hb ha=>by
  unfold YN
  obtain ⟨i,rfl⟩ : ∃ k,i = k + 1:=⟨i - 1,by omega⟩
  have e1 : wr (((i + 1 : Nat) : Int) - 1) = ((i : Nat) : Int):=by rw [YP (by omega)]; omega
  simp only [e1,J9 hi,if_true,ZO a (show i < 16 by omega),ZO a hi,Option.bind_some,Kw,Int.toNat_natCast,ha (i + 1) (Nat.le_refl _),hb i (by omega),Kn]
  simp) (fun v=>by unfold YN; simp)
 have h2 : ZB (YN e) (vf 16 (fun i=>if i = 0 then f 0 ^^^ yi e.v.box (f 15 ^^^ Zv r) else f i),1) = _:=this
 rw [h2]; rfl
def yR (b : Vector UInt8 256) (k : Nat → UInt8) : Nat → Nat → UInt8
 | 0=>k
 | r + 1=>Kn b (yR b k r) ((r + 1 : Nat) : Int)
def UF (b : Vector UInt8 256) (k : Nat → UInt8) (n : Nat) : List Blk:=(List.range (n + 1)).map fun r=>vf 16 (yR b k r)
theorem yy (b : Vector UInt8 256) (k : Nat → UInt8) (n : Nat) : UF b k (n + 1) = UF b k n ++ [vf 16 (Kn b (yR b k n) ((n + 1 : Nat) : Int))]:=by
 unfold UF
 rw [List.range_succ,List.map_append]; rfl
theorem Jf (b : Vector UInt8 256) (k : Nat → UInt8) (n : Nat) : (UF b k n).length = n + 1:=by simp [UF]
theorem HO (b : Vector UInt8 256) (k : Nat → UInt8) {n r : Nat} (h : r ≤ n) : idx (UF b k n) (r : Int) = some (vf 16 (yR b k r)):=by
 rw [Z7]; unfold UF; rw [List.getElem?_map,List.getElem?_range (by omega)]; rfl
theorem Zaa (c : GCipher) (k : Nat → UInt8) (n : Nat) (hn : n ≤ 1000) : U0 c (vf 16 k) (n : Int) = some (UF c.Box k n):=by
 unfold U0
 have:=Z6 (f:=W1 c (n : Int)) (fun i : Nat=>(vf 16 (yR c.Box k (i - 1)),UF c.Box k (i - 1),(i : Int))) 1 (n + 1) (by omega) (t:=UF c.Box k n) (fun i h1 hi=>by
  unfold W1
  obtain ⟨i,rfl⟩ : ∃ q,i = q + 1:=⟨i - 1,by omega⟩
  have e1 : decide (((i + 1 : Nat) : Int) ≤ (n : Int)) = true:=by simp; omega
  have e2 : app 16 (UF c.Box k i) [vf 16 (Kn c.Box (yR c.Box k i) ((i + 1 : Nat) : Int))] = _:=YC (by rw [Jf]; simp; omega)
  simp only [Nat.add_sub_cancel,e1,if_true,qU,Option.bind_some,e2,Y8 (show i + 1 < 9223372036854775807 by omega),yy]
  rfl) (by
  unfold W1
  have e1 : decide (((n + 1 : Nat) : Int) ≤ (n : Int)) = false:=by simp; omega
  simp only [e1,Bool.false_eq_true,if_false,Nat.add_sub_cancel])
 have h2 : ZB (W1 c (n : Int)) (vf 16 k,[vf 16 k],1) = _:=this
 rw [h2]; rfl
theorem v_keys (e : Ref Gengine) (k : Nat → UInt8) (n : Nat) (hn : n ≤ 1000) : WP e (vf 16 k) (n : Int) = some (UF e.v.box k n):=by
 unfold WP
 have:=Z6 (f:=Xi e (n : Int)) (fun i : Nat=>(vf 16 (yR e.v.box k (i - 1)),UF e.v.box k (i - 1),(i : Int))) 1 (n + 1) (by omega) (t:=UF e.v.box k n) (fun i h1 hi=>by
  unfold Xi
  obtain ⟨i,rfl⟩ : ∃ q,i = q + 1:=⟨i - 1,by omega⟩
  have e1 : decide (((i + 1 : Nat) : Int) ≤ (n : Int)) = true:=by simp; omega
  have e2 : app 16 (UF e.v.box k i) [vf 16 (Kn e.v.box (yR e.v.box k i) ((i + 1 : Nat) : Int))] = _:=YC (by rw [Jf]; simp; omega)
  simp only [Nat.add_sub_cancel,e1,if_true,Zan,Option.bind_some,e2,Y8 (show i + 1 < 9223372036854775807 by omega),yy]
  rfl) (by
  unfold Xi
  have e1 : decide (((n + 1 : Nat) : Int) ≤ (n : Int)) = false:=by simp; omega
  simp only [e1,Bool.false_eq_true,if_false,Nat.add_sub_cancel])
 have h2 : ZB (Xi e (n : Int)) (vf 16 k,[vf 16 k],1) = _:=this
 rw [h2]; rfl

def rowF (m : Nat) (a : MF) (f : Nat → UInt8) (c r : Nat) : UInt8:=((Z9 m (a r 0) (f c) ^^^ Z9 m (a r 1) (f (c + 1))) ^^^ Z9 m (a r 2) (f (c + 2))) ^^^ Z9 m (a r 3) (f (c + 3))
def UY (m : Nat) (a : MF) (f : Nat → UInt8) : Nat → UInt8:=fun i=>rowF m a f (i / 4 * 4) (i % 4)
theorem set_set (f : Nat → UInt8) (k : Nat) (x y : UInt8) : (fun i=>if i = k then y else if i = k then x else f i) = fun i=>if i = k then y else f i:=by
 funext i; by_cases h : i = k <;> simp [h]
theorem wr_at {c r : Nat} (hc : c < 4) (hr : r < 4) : wr (wr (4 * (c : Int)) + (r : Int)) = ((c * 4 + r : Nat) : Int):=by
 rw [YP (x:=4 * (c : Int)) (by omega),YP (by omega)]; omega
theorem Zdx (m : Nat) (hm : m < 512) (hm2 : 256 ≤ m) (a : MF) (f g : Nat → UInt8) (c r : Nat) (hc : c < 4) (hr : r < 4) (s1 s2 : Blk × Int) (h1 : s1.2 = (c : Int)) (h2 : s2.2 = (r : Int)) (hg : g (c * 4 + r) = 0) :
  ZB (XQ (m : Int) (mf a) (vf 16 f) s1 s2) (vf 16 g,0) = some (vf 16 fun i=>if i = c * 4 + r then rowF m a f (c * 4) r else g i):=by
 have hcr : c * 4 + r < 16:=by omega
 have step : ∀ (j : Nat) (h : Nat → UInt8),j < 4 → XQ (m : Int) (mf a) (vf 16 f) s1 s2 (vf 16 h,(j : Int)) = some (.nx (vf 16 (fun i=>if i = c * 4 + r then h (c * 4 + r) ^^^ Z9 m (a r j) (f (c * 4 + j)) else h i),((j + 1 : Nat) : Int))):=fun j h hj=>by
  unfold XQ
  simp only [h1,h2,lt4 hj,if_true,wr_at hc hr,wr_at hc hj,ZO _ hcr,Tr _ hr,ZO _ hj,ZO f (show c * 4 + j < 16 by omega),Option.bind_some,JX m hm hm2,Int.toNat_natCast,T9,wr4 (show j < 1000 by omega)]
 have e0:=step 0 g (by omega)
 have e1:=step 1 (fun i=>if i = c * 4 + r then g (c * 4 + r) ^^^ Z9 m (a r 0) (f (c * 4 + 0)) else g i) (by omega)
 have e2:=step 2 (fun i=>if i = c * 4 + r then (g (c * 4 + r) ^^^ Z9 m (a r 0) (f (c * 4 + 0))) ^^^ Z9 m (a r 1) (f (c * 4 + 1)) else g i) (by omega)
 have e3:=step 3 (fun i=>if i = c * 4 + r then ((g (c * 4 + r) ^^^ Z9 m (a r 0) (f (c * 4 + 0))) ^^^ Z9 m (a r 1) (f (c * 4 + 1))) ^^^ Z9 m (a r 2) (f (c * 4 + 2)) else g i) (by omega)
 have e4 : ∀ v : Blk,XQ (m : Int) (mf a) (vf 16 f) s1 s2 (v,((4 : Nat) : Int)) = some (.ex v):=fun v=>by unfold XQ; simp
 simp only [if_true,set_set] at e1 e2 e3
 have e0' : XQ (m : Int) (mf a) (vf 16 f) s1 s2 (vf 16 g,0) = _:=e0
 rw [Wl e0',Wl e1,Wl e2,Wl e3,X8 (e4 _)]
 refine congrArg some (Y2 fun i _=>?_)
 by_cases h : i = c * 4 + r
 ·simp [h,hg,rowF]
 ·simp [h]
theorem Zbx (m : Nat) (hm : m < 512) (hm2 : 256 ≤ m) (a : MF) (f : Nat → UInt8) : TJ (m : Int) (mf a) (vf 16 f) = some (vf 16 (UY m a f)):=by
 unfold TJ
 -- after c columns and r rows of the next
 have inner : ∀ c : Nat,c < 4 → ∀ s1 : Blk × Int,s1.2 = (c : Int) → ZB (VW (m : Int) (mf a) (vf 16 f) s1) (vf 16 (fun i=>if i < c * 4 then UY m a f i else 0),0) = some (vf 16 fun i=>if i < (c + 1) * 4 then UY m a f i else 0):=fun c hc s1 h1=>by
  have k1 : (vf 16 fun i=>if i < c * 4 + 4 then UY m a f i else 0) = vf 16 fun i=>if i < (c + 1) * 4 then UY m a f i else 0:=by rw [show c * 4 + 4 = (c + 1) * 4 by omega]
  have:=Z6 (f:=VW (m : Int) (mf a) (vf 16 f) s1) (fun r : Nat=>(vf 16 fun i=>if i < c * 4 + r then UY m a f i else 0,(r : Int))) 0 4 (by omega) (t:=vf 16 fun i=>if i < (c + 1) * 4 then UY m a f i else 0) (fun r _ hr=>by
   unfold VW
   have h2:=Zdx m hm hm2 a f (fun i=>if i < c * 4 + r then UY m a f i else 0) c r hc hr s1 (vf 16 fun i=>if i < c * 4 + r then UY m a f i else 0,(r : Int)) h1 rfl (by simp)
   simp only [lt4 hr,if_true,h2,Option.bind_some,wr4 (show r < 1000 by omega)]
   refine congrArg (fun z=>some (Fl.nx (z,((r + 1 : Nat) : Int)))) (Y2 fun i _=>?_)
   by_cases h : i = c * 4 + r
   ·subst h
    have q1 : (c * 4 + r) / 4 = c:=by omega
    have q2 : (c * 4 + r) % 4 = r:=by omega
    rw [if_pos rfl,if_pos (by omega)]
    unfold UY; rw [q1,q2]
   ·by_cases h3 : i < c * 4 + r
    ·rw [if_neg h,if_pos h3,if_pos (by omega)]
    ·rw [if_neg h,if_neg h3,if_neg (by omega)]) (by
   unfold VW
   simp only [k1]
   simp)
  exact this
 have:=Z6 (f:=VT (m : Int) (mf a) (vf 16 f)) (fun c : Nat=>(vf 16 fun i=>if i < c * 4 then UY m a f i else 0,(c : Int))) 0 4 (by omega) (t:=vf 16 (UY m a f)) (fun c _ hc=>by
  unfold VT
  have h2:=inner c hc (vf 16 fun i=>if i < c * 4 then UY m a f i else 0,(c : Int)) rfl
  simp only [lt4 hc,if_true,h2,Option.bind_some,wr4 (show c < 1000 by omega)]) (by
  unfold VT
  have : (vf 16 fun i=>if i < 4 * 4 then UY m a f i else 0) = vf 16 (UY m a f):=Y2 fun i hi=>by rw [if_pos (by omega)]
  simp only [this]
  simp)
 have e0 : (vf 16 fun i=>if i < 0 * 4 then UY m a f i else 0) = vf 16 fun _=>(0 : UInt8):=Y2 fun i _=>by rw [if_neg (by omega)]
 simp only [e0] at this
 have h2 : ZB (VT (m : Int) (mf a) (vf 16 f)) (vf 16 fun _=>(0 : UInt8),0) = _:=this
 rw [TV 16 (0 : UInt8),h2]; rfl

abbrev Tab:=Vector (Vector (Vector UInt8 256) 4) 4
def B5 (m : Nat) (a : MF) : Tab:=vf 4 fun i=>vf 4 fun j=>vf 256 fun x=>Z9 m (a i j) (UInt8.ofNat x)
theorem Zb3 (m : Nat) (a : MF) (i j : Nat) (x : UInt8) : ZH (vf 256 fun x=>Z9 m (a i j) (UInt8.ofNat x)) (bI x) = some (Z9 m (a i j) x):=by
 rw [show bI x = ((x.toNat : Nat) : Int) from rfl,ZO _ (UInt8.toNat_lt x)]
 simp
theorem v_mix (m : Nat) (a : MF) (f : Nat → UInt8) : VN ⟨B5 m a⟩ (vf 16 f) = some (vf 16 (UY m a f)):=by
 unfold VN
 have i0 : ∀ (v : Vector (Vector UInt8 256) 4),ZH v (0 : Int) = v[0]?:=fun v=>W0 v 0
 have i1 : ∀ (v : Vector (Vector UInt8 256) 4),ZH v (1 : Int) = v[1]?:=fun v=>W0 v 1
 have i2 : ∀ (v : Vector (Vector UInt8 256) 4),ZH v (2 : Int) = v[2]?:=fun v=>W0 v 2
 have i3 : ∀ (v : Vector (Vector UInt8 256) 4),ZH v (3 : Int) = v[3]?:=fun v=>W0 v 3
 have inner : ∀ c : Nat,c < 4 → ∀ s1 : Blk × Int,s1.2 = ((c * 4 : Nat) : Int) → ZB (X0 ⟨B5 m a⟩ s1 (f (c * 4),f (c * 4 + 1),f (c * 4 + 2),f (c * 4 + 3))) (vf 16 (fun i=>if i < c * 4 then UY m a f i else f i),0) = some (vf 16 fun i=>if i < (c + 1) * 4 then UY m a f i else f i):=fun c hc s1 h1=>by
  have k1 : (vf 16 fun i=>if i < c * 4 + 4 then UY m a f i else f i) = vf 16 fun i=>if i < (c + 1) * 4 then UY m a f i else f i:=by rw [show c * 4 + 4 = (c + 1) * 4 by omega]
  have:=Z6 (f:=X0 ⟨B5 m a⟩ s1 (f (c * 4),f (c * 4 + 1),f (c * 4 + 2),f (c * 4 + 3))) (fun r : Nat=>(vf 16 fun i=>if i < c * 4 + r then UY m a f i else f i,(r : Int))) 0 4 (by omega) (t:=vf 16 fun i=>if i < (c + 1) * 4 then UY m a f i else f i) (fun r _ hr=>by
   unfold X0
   have e1 : wr (s1.2 + (r : Int)) = ((c * 4 + r : Nat) : Int):=by rw [h1,YP (by omega)]; omega
   have et : ZH (B5 m a) (r : Int) = some (vf 4 fun j=>vf 256 fun x=>Z9 m (a r j) (UInt8.ofNat x)):=ZO _ hr
   simp only [lt4 hr,if_true,et,i0,i1,i2,i3,Hs _ (show 0 < 4 by omega),Hs _ (show 1 < 4 by omega),Hs _ (show 2 < 4 by omega),Hs _ (show 3 < 4 by omega),Zb3,e1,ZO _ (show c * 4 + r < 16 by omega),Option.bind_some,Int.toNat_natCast,T9,wr4 (show r < 1000 by omega)]
   refine congrArg (fun z=>some (Fl.nx (z,((r + 1 : Nat) : Int)))) (Y2 fun i _=>?_)
   by_cases h : i = c * 4 + r
   ·subst h
    have q1 : (c * 4 + r) / 4 = c:=by omega
    have q2 : (c * 4 + r) % 4 = r:=by omega
    rw [if_pos rfl,if_pos (by omega)]
    unfold UY; rw [q1,q2]; rfl
   ·by_cases h3 : i < c * 4 + r
    ·rw [if_neg h,if_pos h3,if_pos (by omega)]
    ·rw [if_neg h,if_neg h3,if_neg (by omega)]) (by
   unfold X0
   simp only [k1]
   simp)
  exact this
 have:=Z6 (f:=X5 ⟨B5 m a⟩) (fun c : Nat=>(vf 16 fun i=>if i < c * 4 then UY m a f i else f i,((c * 4 : Nat) : Int))) 0 4 (by omega) (t:=vf 16 (UY m a f)) (fun c _ hc=>by
  unfold X5
  have hd : decide (((c * 4 : Nat) : Int) < ((vf 16 fun i=>if i < c * 4 then UY m a f i else f i).toList.length : Int)) = true:=by rw [Vector.length_toList]; simp; omega
  have x0:=ZO (n:=16) (fun i=>if i < c * 4 then UY m a f i else f i) (show c * 4 < 16 by omega)
  have x1:=ZO (n:=16) (fun i=>if i < c * 4 then UY m a f i else f i) (show c * 4 + 1 < 16 by omega)
  have x2:=ZO (n:=16) (fun i=>if i < c * 4 then UY m a f i else f i) (show c * 4 + 2 < 16 by omega)
  have x3:=ZO (n:=16) (fun i=>if i < c * 4 then UY m a f i else f i) (show c * 4 + 3 < 16 by omega)
  have w1 : wr (((c * 4 : Nat) : Int) + 1) = ((c * 4 + 1 : Nat) : Int):=by rw [YP (by omega)]; omega
  have w2 : wr (((c * 4 : Nat) : Int) + 2) = ((c * 4 + 2 : Nat) : Int):=by rw [YP (by omega)]; omega
  have w3 : wr (((c * 4 : Nat) : Int) + 3) = ((c * 4 + 3 : Nat) : Int):=by rw [YP (by omega)]; omega
  have w4 : wr (((c * 4 : Nat) : Int) + 4) = (((c + 1) * 4 : Nat) : Int):=by rw [YP (by omega)]; omega
  rw [if_neg (by omega)] at x0 x1 x2 x3
  have h2:=inner c hc (vf 16 fun i=>if i < c * 4 then UY m a f i else f i,((c * 4 : Nat) : Int)) rfl
  simp only [hd,if_true,x0,w1,x1,w2,x2,w3,x3,Option.bind_some,h2,w4]) (by
  unfold X5
  have : (vf 16 fun i=>if i < 4 * 4 then UY m a f i else f i) = vf 16 (UY m a f):=Y2 fun i hi=>by rw [if_pos (by omega)]
  simp only [this]
  simp)
 have e0 : (vf 16 fun i=>if i < 0 * 4 then UY m a f i else f i) = vf 16 f:=Y2 fun i _=>by rw [if_neg (by omega)]
 simp only [e0] at this
 have h2 : ZB (X5 ⟨B5 m a⟩) (vf 16 f,0) = _:=this
 rw [h2]; rfl

def tb (g : Nat → Nat → Nat → UInt8) : Tab:=vf 4 fun i=>vf 4 fun j=>vf 256 (g i j)
theorem Bf {g h : Nat → Nat → Nat → UInt8} (e : ∀ i,i < 4 → ∀ j,j < 4 → ∀ x,x < 256 → g i j x = h i j x) : tb g = tb h :=
 Y2 fun i hi=>Y2 fun j hj=>Y2 fun x hx=>e i hi j hj x hx
theorem Zdk (g : Nat → Nat → Nat → UInt8) {i : Nat} (hi : i < 4) : ZH (tb g) (i : Int) = some (vf 4 fun j=>vf 256 (g i j)):=ZO _ hi
theorem Zbi (g : Nat → Nat → Nat → UInt8) (i : Nat) {j : Nat} (hj : j < 4) : ZH (vf 4 fun j=>vf 256 (g i j)) (j : Int) = some (vf 256 (g i j)):=ZO _ hj
theorem tb_set (g : Nat → Nat → Nat → UInt8) (i j : Nat) (h : Nat → UInt8) : (tb g).setIfInBounds i ((vf 4 fun j=>vf 256 (g i j)).setIfInBounds j (vf 256 h)) = tb (fun i' j'=>if i' = i ∧ j' = j then h else g i' j'):=by
 unfold tb
 rw [T9,T9]
 refine Y2 fun i' _=>?_
 by_cases h1 : i' = i
 ·subst h1
  rw [if_pos rfl]
  refine Y2 fun j' _=>?_
  by_cases h2 : j' = j
  ·subst h2; simp
  ·simp [h2]
 ·rw [if_neg h1]
  refine Y2 fun j' _=>?_
  simp [h1]
theorem Zd6 (a b : Nat) (ha : a < 9223372036854775808) (hb : b < 9223372036854775808) : orI (a : Int) (b : Int) = ((a ||| b : Nat) : Int):=by
 unfold orI
 rw [BitVec.toNat_or,H8 a ha,H8 b hb]
 have : a ||| b < 2 ^ 63:=Nat.or_lt_two_pow ha hb
 exact YP (by omega)
theorem Ub (n : Nat) : Zv (n : Int) = UInt8.ofNat n:=by
 unfold Zv
 have : ((n : Int) % 256).toNat = n % 256:=by omega
 rw [this]
 apply UInt8.toNat_inj.1
 simp
theorem Zdb (g : Nat → Nat → Nat → UInt8) (i j : Nat) (h : Nat → UInt8) : (tb g).setIfInBounds i (vf 4 fun j'=>if j' = j then vf 256 h else vf 256 (g i j')) = tb (fun i' j'=>if i' = i ∧ j' = j then h else g i' j'):=by
 have:=tb_set g i j h
 rw [T9] at this
 exact this
theorem Zbh {p low : Nat} (h : low < 2 ^ p) : 2 ^ p ||| low = 2 ^ p + low:=by
 have:=Nat.two_pow_add_eq_or_of_lt h 1
 simpa using this.symm
theorem Zbf {p low : Nat} (hp : p < 8) (h : low < 2 ^ p) : UInt8.ofNat (2 ^ p + low) = UInt8.ofNat (2 ^ p) ^^^ UInt8.ofNat low:=by
 apply UInt8.toNat_inj.1
 have h7 : 2 ^ p ≤ 2 ^ 7:=Nat.pow_le_pow_right (by omega) (by omega)
 rw [UInt8.toNat_xor]
 simp only [UInt8.toNat_ofNat']
 rw [Nat.mod_eq_of_lt (by omega),Nat.mod_eq_of_lt (by omega),Nat.mod_eq_of_lt (by omega)]
 rw [← Zbh h]
 apply Nat.eq_of_testBit_eq
 intro i
 rw [Nat.testBit_or,Nat.testBit_xor,Nat.testBit_two_pow]
 by_cases hi : p = i
 ·subst hi
  rw [Nat.testBit_lt_two_pow h]; simp
 ·simp [hi]
section
variable (m : Nat) (hm : m < 512) (hm2 : 256 ≤ m) (a : MF)
include hm hm2
def KO (m : Nat) (a : MF) (i j n : Nat) (g : Nat → Nat → Nat → UInt8) : Nat → Nat → Nat → UInt8:=fun i' j'=>if i' = i ∧ j' = j then (fun x=>if x < n then Z9 m (a i j) (UInt8.ofNat x) else 0) else g i' j'
theorem Zbc (i j p : Nat) (hi : i < 4) (hj : j < 4) (hp : p < 8) (g : Nat → Nat → Nat → UInt8) (s0 s1 s2 : Tab × Int) (h0 : s0.2 = (i : Int)) (h1 : s1.2 = (j : Int)) (h2 : s2.2 = ((2 ^ p : Nat) : Int)) :
  ZB (WB s0 s1 s2 (Z9 m (a i j) (UInt8.ofNat (2 ^ p)))) (tb (KO m a i j (2 ^ p) g),0) = some (tb (KO m a i j (2 ^ (p + 1)) g)):=by
 have h7 : 2 ^ p ≤ 2 ^ 7:=Nat.pow_le_pow_right (by omega) (by omega)
 have k1 : 2 ^ p + 2 ^ p = 2 ^ (p + 1):=by rw [Nat.pow_succ]; omega
 have:=Z6 (f:=WB s0 s1 s2 (Z9 m (a i j) (UInt8.ofNat (2 ^ p)))) (fun low : Nat=>(tb (KO m a i j (2 ^ p + low) g),(low : Int))) 0 (2 ^ p) (Nat.zero_le _) (t:=tb (KO m a i j (2 ^ (p + 1)) g)) (fun low _ hl=>by
  unfold WB
  have hd : decide ((low : Int) < ((2 ^ p : Nat) : Int)) = true:=by simp only [decide_eq_true_eq]; omega
  have ho : orI ((2 ^ p : Nat) : Int) (low : Int) = ((2 ^ p + low : Nat) : Int):=by rw [Zd6 _ _ (by omega) (by omega),Zbh hl]
  have eg : KO m a i j (2 ^ p + low) g i j = fun x=>if x < 2 ^ p + low then Z9 m (a i j) (UInt8.ofNat x) else 0:=by simp [KO]
  simp only [h0,h1,h2,hd,if_true,Zdk _ hi,Zbi _ i hj,eg,ZO _ (show low < 256 by omega),ho,ZO _ (show 2 ^ p + low < 256 by omega),Option.bind_some,Int.toNat_natCast,T9,Y8 (show low < 9223372036854775807 by omega)]
  rw [if_pos (show low < 2 ^ p + low from Nat.lt_add_of_pos_left (Nat.two_pow_pos p)),← qg hm2 hm,← Zbf hp hl]
  have:=Zdb (KO m a i j (2 ^ p + low) g) i j (fun x=>if x = 2 ^ p + low then Z9 m (a i j) (UInt8.ofNat (2 ^ p + low)) else if x < 2 ^ p + low then Z9 m (a i j) (UInt8.ofNat x) else 0)
  rw [this]
  refine congrArg (fun z=>some (Fl.nx (z,((low + 1 : Nat) : Int)))) (Bf fun i' _ j' _ x _=>?_)
  unfold KO
  by_cases h : i' = i ∧ j' = j
  ·simp only [h,and_self,if_true]
   by_cases hx : x = 2 ^ p + low
   ·subst hx; simp
   ·by_cases hx2 : x < 2 ^ p + low
    ·rw [if_neg hx,if_pos hx2,if_pos (by omega)]
    ·rw [if_neg hx,if_neg hx2,if_neg (by omega)]
  ·simp only [h,if_false]) (by
  unfold WB
  simp only [h2,k1]
  simp)
 exact this
theorem Zci (i j : Nat) (hi : i < 4) (hj : j < 4) (g : Nat → Nat → Nat → UInt8) (s0 s1 : Tab × Int) (h0 : s0.2 = (i : Int)) (h1 : s1.2 = (j : Int)) :
  ZB (Wy (m : Int) s0 s1 (a i j)) (tb (KO m a i j 1 g),1) = some (tb (KO m a i j 256 g)):=by
 have:=Z6 (f:=Wy (m : Int) s0 s1 (a i j)) (fun p : Nat=>(tb (KO m a i j (2 ^ p) g),((2 ^ p : Nat) : Int))) 0 8 (by omega) (t:=tb (KO m a i j 256 g)) (fun p _ hp=>by
  unfold Wy
  have h7 : 2 ^ p ≤ 2 ^ 7:=Nat.pow_le_pow_right (by omega) (by omega)
  have hd : decide (((2 ^ p : Nat) : Int) < 256) = true:=by simp only [decide_eq_true_eq]; omega
  have hb : Zv ((2 ^ p : Nat) : Int) = UInt8.ofNat (2 ^ p):=by rw [Ub]
  have hw : wr (((2 ^ p : Nat) : Int) * 2) = ((2 ^ (p + 1) : Nat) : Int):=by
   rw [Nat.pow_succ]
   generalize 2 ^ p = q at h7 ⊢
   rw [YP (by omega)]; omega
  have h3:=Zbc m hm hm2 a i j p hi hj hp g s0 s1 (tb (KO m a i j (2 ^ p) g),((2 ^ p : Nat) : Int)) h0 h1 rfl
  simp only [hd,if_true,hb,TI m hm,Option.bind_some,h3,hw]) (by unfold Wy; simp)
 exact this
theorem A4 (A : Mat) (hA : A = mf a) : WZ (m : Int) A = some ⟨B5 m a⟩:=by
 subst hA
 unfold WZ
 let G : Nat → Nat → Nat → Nat → Nat → UInt8:=fun r c i j x=>if i < r ∨ (i = r ∧ j < c) then Z9 m (a i j) (UInt8.ofNat x) else 0
 have hGt : ∀ r c i j x,(i < r ∨ (i = r ∧ j < c)) → G r c i j x = Z9 m (a i j) (UInt8.ofNat x):=fun r c i j x h=>if_pos h
 have hGf : ∀ r c i j x,¬ (i < r ∨ (i = r ∧ j < c)) → G r c i j x = 0:=fun r c i j x h=>if_neg h
 have hGe : ∀ r c r' c' i j x,((i < r ∨ (i = r ∧ j < c)) ↔ (i < r' ∨ (i = r' ∧ j < c'))) → G r c i j x = G r' c' i j x:=fun r c r' c' i j x h=>by show (if _ then _ else _) = (if _ then _ else _); simp only [h]
 have z0 : ∀ i j,Z9 m (a i j) (UInt8.ofNat 0) = 0:=fun i j=>by rw [KG hm2 hm]; exact JG hm2 hm _
 have col : ∀ r : Nat,r < 4 → ∀ s0 : Tab × Int,s0.2 = (r : Int) → ZB (Wv (m : Int) s0 (vf 4 (a r))) (tb (G r 0),0) = some (tb (G (r + 1) 0)):=fun r hr s0 h0=>by
  have k1 : tb (G r 4) = tb (G (r + 1) 0):=Bf fun i hi j hj x _=>by
   exact hGe _ _ _ _ _ _ _ (by omega)
  have:=Z6 (f:=Wv (m : Int) s0 (vf 4 (a r))) (fun c : Nat=>(tb (G r c),(c : Int))) 0 4 (by omega) (t:=tb (G (r + 1) 0)) (fun c _ hc=>by
   unfold Wv
   have e1 : tb (G r c) = tb (KO m a r c 1 (G r c)):=Bf fun i _ j _ x _=>by
    unfold KO
    by_cases h : i = r ∧ j = c
    ·obtain ⟨rfl,rfl⟩:=h
     simp only [and_self,if_true]
     rw [hGf _ _ _ _ _ (by omega)]
     by_cases hx : x < 1
     ·have : x = 0:=by omega
      subst this; rw [if_pos hx,z0]
     ·rw [if_neg hx]
    ·simp only [h,if_false]
   have e2 : tb (KO m a r c 256 (G r c)) = tb (G r (c + 1)):=Bf fun i _ j _ x hx=>by
    unfold KO
    by_cases h : i = r ∧ j = c
    ·obtain ⟨rfl,rfl⟩:=h
     simp only [and_self,if_true,hx]
     rw [hGt _ _ _ _ _ (by omega)]
    ·simp only [h,if_false]
     exact hGe _ _ _ _ _ _ _ (by omega)
   have h3:=Zci m hm hm2 a r c hr hc (G r c) s0 (tb (G r c),(c : Int)) h0 rfl
   rw [← e1,e2] at h3
   simp only [lt4 hc,if_true,ZO _ hc,h3,Option.bind_some,wr4 (show c < 1000 by omega)]) (by
   unfold Wv
   simp only [k1]
   simp)
  exact this
 have kz : tb (G 0 0) = Vector.replicate 4 (Vector.replicate 4 (Vector.replicate 256 (0 : UInt8))):=by
  rw [TV 256 (0 : UInt8),TV 4,TV 4]
  exact Bf fun i _ j _ x _=>by
   exact hGf _ _ _ _ _ (by omega)
 have k4 : tb (G 4 0) = B5 m a:=Bf fun i hi j _ x _=>by
  exact hGt _ _ _ _ _ (by omega)
 have:=Z6 (f:=WC (m : Int) (mf a)) (fun r : Nat=>(tb (G r 0),(r : Int))) 0 4 (by omega) (t:=B5 m a) (fun r _ hr=>by
  unfold WC
  have h3:=col r hr (tb (G r 0),(r : Int)) rfl
  simp only [lt4 hr,if_true,Tr _ hr,h3,Option.bind_some,wr4 (show r < 1000 by omega)]) (by
  unfold WC
  simp only [k4]
  simp)
 have h2 : ZB (WC (m : Int) (mf a)) (tb (G 0 0),0) = _:=this
 rw [← kz,h2]; rfl
end

def zc (n : Nat) (p : Vector UInt8 n) : Nat → Vector UInt8 n
 | 0=>Vector.replicate n 0
 | i + 1=>(zc n p i).setIfInBounds (p.toList.getD i 0).toNat (Zv (i : Int))
theorem zT (p : Vector UInt8 256) : WK p = some (zc 256 p 256):=by
 unfold WK
 have:=Z6 (f:=Xj p) (fun i : Nat=>(zc 256 p i,(i : Int))) 0 256 (by omega) (t:=zc 256 p 256) (fun i _ hi=>by
  unfold Xj
  have hd : decide ((i : Int) < 256) = true:=by simp; omega
  simp only [hd,if_true,z4 p hi,Kw,Option.bind_some,kd,Y8 (show i < 9223372036854775807 by omega)]
  rfl) (by unfold Xj; simp)
 have h2 : ZB (Xj p) (Vector.replicate 256 0,0) = _:=this
 rw [h2]; rfl
theorem Zdj (p : Blk) {i : Nat} (h : i < 16) : p.toList.getD i 0 = bf p i:=by
 have h1:=z4 p h
 rw [Hn p h] at h1
 exact (Option.some.inj h1).symm
theorem Bg (p : Blk) (hp : QN p = true) : Xy p = some (zc 16 p 16):=by
 unfold Xy
 have:=Z6 (f:=YM p) (fun i : Nat=>(zc 16 p i,(i : Int))) 0 16 (by omega) (t:=zc 16 p 16) (fun i _ hi=>by
  unfold YM
  have hlt:=Bu hp hi
  have hv : ZH (zc 16 p i) (bI (bf p i)) = some (bf (zc 16 p i) (bf p i).toNat):=Hn _ hlt
  simp only [J9 hi,if_true,Hn p hi,hv,Option.bind_some,kd,Y8 (show i < 9223372036854775807 by omega)]
  rw [← Zdj p hi]
  rfl) (by unfold YM; simp)
 have h2 : ZB (YM p) (Vector.replicate 16 0,0) = _:=this
 rw [h2]; rfl

def YE (c : GCipher) : Gengine:=⟨c.Box,zc 256 c.Box 256,c.Places,zc 16 c.Places 16,⟨B5 c.Field.toNat (B2 c.Mix)⟩,⟨B5 c.Field.toNat (B2 (invM c.Field.toNat c.Mix))⟩,c.Rounds⟩
theorem Ki {c : GCipher} (h : Yr c = true) : QN c.Places = true:=by
 unfold Yr at h
 simp only [Bool.and_eq_true] at h
 exact h.1.1.2
theorem JD {c : GCipher} (h : Yr c = true) : 1 ≤ c.Rounds ∧ c.Rounds ≤ 20:=by
 unfold Yr at h
 simp only [Bool.and_eq_true,decide_eq_true_eq] at h
 exact h.1.2
theorem jj (c : GCipher) (h : Yr c = true) : VX c = some ⟨YE c⟩:=by
 obtain ⟨m,hm,h1,h2⟩:=Hj h
 have e : c.Field.toNat = m:=by omega
 unfold VX YE
 rw [e]
 simp only [hm,Zcv m h2 h1,Option.bind_some,zT,Bg _ (Ki h),A4 m h2 h1 (B2 c.Mix) c.Mix (Ah _),A4 m h2 h1 (B2 (invM m c.Mix)) (invM m c.Mix) (Ah _)]

def AX (c : GCipher) (n r : Nat) (k f : Nat → UInt8) : Nat → UInt8 :=
 HP (if r < n then UY c.Field.toNat (B2 c.Mix) (JC c.Places (zn c.Box f)) else JC c.Places (zn c.Box f)) k
def Bl (c : GCipher) (k f : Nat → UInt8) (n : Nat) : Nat → Nat → UInt8
 | 0=>HP f k
 | r + 1=>AX c n (r + 1) (yR c.Box k (r + 1)) (Bl c k f n r)
def yG (c : GCipher) (k f : Nat → UInt8) (n : Nat) : Nat → UInt8:=Bl c k f n n
theorem zQ (c : GCipher) (h : Yr c = true) (k f : Nat → UInt8) (n : Nat) (hn : n ≤ 1000) : Y0 c (vf 16 k) (vf 16 f) (n : Int) = some (vf 16 (yG c k f n)):=by
 obtain ⟨m,hm,h1,h2⟩:=Hj h
 have e : c.Field.toNat = m:=by omega
 have hp:=Ki h
 unfold Y0
 have i0 : idx (UF c.Box k n) (0 : Int) = some (vf 16 k):=HO c.Box k (Nat.zero_le n)
 simp only [Zaa c k n hn,Option.bind_some,i0,Hx]
 have:=Z6 (f:=Xl c (n : Int) (UF c.Box k n)) (fun i : Nat=>(vf 16 (Bl c k f n (i - 1)),(i : Int))) 1 (n + 1) (by omega) (t:=vf 16 (yG c k f n)) (fun i hi1 hi=>by
  unfold Xl
  obtain ⟨r,rfl⟩ : ∃ q,i = q + 1:=⟨i - 1,by omega⟩
  have e1 : decide (((r + 1 : Nat) : Int) ≤ (n : Int)) = true:=by simp only [decide_eq_true_eq]; omega
  have Yy:=Zbx m h2 h1 (B2 c.Mix) (JC c.Places (zn c.Box (Bl c k f n r)))
  rw [← Ah] at Yy
  simp only [Nat.add_sub_cancel,e1,if_true,kE,Option.bind_some,Zaj c.Places hp,hm,Yy,HO c.Box k (show r + 1 ≤ n by omega),Y8 (show r + 1 < 9223372036854775807 by omega)]
  by_cases hr : r + 1 < n
  ·have e2 : decide (((r + 1 : Nat) : Int) < (n : Int)) = true:=by simp only [decide_eq_true_eq]; omega
   simp only [e2,if_true,Option.bind_some,Hx,Bl,AX,hr,e]
  ·have e2 : decide (((r + 1 : Nat) : Int) < (n : Int)) = false:=by simp only [decide_eq_false_iff_not]; omega
   simp only [e2,Bool.false_eq_true,if_false,Option.bind_some,Hx,Bl,AX,hr]) (by
  unfold Xl
  have e1 : decide (((n + 1 : Nat) : Int) ≤ (n : Int)) = false:=by simp only [decide_eq_false_iff_not]; omega
  simp only [e1,Bool.false_eq_true,if_false,Nat.add_sub_cancel,yG])
 have h3 : ZB (Xl c (n : Int) (UF c.Box k n)) (vf 16 (HP f k),1) = _:=this
 rw [h3]; rfl
theorem kl (e : Ref Gengine) (s : Blk × Int) (f : Nat → UInt8) (hs : s.1 = vf 16 f) : ZB (Yi e s) (vf 16 f,0) = some (vf 16 (zn e.v.box f)):=by
 have:=X2 (Yi e s) f (zn e.v.box f) (by omega) 0 (by omega) (fun j hj=>by omega) (fun i _ hi a _ ha=>by
  unfold Yi
  simp only [hs,J9 hi,if_true,ZO _ hi,Option.bind_some,Int.toNat_natCast,Kw,zn]) (fun v=>by unfold Yi; simp)
 exact this
theorem zx (c : GCipher) (h : Yr c = true) (k f : Nat → UInt8) (n : Nat) (hn : n ≤ 1000) : YH ⟨YE c⟩ (UF c.Box k n) (vf 16 f) = some (vf 16 (yG c k f n)):=by
 have hp:=Ki h
 unfold YH
 have i0 : idx (UF c.Box k n) (0 : Int) = some (vf 16 k):=HO c.Box k (Nat.zero_le n)
 simp only [Option.bind_some,i0,T2]
 have:=Z6 (f:=Yk ⟨YE c⟩ (UF c.Box k n)) (fun i : Nat=>(vf 16 (Bl c k f n (i - 1)),(i : Int))) 1 (n + 1) (by omega) (t:=vf 16 (yG c k f n)) (fun i hi1 hi=>by
  unfold Yk
  obtain ⟨r,rfl⟩ : ∃ q,i = q + 1:=⟨i - 1,by omega⟩
  have e1 : decide (((r + 1 : Nat) : Int) < ((UF c.Box k n).length : Int)) = true:=by rw [Jf]; simp only [decide_eq_true_eq]; omega
  have e3 : wr (((UF c.Box k n).length : Int) - 1) = (n : Int):=by rw [Jf,YP (by omega)]; omega
  have hb:=kl ⟨YE c⟩ (vf 16 (Bl c k f n r),((r + 1 : Nat) : Int)) (Bl c k f n r) rfl
  have hmv:=v_move c.Places hp (zn c.Box (Bl c k f n r))
  have Yy:=v_mix c.Field.toNat (B2 c.Mix) (JC c.Places (zn c.Box (Bl c k f n r)))
  have hsl : ∀ g : Nat → UInt8,slc (vf 16 g).toList (0 : Int) (16 : Int) = some (vf 16 g).toList:=fun g=>by
   have:=KP (l:=(vf 16 g).toList) (i:=0) (j:=16) (by omega) (by simp)
   simp only [List.drop_zero] at this
   rw [List.take_of_length_le (by simp)] at this
   exact this
  have q1 : (YE c).box = c.Box:=rfl
  have q2 : (YE c).places = c.Places:=rfl
  have q3 : (YE c).mixer = ⟨B5 c.Field.toNat (B2 c.Mix)⟩:=rfl
  simp only [q1] at hb
  simp only [Nat.add_sub_cancel,e1,if_true,hb,Option.bind_some,q2,q3,hmv,e3,hsl,Yy,HO c.Box k (show r + 1 ≤ n by omega),Y8 (show r + 1 < 9223372036854775807 by omega)]
  by_cases hr : r + 1 < n
  ·have e2 : decide (((r + 1 : Nat) : Int) < (n : Int)) = true:=by simp only [decide_eq_true_eq]; omega
   simp only [e2,if_true,Option.bind_some,T2,Bl,AX,hr]
  ·have e2 : decide (((r + 1 : Nat) : Int) < (n : Int)) = false:=by simp only [decide_eq_false_iff_not]; omega
   simp only [e2,Bool.false_eq_true,if_false,Option.bind_some,T2,Bl,AX,hr]) (by
  unfold Yk
  have e1 : decide (((n + 1 : Nat) : Int) < ((UF c.Box k n).length : Int)) = false:=by rw [Jf]; simp only [decide_eq_false_iff_not]; omega
  simp only [e1,Bool.false_eq_true,if_false,Nat.add_sub_cancel,yG])
 have h3 : ZB (Yk ⟨YE c⟩ (UF c.Box k n)) (vf 16 (HP f k),1) = _:=this
 rw [h3]; rfl
theorem Hr (c : GCipher) (h : Yr c = true) (k f : Nat → UInt8) : Ys ⟨YE c⟩ (vf 16 k) (vf 16 f) = some (vf 16 (yG c k f c.Rounds.toNat)):=by
 have hr:=JD h
 obtain ⟨n,hn⟩ : ∃ n : Nat,c.Rounds = n:=⟨c.Rounds.toNat,by omega⟩
 have e1 : (YE c).rounds = (n : Int):=hn
 have e2 : (YE c).box = c.Box:=rfl
 have hk:=v_keys ⟨YE c⟩ k n (by omega)
 rw [e2] at hk
 unfold Ys
 simp only [e1,hk,Option.bind_some,zx c h k f n (by omega),hn,Int.toNat_natCast]
theorem HF (c : GCipher) (h : Yr c = true) (k f : Nat → UInt8) : Y0 c (vf 16 k) (vf 16 f) c.Rounds = some (vf 16 (yG c k f c.Rounds.toNat)):=by
 have hr:=JD h
 obtain ⟨n,hn⟩ : ∃ n : Nat,c.Rounds = n:=⟨c.Rounds.toNat,by omega⟩
 rw [hn]
 exact zQ c h k f n (by omega)
theorem Zav (x : Nat) : UInt8.ofNat (x % 256) = UInt8.ofNat x:=by
 apply UInt8.toNat_inj.1; simp
def tab (n : Nat) (f : Nat → UInt8) : List UInt8:=(List.range n).map f
@[simp] theorem tab_len (n : Nat) (f : Nat → UInt8) : (tab n f).length = n:=by simp [tab]
theorem Zcy {α : Type} (by_ : Nat) (z : α) (n : Nat) (h : n * by_ ≤ 140737488355328) (hby : 0 < by_) :
  ((if (decide ((n : Int) < 0)) = true then (none) else (some ()) : Option (Unit)).bind fun (_ : Unit)=>(if (decide ((wr ((n : Int) - (wr (0 - 0)))) > 0)) = true then ((mkS by_ z (wr ((n : Int) - (wr (0 - 0))))).bind fun (l14 : List α)=>(slc l14 (0 : Int) (0 : Int)).bind fun (l16 : List α)=>some l16) else (some ([])) : Option (List α)).bind fun (j6 : List α)=>some j6) = some []:=by
 have hn : n ≤ 140737488355328:=Nat.le_trans (Nat.le_mul_of_pos_right _ hby) h
 have e0 : wr (0 - 0) = 0:=by decide
 have e1 : wr ((n : Int) - (wr (0 - 0))) = (n : Int):=by rw [e0,YP (by omega)]; omega
 have e2 : ¬ ((n : Int) < 0):=by omega
 rw [e1]
 simp only [e2,decide_false,Bool.false_eq_true,if_false,Option.bind_some]
 by_cases h3 : (n : Int) > 0
 ·have hm : mkS by_ z (n : Int) = some (List.replicate n z):=by
   have h4 : ((n * by_ : Nat) : Int) ≤ 140737488355328:=by omega
   rw [Int.natCast_mul] at h4
   unfold mkS
   rw [if_pos ⟨by omega,h4⟩,Int.toNat_natCast]
  have hs : slc (List.replicate n z) (0 : Int) (0 : Int) = some []:=by
   have:=KP (l:=List.replicate n z) (i:=0) (j:=0) (Nat.le_refl _) (Nat.zero_le _)
   simpa using this
  simp [h3,hm,hs]
 ·have h4 : decide ((n : Int) > 0) = false:=by simp only [decide_eq_false_iff_not]; exact h3
  simp only [h4,Bool.false_eq_true,if_false,Option.bind_some]
theorem yM {α : Type} (by_ : Nat) (p0 : List (List α)) (L0 : Int × Int → Option (Fl (Int × Int) Int)) (L1 : Int × List α → Option (Fl (Int × List α) (List α)))
  (h0 : ∀ s,L0 s = if (decide (s.1 < (p0.length : Int))) = true then (((idx p0 s.1).bind fun (x : List α)=>(if (decide ((wr (s.2 + (x.length : Int))) < 0)) = true then (none) else (some ()) : Option (Unit)).bind fun (_ : Unit)=>some (wr (s.2 + (x.length : Int))) : Option (Int)).bind fun (j : Int)=>some (Fl.nx (wr (s.1 + 1),j))) else (some (Fl.ex s.2)))
  (h1 : ∀ s,L1 s = if (decide (s.1 < (p0.length : Int))) = true then ((idx p0 s.1).bind fun (x : List α)=>(app by_ s.2 x).bind fun (_ : List α)=>some (Fl.nx (wr (s.1 + 1),(s.2 ++ x)))) else (some (Fl.ex s.2)))
  (hl : p0.flatten.length * by_ ≤ 140737488355328) (hby : 0 < by_) (hn : p0.length < 9223372036854775807) :
  ZB L0 (0,0) = some (p0.flatten.length : Int) ∧ ZB L1 (0,[]) = some p0.flatten:=by
 have hlen : p0.flatten.length ≤ 140737488355328:=Nat.le_trans (Nat.le_mul_of_pos_right _ hby) hl
 have hstep : ∀ i (hi : i < p0.length),(p0.take (i + 1)).flatten = (p0.take i).flatten ++ p0[i]:=fun i hi=>by
  rw [List.take_succ_eq_append_getElem hi,List.flatten_append]; simp
 have hle : ∀ i,(p0.take i).flatten.length ≤ p0.flatten.length:=fun i=>by
  have : p0.flatten = (p0.take i).flatten ++ (p0.drop i).flatten:=by rw [← List.flatten_append,List.take_append_drop]
  rw [this,List.length_append]; omega
 constructor
 ·have:=Z6 (f:=L0) (fun i : Nat=>((i : Int),((p0.take i).flatten.length : Int))) 0 p0.length (Nat.zero_le _) (t:=(p0.flatten.length : Int)) (fun i _ hi=>by
   have hs:=congrArg List.length (hstep i hi)
   rw [List.length_append] at hs
   have h3:=hle (i + 1)
   have e1 : wr (((p0.take i).flatten.length : Int) + (p0[i].length : Int)) = ((p0.take (i + 1)).flatten.length : Int):=by rw [YP (by omega)]; omega
   have e2 : ¬ (((p0.take (i + 1)).flatten.length : Int) < 0):=by omega
   rw [h0]
   simp only [Int.ofNat_lt,hi,decide_true,if_true,Z7,List.getElem?_eq_getElem hi,Option.bind_some,e1,e2,decide_false,Bool.false_eq_true,if_false,Y8 (show i < 9223372036854775807 by omega)]) (by
   rw [h0]; simp)
  exact this
 ·have:=Z6 (f:=L1) (fun i : Nat=>((i : Int),(p0.take i).flatten)) 0 p0.length (Nat.zero_le _) (t:=p0.flatten) (fun i _ hi=>by
   have hs:=congrArg List.length (hstep i hi)
   rw [List.length_append] at hs
   have h3:=hle (i + 1)
   have hap : app by_ (p0.take i).flatten p0[i] = some ((p0.take i).flatten ++ p0[i]):=YC (by
    have : ((p0.take i).flatten.length + p0[i].length) * by_ ≤ p0.flatten.length * by_:=Nat.mul_le_mul_right _ (by omega)
    omega)
   rw [h1]
   simp only [Int.ofNat_lt,hi,decide_true,if_true,Z7,List.getElem?_eq_getElem hi,Option.bind_some,hap,Y8 (show i < 9223372036854775807 by omega),hstep i hi]) (by
   rw [h1]; simp)
  exact this
def JV (k : Nat) (b : UInt8) : UInt8:=shlB b (k : Int) ||| AT b ((8 - k : Nat) : Int)
theorem v_rot1 (b : UInt8) : Yg b 1 = some (JV 1 b):=by
 have e1 : wru (BitVec.ofInt 64 (IntKind.u64.wrap 1) &&& BitVec.ofInt 64 7).toNat = 1:=by decide +kernel
 have e2 : IntKind.u64.wrap (8 - 1) = 7:=by decide +kernel
 have e3 : XP 1 = some ():=rfl
 have e4 : XP 7 = some ():=rfl
 unfold Yg
 simp only [e1,e2,e3,e4,Option.bind_some]
 rfl
theorem v_rot4 (b : UInt8) : Yg b 4 = some (JV 4 b):=by
 have e1 : wru (BitVec.ofInt 64 (IntKind.u64.wrap 4) &&& BitVec.ofInt 64 7).toNat = 4:=by decide +kernel
 have e2 : IntKind.u64.wrap (8 - 4) = 4:=by decide +kernel
 have e3 : XP 4 = some ():=rfl
 unfold Yg
 simp only [e1,e2,e3,Option.bind_some]
 rfl
def zt (k : Nat) (b : UInt8) : UInt8:=Zv (QM (orI (zU (bI b) (k : Int)) (TB (zU (bI b) (k : Int)) 8)) 255)
theorem AF {p : UInt8 → Bool} (h : ((List.range 256).all fun n=>p (UInt8.ofNat n)) = true) (b : UInt8) : p b = true:=by
 have:=List.all_eq_true.1 h b.toNat (by simpa using UInt8.toNat_lt b)
 simpa using this
theorem turn0 (b : UInt8) : zt 0 b = b:=by
 have:=AF (p:=fun b=>zt 0 b == b) (by decide +kernel) b
 simpa using this
theorem turn1 (b : UInt8) : zt 1 b = JV 1 b:=by
 have:=AF (p:=fun b=>zt 1 b == JV 1 b) (by decide +kernel) b
 simpa using this
theorem turn4 (b : UInt8) : zt 4 b = JV 4 b:=by
 have:=AF (p:=fun b=>zt 4 b == JV 4 b) (by decide +kernel) b
 simpa using this
theorem kS (b : UInt8) (k : Nat) (h : k < 64) : XM b (k : Int) = some (zt k b):=by
 have e1 : IntKind.u64.wrap (k : Int) = (k : Int):=Zbp k (by omega)
 unfold XM
 rw [e1]
 have e2 : XP (k : Int) = some ():=by unfold XP; rw [if_pos (by omega)]
 rw [e2]; rfl
def zh (x : UInt8) : UInt8:=((QW 285 x ^^^ JV 1 (QW 285 x)) ^^^ JV 4 (QW 285 x)) ^^^ 90
def Y7 (n : Int) : GCipher:=⟨285,vf 256 fun x=>zh (UInt8.ofNat x),mf fun i j=>QW 285 (UInt8.ofNat (i ^^^ (4 + j))),vf 16 fun i=>UInt8.ofNat ((13 * i + 4) % 16),n⟩
theorem yX {i : Nat} (h : i < 256) : decide ((i : Int) < 256) = true:=by simp; omega
theorem Ai (L : Vector UInt8 256 × Int → Option (Fl (Vector UInt8 256 × Int) (Vector UInt8 256))) (h : Nat → UInt8) (hL : ∀ i : Nat,i < 256 → ∀ a : Nat → UInt8,L (vf 256 a,(i : Int)) = some (.nx ((vf 256 a).setIfInBounds i (h i),wr ((i : Int) + 1))))
  (he : ∀ v,L (v,256) = some (.ex v)) : ZB L (Vector.replicate 256 0,0) = some (vf 256 h):=by
 rw [TV]
 exact X2 L (fun _=>0) h (by omega) 0 (by omega) (fun j hj=>by omega) (fun i _ hi a _ _=>hL i hi a) he
theorem jl (E : UInt8 → Option UInt8) (hE : ∀ a,E a = some (QW 285 a)) (L1 : Mat × Int → Mat × Int → Option (Fl (Mat × Int) Mat)) (L0 : Mat × Int → Option (Fl (Mat × Int) Mat))
  (h1 : ∀ s t,L1 s t = if (decide (t.2 < 4)) = true then ((E (Zv (Bn s.2 (wr (4 + t.2))))).bind fun r=>(ZH t.1 s.2).bind fun x=>(ZH x t.2).bind fun _=>some (Fl.nx ((t.1.setIfInBounds (s.2).toNat (x.setIfInBounds (t.2).toNat r)),wr (t.2 + 1)))) else (some (Fl.ex t.1)))
  (h0 : ∀ s,L0 s = if (decide (s.2 < 4)) = true then ((ZB (L1 s) (s.1,0) : Option Mat).bind fun j=>some (Fl.nx (j,wr (s.2 + 1)))) else (some (Fl.ex s.1))) :
  ZB L0 (Vector.replicate 4 (Vector.replicate 4 (0 : UInt8)),0) = some (mf fun i j=>QW 285 (UInt8.ofNat (i ^^^ (4 + j)))):=by
 have inner : ∀ (i : Nat) (hi : i < 4) (g : MF),ZB (L1 (mf g,(i : Int))) (mf g,0) = some (mf fun r c=>if r = i then QW 285 (UInt8.ofNat (i ^^^ (4 + c))) else g r c):=by
  intro i hi g
  have:=Z6 (f:=L1 (mf g,(i : Int))) (fun j : Nat=>(mf fun r c=>if r = i ∧ c < j then QW 285 (UInt8.ofNat (i ^^^ (4 + c))) else g r c,(j : Int))) 0 4 (by omega) (t:=mf fun r c=>if r = i then QW 285 (UInt8.ofNat (i ^^^ (4 + c))) else g r c) (fun j _ hj=>by
   have e1 : wr (4 + (j : Int)) = ((4 + j : Nat) : Int):=by rw [YP (by omega)]; omega
   rw [h1]
   simp only [lt4 hj,if_true,e1,KR i (4 + j) (by omega) (by omega),Ub,hE,Option.bind_some,Tr _ hi,ZO _ hj,Int.toNat_natCast,T9,JM,wr4 (show j < 1000 by omega)]
   refine congrArg (fun z=>some (Fl.nx (z,((j + 1 : Nat) : Int)))) (WT fun r _ c _=>?_)
   by_cases hr : r = i
   ·subst hr
    by_cases hc : c = j
    ·subst hc; simp
    ·by_cases hc2 : c < j
     ·simp [hc,hc2,show c < j + 1 by omega]
     ·simp [hc,hc2,show ¬ c < j + 1 by omega]
   ·simp [hr]) (by
   rw [h1]
   simp only [show decide (((4 : Nat) : Int) < 4) = false from rfl,Bool.false_eq_true,if_false]
   refine congrArg (fun z=>some (Fl.ex z)) (WT fun r _ c hc=>?_)
   by_cases hr : r = i <;> simp [hr,hc])
  have e0 : (mf fun r c=>if r = i ∧ c < 0 then QW 285 (UInt8.ofNat (i ^^^ (4 + c))) else g r c) = mf g:=WT fun r _ c _=>by simp
  simp only [e0] at this
  exact this
 have:=Z6 (f:=L0) (fun i : Nat=>(mf fun r c=>if r < i then QW 285 (UInt8.ofNat (r ^^^ (4 + c))) else 0,(i : Int))) 0 4 (by omega) (t:=mf fun i j=>QW 285 (UInt8.ofNat (i ^^^ (4 + j)))) (fun i _ hi=>by
  rw [h0]
  simp only [lt4 hi,if_true,inner i hi,Option.bind_some,wr4 (show i < 1000 by omega)]
  refine congrArg (fun z=>some (Fl.nx (z,((i + 1 : Nat) : Int)))) (WT fun r _ c _=>?_)
  by_cases hr : r = i
  ·subst hr; simp
  ·by_cases hc2 : r < i
   ·simp [hr,hc2,show r < i + 1 by omega]
   ·simp [hr,hc2,show ¬ r < i + 1 by omega]) (by
  rw [h0]
  simp only [show decide (((4 : Nat) : Int) < 4) = false from rfl,Bool.false_eq_true,if_false]
  exact congrArg (fun z=>some (Fl.ex z)) (WT fun r hr c hc=>by simp [hr]))
 have e0 : (mf fun r c=>if r < 0 then QW 285 (UInt8.ofNat (r ^^^ (4 + c))) else 0) = mf fun _ _=>0:=WT fun r _ c _=>by simp
 simp only [e0] at this
 rw [yH]
 exact this
theorem A5 (L : Blk × Int → Option (Fl (Blk × Int) Blk))
  (hL : ∀ s,L s = if (decide (s.2 < 16)) = true then ((ZH s.1 s.2).bind fun _=>some (Fl.nx ((s.1.setIfInBounds (s.2).toNat (Zv (Int.tmod (wr ((wr (13 * s.2)) + 4)) 16))),wr (s.2 + 1)))) else (some (Fl.ex s.1))) :
  ZB L (Vector.replicate 16 0,0) = some (vf 16 fun i=>UInt8.ofNat ((13 * i + 4) % 16)):=by
 rw [TV]
 exact X2 L (fun _=>0) (fun i=>UInt8.ofNat ((13 * i + 4) % 16)) (by omega) 0 (by omega) (fun j hj=>by omega) (fun i _ hi a _ _=>by
  have e1 : wr (13 * (i : Int)) = 13 * (i : Int):=YP (by omega)
  have e2 : wr (13 * (i : Int) + 4) = ((13 * i + 4 : Nat) : Int):=by rw [YP (by omega)]; omega
  have e3 : Int.tmod ((13 * i + 4 : Nat) : Int) 16 = (((13 * i + 4) % 16 : Nat) : Int):=by rw [Int.tmod_eq_emod_of_nonneg (by omega)]; omega
  rw [hL]
  simp only [J9 hi,if_true,ZO _ hi,Option.bind_some,e1,e2,e3,Ub,Int.toNat_natCast]) (fun v=>by rw [hL]; simp)
theorem zB (n : Int) : WF n = some (Y7 n):=by
 have hinv : ∀ a,Yh 285 a = some (QW 285 a):=fun a=>KK 285 (by omega) a
 have h1:=Ai Wf (fun x=>zh (UInt8.ofNat x)) (fun i hi a=>by
  unfold Wf
  simp only [yX hi,if_true,Ub,hinv,v_rot1,v_rot4,Option.bind_some,ZO _ hi,Int.toNat_natCast]
  rfl) (fun v=>by unfold Wf; simp)
 have h2:=jl (Yh 285) hinv VH VD (fun s t=>by unfold VH; rfl) (fun s=>by unfold VD; rfl)
 have h3:=A5 VF (fun s=>by unfold VF; rfl)
 unfold WF Y7
 simp only [h1,h2,h3,Option.bind_some]
theorem Zbs (L : UInt8 × UInt8 × Int → Option (Fl (UInt8 × UInt8 × Int) UInt8)) (T : UInt8 → UInt8 → Option UInt8) (hT : ∀ a b,T a b = some (Z9 285 a b))
  (hL : ∀ s,L s = if (decide (s.2.2 > 0)) = true then (((if ((Int.tmod s.2.2 2) == 1) = true then ((T s.1 s.2.1).bind fun r=>some r) else (some s.1) : Option UInt8).bind fun j24=>(T s.2.1 s.2.1).bind fun r32=>some (j24,r32) : Option (UInt8 × UInt8)).bind fun j21=>some (Fl.nx (j21.1,j21.2,wr (Int.tdiv s.2.2 2)))) else (some (Fl.ex s.1))) :
  ∀ (f k : Nat) (a o : UInt8),k < 2 ^ f → f ≤ 62 → ZB L (o,a,(k : Int)) = some (B1 285 f a k o):=by
 intro f
 induction f with
 | zero =>
  intro k a o hk _
  have : k = 0:=by simpa using hk
  subst this
  exact X8 (by rw [hL]; simp [B1])
 | succ f ih =>
  intro k a o hk hf
  by_cases h0 : k = 0
  ·subst h0
   exact X8 (by rw [hL]; simp [B1])
  ·have hlt : k < 9223372036854775808:=Nat.lt_of_lt_of_le hk (Nat.pow_le_pow_right (by omega : 0 < 2) (by omega : f + 1 ≤ 63))
   have hst : L (o,a,(k : Int)) = some (.nx (if k % 2 = 1 then Z9 285 o a else o,Z9 285 a a,((k / 2 : Nat) : Int))):=by
    rw [hL]
    have c1 : (k : Int) > 0:=by omega
    have e3 : ((((k % 2 : Nat) : Int)) == 1) = decide (k % 2 = 1):=by
     rw [Bool.eq_iff_iff,beq_iff_eq,decide_eq_true_eq]; omega
    simp only [c1,decide_true,if_true,Zch,Zb8,hT,e3,Option.bind_some,qx (k / 2) (by omega)]
    by_cases c2 : k % 2 = 1 <;> simp [c2]
   rw [Wl hst,ih (k / 2) _ _ (by rw [Nat.pow_succ] at hk; omega) (by omega)]
   conv=>rhs; unfold B1
   rw [if_neg h0]
theorem kC : Uy 285 254 = some (vf 256 fun x=>QW 285 (UInt8.ofNat x)):=by
 have hp:=Zbs (V8 285) (YL 285) (JX 285 (by omega) (by omega)) (fun s=>by unfold V8; rfl)
 have hp2 : ∀ a,ZB (V8 285) (1,a,254) = some (QW 285 a):=fun a=>hp 8 254 a 1 (by omega) (by omega)
 have h1:=Ai (V1 285 254) (fun x=>QW 285 (UInt8.ofNat x)) (fun i hi a=>by
  unfold V1
  simp only [yX hi,if_true,Ub,hp2,Option.bind_some,ZO _ hi,Int.toNat_natCast]) (fun v=>by unfold V1; simp)
 unfold Uy
 simp only [h1,Option.bind_some]
def rots (x : UInt8) : UInt8:=((90 ^^^ x) ^^^ JV 1 x) ^^^ JV 4 x
theorem AO : Wh ([0,1,4] : List Int) 90 = some (vf 256 fun x=>rots (UInt8.ofNat x)):=by
 have t0 : ∀ b,XM b 0 = some b:=fun b=>by have:=kS b 0 (by omega); rw [turn0] at this; exact this
 have t1 : ∀ b,XM b 1 = some (JV 1 b):=fun b=>by have:=kS b 1 (by omega); rw [turn1] at this; exact this
 have t4 : ∀ b,XM b 4 = some (JV 4 b):=fun b=>by have:=kS b 4 (by omega); rw [turn4] at this; exact this
 have w1 : wr 1 = 1:=by decide
 have w2 : wr 2 = 2:=by decide
 have w3 : wr 3 = 3:=by decide
 have hin : ∀ (s : Vector UInt8 256 × Int),ZB (Yc [0,1,4] s) (90,0) = some (rots (Zv s.2)):=by
  intro s
  rw [Wl (f:=Yc [0,1,4] s) (s:=(90,0)) (s':=(90 ^^^ Zv s.2,1)) (by unfold Yc; simp [t0,w1,idx])]
  rw [Wl (f:=Yc [0,1,4] s) (s':=((90 ^^^ Zv s.2) ^^^ JV 1 (Zv s.2),2)) (by unfold Yc; simp [t1,w2,idx])]
  rw [Wl (f:=Yc [0,1,4] s) (s':=(((90 ^^^ Zv s.2) ^^^ JV 1 (Zv s.2)) ^^^ JV 4 (Zv s.2),3)) (by unfold Yc; simp [t4,w3,idx])]
  exact X8 (by unfold Yc; simp; rfl)
 have h1:=Ai (XO [0,1,4] 90) (fun x=>rots (UInt8.ofNat x)) (fun i hi a=>by
  unfold XO
  simp only [yX hi,if_true,hin,Ub,Option.bind_some,ZO _ hi,Int.toNat_natCast]) (fun v=>by unfold XO; simp)
 unfold Wh
 simp only [h1,Option.bind_some]
theorem Za5 (f g : Nat → UInt8) : Tc (vf 256 f) (vf 256 g) = some (vf 256 fun x=>g (f x).toNat):=by
 have hv : ∀ x : UInt8,ZH (vf 256 g) (bI x) = some (g x.toNat):=fun x=>ZO g (UInt8.toNat_lt x)
 have h1:=Ai (Um (vf 256 f) (vf 256 g)) (fun x=>g (f x).toNat) (fun i hi a=>by
  unfold Um
  simp only [yX hi,if_true,Option.bind_some,ZO _ hi,hv,Int.toNat_natCast]) (fun v=>by unfold Um; simp)
 unfold Tc
 simp only [h1,Option.bind_some]
theorem kp (x : UInt8) : rots (UInt8.ofNat (QW 285 x).toNat) = zh x:=by
 rw [UInt8.ofNat_toNat]
 unfold rots zh
 ac_rfl
theorem kg (n : Int) : Uw n = some (Y7 n):=by
 have hinv : ∀ a,Vx 285 a = some (QW 285 a):=fun a=>Zcn 285 (by omega) (by omega) a
 have h2:=jl (Vx 285) hinv Tn Tm (fun s t=>by unfold Tn; rfl) (fun s=>by unfold Tm; rfl)
 have h3:=A5 Tq (fun s=>by unfold Tq; rfl)
 unfold Uw Y7
 simp only [kC,AO,Za5,kp,h2,h3,Option.bind_some]

theorem Jh {α : Type} (n : Nat) (f : Nat → α) : (vf n f).toList = (List.range n).map f:=by
 apply List.ext_getElem
 ·simp
 ·intro i h1 h2
  simp at h1
  rw [Vector.getElem_toList,KD f h1]; simp
theorem Za9 : Zcc ((List.range 256).map fun x=>zh (UInt8.ofNat x)) = true:=by decide +kernel
theorem jt : QN (vf 16 fun i=>UInt8.ofNat ((13 * i + 4) % 16)) = true:=by
 unfold QN
 rw [Jh]
 decide +kernel
theorem j0 : HK 285 = true:=by decide +kernel
theorem Za7 : (detC 285 (mf fun i j=>QW 285 (UInt8.ofNat (i ^^^ (4 + j)))) != 0) = true:=by decide +kernel
theorem kb (n : Int) (h : 1 ≤ n ∧ n ≤ 20) : Yr (Y7 n) = true:=by
 unfold Yr Y7
 simp only [Jh,Za9,jt,j0,Bool.true_and,h,decide_true,Bool.and_true,and_self]
 exact Za7
theorem KC (p0 : List (List UInt8)) (hl : p0.flatten.length ≤ 140737488355328) (hn : p0.length < 9223372036854775807) : Z3 p0 = some p0.flatten:=by
 obtain ⟨a1,a2⟩:=yM 1 p0 (Xe p0) (Xg p0) (fun s=>by unfold Xe; rfl) (fun s=>by unfold Xg; rfl) (by omega) (by omega) hn
 have hg : Yz (p0.flatten.length : Int) = some []:=by
  unfold Yz
  exact Zcy 1 _ _ (by omega) (by omega)
 unfold Z3
 simp only [a1,a2,hg,Option.bind_some]
theorem jH (l : List UInt8) (h : l.length ≤ 140737488355328) : YW l = some l:=by
 unfold YW
 rw [YC (by simp; omega)]; rfl
theorem Za6 (l : List UInt8) (h : l.length ≤ 140737488355328) : Ta l = some l:=by
 unfold Ta
 rw [YC (by simp; omega)]; rfl
theorem AC {l : List UInt8} {n : Nat} (h : n ≤ l.length) : Qf n l = some (vf n fun j=>l.getD j 0):=by
 unfold Qf
 rw [dif_pos h]
 refine congrArg some (TS fun i hi=>?_)
 rw [KD _ hi,List.getD_eq_getElem?_getD,List.getElem?_eq_getElem (by omega)]
 simp
theorem jG {l : List UInt8} {i j : Nat} (h : i ≤ j) (h2 : j ≤ l.length) : ∃ r,slc l (i : Int) (j : Int) = some r ∧ r.length = j - i ∧ ∀ k,k < j - i → r.getD k 0 = l.getD (i + k) 0:=by
 refine ⟨_,KP h h2,by simp; omega,fun k hk=>?_⟩
 rw [List.getD_eq_getElem?_getD,List.getD_eq_getElem?_getD,List.getElem?_drop,List.getElem?_take,if_pos (by omega)]

def beL (n : Int) : Nat → List UInt8
 | 0=>[]
 | k + 1=>Zv (TB n ((8 * k : Nat) : Int)) :: beL n k
theorem UR (n : Int) : ∀ k,(beL n k).length = k
 | 0=>rfl
 | k + 1=>by rw [beL,List.length_cons,UR n k]
theorem qt (n : Int) (L : List UInt8 × Int → Option (Fl (List UInt8 × Int) (List UInt8))) (K : Nat)
  (hL : ∀ (k : Nat) (acc : List UInt8),k < K → acc.length ≤ 100000000 → L (acc,(k : Int)) = some (.nx (acc ++ [Zv (TB n ((8 * k : Nat) : Int))],(k : Int) - 1))) (he : ∀ acc,L (acc,-1) = some (.ex acc)) :
  ∀ (k : Nat) (acc : List UInt8),k ≤ K → acc.length + k ≤ 100000000 → ZB L (acc,(k : Int) - 1) = some (acc ++ beL n k):=by
 intro k
 induction k with
 | zero=>intro acc _ _; rw [show ((0 : Nat) : Int) - 1 = -1 from rfl,X8 (he acc)]; simp [beL]
 | succ k ih =>
  intro acc hk hl
  have e : ((k + 1 : Nat) : Int) - 1 = (k : Int):=by omega
  rw [e,Wl (hL k acc (by omega) (by omega)),ih _ (by omega) (by simp; omega)]
  simp [beL]
theorem K4 (n : Int) (m : Nat) (hm : m ≤ 100) : Yv n (m : Int) = some (beL n m):=by
 have h:=qt n (Vj n) 100 (fun k acc hk hl=>by
  unfold Vj
  have e1 : wr (8 * (k : Int)) = ((8 * k : Nat) : Int):=by rw [YP (by omega)]; omega
  have e2 : XP ((8 * k : Nat) : Int) = some ():=by unfold XP; rw [if_pos (by omega)]
  have e3 : wr ((k : Int) - 1) = (k : Int) - 1:=YP (by omega)
  have e4 : decide ((k : Int) ≥ 0) = true:=by simp
  simp only [e1,e2,e3,e4,if_true,Option.bind_some]
  rw [YC (by simp; omega)]; rfl) (fun acc=>by unfold Vj; simp) m [] hm (by simp; omega)
 have e : wr ((m : Int) - 1) = (m : Int) - 1:=YP (by omega)
 unfold Yv
 rw [e,h]; rfl
theorem Zbl (x : Int) : Zv (QM x 255) = Zv x:=by
 have h1 : (BitVec.ofInt 64 255) = (255 : BitVec 64):=rfl
 have h2 : (BitVec.ofInt 64 x &&& BitVec.ofInt 64 255).toNat = (x % 256).toNat:=by
  rw [BitVec.toNat_and,h1,show (255 : BitVec 64).toNat = 2 ^ 8 - 1 from rfl,Nat.and_two_pow_sub_one_eq_mod,BitVec.toNat_ofInt]
  omega
 unfold QM Zv
 rw [h2,YP (by omega)]
 congr 1
 omega
theorem z8 (n : Int) : V0 n = some (beL n 4):=by
 have e0 : TB n 0 = n:=by unfold TB; simp
 unfold V0
 simp only [Zbl]
 have : beL n 4 = [Zv (TB n 24),Zv (TB n 16),Zv (TB n 8),Zv (TB n 0)]:=rfl
 rw [this,e0]

def VJ (n : Nat) : Nat:=(24 - n % 16) % 16
def KV (d : List UInt8) : List UInt8:=((d ++ [128]) ++ List.replicate (VJ (d.length + 1)) 0) ++ beL (d.length : Int) 8
theorem jE (d : List UInt8) : ∃ n,(KV d).length = 16 * n ∧ n ≤ d.length + 2:=by
 have : (KV d).length = d.length + 1 + VJ (d.length + 1) + 8:=by simp [KV,UR]; omega
 refine ⟨(d.length + 1 + VJ (d.length + 1) + 8) / 16,?_,?_⟩
 ·rw [this]; unfold VJ; omega
 ·unfold VJ; omega
theorem jD (L : List UInt8 → Option (Fl (List UInt8) (List UInt8))) (hL : ∀ s,L s = if ((Int.tmod (s.length : Int) 16) != 8) = true then ((app 1 s ([0] : List UInt8)).bind fun (_ : List UInt8)=>some (Fl.nx (s ++ ([0] : List UInt8)))) else (some (Fl.ex s)))
  (l : List UInt8) (hl : l.length ≤ 100000000) : ZB L l = some (l ++ List.replicate (VJ l.length) 0):=by
 have ht : ∀ n : Nat,Int.tmod (n : Int) 16 = ((n % 16 : Nat) : Int):=fun n=>by rw [Int.tmod_eq_emod_of_nonneg (by omega)]; omega
 have:=Z6 (f:=L) (fun i : Nat=>l ++ List.replicate i 0) 0 (VJ l.length) (Nat.zero_le _) (t:=l ++ List.replicate (VJ l.length) 0) (fun i _ hi=>by
  rw [hL,ht]
  have hz : VJ l.length < 16:=by unfold VJ; omega
  have e : ((((l ++ List.replicate i 0).length % 16 : Nat) : Int) != 8) = true:=by
   simp only [List.length_append,List.length_replicate,bne_iff_ne,ne_eq]
   unfold VJ at hi; omega
  rw [e,if_pos rfl,YC (by simp; omega)]
  simp [List.replicate_succ']) (by
  rw [hL,ht]
  have e : ((((l ++ List.replicate (VJ l.length) 0).length % 16 : Nat) : Int) != 8) = false:=by
   simp only [List.length_append,List.length_replicate,bne_eq_false_iff_eq]
   unfold VJ; omega
  rw [e]; rfl)
 simpa using this
theorem yY (d : List UInt8) (h : d.length ≤ 10000000) : Vq d = some (KV d):=by
 have h1:=jD Ud (fun s=>by unfold Ud; rfl) (d ++ [128]) (by simp; omega)
 have h2:=K4 (d.length : Int) 8 (by omega)
 have h3 : Yv (d.length : Int) 8 = some (beL (d.length : Int) 8):=h2
 have hz : VJ (d.length + 1) < 16:=by unfold VJ; omega
 have e : (d ++ [128]).length = d.length + 1:=by simp
 rw [e] at h1
 unfold Vq KV
 rw [jH d (by omega),Option.bind_some,YC (by simp; omega),Option.bind_some,h1,Option.bind_some,h3,Option.bind_some,YC (by simp [UR]; omega)]
 rfl
theorem Zbw (d : List UInt8) (h : d.length ≤ 10000000) : TF d = some (KV d):=by
 have h1:=jD T7 (fun s=>by unfold T7; rfl) (d ++ [128]) (by simp; omega)
 have hz : VJ (d.length + 1) < 16:=by unfold VJ; omega
 have e : (d ++ [128]).length = d.length + 1:=by simp
 rw [e] at h1
 have h2:=qt (d.length : Int) (VU d) 100 (fun k acc hk hl=>by
  unfold VU
  have e1 : wr (8 * (k : Int)) = ((8 * k : Nat) : Int):=by rw [YP (by omega)]; omega
  have e5 : IntKind.u64.wrap ((8 * k : Nat) : Int) = ((8 * k : Nat) : Int):=Zbp _ (by omega)
  have e2 : XP ((8 * k : Nat) : Int) = some ():=by unfold XP; rw [if_pos (by omega)]
  have e3 : wr ((k : Int) - 1) = (k : Int) - 1:=YP (by omega)
  have e4 : decide ((k : Int) ≥ 0) = true:=by simp
  simp only [e1,e5,e2,e3,e4,if_true,Option.bind_some,Zbl]
  rw [YC (by simp; omega)]; rfl) (fun acc=>by unfold VU; simp) 8 ((d ++ [128]) ++ List.replicate (VJ (d.length + 1)) 0) (by omega) (by simp; omega)
 have h3 : ZB (VU d) ((d ++ [128]) ++ List.replicate (VJ (d.length + 1)) 0,7) = some (((d ++ [128]) ++ List.replicate (VJ (d.length + 1)) 0) ++ beL (d.length : Int) 8):=h2
 unfold TF KV
 rw [Za6 d (by omega),Option.bind_some,YC (by simp; omega),Option.bind_some,h1,Option.bind_some,h3]
 rfl

def qp (l : List UInt8) (i : Nat) : Blk:=vf 16 fun j=>l.getD (16 * i + j) 0
def X4 (l : List UInt8) (n : Nat) : List Blk:=(List.range n).map (qp l)
theorem Kb (l : List UInt8) (n : Nat) : (X4 l n).length = n:=by simp [X4]
theorem HD (l : List UInt8) (n : Nat) : X4 l (n + 1) = X4 l n ++ [qp l n]:=by simp [X4,List.range_succ]
theorem kr (l : List UInt8) (n : Nat) (hl : l.length = 16 * n) (hn : n ≤ 100000000) : UE l = some (X4 l n):=by
 have:=Z6 (f:=WD l) (fun i : Nat=>(X4 l i,((16 * i : Nat) : Int))) 0 n (Nat.zero_le _) (t:=X4 l n) (fun i _ hi=>by
  unfold WD
  have e1 : wr (((16 * i : Nat) : Int) + 16) = ((16 * (i + 1) : Nat) : Int):=by rw [YP (by omega)]; omega
  have e2 : decide (((16 * i : Nat) : Int) < (l.length : Int)) = true:=by simp; omega
  obtain ⟨r,r1,r2,r3⟩:=jG (l:=l) (i:=16 * i) (j:=16 * (i + 1)) (by omega) (by omega)
  have e3 : Qf 16 r = some (qp l i):=by
   rw [AC (by omega)]
   exact congrArg some (Y2 fun j hj=>r3 j (by omega))
  simp only [e1,e2,if_true,r1,e3,Option.bind_some]
  rw [YC (by rw [Kb]; simp; omega),HD]; rfl) (by
  unfold WD
  have e2 : decide (((16 * n : Nat) : Int) < (l.length : Int)) = false:=by simp; omega
  simp only [e2,Bool.false_eq_true,if_false])
 have h2 : ZB (WD l) ([],0) = _:=this
 unfold UE
 rw [h2]; rfl
theorem jV (l : List UInt8) (n : Nat) (hl : l.length = 16 * n) (hn : n ≤ 100000000) : VO l = some (X4 l n):=by
 have:=Z6 (f:=X7 l) (fun i : Nat=>(X4 l i,((16 * i : Nat) : Int))) 0 n (Nat.zero_le _) (t:=X4 l n) (fun i _ hi=>by
  unfold X7
  have e1 : wr (((16 * i : Nat) : Int) + 16) = ((16 * (i + 1) : Nat) : Int):=by rw [YP (by omega)]; omega
  have e2 : decide (((16 * (i + 1) : Nat) : Int) ≤ (l.length : Int)) = true:=by simp; omega
  have h3:=X2 (XW l (X4 l i,((16 * i : Nat) : Int))) (fun _=>0) (fun j=>l.getD (16 * i + j) 0) (by omega) 0 (by omega) (fun j hj=>by omega) (fun j _ hj a _ _=>by
   unfold XW
   have e4 : wr (((16 * i : Nat) : Int) + (j : Int)) = ((16 * i + j : Nat) : Int):=by rw [YP (by omega)]; omega
   have e5 : 16 * i + j < l.length:=by omega
   simp only [J9 hj,if_true,e4,Z7,List.getElem?_eq_getElem e5,ZO _ hj,Option.bind_some,Int.toNat_natCast,List.getD_eq_getElem?_getD,Option.getD_some]) (fun v=>by unfold XW; simp)
  have h4 : ZB (XW l (X4 l i,((16 * i : Nat) : Int))) (Vector.replicate 16 0,0) = some (qp l i):=by rw [TV]; exact h3
  simp only [e1,e2,if_true,h4,Option.bind_some]
  rw [YC (by rw [Kb]; simp; omega),HD]; rfl) (by
  unfold X7
  have e1 : wr (((16 * n : Nat) : Int) + 16) = ((16 * (n + 1) : Nat) : Int):=by rw [YP (by omega)]; omega
  have e2 : decide (((16 * (n + 1) : Nat) : Int) ≤ (l.length : Int)) = false:=by simp; omega
  simp only [e1,e2,Bool.false_eq_true,if_false])
 have h2 : ZB (X7 l) ([],0) = _:=this
 unfold VO
 rw [h2]; rfl

abbrev Dig:=Vector UInt8 32
def df (v : Dig) (i : Nat) : UInt8:=v[i]?.getD default
theorem Zbb (v : Dig) : v = vf 32 (df v):=qK v
def Kx : Dig:=vf 32 fun i=>UInt8.ofNat (17 * i)
theorem lt32 {i : Nat} (h : i < 32) : decide ((i : Int) < 32) = true:=by simp; omega
theorem Zd5 : XS = some Kx:=by
 have h:=X2 YT (fun _=>0) (fun i=>UInt8.ofNat (17 * i)) (by omega) 0 (by omega) (fun j hj=>by omega) (fun i _ hi a _ _=>by
  unfold YT
  have e1 : wr (17 * (i : Int)) = ((17 * i : Nat) : Int):=by rw [YP (by omega)]; omega
  simp only [lt32 hi,if_true,ZO _ hi,Option.bind_some,e1,Ub,Int.toNat_natCast]) (fun v=>by unfold YT; simp)
 have h2 : ZB YT (Vector.replicate 32 0,0) = some Kx:=by rw [TV]; exact h
 unfold XS
 rw [h2]; rfl
theorem ki : UC = some Kx:=by
 have h:=X2 Wq (fun _=>0) (fun i=>UInt8.ofNat (17 * i)) (by omega) 0 (by omega) (fun j hj=>by omega) (fun i _ hi a _ _=>by
  unfold Wq
  have e1 : wr (17 * (i : Int)) = ((17 * i : Nat) : Int):=by rw [YP (by omega)]; omega
  have e2 : Int.tmod ((17 * i : Nat) : Int) 256 = ((17 * i % 256 : Nat) : Int):=by rw [Int.tmod_eq_emod_of_nonneg (by omega)]; omega
  simp only [lt32 hi,if_true,ZO _ hi,Option.bind_some,e1,e2,Ub,Zav,Int.toNat_natCast]) (fun v=>by unfold Wq; simp)
 have h2 : ZB Wq (Vector.replicate 32 0,0) = some Kx:=by rw [TV]; exact h
 unfold UC
 rw [h2]; rfl
def hiF (s : Nat → UInt8) : Nat → UInt8:=fun i=>s (16 + i)
def ye (f g : Nat → UInt8) : Nat → UInt8:=fun i=>if i < 16 then f i else g (i - 16)
def qv (c : GCipher) (k a : Nat → UInt8) : Nat → UInt8:=HP (yG c k a c.Rounds.toNat) a
def absC (c : GCipher) (s m : Nat → UInt8) : Nat → UInt8 :=
 ye (qv c (hiF s) (HP s m)) (qv c (qv c (hiF s) (HP s m)) (HP (hiF s) m))
theorem jp (s : Nat → UInt8) : V7 (vf 32 s) = some (vf 16 s,vf 16 (hiF s)):=by
 have:=Z6 (f:=XY (vf 32 s)) (fun i : Nat=>(vf 16 (fun j=>if j < i then hiF s j else 0),vf 16 (fun j=>if j < i then s j else 0),(i : Int))) 0 16 (by omega) (t:=(vf 16 (hiF s),vf 16 s)) (fun i _ hi=>by
  unfold XY
  have e1 : wr (16 + (i : Int)) = ((16 + i : Nat) : Int):=by rw [YP (by omega)]; omega
  simp only [J9 hi,if_true,e1,ZO _ (show i < 32 by omega),ZO _ (show 16 + i < 32 by omega),ZO _ hi,Option.bind_some,Int.toNat_natCast,T9,Y8 (show i < 9223372036854775807 by omega)]
  have e : ∀ f : Nat → UInt8,(vf 16 fun j=>if j = i then f i else if j < i then f j else 0) = vf 16 fun j=>if j < i + 1 then f j else 0:=fun f=>Y2 fun j _=>by
   by_cases h1 : j = i
   ·subst h1; simp
   ·by_cases h2 : j < i
    ·rw [if_neg h1,if_pos h2,if_pos (by omega)]
    ·rw [if_neg h1,if_neg h2,if_neg (by omega)]
  have ea:=e (hiF s)
  have eb:=e s
  rw [eb]
  have ea' : (vf 16 fun j=>if j = i then s (16 + i) else if j < i then hiF s j else 0) = vf 16 fun j=>if j < i + 1 then hiF s j else 0:=ea
  rw [ea']) (by
  unfold XY
  simp only [show decide (((16 : Nat) : Int) < 16) = false from rfl,Bool.false_eq_true,if_false]
  refine congrArg (fun z=>some (Fl.ex z)) (congr (congrArg Prod.mk (Y2 fun j hj=>by rw [if_pos hj])) (Y2 fun j hj=>by rw [if_pos hj])))
 have h2 : ZB (XY (vf 32 s)) (vf 16 (fun _=>0),vf 16 (fun _=>0),0) = some (vf 16 (hiF s),vf 16 s):=by
  have e0 : ∀ f : Nat → UInt8,(vf 16 fun j=>if j < 0 then f j else 0) = vf 16 fun _=>0:=fun f=>Y2 fun j _=>by simp
  simp only [e0] at this
  exact this
 unfold V7
 rw [TV,h2]; rfl
theorem jy (c : GCipher) (h : Yr c = true) (s m : Nat → UInt8) : Wz c (vf 32 s) (vf 16 m) = some (vf 32 (absC c s m)):=by
 have hj : ∀ f g : Nat → UInt8,ZB (X9 (vf 16 f) (vf 16 g)) (Vector.replicate 32 0,0) = some (vf 32 (ye f g)):=by
  intro f g
  have:=Z6 (f:=X9 (vf 16 f) (vf 16 g)) (fun i : Nat=>(vf 32 (fun j=>if j < i then f j else if 16 ≤ j ∧ j < 16 + i then g (j - 16) else 0),(i : Int))) 0 16 (by omega) (t:=vf 32 (ye f g)) (fun i _ hi=>by
   unfold X9
   have e1 : wr (16 + (i : Int)) = ((16 + i : Nat) : Int):=by rw [YP (by omega)]; omega
   simp only [J9 hi,if_true,e1,ZO _ (show i < 32 by omega),ZO _ (show 16 + i < 32 by omega),ZO _ hi,Option.bind_some,Int.toNat_natCast,T9,Y8 (show i < 9223372036854775807 by omega)]
   refine congrArg (fun z=>some (Fl.nx (z,((i + 1 : Nat) : Int)))) (Y2 fun j hj=>?_)
   by_cases h1 : j = 16 + i
   ·subst h1
    rw [if_pos rfl,if_neg (by omega),if_pos (by omega)]
    congr 1; omega
   ·rw [if_neg h1]
    by_cases h2 : j = i
    ·subst h2; rw [if_pos rfl,if_pos (by omega)]
    ·rw [if_neg h2]
     by_cases h3 : j < i
     ·rw [if_pos h3,if_pos (by omega)]
     ·rw [if_neg h3,if_neg (show ¬ j < i + 1 by omega)]
      by_cases h4 : 16 ≤ j ∧ j < 16 + i
      ·rw [if_pos h4,if_pos (by omega)]
      ·rw [if_neg h4,if_neg (by omega)]) (by
   unfold X9
   simp only [show decide (((16 : Nat) : Int) < 16) = false from rfl,Bool.false_eq_true,if_false]
   refine congrArg (fun z=>some (Fl.ex z)) (Y2 fun j hj=>?_)
   unfold ye
   by_cases h3 : j < 16
   ·rw [if_pos h3,if_pos h3]
   ·rw [if_neg h3,if_neg h3,if_pos (by omega)])
  have e0 : (vf 32 fun j=>if j < 0 then f j else if 16 ≤ j ∧ j < 16 + 0 then g (j - 16) else 0) = vf 32 fun _=>0:=Y2 fun j _=>by rw [if_neg (by omega),if_neg (by omega)]
  simp only [e0] at this
  rw [TV]
  exact this
 unfold Wz
 simp only [jp,Option.bind_some,Hx,HF c h,hj]
 rfl
theorem Zbm (c : GCipher) (h : Yr c = true) (s m : Nat → UInt8) : Y6 ⟨YE c⟩ (vf 32 s) (vf 16 m) = some (vf 32 (absC c s m)):=by
 have g1 : ∀ {n : Nat} (f : Nat → UInt8) (k : Nat),k < n → (vf n f).toList.getD k 0 = f k:=fun f k hk=>by
  rw [Jh,List.getD_eq_getElem?_getD,List.getElem?_map,List.getElem?_range hk]; rfl
 have hl : ∀ {n : Nat} (f : Nat → UInt8),(vf n f).toList.length = n:=fun f=>by simp
 have cut : ∀ {n : Nat} (f : Nat → UInt8) (i j : Nat),i ≤ j → j ≤ n → ∃ r,slc (vf n f).toList (i : Int) (j : Int) = some r ∧ r.length = j - i ∧ Qf (j - i) r = some (vf (j - i) fun k=>f (i + k)) ∧ ∀ k,k < j - i → r.getD k 0 = f (i + k):=by
  intro n f i j hij hjn
  obtain ⟨r,r1,r2,r3⟩:=jG (l:=(vf n f).toList) (i:=i) (j:=j) hij (by rw [hl]; exact hjn)
  have r4 : ∀ k,k < j - i → r.getD k 0 = f (i + k):=fun k hk=>by rw [r3 k hk,g1 f (i + k) (by omega)]
  refine ⟨r,r1,r2,?_,r4⟩
  rw [AC (by omega)]
  exact congrArg some (Y2 r4)
 obtain ⟨l,l1,l2,l3,l4⟩:=cut (n:=32) s 0 16 (by omega) (by omega)
 obtain ⟨l',l1',l2',l3',l4'⟩:=cut (n:=32) s 16 32 (by omega) (by omega)
 have a1 : slc (vf 32 s).toList (0 : Int) (16 : Int) = some l:=l1
 have a2 : slc (vf 32 s).toList (16 : Int) (32 : Int) = some l':=l1'
 have a3 : Qf 16 l = some (vf 16 s):=by
  have : Qf 16 l = some (vf 16 fun k=>s (0 + k)):=l3
  rw [this]; exact congrArg some (Y2 fun k _=>by rw [Nat.zero_add])
 have a4 : Qf 16 l' = some (vf 16 (hiF s)):=l3'
 have join : ∀ f g : Nat → UInt8,((slc (vf 16 f).toList (0 : Int) (16 : Int)).bind fun (l56 : (List UInt8))=>(slc (vf 16 g).toList (0 : Int) (16 : Int)).bind fun (l59 : (List UInt8))=>(Z3 ([l56,l59] : (List (List UInt8)))).bind fun (r64 : (List UInt8))=>(Qf 32 r64).bind fun (x67 : (Vector UInt8 32))=>some x67 : Option ((Vector UInt8 32))) = some (vf 32 (ye f g)):=by
  intro f g
  obtain ⟨p,p1,p2,_,p4⟩:=cut (n:=16) f 0 16 (by omega) (by omega)
  obtain ⟨q,q1,q2,_,q4⟩:=cut (n:=16) g 0 16 (by omega) (by omega)
  have b1 : slc (vf 16 f).toList (0 : Int) (16 : Int) = some p:=p1
  have b2 : slc (vf 16 g).toList (0 : Int) (16 : Int) = some q:=q1
  have b3 : Z3 [p,q] = some (p ++ q):=by
   have:=KC [p,q] (by simp; omega) (by simp)
   simpa using this
  rw [b1,Option.bind_some,b2,Option.bind_some,b3,Option.bind_some,AC (by simp; omega),Option.bind_some]
  refine congrArg some (Y2 fun k hk=>?_)
  unfold ye
  rw [List.getD_eq_getElem?_getD]
  by_cases h1 : k < 16
  ·rw [if_pos h1,List.getElem?_append_left (by omega),← List.getD_eq_getElem?_getD,p4 k (by omega),Nat.zero_add]
  ·rw [if_neg h1,List.getElem?_append_right (by omega),← List.getD_eq_getElem?_getD,q4 (k - p.length) (by omega),Nat.zero_add,show p.length = 16 from p2]
 have in1 : ∀ k a : Nat → UInt8,((Ys ⟨YE c⟩ (vf 16 k) (vf 16 a)).bind fun (r34 : (Vector UInt8 16))=>(Yo r34 (vf 16 a)).bind fun (r36 : (Vector UInt8 16))=>some r36 : Option (Vector UInt8 16)) = some (vf 16 (qv c k a)):=fun k a=>by
  rw [Hr c h,Option.bind_some,T2,Option.bind_some]; rfl
 unfold Y6
 rw [a1,Option.bind_some,a3,Option.bind_some,a2,Option.bind_some,a4,Option.bind_some,T2,Option.bind_some,in1,Option.bind_some,T2,Option.bind_some,in1,Option.bind_some,join,Option.bind_some]
 rfl

def absV (c : GCipher) (s : Dig) (m : Blk) : Dig:=vf 32 (absC c (df s) (bf m))
theorem qA (c : GCipher) (h : Yr c = true) (s : Dig) (m : Blk) : Y6 ⟨YE c⟩ s m = some (absV c s m) ∧ Wz c s m = some (absV c s m):=by
 have h1:=Zbm c h (df s) (bf m)
 have h2:=jy c h (df s) (bf m)
 rw [← Zbb,← Zcz] at h1 h2
 exact ⟨h1,h2⟩
def Kl (c : GCipher) (d : List UInt8) : Dig:=(X4 (KV d) ((KV d).length / 16)).foldl (absV c) Kx
theorem He (c : GCipher) (h : Yr c = true) (ps : List (List UInt8)) (hl : ps.flatten.length ≤ 10000000) (hn : ps.length < 9223372036854775807) : Yq ⟨YE c⟩ ps = some (Kl c ps.flatten):=by
 obtain ⟨n,n1,n2⟩:=jE ps.flatten
 have e : (KV ps.flatten).length / 16 = n:=by omega
 have h1:=Wr (f:=YS ⟨YE c⟩ (X4 (KV ps.flatten) n)) (X4 (KV ps.flatten) n) (fun (b : Dig) i=>(b,i)) (absV c) Kx (t:=Kl c ps.flatten) (by rw [Kb]; omega) (fun i hi=>by
  unfold YS
  simp only [Int.ofNat_lt,hi,decide_true,if_true,Z7,List.getElem?_eq_getElem hi,Option.bind_some,(qA c h _ _).1]) (by
  unfold YS Kl
  rw [e]; simp)
 unfold Yq
 rw [Zd5,Option.bind_some,KC ps (by omega) hn,Option.bind_some,yY _ hl,Option.bind_some,kr _ n n1 (by omega),Option.bind_some]
 have h2 : ZB (YS ⟨YE c⟩ (X4 (KV ps.flatten) n)) (Kx,0) = _:=h1
 rw [h2]; rfl
theorem Aa (c : GCipher) (h : Yr c = true) (d : List UInt8) (hl : d.length ≤ 10000000) : Wk c d = some (Kl c d):=by
 obtain ⟨n,n1,n2⟩:=jE d
 have e : (KV d).length / 16 = n:=by omega
 have h1:=Wr (f:=UJ c (X4 (KV d) n)) (X4 (KV d) n) (fun (b : Dig) i=>(b,i)) (absV c) Kx (t:=Kl c d) (by rw [Kb]; omega) (fun i hi=>by
  unfold UJ
  simp only [Int.ofNat_lt,hi,decide_true,if_true,Z7,List.getElem?_eq_getElem hi,Option.bind_some,(qA c h _ _).2]) (by
  unfold UJ Kl
  rw [e]; simp)
 unfold Wk
 rw [Zbw _ hl,Option.bind_some,jV _ n n1 (by omega),Option.bind_some,ki,Option.bind_some]
 have h2 : ZB (UJ c (X4 (KV d) n)) (Kx,0) = _:=h1
 rw [h2]; rfl
theorem JL (d : Dig) : Wa d = some d.toList:=by
 have h:=jW (f:=V4 d) (List.range 32) (fun i=>df d i) (t:=d.toList) (by simp) (fun i hi=>by
  have hi' : i < 32:=by simpa using hi
  unfold V4
  have hv : ZH d (i : Int) = some (df d i):=by
   have:=ZO (df d) hi'
   rwa [← Zbb] at this
  simp only [lt32 hi',if_true,hv,Option.bind_some]
  rw [YC (by simp; omega)]
  simp) (by
  unfold V4
  have e : (List.range 32).map (fun i=>df d i) = d.toList:=by
   conv=>rhs; rw [Zbb d]
   rw [Jh]
  simp only [List.length_range,show decide (((32 : Nat) : Int) < 32) = false from rfl,Bool.false_eq_true,if_false,e])
 unfold Wa
 rw [h]; rfl
def Jq (d : Dig) (e : GEvent) : List UInt8:=((d.toList ++ [Zv e.Kind]) ++ beL e.Number 4) ++ e.Tag.toList
theorem jO (d : Dig) (e : GEvent) : (Jq d e).length = 69:=by simp [Jq,UR]
def BE (c : GCipher) (d : Dig) (e : GEvent) : Dig:=Kl c (Jq d e)
def HN (c : GCipher) (l : List GEvent) : Dig:=l.foldl (BE c) (Kl c (List.replicate 32 0))
theorem AZ : Yr (Y7 4) = true:=kb 4 (by omega)
theorem KT : Xz = some (Y7 4):=by
 unfold Xz
 rw [kg]; rfl
theorem Zdq (n : Int) (h : 1 ≤ n ∧ n ≤ 20) : T8 n = some ⟨YE (Y7 n)⟩:=by
 unfold T8
 rw [zB,Option.bind_some,jj _ (kb n h)]; rfl
theorem zG : WS = some ⟨YE (Y7 4)⟩:=by
 unfold WS
 rw [Zdq 4 (by omega)]; rfl
theorem qH (d : Dig) : slc d.toList (0 : Int) (32 : Int) = some d.toList:=by
 have h1 : slc d.toList ((0 : Nat) : Int) ((32 : Nat) : Int) = _:=KP (Nat.zero_le _) (by simp)
 have h2 : slc d.toList (0 : Int) (32 : Int) = _:=h1
 rw [h2,List.drop_zero,List.take_of_length_le (by simp)]
theorem zO (c : GCipher) (h : Yr c = true) (l : List GEvent) (hl : l.length < 9223372036854775807) : WO ⟨YE c⟩ l = some (HN c l):=by
 have hm : mkS 1 (0 : UInt8) 32 = some (List.replicate 32 0):=by unfold mkS; rw [if_pos (by omega)]; rfl
 have h0:=He c h [List.replicate 32 0] (by simp) (by simp)
 have e0 : ([List.replicate 32 0] : List (List UInt8)).flatten = List.replicate 32 0:=by simp
 rw [e0] at h0
 have h1:=Wr (f:=Xm ⟨YE c⟩ l) l (fun (b : Dig) i=>(b,i)) (BE c) (Kl c (List.replicate 32 0)) (t:=HN c l) hl (fun i hi=>by
  unfold Xm
  have hb : Yv l[i].Number 4 = some (beL l[i].Number 4):=K4 _ 4 (by omega)
  have hd:=He c h [((l.take i).foldl (BE c) (Kl c (List.replicate 32 0))).toList,[Zv l[i].Kind],beL l[i].Number 4,l[i].Tag.toList] (by simp [UR]) (by simp)
  have ed : ([((l.take i).foldl (BE c) (Kl c (List.replicate 32 0))).toList,[Zv l[i].Kind],beL l[i].Number 4,l[i].Tag.toList] : List (List UInt8)).flatten = Jq ((l.take i).foldl (BE c) (Kl c (List.replicate 32 0))) l[i]:=by simp [Jq]
  rw [ed] at hd
  simp only [Int.ofNat_lt,hi,decide_true,if_true,Z7,List.getElem?_eq_getElem hi,Option.bind_some,qH,hb,hd]
  rfl) (by unfold Xm HN; simp)
 unfold WO
 rw [hm,Option.bind_some,h0,Option.bind_some]
 have h2 : ZB (Xm ⟨YE c⟩ l) (Kl c (List.replicate 32 0),0) = _:=h1
 rw [h2]; rfl
theorem Zak (d : Dig) (e : GEvent) : Tb d e = some (BE (Y7 4) d e):=by
 have h1:=Aa (Y7 4) AZ (Jq d e) (by rw [jO]; omega)
 unfold Tb
 rw [JL,Option.bind_some,YC (by simp),Option.bind_some,Option.bind_some,z8,Option.bind_some,YC (by simp [UR]),Option.bind_some,KT,Option.bind_some,JL,Option.bind_some,YC (by simp [UR]),Option.bind_some]
 have h2 : Wk (Y7 4) (((d.toList ++ [Zv e.Kind]) ++ beL e.Number 4) ++ e.Tag.toList) = some (BE (Y7 4) d e):=h1
 rw [h2]; rfl
theorem qP (l : List GEvent) (hl : l.length < 9223372036854775807) : Te l = some (HN (Y7 4) l):=by
 have hm : mkS 1 (0 : UInt8) 32 = some (List.replicate 32 0):=by unfold mkS; rw [if_pos (by omega)]; rfl
 have h1:=Wr (f:=W6 l) l (fun (b : Dig) i=>(b,i)) (BE (Y7 4)) (Kl (Y7 4) (List.replicate 32 0)) (t:=HN (Y7 4) l) hl (fun i hi=>by
  unfold W6
  simp only [Int.ofNat_lt,hi,decide_true,if_true,Z7,List.getElem?_eq_getElem hi,Option.bind_some,Zak]) (by unfold W6 HN; simp)
 unfold Te
 rw [KT,Option.bind_some,hm,Option.bind_some,Aa _ AZ _ (by simp),Option.bind_some]
 have h2 : ZB (W6 l) (Kl (Y7 4) (List.replicate 32 0),0) = _:=h1
 rw [h2]; rfl
def TE (k : Blk) (b : UInt8) : Blk:=vf 16 fun i=>bf k i ^^^ b
theorem z2 (b : UInt8) (L : Blk × Int → Option (Fl (Blk × Int) Blk)) (hL : ∀ s,L s = if (decide (s.2 < 16)) = true then ((ZH s.1 s.2).bind fun x=>(ZH s.1 s.2).bind fun _=>some (Fl.nx ((s.1.setIfInBounds (s.2).toNat (x ^^^ b)),wr (s.2 + 1)))) else (some (Fl.ex s.1))) (k : Blk) :
  ZB L (k,0) = some (TE k b):=by
 have h:=X2 L (bf k) (fun i=>bf k i ^^^ b) (by omega) 0 (by omega) (fun j hj=>by omega) (fun i _ hi a _ ha=>by
  rw [hL]
  simp only [J9 hi,if_true,ZO _ hi,Option.bind_some,Int.toNat_natCast,ha i (Nat.le_refl _)]) (fun v=>by rw [hL]; simp)
 rw [← Zcz] at h
 exact h
theorem KE (k : Blk) (b : UInt8) : Xc k b = some (TE k b).toList:=by
 have hs : ∀ v : Blk,slc v.toList (0 : Int) (16 : Int) = some v.toList:=fun v=>by
  have h1 : slc v.toList ((0 : Nat) : Int) ((16 : Nat) : Int) = _:=KP (Nat.zero_le _) (by simp)
  have h2 : slc v.toList (0 : Int) (16 : Int) = _:=h1
  rw [h2,List.drop_zero,List.take_of_length_le (by simp)]
 unfold Xc
 rw [z2 b (Ue b) (fun s=>by unfold Ue; rfl),Option.bind_some,hs]; rfl
theorem yZ (k : Blk) (b : UInt8) : Vt k b = some (TE k b):=by
 unfold Vt
 rw [z2 b (Uf b) (fun s=>by unfold Uf; rfl)]; rfl
theorem jT {n : Nat} (v : Vector UInt8 n) (g : UInt8 → UInt8) (L : List UInt8 × Int → Option (Fl (List UInt8 × Int) (List UInt8))) (acc : List UInt8) (hn : n ≤ 1000) (ha : acc.length ≤ 100000000)
  (hL : ∀ s,L s = if (decide (s.2 < (n : Int))) = true then ((ZH v s.2).bind fun x=>(app 1 s.1 ([g x] : List UInt8)).bind fun _=>some (Fl.nx ((s.1 ++ ([g x] : List UInt8)),wr (s.2 + 1)))) else (some (Fl.ex s.1))) :
  ZB L (acc,0) = some (acc ++ v.toList.map g):=by
 have hlen : v.toList.length = n:=by simp
 have:=Z6 (f:=L) (fun i : Nat=>(acc ++ (v.toList.take i).map g,(i : Int))) 0 n (Nat.zero_le _) (t:=acc ++ v.toList.map g) (fun i _ hi=>by
  have hi' : i < v.toList.length:=by omega
  rw [hL]
  simp only [Int.ofNat_lt,hi,decide_true,if_true,W0,Vector.getElem?_eq_getElem hi,Option.bind_some,Y8 (show i < 9223372036854775807 by omega)]
  rw [YC (by simp; omega),List.take_succ_eq_append_getElem hi']
  simp) (by
  rw [hL]
  have e : v.toList.take n = v.toList:=List.take_of_length_le (by omega)
  simp only [Int.ofNat_lt,Nat.lt_irrefl,decide_false,Bool.false_eq_true,if_false,e])
 simpa using this
theorem Zac (k : Blk) (b : UInt8) : (TE k b).toList = k.toList.map fun x=>x ^^^ b:=by
 conv=>rhs; rw [Zcz k]
 unfold TE
 rw [Jh,Jh,List.map_map]; rfl
theorem Bx (k : Blk) (b : UInt8) : Ws k b = some (TE k b).toList:=by
 unfold Ws
 rw [jT k (fun x=>x ^^^ b) (UV k b) [] (by omega) (by simp) (fun s=>by unfold UV; rfl),Zac]; rfl
theorem Zae {n : Nat} (v : Vector UInt8 n) : Qf n v.toList = some v:=by
 unfold Qf
 rw [dif_pos (by simp)]
 refine congrArg some (TS fun i hi=>?_)
 simp
def KZ (l : List Blk) : List UInt8:=(l.map fun b=>b.toList).flatten
theorem Zar (l : List Blk) (h : l.length ≤ 1000000) : VQ l = some (KZ l):=by
 have hlen : ∀ i,i ≤ l.length → (KZ (l.take i)).length = 16 * i:=by
  intro i
  induction i with
  | zero=>intro _; rfl
  | succ i ih =>
   intro hi
   have e : KZ (l.take (i + 1)) = KZ (l.take i) ++ (l[i]'(by omega)).toList:=by
    unfold KZ
    rw [List.take_succ_eq_append_getElem (by omega),List.map_append,List.flatten_append]; simp
   rw [e,List.length_append,ih (by omega)]; simp; omega
 have:=Z6 (f:=Vb l) (fun i : Nat=>(KZ (l.take i),(i : Int))) 0 l.length (Nat.zero_le _) (t:=KZ l) (fun i _ hi=>by
  unfold Vb
  have h1:=jT l[i] (fun x=>x) (TM l (KZ (l.take i),(i : Int))) (KZ (l.take i)) (by omega) (by rw [hlen i (by omega)]; omega) (fun s=>by
   unfold TM
   simp only [Z7,List.getElem?_eq_getElem hi,Option.bind_some]; rfl)
  simp only [Int.ofNat_lt,hi,decide_true,if_true,h1,Option.bind_some,Y8 (show i < 9223372036854775807 by omega)]
  refine congrArg (fun z=>some (Fl.nx (z,((i + 1 : Nat) : Int)))) ?_
  unfold KZ
  rw [List.take_succ_eq_append_getElem hi,List.map_append,List.flatten_append]; simp) (by
  unfold Vb
  simp)
 have h2 : ZB (Vb l) ([],0) = _:=this
 unfold VQ
 rw [h2]; rfl

def tagC (c : GCipher) (key : Blk) (d : List UInt8) : Dig:=Kl c ((TE key 165).toList ++ (Kl c ((TE key 90).toList ++ d)).toList)
theorem v_tag (c : GCipher) (h : Yr c = true) (key : Blk) (ps : List (List UInt8)) (hl : ps.flatten.length ≤ 1000000) (hn : ps.length < 9223372036854775807) : Vs ⟨YE c⟩ key ps = some (tagC c key ps.flatten):=by
 have e1 : ([(TE key 90).toList,ps.flatten] : List (List UInt8)).flatten = (TE key 90).toList ++ ps.flatten:=by simp
 have d1:=He c h [(TE key 90).toList,ps.flatten] (by rw [e1,List.length_append,Vector.length_toList]; omega) (by simp)
 rw [e1] at d1
 have d2:=He c h [(TE key 165).toList,(Kl c ((TE key 90).toList ++ ps.flatten)).toList] (by simp) (by simp)
 have e2 : ([(TE key 165).toList,(Kl c ((TE key 90).toList ++ ps.flatten)).toList] : List (List UInt8)).flatten = (TE key 165).toList ++ (Kl c ((TE key 90).toList ++ ps.flatten)).toList:=by simp
 rw [e2] at d2
 unfold Vs
 rw [KE,Option.bind_some,KC ps (by omega) hn,Option.bind_some,d1,Option.bind_some,KE,Option.bind_some,qH,Option.bind_some,d2]
 rfl
theorem Zcs (c : GCipher) (h : Yr c = true) (key : Blk) (d : List UInt8) (hl : d.length ≤ 1000000) : UM c key d = some (tagC c key d):=by
 unfold UM
 rw [Bx,Option.bind_some,YC (by simp; omega),Option.bind_some,Aa c h _ (by simp; omega),Option.bind_some,Bx,Option.bind_some,JL,Option.bind_some,YC (by simp),Option.bind_some,Aa c h _ (by simp)]
 rfl

def WV (v : GVault) (n : Int) : Int:=match v.Records.findIdx? (fun r=>r.Number == n) with | some i=>(i : Int) | none=>-1
theorem kD (v : GVault) (n : Int) (h : v.Records.length < 9223372036854775807) : Uo v n = some (WV v n):=by
 unfold Uo
 have:=qI v.Records (fun r=>some (r.Number == n)) (fun r=>r.Number == n) (Th v n) (fun s=>by
  unfold Th
  simp only [Option.bind_some]) h (fun x _=>rfl)
 exact this
theorem zm {v : GVault} {n : Int} (h : ¬ WV v n < 0) : ∃ i : Nat,WV v n = i ∧ ∃ hi : i < v.Records.length,v.Records[i].Number = n:=by
 unfold WV at h ⊢
 cases hf : v.Records.findIdx? (fun r=>r.Number == n) with
 | none=>rw [hf] at h; simp at h
 | some i =>
  obtain ⟨hi,hq,_⟩:=List.findIdx?_eq_some_iff_getElem.1 hf
  exact ⟨i,rfl,hi,by simpa using hq⟩
theorem yn {v : GVault} (h : YO v = true) {r : GRecord} (hr : r ∈ v.Records) : 0 ≤ r.Version ∧ r.Version ≤ (v.Keys.length : Int) - 1 ∧ r.Label.length ≤ 32 ∧ r.Body.length ≤ 200:=by
 unfold YO at h
 simp only [Bool.and_eq_true,Bool.not_eq_true',List.any_eq_false,List.mem_range'_1] at h
 obtain ⟨i,hi,rfl⟩:=List.mem_iff_getElem.1 hr
 have:=h.1.2 i (by omega)
 unfold HG zp at this
 rw [List.getElem?_eq_getElem hi] at this
 simp only [Bool.or_eq_true,Bool.not_eq_true',decide_eq_true_eq,decide_eq_false_iff_not,not_or,Classical.not_not] at this
 omega

def yx (v : GVault) (n : Int) : Blk:=v.Keys.getD n.toNat default
theorem qy {v : GVault} {n : Int} (h0 : 0 ≤ n) (h1 : n ≤ (v.Keys.length : Int) - 1) : idx v.Keys n = some (yx v n):=by
 have e : n = ((n.toNat : Nat) : Int):=by omega
 have hl : n.toNat < v.Keys.length:=by omega
 rw [e,Z7]
 unfold yx
 rw [Int.toNat_natCast,List.getD_eq_getElem?_getD,List.getElem?_eq_getElem hl]; rfl
def K7 (r : GRecord) : List UInt8:=((((beL r.Number 4 ++ [Zv r.Version]) ++ r.Nonce.toList) ++ [Zv (r.Label.length : Int)]) ++ r.Label) ++ r.Body
def Qp (v : GVault) (r : GRecord) : Dig:=tagC (Y7 4) (TE (yx v r.Version) 129) (K7 r)
theorem Zdt (v : Blk) : slc v.toList (0 : Int) (16 : Int) = some v.toList:=by
 have h1 : slc v.toList ((0 : Nat) : Int) ((16 : Nat) : Int) = _:=KP (Nat.zero_le _) (by simp)
 have h2 : slc v.toList (0 : Int) (16 : Int) = _:=h1
 rw [h2,List.drop_zero,List.take_of_length_le (by simp)]
theorem Zdm (v : GVault) (r : GRecord) (h : 0 ≤ r.Version ∧ r.Version ≤ (v.Keys.length : Int) - 1) (hl : r.Label.length ≤ 1000) (hb : r.Body.length ≤ 1000) : Wi ⟨YE (Y7 4)⟩ v r = some (Qp v r):=by
 have hbe : Yv r.Number 4 = some (beL r.Number 4):=K4 _ 4 (by omega)
 have ht:=v_tag (Y7 4) AZ (TE (yx v r.Version) 129) [beL r.Number 4,[Zv r.Version],r.Nonce.toList,[Zv (r.Label.length : Int)],r.Label,r.Body] (by simp [UR]; omega) (by simp)
 have e : ([beL r.Number 4,[Zv r.Version],r.Nonce.toList,[Zv (r.Label.length : Int)],r.Label,r.Body] : List (List UInt8)).flatten = K7 r:=by simp [K7]
 rw [e] at ht
 unfold Wi
 rw [qy h.1 h.2,Option.bind_some,KE,Option.bind_some,Zae,Option.bind_some,hbe,Option.bind_some,Zdt,Option.bind_some,ht]
 rfl
theorem Zb1 (v : GVault) (r : GRecord) (h : 0 ≤ r.Version ∧ r.Version ≤ (v.Keys.length : Int) - 1) (hl : r.Label.length ≤ 1000) (hb : r.Body.length ≤ 1000) : TC v r = some (Qp v r):=by
 have hd : VQ [r.Nonce] = some r.Nonce.toList:=by
  have:=Zar [r.Nonce] (by simp)
  simpa [KZ] using this
 have ht:=Zcs (Y7 4) AZ (TE (yx v r.Version) 129) (K7 r) (by simp [K7,UR]; omega)
 unfold TC
 rw [z8,Option.bind_some,YC (by simp [UR]),Option.bind_some,Option.bind_some,hd,Option.bind_some,YC (by simp [UR]),Option.bind_some,YC (by simp [UR]),Option.bind_some,YC (by simp [UR]; omega),Option.bind_some,YC (by simp [UR]; omega),Option.bind_some,KT,Option.bind_some,qy h.1 h.2,Option.bind_some,yZ,Option.bind_some]
 have ht' : UM (Y7 4) (TE (yx v r.Version) 129) (((((beL r.Number 4 ++ [Zv r.Version]) ++ r.Nonce.toList) ++ [Zv (r.Label.length : Int)]) ++ r.Label) ++ r.Body) = some (Qp v r):=ht
 rw [ht']; rfl
def JB (v : GVault) (n : Int) : GRecord:=v.Records.getD (WV v n).toNat ⟨0,0,default,[],[],default⟩
theorem yl {v : GVault} {n : Int} (h : ¬ WV v n < 0) : idx v.Records (WV v n) = some (JB v n) ∧ JB v n ∈ v.Records:=by
 obtain ⟨i,e,hi,_⟩:=zm h
 unfold JB
 rw [e,Z7,Int.toNat_natCast,List.getD_eq_getElem?_getD,List.getElem?_eq_getElem hi]
 exact ⟨rfl,List.getElem_mem hi⟩
def hv (c : UInt8) : Option UInt8:=if 48 ≤ c.toNat ∧ c.toNat ≤ 57 then some (c - 48) else if 97 ≤ c.toNat ∧ c.toNat ≤ 102 then some (c - 97 + 10) else none
def byN (n : Int) (s : Dig × Bool) (e : GEvent) : Dig × Bool:=if e.Number = n then (if e.Kind = 1 ∨ (e.Kind = 4 ∧ s.2 = true) then (e.Tag,true) else if e.Kind = 2 then (s.1,false) else s) else s
def QF (m : List (Int × Dig)) (e : GEvent) : List (Int × Dig):=if e.Kind = 1 ∨ (e.Kind = 4 ∧ (YG m e.Number).isSome = true) then Tz m e.Number e.Tag else if e.Kind = 2 then QX m e.Number else m
def byC (l : List GEvent) (n : Int) : Dig × Bool:=l.foldl (byN n) (Vector.replicate 32 0,false)
def Wp (l : List GEvent) : List (Int × Dig):=l.foldl QF []
theorem Zc9 (l : List GEvent) (n : Int) (h : l.length < 9223372036854775807) : T6 l n = some (byC l n):=by
 unfold T6
 have:=Wr (f:=UI l n) l (fun b i=>(b.1,b.2,i)) (byN n) (Vector.replicate 32 0,false) (t:=byC l n) h (fun i hi=>by
  have hlt : ((i : Int) < (l.length : Int)):=by omega
  have hx : idx l ((i : Nat) : Int) = some l[i]:=by rw [Z7,List.getElem?_eq_getElem hi]
  generalize (l.take i).foldl (byN n) (Vector.replicate 32 0,false) = s
  obtain ⟨t,b⟩:=s
  unfold UI byN
  simp only [hlt,decide_true,if_true,hx,Option.bind_some]
  by_cases h1 : l[i].Number = n
  ·have e1 : (l[i].Number != n) = false:=by simpa using h1
   simp only [e1,Bool.false_eq_true,if_false,h1,if_true]
   by_cases h2 : l[i].Kind = 1
   ·simp [h2]
   ·by_cases h4 : l[i].Kind = 4
    ·cases b <;> simp [h4]
    ·by_cases h3 : l[i].Kind = 2 <;> simp [h2,h3,h4]
  ·have e1 : (l[i].Number != n) = true:=by simpa using h1
   simp [h1]) (by
  unfold UI byC
  simp)
 have e : ZB (UI l n) ((Vector.replicate 32 (0 : UInt8)),false,0) = some (byC l n):=this
 rw [e]; rfl
theorem kx (l : List GEvent) (h : l.length < 9223372036854775807) : UD l = some (Wp l):=by
 unfold UD
 have:=Wr (f:=VY l) l (fun b i=>(b,i)) QF [] (t:=Wp l) h (fun i hi=>by
  have hlt : ((i : Int) < (l.length : Int)):=by omega
  have hx : idx l ((i : Nat) : Int) = some l[i]:=by rw [Z7,List.getElem?_eq_getElem hi]
  generalize (l.take i).foldl QF [] = m
  unfold VY QF
  simp only [hlt,decide_true,if_true,hx,Option.bind_some]
  by_cases h2 : l[i].Kind = 1
  ·simp [h2]
  ·by_cases h4 : l[i].Kind = 4
   ·cases hm : (YG m l[i].Number).isSome <;> simp [h4,hm]
   ·by_cases h3 : l[i].Kind = 2 <;> simp [h2,h3,h4]) (by
  unfold VY Wp
  simp)
 rw [this]; rfl
theorem Kq (k k' : Int) (x : Dig) : ∀ m : List (Int × Dig),YG (Tz m k x) k' = if k = k' then some x else YG m k'
 | []=>by by_cases h : k = k' <;> simp [Tz,YG,h]
 | p :: m=>by
  by_cases h : p.1 = k
  ·by_cases h2 : k = k'
   ·simp [Tz,YG,h,h2]
   ·have : ¬ p.1 = k':=fun e=>h2 (h.symm.trans e)
    simp [Tz,YG,h,h2]
  ·have ih:=Kq k k' x m
   by_cases h2 : p.1 = k'
   ·have h3 : ¬ k = k':=fun e=>h (h2.trans e.symm)
    rw [Tz,if_neg h,YG,if_pos h2,if_neg h3,YG,if_pos h2]
   ·simp only [Tz,YG,h,h2,if_false,ih]
theorem HW (k : Int) : ∀ m : List (Int × Dig),(YG m k).isSome = true ↔ k ∈ m.map (·.1)
 | []=>by simp [YG]
 | p :: m=>by
  by_cases h : p.1 = k
  ·simp [YG,h]
  ·have : ¬ k = p.1:=fun e=>h e.symm
   simp only [YG,h,if_false,HW k m,List.map_cons,List.mem_cons,this,false_or]
theorem HY (k k' : Int) : ∀ m : List (Int × Dig),(m.map (·.1)).Nodup → YG (QX m k) k' = if k = k' then none else YG m k'
 | [],_=>by simp [QX,YG]
 | p :: m,hn=>by
  obtain ⟨n1,n2⟩:=List.nodup_cons.1 hn
  by_cases h : p.1 = k
  ·by_cases h2 : k = k'
   ·have : YG m k' = none:=by
     have h3 : ¬ (YG m k').isSome = true:=fun q=>n1 (by show p.1 ∈ _; rw [h,h2]; exact (HW k' m).1 q)
     simpa using h3
    simp [QX,h,h2,this]
   ·have : ¬ p.1 = k':=fun e=>h2 (h.symm.trans e)
    simp [QX,YG,h,h2]
  ·have ih:=HY k k' m n2
   by_cases h2 : p.1 = k'
   ·have h3 : ¬ k = k':=fun e=>h (h2.trans e.symm)
    rw [QX,if_neg h,YG,if_pos h2,if_neg h3,YG,if_pos h2]
   ·simp only [QX,YG,h,h2,if_false,ih]
theorem Hk (k : Int) (x : Dig) : ∀ m : List (Int × Dig),(Tz m k x).map (·.1) = if k ∈ m.map (·.1) then m.map (·.1) else m.map (·.1) ++ [k]
 | []=>by simp [Tz]
 | p :: m=>by
  by_cases h : p.1 = k
  ·simp [Tz,h]
  ·have h' : ¬ k = p.1:=fun e=>h e.symm
   simp only [Tz,h,if_false,List.map_cons,Hk k x m,List.mem_cons,h',false_or]
   split <;> simp
theorem HS (k : Int) : ∀ m : List (Int × Dig),((QX m k).map (·.1)).Sublist (m.map (·.1))
 | []=>by simp [QX]
 | p :: m=>by
  by_cases h : p.1 = k
  ·simp [QX,h]
  ·simp only [QX,h,if_false,List.map_cons]
   exact (HS k m).cons_cons _
theorem jg {m : List (Int × Dig)} (h : (m.map (·.1)).Nodup) (e : GEvent) : ((QF m e).map (·.1)).Nodup:=by
 unfold QF
 split
 ·rw [Hk]
  split
  ·exact h
  ·rename_i hk
   exact List.nodup_append.2 ⟨h,by simp,fun a ha b hb=>by simp at hb; subst hb; exact fun e=>hk (e ▸ ha)⟩
 ·split
  ·exact h.sublist (HS _ _)
  ·exact h
theorem Za2 (m : List (Int × Dig)) (e : GEvent) : (QF m e).length ≤ m.length + 1:=by
 have h1 : ∀ k x,(Tz m k x).length ≤ m.length + 1:=fun k x=>by
  have:=congrArg List.length (Hk k x m)
  rw [List.length_map] at this
  rw [this]; split <;> simp
 have h2 : ∀ k,(QX m k).length ≤ m.length:=fun k=>by
  have:=(HS k m).length_le
  simpa using this
 unfold QF
 split
 ·exact h1 _ _
 ·split
  ·exact Nat.le_succ_of_le (h2 _)
  ·omega
theorem Zbt (l : List GEvent) : (Wp l).length ≤ l.length:=by
 unfold Wp
 suffices H : ∀ (l : List GEvent) (m : List (Int × Dig)),(l.foldl QF m).length ≤ m.length + l.length by simpa using H l []
 intro l
 induction l with
 | nil=>intro m; simp
 | cons e l ih =>
  intro m
  have:=ih (QF m e)
  have h2:=Za2 m e
  simp only [List.foldl_cons,List.length_cons]; omega
theorem Zay (l : List GEvent) : ∀ n ∈ (Wp l).map (·.1),∃ e ∈ l,e.Number = n:=by
 unfold Wp
 suffices H : ∀ (l : List GEvent) (m : List (Int × Dig)),∀ n ∈ (l.foldl QF m).map (·.1),n ∈ m.map (·.1) ∨ ∃ e ∈ l,e.Number = n by
  intro n hn
  rcases H l [] n hn with h | h
  ·simp at h
  ·exact h
 intro l
 induction l with
 | nil=>intro m n hn; exact .inl hn
 | cons e l ih =>
  intro m n hn
  rcases ih (QF m e) n hn with h | ⟨x,hx,h⟩
  ·unfold QF at h
   split at h
   ·rw [Hk] at h
    split at h
    ·exact .inl h
    ·rcases List.mem_append.1 h with h | h
     ·exact .inl h
     ·simp at h; exact .inr ⟨e,by simp,h.symm⟩
   ·split at h
    ·exact .inl ((HS _ _).subset h)
    ·exact .inl h
  ·exact .inr ⟨x,by simp [hx],h⟩
theorem qN (l : List GEvent) (n : Int) : (byC l n).2 = (YG (Wp l) n).isSome ∧ ((byC l n).2 = true → YG (Wp l) n = some (byC l n).1):=by
 unfold byC Wp
 suffices H : ∀ (l : List GEvent) (s : Dig × Bool) (m : List (Int × Dig)),(m.map (·.1)).Nodup → (s.2 = (YG m n).isSome ∧ (s.2 = true → YG m n = some s.1)) →
   ((l.foldl (byN n) s).2 = (YG (l.foldl QF m) n).isSome ∧ ((l.foldl (byN n) s).2 = true → YG (l.foldl QF m) n = some (l.foldl (byN n) s).1)) from H l _ _ (by simp) ⟨rfl,fun h=>by cases h⟩
 intro l
 induction l with
 | nil=>intro s m _ h; exact h
 | cons e l ih =>
  intro s m hm h
  refine ih _ _ (jg hm e) ?_
  unfold byN QF
  by_cases h1 : e.Number = n
  ·rw [if_pos h1,h1,← h.1]
   by_cases h2 : e.Kind = 1 ∨ (e.Kind = 4 ∧ s.2 = true)
   ·rw [if_pos h2,if_pos h2,Kq]; simp
   ·rw [if_neg h2,if_neg h2]
    by_cases h3 : e.Kind = 2
    ·rw [if_pos h3,if_pos h3,HY _ _ _ hm]; simp
    ·rw [if_neg h3,if_neg h3]; exact h
  ·rw [if_neg h1]
   split
   ·rw [Kq,if_neg h1]; exact h
   ·split
    ·rw [HY _ _ _ hm,if_neg h1]; exact h
    ·exact h
def QK (n : Int) : List Int → List Int
 | []=>[n]
 | x :: r=>if x < n then x :: QK n r else if x = n then x :: r else n :: x :: r
theorem A3 (n k : Int) : ∀ l : List Int,k ∈ QK n l ↔ k = n ∨ k ∈ l
 | []=>by simp [QK]
 | x :: r=>by
  unfold QK
  split
  ·simp only [List.mem_cons,A3 n k r]; exact ⟨fun h=>by rcases h with h | h | h <;> simp [h],fun h=>by rcases h with h | h | h <;> simp [h]⟩
  ·split
   ·rename_i h; subst h; simp
   ·simp
theorem qn {n : Int} : ∀ {l : List Int},l.Pairwise (· < ·) → (QK n l).Pairwise (· < ·)
 | [],_=>by simp [QK]
 | x :: r,h=>by
  obtain ⟨h1,h2⟩:=List.pairwise_cons.1 h
  unfold QK
  split
  ·rename_i hx
   refine List.pairwise_cons.2 ⟨fun k hk=>?_,qn h2⟩
   rcases (A3 n k r).1 hk with rfl | hk
   ·exact hx
   ·exact h1 k hk
  ·split
   ·exact h
   ·rename_i hx hn
    refine List.pairwise_cons.2 ⟨fun k hk=>?_,h⟩
    rcases List.mem_cons.1 hk with rfl | hk
    ·omega
    ·have:=h1 k hk; omega
theorem AD (n : Int) : ∀ l : List Int,(QK n l).length ≤ l.length + 1
 | []=>by simp [QK]
 | x :: r=>by
  unfold QK
  have:=AD n r
  split
  ·simp only [List.length_cons]; omega
  ·split <;> simp
def WU (n : Int) : List Int → Nat
 | []=>0
 | x :: r=>if x < n then WU n r + 1 else 0
theorem qO (n : Int) : ∀ l : List Int,WU n l ≤ l.length
 | []=>Nat.le_refl _
 | x :: r=>by unfold WU; have:=qO n r; split <;> simp <;> omega
theorem qB (n : Int) : ∀ (l : List Int) (i : Nat) (h : i < l.length),i < WU n l → l[i] < n
 | x :: r,i,h,hi=>by
  unfold WU at hi
  split at hi
  ·cases i with
   | zero=>assumption
   | succ i=>exact qB n r i (by simpa using h) (by omega)
  ·omega
theorem qC (n : Int) : ∀ (l : List Int) (h : WU n l < l.length),¬ l[WU n l] < n
 | x :: r,h=>by
  unfold WU at h
  by_cases hx : x < n
  ·rw [if_pos hx] at h
   have e : WU n (x :: r) = WU n r + 1:=by rw [WU,if_pos hx]
   have:=qC n r (by simpa using h)
   simp only [e,List.getElem_cons_succ]; exact this
  ·have e : WU n (x :: r) = 0:=by rw [WU,if_neg hx]
   simp only [e,List.getElem_cons_zero]; exact hx
theorem qz (n : Int) : ∀ l : List Int,QK n l = if l[WU n l]? = some n then l else l.take (WU n l) ++ (n :: l.drop (WU n l))
 | []=>by simp [QK,WU]
 | x :: r=>by
  unfold QK WU
  by_cases hx : x < n
  ·rw [if_pos hx,if_pos hx,qz n r]
   simp only [List.getElem?_cons_succ,List.take_succ_cons,List.drop_succ_cons]
   split <;> simp
  ·rw [if_neg hx,if_neg hx]
   by_cases hn : x = n
   ·simp [hn]
   ·simp [hn]
def U4 (v : GVault) : List Int:=v.Events.foldl (fun l e=>QK e.Number l) (v.Records.map (·.Number))
theorem yJ (v : GVault) (hr : v.Records.length ≤ 12) (he : v.Events.length ≤ 60) : Ve v = some (U4 v):=by
 unfold Ve
 have h0:=jW (f:=WM v) v.Records (fun r=>r.Number) (t:=v.Records.map (·.Number)) (by omega) (fun i hi=>by
  have hlt : ((i : Int) < (v.Records.length : Int)):=by omega
  have hx : idx v.Records ((i : Nat) : Int) = some v.Records[i]:=by rw [Z7,List.getElem?_eq_getElem hi]
  unfold WM
  simp only [hlt,decide_true,if_true,hx,Option.bind_some]
  rw [YC (by simp; omega)]; rfl) (by unfold WM; simp)
 rw [h0,Option.bind_some]
 have hlen : ∀ l : List GEvent,(l.foldl (fun l e=>QK e.Number l) (v.Records.map (·.Number))).length ≤ 12 + l.length:=by
  suffices H : ∀ (l : List GEvent) (a : List Int),(l.foldl (fun l e=>QK e.Number l) a).length ≤ a.length + l.length by
   intro l
   have:=H l (v.Records.map (·.Number))
   rw [List.length_map] at this; omega
  intro l
  induction l with
  | nil=>intro a; simp
  | cons e l ih =>
   intro a
   have h1:=ih (QK e.Number a)
   have h2:=AD e.Number a
   simp only [List.foldl_cons,List.length_cons]; omega
 have h1:=Wr (f:=WL v) v.Events (fun b i=>(b,i)) (fun l e=>QK e.Number l) (v.Records.map (·.Number)) (t:=U4 v) (by omega) (fun i hi=>by
  have hl:=hlen (v.Events.take i)
  rw [List.length_take] at hl
  generalize (v.Events.take i).foldl (fun l e=>QK e.Number l) (v.Records.map (·.Number)) = a at hl
  have hlt : ((i : Int) < (v.Events.length : Int)):=by omega
  have hx : idx v.Events ((i : Nat) : Int) = some v.Events[i]:=by rw [Z7,List.getElem?_eq_getElem hi]
  generalize v.Events[i] = e at hx
  have hp:=qO e.Number a
  have h2 : ZB (XD (a,(i : Int)) e) 0 = some ((WU e.Number a : Nat) : Int) :=
   Z6 (f:=XD (a,(i : Int)) e) (fun q : Nat=>(q : Int)) 0 (WU e.Number a) (Nat.zero_le _) (fun q _ hq=>by
    have hql : q < a.length:=by omega
    have hqx : idx a ((q : Nat) : Int) = some a[q]:=by rw [Z7,List.getElem?_eq_getElem hql]
    have h3:=qB e.Number a q hql hq
    have h4 : ((q : Int) < (a.length : Int)):=by omega
    unfold XD
    simp only [h4,decide_true,if_true,hqx,Option.bind_some,h3,Y8 (show q < 9223372036854775807 by omega)]) (by
    unfold XD
    by_cases h4 : WU e.Number a < a.length
    ·have h5 : ((WU e.Number a : Nat) : Int) < (a.length : Int):=by omega
     have hqx : idx a ((WU e.Number a : Nat) : Int) = some a[WU e.Number a]:=by rw [Z7,List.getElem?_eq_getElem h4]
     have h6:=qC e.Number a h4
     simp only [h5,decide_true,if_true,hqx,Option.bind_some,h6,decide_false,Bool.false_eq_true,if_false]
    ·have h5 : ¬ ((WU e.Number a : Nat) : Int) < (a.length : Int):=by omega
     simp only [h5,decide_false,Bool.false_eq_true,if_false,Option.bind_some])
  unfold WL
  simp only [hlt,decide_true,if_true,hx,Option.bind_some,h2]
  have hput : (slc a ((WU e.Number a : Nat) : Int) (a.length : Int)).bind (fun (l90 : List Int)=>(app 8 ([e.Number] : List Int) l90).bind fun (_ : List Int)=>(slc a (0 : Int) ((WU e.Number a : Nat) : Int)).bind fun (l97 : List Int)=>(UG l97).bind fun (r99 : List Int)=>(app 8 r99 (([e.Number] : List Int) ++ l90)).bind fun (_ : List Int)=>some (r99 ++ (([e.Number] : List Int) ++ l90))) = some (a.take (WU e.Number a) ++ (e.Number :: a.drop (WU e.Number a))):=by
   have s1 : slc a ((WU e.Number a : Nat) : Int) (a.length : Int) = some (a.drop (WU e.Number a)):=by
    have:=KP (l:=a) (i:=WU e.Number a) (j:=a.length) hp (Nat.le_refl _)
    rwa [List.take_length] at this
   have s2 : slc a (0 : Int) ((WU e.Number a : Nat) : Int) = some (a.take (WU e.Number a)):=by
    have:=KP (l:=a) (i:=0) (j:=WU e.Number a) (Nat.zero_le _) hp
    rwa [List.drop_zero] at this
   have s3 : UG (a.take (WU e.Number a)) = some (a.take (WU e.Number a)):=by
    unfold UG
    rw [YC (by simp; omega)]; rfl
   rw [s1,Option.bind_some,YC (by simp; omega),Option.bind_some,s2,Option.bind_some,s3,Option.bind_some,YC (by simp; omega)]; rfl
  rw [qz]
  by_cases h4 : WU e.Number a < a.length
  ·have h5 : ¬ (((WU e.Number a : Nat) : Int) == (a.length : Int)) = true:=by simp; omega
   have hqx : idx a ((WU e.Number a : Nat) : Int) = some a[WU e.Number a]:=by rw [Z7,List.getElem?_eq_getElem h4]
   rw [if_neg h5,hqx]
   simp only [Option.bind_some,List.getElem?_eq_getElem h4,Option.some.injEq]
   by_cases h6 : a[WU e.Number a] = e.Number
   ·have h7 : (a[WU e.Number a] != e.Number) = false:=by simpa using h6
    simp only [h7,Bool.false_eq_true,if_false,Option.bind_some,if_pos h6]
   ·have h7 : (a[WU e.Number a] != e.Number) = true:=by simpa using h6
    simp only [h7,if_true,if_neg h6]
    rw [hput]; rfl
  ·have h5 : (((WU e.Number a : Nat) : Int) == (a.length : Int)) = true:=by simp; omega
   rw [if_pos h5]
   have h8 : ¬ a[WU e.Number a]? = some e.Number:=by rw [List.getElem?_eq_none (by omega)]; simp
   simp only [Option.bind_some,if_true,if_neg h8]
   rw [hput]; rfl) (by unfold WL U4; simp)
 rw [h1]; rfl
theorem Ay (l : List Int) (hs : l.Pairwise (· ≤ ·)) : ∀ m,m ≤ l.length → (Lib.compactUpTo l.toArray m).Pairwise (· < ·) ∧ ∀ x,x ∈ Lib.compactUpTo l.toArray m ↔ ∃ j,j < m ∧ l[j]? = some x
 | 0,_=>⟨by simp [Lib.compactUpTo],fun x=>by simp [Lib.compactUpTo]⟩
 | m + 1,hm=>by
  obtain ⟨h1,h2⟩:=Ay l hs m (by omega)
  have hml : m < l.length:=by omega
  have hg : l.toArray[m]! = l[m]:=by simp [getElem!_pos,hml]
  have hle : ∀ i j (hi : i < l.length) (hj : j < l.length),i < j → l[i] ≤ l[j]:=fun i j hi hj hij=>List.pairwise_iff_getElem.1 hs i j hi hj hij
  have e : Lib.compactUpTo l.toArray (m + 1) = Lib.compactUpTo l.toArray m ++ (if Lib.keeps l.toArray m then [l[m]] else []):=by
   unfold Lib.compactUpTo
   rw [List.range_succ,List.filter_append,List.map_append]
   congr 1
   by_cases hk : Lib.keeps l.toArray m = true
   ·simp [hk,hml]
   ·simp [hk]
  rw [e]
  by_cases hk : Lib.keeps l.toArray m = true
  ·rw [if_pos hk]
   refine ⟨List.pairwise_append.2 ⟨h1,by simp,fun a ha b hb=>?_⟩,fun x=>?_⟩
   ·simp at hb; subst hb
    obtain ⟨j,hj,hx⟩:=(h2 a).1 ha
    obtain ⟨hjl,rfl⟩:=List.getElem?_eq_some_iff.1 hx
    unfold Lib.keeps at hk
    simp only [decide_eq_true_eq] at hk
    rcases hk with h0 | hk
    ·omega
    ·have hg1 : l.toArray[m - 1]! = l[m - 1]:=by
      have : m - 1 < l.length:=by omega
      simp [getElem!_pos,this]
     rw [hg,hg1] at hk
     have a1:=hle (m - 1) m (by omega) hml (by omega)
     have a2 : l[j] ≤ l[m - 1]:=by
      rcases Nat.lt_or_ge j (m - 1) with h | h
      ·exact hle j (m - 1) hjl (by omega) h
      ·have : j = m - 1:=by omega
       subst this; exact Int.le_refl _
     omega
   ·rw [List.mem_append,h2]
    constructor
    ·rintro (⟨j,hj,hx⟩ | hx)
     ·exact ⟨j,by omega,hx⟩
     ·simp at hx; exact ⟨m,by omega,by rw [List.getElem?_eq_getElem hml,hx]⟩
    ·rintro ⟨j,hj,hx⟩
     rcases Nat.lt_or_ge j m with h | h
     ·exact .inl ⟨j,h,hx⟩
     ·have : j = m:=by omega
      subst this
      rw [List.getElem?_eq_getElem hml] at hx
      exact .inr (by simpa using (Option.some.inj hx).symm)
  ·rw [if_neg hk,List.append_nil]
   refine ⟨h1,fun x=>?_⟩
   rw [h2]
   constructor
   ·rintro ⟨j,hj,hx⟩; exact ⟨j,by omega,hx⟩
   ·rintro ⟨j,hj,hx⟩
    rcases Nat.lt_or_ge j m with h | h
    ·exact ⟨j,h,hx⟩
    ·have : j = m:=by omega
     subst this
     unfold Lib.keeps at hk
     simp only [decide_eq_true_eq,not_or,Classical.not_not] at hk
     have hg1 : l.toArray[j - 1]! = l[j - 1]:=by
      have : j - 1 < l.length:=by omega
      simp [getElem!_pos,this]
     rw [hg,hg1] at hk
     refine ⟨j - 1,by omega,?_⟩
     rw [List.getElem?_eq_getElem hml] at hx
     rw [List.getElem?_eq_getElem (by omega),← hk.2,← hx]
theorem zD (l : List Int) (hs : l.Pairwise (· ≤ ·)) : (Lib.compact l).Pairwise (· < ·) ∧ ∀ x,x ∈ Lib.compact l ↔ x ∈ l:=by
 obtain ⟨h1,h2⟩:=Ay l hs l.length (Nat.le_refl _)
 refine ⟨h1,fun x=>(h2 x).trans ?_⟩
 rw [List.mem_iff_getElem?]
 constructor
 ·rintro ⟨j,_,h⟩; exact ⟨j,h⟩
 ·rintro ⟨j,h⟩; exact ⟨j,(List.getElem?_eq_some_iff.1 h).1,h⟩
theorem js (l : List Int) : (Wo l).Pairwise (· ≤ ·) ∧ ∀ x,x ∈ Wo l ↔ x ∈ l:=by
 have t : ∀ a b c : Int,decide (a ≤ b) = true → decide (b ≤ c) = true → decide (a ≤ c) = true:=fun a b c h1 h2=>by simp at *; omega
 have tot : ∀ a b : Int,(decide (a ≤ b) || decide (b ≤ a)) = true:=fun a b=>by simp; omega
 have s1:=List.pairwise_mergeSort t tot l
 exact ⟨s1.imp fun h=>by simpa using h,fun x=>(List.mergeSort_perm l _).mem_iff⟩
theorem Zbu {l m : List Int} (h1 : l.Pairwise (· < ·)) (h2 : m.Pairwise (· < ·)) (h : ∀ x,x ∈ l ↔ x ∈ m) : l = m:=by
 have n1 : l.Nodup:=h1.imp fun h=>Int.ne_of_lt h
 have n2 : m.Nodup:=h2.imp fun h=>Int.ne_of_lt h
 exact ((List.perm_ext_iff_of_nodup n1 n2).2 h).eq_of_pairwise (fun a b _ _ h3 h4=>by omega) h1 h2
theorem yD {v : GVault} (h : YO v = true) : (v.Records.map (·.Number)).Pairwise (· < ·):=by
 unfold YO at h
 simp only [Bool.and_eq_true,Bool.not_eq_true',List.any_eq_false,List.mem_range'_1] at h
 have hb:=h.1.2
 have step : ∀ i (h1 : i + 1 < v.Records.length),v.Records[i].Number < v.Records[i + 1].Number:=fun i h1=>by
  have:=hb (i + 1) (by omega)
  unfold HG at this
  rw [List.getElem?_eq_getElem h1] at this
  simp only [Bool.or_eq_true,decide_eq_true_eq,not_or] at this
  have h2:=this.1.1
  simp only [Qw,List.getElem?_eq_getElem (show i < v.Records.length by omega),Option.map_some,Option.getD_some] at h2
  omega
 have all : ∀ j i (hj : j < v.Records.length) (hi : i < v.Records.length),i < j → v.Records[i].Number < v.Records[j].Number:=by
  intro j
  induction j with
  | zero=>intro i _ _ h; omega
  | succ j ih =>
   intro i hj hi hij
   have h1:=step j hj
   rcases Nat.lt_or_ge i j with h2 | h2
   ·have:=ih i (by omega) hi h2; omega
   ·have : i = j:=by omega
    subst this; exact h1
 rw [List.pairwise_iff_getElem]
 intro i j hi hj hij
 rw [List.length_map] at hi hj
 rw [List.getElem_map,List.getElem_map]
 exact all j i hj hi hij
theorem kI {v : GVault} (h : YO v = true) : (U4 v).Pairwise (· < ·) ∧ ∀ x,x ∈ U4 v ↔ x ∈ v.Records.map (·.Number) ∨ ∃ e ∈ v.Events,e.Number = x:=by
 unfold U4
 suffices H : ∀ (l : List GEvent) (a : List Int),a.Pairwise (· < ·) → (l.foldl (fun l e=>QK e.Number l) a).Pairwise (· < ·) ∧ ∀ x,x ∈ l.foldl (fun l e=>QK e.Number l) a ↔ x ∈ a ∨ ∃ e ∈ l,e.Number = x from H _ _ (yD h)
 intro l
 induction l with
 | nil=>intro a ha; exact ⟨ha,fun x=>by simp⟩
 | cons e l ih =>
  intro a ha
  obtain ⟨h1,h2⟩:=ih (QK e.Number a) (qn ha)
  refine ⟨h1,fun x=>(h2 x).trans ?_⟩
  rw [A3]
  constructor
  ·rintro ((rfl | hx) | ⟨q,hq,hx⟩)
   ·exact .inr ⟨e,by simp,rfl⟩
   ·exact .inl hx
   ·exact .inr ⟨q,by simp [hq],hx⟩
  ·rintro (hx | ⟨q,hq,hx⟩)
   ·exact .inl (.inr hx)
   ·rcases List.mem_cons.1 hq with rfl | hq
    ·exact .inl (.inl hx.symm)
    ·exact .inr ⟨q,hq,hx⟩
theorem AB {v : GVault} (hr : v.Records.length ≤ 12) (he : v.Events.length ≤ 60) : (U4 v).length ≤ 72:=by
 unfold U4
 have H : ∀ (l : List GEvent) (a : List Int),(l.foldl (fun l e=>QK e.Number l) a).length ≤ a.length + l.length:=by
  intro l
  induction l with
  | nil=>intro a; simp
  | cons e l ih =>
   intro a
   have h1:=ih (QK e.Number a)
   have h2:=AD e.Number a
   simp only [List.foldl_cons,List.length_cons]; omega
 have:=H v.Events (v.Records.map (·.Number))
 rw [List.length_map] at this; omega
def QH (l : List GRecord) : List (Int × Dig):=l.foldl (fun m r=>Tz m r.Number r.Tag) []
theorem zo (n : Int) : ∀ (l : List GRecord) (m : List (Int × Dig)),(∀ r ∈ l,r.Number ≠ n) → YG (l.foldl (fun m r=>Tz m r.Number r.Tag) m) n = YG m n
 | [],_,_=>rfl
 | r :: l,m,h=>by
  rw [List.foldl_cons,zo n l _ (fun q hq=>h q (by simp [hq])),Kq,if_neg (h r (by simp))]
theorem y0 : ∀ (l : List GRecord) (m : List (Int × Dig)) (r : GRecord),(l.map (·.Number)).Nodup → r ∈ l → YG (l.foldl (fun m r=>Tz m r.Number r.Tag) m) r.Number = some r.Tag
 | q :: l,m,r,hn,hr=>by
  obtain ⟨n1,n2⟩:=List.nodup_cons.1 hn
  rw [List.foldl_cons]
  rcases List.mem_cons.1 hr with rfl | hr
  ·rw [zo _ l _ (fun x hx e=>n1 (List.mem_map.2 ⟨x,hx,e⟩)),Kq,if_pos rfl]
  ·exact y0 l _ r n2 hr
def Qk (v : GVault) (n : Int) : Bool:=((byC v.Events n).2 != decide (WV v n ≥ 0)) || ((byC v.Events n).2 && !decide ((JB v n).Tag = (byC v.Events n).1))
def Ba (told held : List (Int × Dig)) (n : Int) : Bool:=!(YG told n).isSome || (!(YG held n).isSome || !decide ((YG told n).getD (Vector.replicate 32 0) = (YG held n).getD (Vector.replicate 32 0)))
theorem kk {v : GVault} (h : YO v = true) (n : Int) : (YG (QH v.Records) n).isSome = decide (WV v n ≥ 0) ∧ (WV v n ≥ 0 → YG (QH v.Records) n = some (JB v n).Tag):=by
 have hnd : (v.Records.map (·.Number)).Nodup:=(yD h).imp fun h=>Int.ne_of_lt h
 by_cases hp : WV v n < 0
 ·have hno : ∀ r ∈ v.Records,r.Number ≠ n:=by
   intro r hr he
   unfold WV at hp
   cases hf : v.Records.findIdx? (fun r=>r.Number == n) with
   | none =>
    have:=List.findIdx?_eq_none_iff.1 hf r hr
    simp [he] at this
   | some i=>rw [hf] at hp; simp at hp; omega
  have e : YG (QH v.Records) n = none:=by unfold QH; rw [zo n _ _ hno]; rfl
  have hp' : ¬ WV v n ≥ 0:=by omega
  exact ⟨by rw [e]; simp [hp'],fun q=>absurd q hp'⟩
 ·obtain ⟨i,e1,hi,e2⟩:=zm hp
  have h1:=(yl hp).2
  have h2 : (JB v n).Number = n:=by
   unfold JB
   rw [e1,Int.toNat_natCast,List.getD_eq_getElem?_getD,List.getElem?_eq_getElem hi]; exact e2
  have h3:=y0 v.Records [] (JB v n) hnd h1
  rw [h2] at h3
  have hp' : WV v n ≥ 0:=by omega
  have h4 : YG (QH v.Records) n = some (JB v n).Tag:=h3
  exact ⟨by rw [h4]; simp [hp'],fun _=>h4⟩
theorem Az {v : GVault} (h : YO v = true) (n : Int) (hn : n ∈ v.Records.map (·.Number) ∨ n ∈ (Wp v.Events).map (·.1)) : Ba (Wp v.Events) (QH v.Records) n = Qk v n:=by
 obtain ⟨a1,a2⟩:=qN v.Events n
 obtain ⟨b1,b2⟩:=kk h n
 unfold Ba Qk
 rw [← a1,b1]
 cases hb : (byC v.Events n).2 with
 | false =>
  cases hk : decide (WV v n ≥ 0) with
  | true=>rfl
  | false =>
   exfalso
   rcases hn with hn | hn
   ·obtain ⟨r,hr,rfl⟩:=List.mem_map.1 hn
    have hnd : (v.Records.map (·.Number)).Nodup:=(yD h).imp fun h=>Int.ne_of_lt h
    have:=y0 v.Records [] r hnd hr
    rw [show YG (QH v.Records) r.Number = some r.Tag from this,hk] at b1
    cases b1
   ·have:=(HW n _).2 hn
    rw [← a1,hb] at this
    cases this
 | true =>
  cases hk : decide (WV v n ≥ 0) with
  | false=>rfl
  | true =>
   rw [a2 hb,b2 (by simpa using hk)]
   simp only [Option.getD_some,Bool.not_true,Bool.false_or,bne_self_eq_false,Bool.true_and]
   congr 1
   rw [decide_eq_decide]
   exact ⟨fun h=>h.symm,fun h=>h.symm⟩
theorem kX {v : GVault} (h : YO v = true) : (U4 v).filter (Qk v) = (Lib.compact (Wo (v.Records.map (·.Number) ++ (Wp v.Events).map (·.1)))).filter (Ba (Wp v.Events) (QH v.Records)):=by
 obtain ⟨n1,n2⟩:=kI h
 obtain ⟨s1,s2⟩:=js (v.Records.map (·.Number) ++ (Wp v.Events).map (·.1))
 obtain ⟨c1,c2⟩:=zD _ s1
 have hm : ∀ x,x ∈ Lib.compact (Wo (v.Records.map (·.Number) ++ (Wp v.Events).map (·.1))) ↔ x ∈ v.Records.map (·.Number) ∨ x ∈ (Wp v.Events).map (·.1):=fun x=>by
  rw [c2,s2,List.mem_append]
 refine Zbu (n1.sublist List.filter_sublist) (c1.sublist List.filter_sublist) fun x=>?_
 rw [List.mem_filter,List.mem_filter,n2,hm]
 constructor
 ·rintro ⟨hx,hf⟩
  have hx' : x ∈ v.Records.map (·.Number) ∨ x ∈ (Wp v.Events).map (·.1):=by
   rcases hx with hx | _
   ·exact .inl hx
   ·obtain ⟨a1,_⟩:=qN v.Events x
    unfold Qk at hf
    cases hb : (byC v.Events x).2 with
    | true=>exact .inr ((HW x _).1 (by rw [← a1,hb]))
    | false =>
     rw [hb] at hf
     have hp : WV v x ≥ 0:=by simpa using hf
     have hp' : ¬ WV v x < 0:=by omega
     obtain ⟨i,_,hi,e2⟩:=zm hp'
     exact .inl (List.mem_map.2 ⟨_,List.getElem_mem hi,e2⟩)
  exact ⟨hx',by rw [Az h x hx']; exact hf⟩
 ·rintro ⟨hx,hf⟩
  refine ⟨?_,by rw [← Az h x hx]; exact hf⟩
  rcases hx with hx | hx
  ·exact .inl hx
  ·exact .inr (Zay _ x hx)
def zF (k : Int) (p : Int → Bool) (l : List Int) : List (List Int):=(l.filter p).map fun n=>[k,n]
theorem zZ (k : Int) (p : Int → Bool) (l : List Int) (acc : List (List Int)) : l.foldl (fun a n=>if p n then a ++ [[k,n]] else a) acc = acc ++ zF k p l:=by
 induction l generalizing acc with
 | nil=>simp [zF]
 | cons n l ih =>
  rw [List.foldl_cons,ih]
  unfold zF
  by_cases h : p n = true
  ·simp [h]
  ·simp [h]
theorem AR (k : Int) (p : Int → Bool) (l : List Int) : (zF k p l).length ≤ l.length:=by
 unfold zF; rw [List.length_map]; exact List.length_filter_le _ _
def JA (v : GVault) : List (List Int):=(v.Records.filter fun r=>!decide (Qp v r = r.Tag)).map fun r=>[3,r.Number]
theorem Aq (v : GVault) (l : List GRecord) (acc : List (List Int)) : l.foldl (fun a r=>if !decide (Qp v r = r.Tag) then a ++ [[3,r.Number]] else a) acc = acc ++ (l.filter fun r=>!decide (Qp v r = r.Tag)).map fun r=>[3,r.Number]:=by
 induction l generalizing acc with
 | nil=>simp
 | cons r l ih =>
  rw [List.foldl_cons,ih]
  by_cases h : Qp v r = r.Tag
  ·simp [h]
  ·simp [h]
def Q7 (v : GVault) : List (List Int):=if HN (Y7 4) v.Events = v.Head then [] else [[1]]
def Qq (v : GVault) : List (List Int) × Int:=if YO v then ((Q7 v ++ zF 2 (Qk v) (U4 v)) ++ JA v,0) else ([],1)
theorem jw (v : GVault) : (((some (HN (Y7 4) v.Events)).bind fun (r18 : Vector UInt8 32)=>some (!decide (r18 = v.Head)) : Option Bool).bind fun (j14 : Bool)=>if j14 = true then ((app 24 ([] : List (List Int)) ([([1] : List Int)] : List (List Int))).bind fun (_ : List (List Int))=>some (([] : List (List Int)) ++ ([([1] : List Int)] : List (List Int)))) else (some ([] : List (List Int))) : Option (List (List Int))) = some (Q7 v):=by
 unfold Q7
 by_cases h : HN (Y7 4) v.Events = v.Head
 ·simp [h]
 ·simp only [Option.bind_some,h,decide_false,Bool.not_false,if_true,if_false]
  rw [YC (by simp)]; rfl
theorem Hf {α : Type} (p : α → Bool) (g : α → List Int) (l : List α) (acc : List (List Int)) : (l.foldl (fun a x=>if p x then a ++ [g x] else a) acc).length ≤ acc.length + l.length:=by
 induction l generalizing acc with
 | nil=>simp
 | cons x l ih =>
  rw [List.foldl_cons]
  have h1 : (if p x then acc ++ [g x] else acc).length ≤ acc.length + 1:=by split <;> simp
  have h2:=ih (if p x then acc ++ [g x] else acc)
  rw [List.length_cons]; omega
theorem km (v : GVault) (hv : YO v = true) (acc : List (List Int)) (ha : acc.length ≤ 1000) : ZB (Wu v) (0,acc) = some (acc ++ JA v):=by
 have hs:=Qv hv
 have:=Wr (f:=Wu v) v.Records (fun b i=>(i,b)) (fun a r=>if !decide (Qp v r = r.Tag) then a ++ [[3,r.Number]] else a) acc (t:=acc ++ JA v) (by omega) (fun i hi=>by
  have hlt : ((i : Int) < (v.Records.length : Int)):=by omega
  have hx : idx v.Records ((i : Nat) : Int) = some v.Records[i]:=by rw [Z7,List.getElem?_eq_getElem hi]
  have hl:=Hf (fun r : GRecord=>!decide (Qp v r = r.Tag)) (fun r=>[3,r.Number]) (v.Records.take i) acc
  rw [List.length_take] at hl
  generalize (v.Records.take i).foldl _ acc = s at hl
  obtain ⟨a1,a2,a3,a4⟩:=yn hv (List.getElem_mem hi)
  unfold Wu
  simp only [hlt,decide_true,if_true,hx,Option.bind_some,Zb1 v _ ⟨a1,a2⟩ (by omega) (by omega)]
  by_cases h : Qp v v.Records[i] = v.Records[i].Tag
  ·simp [h]
  ·simp only [h,decide_false,Bool.not_false,if_true]
   rw [YC (by simp only [List.length_cons,List.length_nil]; omega)]; rfl) (by
  rw [Aq]
  unfold Wu JA
  simp)
 exact this
theorem kN (v : GVault) (hv : YO v = true) (acc : List (List Int)) (ha : acc.length ≤ 1000) : ZB (Ww v ⟨YE (Y7 4)⟩) (0,acc) = some (acc ++ JA v):=by
 have hs:=Qv hv
 have:=Wr (f:=Ww v ⟨YE (Y7 4)⟩) v.Records (fun b i=>(i,b)) (fun a r=>if !decide (Qp v r = r.Tag) then a ++ [[3,r.Number]] else a) acc (t:=acc ++ JA v) (by omega) (fun i hi=>by
  have hlt : ((i : Int) < (v.Records.length : Int)):=by omega
  have hx : idx v.Records ((i : Nat) : Int) = some v.Records[i]:=by rw [Z7,List.getElem?_eq_getElem hi]
  have hl:=Hf (fun r : GRecord=>!decide (Qp v r = r.Tag)) (fun r=>[3,r.Number]) (v.Records.take i) acc
  rw [List.length_take] at hl
  generalize (v.Records.take i).foldl _ acc = s at hl
  obtain ⟨a1,a2,a3,a4⟩:=yn hv (List.getElem_mem hi)
  unfold Ww
  simp only [hlt,decide_true,if_true,hx,Option.bind_some,Zdm v _ ⟨a1,a2⟩ (by omega) (by omega)]
  by_cases h : Qp v v.Records[i] = v.Records[i].Tag
  ·simp [h]
  ·simp only [h,decide_false,Bool.not_false,if_true]
   rw [YC (by simp only [List.length_cons,List.length_nil]; omega)]; rfl) (by
  rw [Aq]
  unfold Ww JA
  simp)
 exact this
theorem Be (v : GVault) : (Q7 v).length ≤ 1:=by unfold Q7; split <;> simp
theorem BI (v : GVault) (hb : Wt.ln v) : Up v = some (Qq v):=by
 unfold Up Qq
 rw [Zdl v hb,Option.bind_some]
 cases hv : YO v with
 | false=>rfl
 | true =>
  have hs:=Qv hv
  have hh:=Be v
  have hn:=AB (v:=v) (by omega) (by omega)
  simp only [Bool.not_true,Bool.false_eq_true,if_false,if_true]
  rw [qP v.Events (by omega),jw,Option.bind_some,yJ v (by omega) (by omega),Option.bind_some]
  have:=Wr (f:=VS v (U4 v)) (U4 v) (fun b i=>(b,i)) (fun a n=>if Qk v n then a ++ [[2,n]] else a) (Q7 v) (t:=Q7 v ++ zF 2 (Qk v) (U4 v)) (by omega) (fun i hi=>by
   have hlt : ((i : Int) < ((U4 v).length : Int)):=by omega
   have hx : idx (U4 v) ((i : Nat) : Int) = some (U4 v)[i]:=by rw [Z7,List.getElem?_eq_getElem hi]
   have hl:=Hf (Qk v) (fun n=>[2,n]) ((U4 v).take i) (Q7 v)
   rw [List.length_take] at hl
   generalize ((U4 v).take i).foldl _ (Q7 v) = s at hl
   generalize (U4 v)[i] = n at hx
   unfold VS
   simp only [hlt,decide_true,if_true,hx,Option.bind_some,Zc9 v.Events n (by omega),kD v n (by omega)]
   have hput : ((app 24 s ([([2,n] : List Int)] : List (List Int))).bind fun (_ : List (List Int))=>some (s ++ ([([2,n] : List Int)] : List (List Int)))) = some (s ++ [[2,n]]):=by rw [YC (by simp only [List.length_cons,List.length_nil]; omega)]; rfl
   unfold Qk
   cases hb2 : (byC v.Events n).2 with
   | false =>
    cases hk : decide (WV v n ≥ 0) with
    | false=>simp
    | true=>simp [hput]
   | true =>
    cases hk : decide (WV v n ≥ 0) with
    | false=>simp [hput]
    | true =>
     have hp0 : WV v n ≥ 0:=of_decide_eq_true hk
     have hp : ¬ WV v n < 0:=Int.not_lt.2 hp0
     rw [(yl hp).1]
     by_cases ht : (JB v n).Tag = (byC v.Events n).1
     ·simp [ht]
     ·simp [ht,hput]) (by
   rw [zZ]
   unfold VS
   simp)
  rw [this,Option.bind_some,km v hv _ (by have:=AR 2 (Qk v) (U4 v); rw [List.length_append]; omega)]; rfl
theorem B8 (v : GVault) (hb : Wt.ln v) : W5 v = some (Qq v):=by
 unfold W5 Qq
 rw [Av v hb,Option.bind_some]
 cases hv : YO v with
 | false=>rfl
 | true =>
  have hs:=Qv hv
  have hh:=Be v
  have ht:=Zbt v.Events
  simp only [Bool.not_true,Bool.false_eq_true,if_false,if_true]
  rw [zG,Option.bind_some,zO (Y7 4) AZ v.Events (by omega),jw,Option.bind_some,kx v.Events (by omega),Option.bind_some]
  have h0:=Wr (f:=WE v) v.Records (fun b i=>(b.1,i,b.2)) (fun s r=>(Tz s.1 r.Number r.Tag,s.2 ++ [r.Number])) (([],[]) : List (Int × Dig) × List Int) (t:=(QH v.Records,v.Records.map (·.Number))) (by omega) (fun i hi=>by
   have hlt : ((i : Int) < (v.Records.length : Int)):=by omega
   have hx : idx v.Records ((i : Nat) : Int) = some v.Records[i]:=by rw [Z7,List.getElem?_eq_getElem hi]
   have hl : ((v.Records.take i).foldl (fun s r=>(Tz s.1 r.Number r.Tag,s.2 ++ [r.Number])) (([],[]) : List (Int × Dig) × List Int)).2.length ≤ 12:=by
    have H : ∀ (l : List GRecord) (s : List (Int × Dig) × List Int),(l.foldl (fun s r=>(Tz s.1 r.Number r.Tag,s.2 ++ [r.Number])) s).2.length = s.2.length + l.length:=by
     intro l
     induction l with
     | nil=>intro s; simp
     | cons r l ih=>intro s; rw [List.foldl_cons,ih]; simp; omega
    rw [H,List.length_take]; simp; omega
   generalize (v.Records.take i).foldl _ (([],[]) : List (Int × Dig) × List Int) = s at hl
   unfold WE
   simp only [hlt,decide_true,if_true,hx,Option.bind_some]
   rw [YC (by simp only [List.length_cons,List.length_nil]; omega)]; rfl) (by
   have H : ∀ (l : List GRecord) (s : List (Int × Dig) × List Int),l.foldl (fun s r=>(Tz s.1 r.Number r.Tag,s.2 ++ [r.Number])) s = (l.foldl (fun m r=>Tz m r.Number r.Tag) s.1,s.2 ++ l.map (·.Number)):=by
    intro l
    induction l with
    | nil=>intro s; simp
    | cons r l ih=>intro s; rw [List.foldl_cons,ih]; simp
   rw [H]
   unfold WE QH
   simp)
  have h0' : ZB (WE v) (([] : List (Int × Dig)),0,([] : List Int)) = some (QH v.Records,v.Records.map (·.Number)):=h0
  rw [h0',Option.bind_some]
  simp only
  rw [YC (by simp; omega),Option.bind_some]
  have hcl : (Lib.compact (Wo (v.Records.map (·.Number) ++ (Wp v.Events).map (·.1)))).length ≤ 72:=by
   have h1:=AE (Wo (v.Records.map (·.Number) ++ (Wp v.Events).map (·.1)))
   rw [Ji,List.length_append,List.length_map,List.length_map] at h1; omega
  have h2:=Wr (f:=V2 (Wp v.Events) (QH v.Records,v.Records.map (·.Number))) (Lib.compact (Wo (v.Records.map (·.Number) ++ (Wp v.Events).map (·.1)))) (fun b i=>(b,i)) (fun a n=>if Ba (Wp v.Events) (QH v.Records) n then a ++ [[2,n]] else a) (Q7 v) (t:=Q7 v ++ zF 2 (Qk v) (U4 v)) (by omega) (fun i hi=>by
   have hlt : ((i : Int) < ((Lib.compact (Wo (v.Records.map (·.Number) ++ (Wp v.Events).map (·.1)))).length : Int)):=by omega
   have hx : idx (Lib.compact (Wo (v.Records.map (·.Number) ++ (Wp v.Events).map (·.1)))) ((i : Nat) : Int) = some (Lib.compact (Wo (v.Records.map (·.Number) ++ (Wp v.Events).map (·.1))))[i]:=by rw [Z7,List.getElem?_eq_getElem hi]
   have hl:=Hf (Ba (Wp v.Events) (QH v.Records)) (fun n=>[2,n]) ((Lib.compact (Wo (v.Records.map (·.Number) ++ (Wp v.Events).map (·.1)))).take i) (Q7 v)
   rw [List.length_take] at hl
   generalize ((Lib.compact (Wo (v.Records.map (·.Number) ++ (Wp v.Events).map (·.1)))).take i).foldl _ (Q7 v) = s at hl
   unfold V2
   simp only [hlt,decide_true,if_true,hx,Option.bind_some]
   generalize (Lib.compact (Wo (v.Records.map (·.Number) ++ (Wp v.Events).map (·.1))))[i] = n
   have hput : ((app 24 s ([([2,n] : List Int)] : List (List Int))).bind fun (_ : List (List Int))=>some (s ++ ([([2,n] : List Int)] : List (List Int)))) = some (s ++ [[2,n]]):=by rw [YC (by simp only [List.length_cons,List.length_nil]; omega)]; rfl
   unfold Ba
   cases (YG (Wp v.Events) n).isSome with
   | false=>simp [hput]
   | true =>
    cases (YG (QH v.Records) n).isSome with
    | false=>simp [hput]
    | true =>
     by_cases hq : (YG (Wp v.Events) n).getD (Vector.replicate 32 0) = (YG (QH v.Records) n).getD (Vector.replicate 32 0)
     ·simp [hq]
     ·simp [hq,hput]) (by
   rw [zZ]
   unfold zF
   rw [kX hv]
   unfold V2
   simp)
  rw [h2,Option.bind_some,kN v hv _ (by
   have:=AR 2 (Qk v) (U4 v)
   have hn:=AB (v:=v) (by omega) (by omega)
   rw [List.length_append]; omega)]; rfl
theorem jY (l : List (List Int)) (h : Wt.ln l) : XB l l = some true:=by
 unfold XB
 exact Jo l (fun x y=>(Vc x y).bind fun r=>some (!r)) (UU l l) (fun s=>by unfold UU; rfl) (fun x hx=>by simp [kH x (AS h hx)]) (WX h)
theorem zA (l : List (List Int)) (h : Wt.ln l) : qb WR XA l (l.map fun x=>(x.map fun _=>1).sum).sum :=
 yj WR XA Wg We (fun x=>(x.map fun _=>1).sum) (fun _ _=>rfl) (fun _ _=>rfl) l (WX h) (fun l' i k hi hx _ h0 hk=>by
  obtain ⟨d',d1,d2⟩:=yS l'[i] (AS h hx) k h0 hk
  refine ⟨d',?_,fun m hm=>?_⟩
  ·unfold Wg
   simp only [Int.ofNat_lt,hi,decide_true,if_true,Z7,List.getElem?_eq_getElem hi,Option.bind_some,Int.toNat_natCast,d1]
  ·have hi':=(List.getElem?_eq_some_iff.1 hm).1
   have e3 : ¬ (k + ((l'[i].map fun _=>1).sum : Nat) < 0):=by omega
   unfold We
   simp only [Int.ofNat_lt,hi',decide_true,if_true,Z7,hm,Option.bind_some,d2,e3,decide_false,Bool.false_eq_true,if_false]) (fun l' k=>by unfold Wg; simp) (fun m k=>by unfold We; simp)
theorem yC (v : GVault) : (Qq v).1.length ≤ 85 ∧ ∀ x ∈ (Qq v).1,x.length ≤ 2:=by
 unfold Qq
 cases hv : YO v with
 | false=>simp
 | true =>
  have hs:=Qv hv
  have hh:=Be v
  have hn:=AB (v:=v) (by omega) (by omega)
  have hp:=AR 2 (Qk v) (U4 v)
  have ht : (JA v).length ≤ v.Records.length:=by unfold JA; rw [List.length_map]; exact List.length_filter_le _ _
  simp only [if_true]
  refine ⟨by rw [List.length_append,List.length_append]; omega,fun x hx=>?_⟩
  rcases List.mem_append.1 hx with hx | hx
  ·rcases List.mem_append.1 hx with hx | hx
   ·unfold Q7 at hx
    split at hx
    ·cases hx
    ·simp at hx; subst hx; simp
   ·unfold zF at hx
    obtain ⟨n,_,rfl⟩:=List.mem_map.1 hx; simp
  ·unfold JA at hx
   obtain ⟨r,_,rfl⟩:=List.mem_map.1 hx; simp
theorem Za8 (l : List (List Int)) (h : ∀ x ∈ l,x.length ≤ 2) : (l.map fun x=>(x.map fun _=>1).sum).sum ≤ 2 * l.length:=by
 induction l with
 | nil=>simp
 | cons x l ih =>
  have h1:=h x (by simp)
  have h2:=ih fun y hy=>h y (by simp [hy])
  have h3 : (x.map fun _=>1).sum = x.length:=by
   clear h h1 h2
   induction x with
   | nil=>rfl
   | cons y x ih=>rw [List.map_cons,List.sum_cons,ih,List.length_cons]; omega
  rw [List.map_cons,List.sum_cons,h3,List.length_cons]; omega
theorem Ju (v : GVault) (h : Dat.bd v) : Wj v = some true:=by
 unfold Wj
 refine Zc6 (Zaq v (Wt.bdln v h)) (by omega) (by omega) fun r _ _ hw=>?_
 have hw : Wt.wt v ≤ 1048576:=by omega
 have hl:=Wt.wtln v hw
 obtain ⟨f1,f2⟩:=yC v
 have hrl : Wt.ln (Qq v).1:=⟨by omega,fun x hx=>⟨by have:=f2 x hx; omega,fun _ _=>trivial⟩⟩
 have hle:=kV v
 have hsum:=Za8 _ f2
 obtain ⟨x',m1⟩:=kf v hl 1 (by omega) (by omega)
 obtain ⟨r',m2,m3⟩:=zA (Qq v).1 hrl 1 (by omega) (by omega)
 have e1 : ¬ ((1 : Int) + (Jp v : Nat) < 0):=by omega
 have e2 : ¬ ((1 : Int) + (((Qq v).1.map fun x=>(x.map fun _=>1).sum).sum : Nat) < 0):=by omega
 simp [Zap v hw,BI v hl,B8 v hl,Zam v hl,jY _ hrl,m1,m2,m3,e1,e2]
end Go.Proofs.YtpibglnacohdkaaGreat
