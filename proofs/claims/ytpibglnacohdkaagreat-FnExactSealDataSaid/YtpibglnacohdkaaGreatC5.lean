/- Plain laws, no program in sight. -/
import Derived.Test.YtpibglnacohdkaaGreatC4
set_option linter.unusedVariables false
set_option linter.unusedSimpArgs false
set_option maxRecDepth 20000
set_option maxHeartbeats 400000
namespace Go.Proofs.YtpibglnacohdkaaGreat
open Go
open Flat (enc)
theorem AP {α : Type} {l : List α} {i : Nat} (h : i < l.length) : idx l (i : Int) = some l[i]:=by
 unfold idx
 rw [if_pos (by omega)]
 simp
theorem Xf {i : Nat} (h : i < 9223372036854775807) : wr ((i : Int) + 1) = ((i + 1 : Nat) : Int):=by
 rw [YS (by omega)]; rfl

section
variable {S T : Type} {f : S → Option (Fl S T)}
theorem Zd1 (g : Nat → S) (m n : Nat) (hmn : m ≤ n) (h : ∀ i, m ≤ i → i < n → f (g i) = some (.nx (g (i + 1)))) : ZB f (g m) = ZB f (g n) := by
  induction n with
  | zero => have : m = 0 := by omega
            subst this; rfl
  | succ n ih =>
    rcases Nat.lt_or_ge m (n + 1) with h1 | h1
    · rw [ih (by omega) (fun i h2 h3 => h i h2 (by omega)), WZ (h n (by omega) (by omega))]
    · have : m = n + 1 := by omega
      subst this; rfl
theorem Z1 (g : Nat → S) (m n : Nat) (hmn : m ≤ n) {t : T} (h : ∀ i,m ≤ i → i < n → f (g i) = some (.nx (g (i + 1)))) (he : f (g n) = some (.ex t)) : ZB f (g m) = some t:=by
 rw [Zd1 g m n hmn h,WG he]
theorem KR (g : Nat → S) (p : Nat → Bool) (t : Nat → T) {e : T} (n : Nat) : ∀ (k m : Nat),m + k = n → (∀ i,m ≤ i → i < n → f (g i) = some (if p i then .ex (t i) else .nx (g (i + 1)))) → f (g n) = some (.ex e) →
  ZB f (g m) = some (((List.range' m k).find? p).elim e t)
 | 0,m,hk,_,he=>by
  have : m = n:=by omega
  subst this
  rw [WG he]; rfl
 | k + 1,m,hk,h,he=>by
  have h1:=h m (Nat.le_refl _) (by omega)
  rw [List.range'_succ,List.find?_cons]
  cases hp : p m with
  | true=>rw [hp] at h1; rw [WG h1]; rfl
  | false =>
   rw [hp] at h1
   rw [WZ h1,KR g p t n k (m + 1) (by omega) (fun i h2 h3=>h i (by omega) h3) he]
end

theorem kj {T : Type} {f : Int → Option (Fl Int (Fl Unit T))} (p : Nat → Bool) {t : T} {n m : Nat} (hm : m ≤ n)
  (h : ∀ i,m ≤ i → i < n → f (i : Int) = some (if p i then .ex (.ex t) else .nx ((i + 1 : Nat) : Int))) (he : f (n : Int) = some (.ex (.nx ()))) :
  ZB f (m : Int) = some (if (List.range' m (n - m)).any p then .ex t else .nx ()):=by
 rw [KR (fun i : Nat=>(i : Int)) p (fun _=>.ex t) n (n - m) m (by omega) h he]
 cases hf : (List.range' m (n - m)).find? p with
 | none =>
  have : (List.range' m (n - m)).any p = false:=by
   rw [List.any_eq_false]
   rw [List.find?_eq_none] at hf
   exact hf
  rw [this]; rfl
 | some i =>
  have : (List.range' m (n - m)).any p = true:=by
   rw [List.any_eq_true]
   exact ⟨i,List.mem_of_find?_eq_some hf,List.find?_some hf⟩
  rw [this]; rfl
theorem Zas {p : Nat → Bool} {m n : Nat} : (List.range' m (n - m)).any p = true ↔ ∃ i,m ≤ i ∧ i < n ∧ p i = true:=by
 rw [List.any_eq_true]
 simp only [List.mem_range'_1]
 constructor
 ·rintro ⟨i,⟨h1,h2⟩,h3⟩; exact ⟨i,h1,by omega,h3⟩
 ·rintro ⟨i,h1,h2,h3⟩; exact ⟨i,⟨h1,by omega⟩,h3⟩
theorem Za7 {α : Type} {q : α → Bool} {l : List α} {p : Nat → Bool} (hp : ∀ i (h : i < l.length),p i = q l[i]) : (List.range' 0 (l.length - 0)).any p = l.any q:=by
 rw [Bool.eq_iff_iff,Zas,List.any_eq_true]
 constructor
 ·rintro ⟨i,_,h,h3⟩; exact ⟨l[i],List.getElem_mem h,by rw [← hp i h]; exact h3⟩
 ·rintro ⟨x,hx,h⟩
  obtain ⟨i,hi,rfl⟩:=List.mem_iff_getElem.1 hx
  exact ⟨i,Nat.zero_le _,hi,by rw [hp i hi]; exact h⟩

theorem yL {T α : Type} {f : Int → Option (Fl Int (Fl Unit T))} (l : List α) (q : α → Bool) {t : T} (hl : l.length < 9223372036854775807)
  (h : ∀ i (hi : i < l.length),f (i : Int) = some (if q l[i] then .ex (.ex t) else .nx (wr ((i : Int) + 1)))) (he : f (l.length : Int) = some (.ex (.nx ()))) :
  ZB f 0 = some (if l.any q then .ex t else .nx ()):=by
 have:=kj (f:=f) (fun i=>if hi : i < l.length then q l[i] else false) (t:=t) (n:=l.length) (m:=0) (Nat.zero_le _) (fun i _ hi=>by
  rw [h i hi,Xf (by omega)]; simp [hi]) he
 rw [Za7 (q:=q) (fun i hi=>by simp [hi])] at this
 exact this

class Wt (α : Type) [Dat α] where
 wt : α → Nat
 ln : α → Prop
 bdln : ∀ x,Dat.bd x → ln x
 wtln : ∀ x,wt x ≤ 1048576 → ln x
instance : Wt Int:=⟨fun _=>0,fun _=>True,fun _ _=>trivial,fun _ _=>trivial⟩
instance : Wt UInt8:=⟨fun _=>0,fun _=>True,fun _ _=>trivial,fun _ _=>trivial⟩
instance : Wt Bool:=⟨fun _=>0,fun _=>True,fun _ _=>trivial,fun _ _=>trivial⟩
instance : Wt Str:=⟨fun s=>s.l.length,fun s=>s.l.length ≤ 9223372036854775807,fun _ h=>h,fun _ h=>by omega⟩
instance {n : Nat} : Wt (Vector UInt8 n):=⟨fun _=>0,fun _=>True,fun _ _=>trivial,fun _ _=>trivial⟩
instance {n m : Nat} : Wt (Vector (Vector UInt8 m) n):=⟨fun _=>0,fun _=>True,fun _ _=>trivial,fun _ _=>trivial⟩
theorem qX {α : Type} {f : α → Nat} {l : List α} {x : α} (h : x ∈ l) : f x ≤ (l.map f).sum:=by
 induction l with
 | nil=>cases h
 | cons y l ih =>
  rw [List.map_cons,List.sum_cons]
  rcases List.mem_cons.1 h with rfl | h
  ·omega
  ·have:=ih h; omega
instance {α : Type} [Dat α] [Wt α] : Wt (List α):=⟨fun l=>l.length + (l.map Wt.wt).sum,fun l=>l.length ≤ 9223372036854775807 ∧ ∀ x ∈ l,Wt.ln x,fun _ h=>⟨h.1,fun x hx=>Wt.bdln x (h.2 x hx)⟩,
 fun l h=>⟨by omega,fun x hx=>Wt.wtln x (by have:=qX (f:=Wt.wt) hx; omega)⟩⟩
instance {α β : Type} [Dat α] [Dat β] [Wt α] [Wt β] : Wt (α × β):=⟨fun x=>Wt.wt x.1 + Wt.wt x.2,fun x=>Wt.ln x.1 ∧ Wt.ln x.2,fun x h=>⟨Wt.bdln x.1 h.1,Wt.bdln x.2 h.2⟩,fun x h=>⟨Wt.wtln x.1 (by omega),Wt.wtln x.2 (by omega)⟩⟩
theorem Ku {α : Type} [Dat α] [Wt α] (l : List α) : Wt.wt l = l.length + (l.map Wt.wt).sum:=rfl
theorem wt_mem {α : Type} [Dat α] [Wt α] {l : List α} {x : α} (h : x ∈ l) : Wt.wt x ≤ (l.map Wt.wt).sum:=qX h
theorem Zdn {α : Type} [Dat α] [Wt α] {l : List α} {x : α} (h : x ∈ l) : Wt.wt x ≤ Wt.wt l:=by
 have:=wt_mem h; rw [Ku]; omega
theorem js {α : Type} [Dat α] [Wt α] (l : List α) : l.length ≤ Wt.wt l:=by rw [Ku]; omega
theorem Vz {α : Type} [Dat α] [Wt α] {l : List α} (h : Wt.ln l) : l.length ≤ 9223372036854775807:=h.1
theorem je {α : Type} [Dat α] [Wt α] {l : List α} {x : α} (h : Wt.ln l) (hx : x ∈ l) : Wt.ln x:=h.2 x hx

theorem JX {α β : Type} (p0 : List α) (c : α → Option β) (g : α → β) (by_ : Nat) (z : β) (L : List β × Int → Option (Fl (List β × Int) (List β)))
  (hL : ∀ s,L s = if (decide (s.2 < (p0.length : Int))) = true then ((idx p0 s.2).bind fun x=>(c x).bind fun r=>(idx s.1 s.2).bind fun _=>some (Fl.nx ((s.1.set (s.2).toNat r),wr (s.2 + 1)))) else (some (Fl.ex s.1)))
  (hc : ∀ x ∈ p0,c x = some (g x)) (hl : p0.length * by_ ≤ 140737488355328) (hl' : p0.length < 9223372036854775807) :
  ((mkS by_ z (p0.length : Int)).bind fun l1=>(ZB L (l1,0) : Option (List β)).bind fun j=>some j) = some (p0.map g):=by
 have hm : mkS by_ z (p0.length : Int) = some (List.replicate p0.length z):=by
  have h3 : ((p0.length * by_ : Nat) : Int) ≤ ((140737488355328 : Nat) : Int):=Int.ofNat_le.2 hl
  rw [Int.natCast_mul] at h3
  unfold mkS
  rw [if_pos ⟨by omega,h3⟩,Int.toNat_natCast]
 rw [hm]
 simp only [Option.bind_some]
 have hrun:=Z1 (f:=L) (fun i : Nat=>((p0.take i).map g ++ List.replicate (p0.length - i) z,(i : Int))) 0 p0.length (Nat.zero_le _) (t:=p0.map g) (fun i _ hi=>by
  rw [hL]
  simp only [Int.ofNat_lt,hi,decide_true,if_true,AP hi,Option.bind_some,hc _ (List.getElem_mem hi)]
  rw [AP (by simp; omega)]
  simp only [Option.bind_some,Xf (show i < 9223372036854775807 by omega),Int.toNat_natCast]
  congr 3
  rw [List.set_append_right _ _ (by simp; omega)]
  have e1 : p0.length - i = (p0.length - (i + 1)) + 1:=by omega
  have e2 : i - ((p0.take i).map g).length = 0:=by simp; omega
  rw [e1,List.replicate_succ,e2,List.set_cons_zero]
  rw [List.take_succ_eq_append_getElem hi,List.map_append,List.append_assoc]
  rfl) (by
  rw [hL]
  simp)
 simp at hrun
 simp [hrun]

theorem AD {α : Type} (p0 : List α) (ne : α → α → Option Bool) (L : Int → Option (Fl Int (Fl Unit Bool)))
  (hL : ∀ s,L s = if (decide (s < (p0.length : Int))) = true then (((idx p0 s).bind fun x=>(idx p0 s).bind fun y=>ne x y : Option Bool).bind fun j=>if j = true then (some (Fl.ex (Fl.ex false))) else (some (Fl.nx (wr (s + 1))))) else (some (Fl.ex (Fl.nx ()))))
  (hn : ∀ x ∈ p0,ne x x = some false) (hl : p0.length ≤ 9223372036854775807) :
  (if ((p0.length : Int) != (p0.length : Int)) = true then (some false) else ((ZB L 0 : Option (Fl Unit Bool)).bind fun j2=>j2.el (fun _=>some true) (fun r=>some r))) = some true:=by
 have:=Z1 (f:=L) (fun i : Nat=>(i : Int)) 0 p0.length (Nat.zero_le _) (t:=.nx ()) (fun i _ hi=>by
  rw [hL]
  simp only [Int.ofNat_lt,hi,decide_true,if_true,AP hi,Option.bind_some,hn _ (List.getElem_mem hi)]
  simp [Xf (show i < 9223372036854775807 by omega)]) (by
  rw [hL]; simp)
 have h2 : ZB L 0 = some (.nx ()):=this
 simp [h2,Fl.el]

def Qi {α : Type} [Dat α] [Wt α] (f : α → Int → Option Int) (x : α) : Prop:=∀ left : Int,0 ≤ left → left ≤ 1048576 → ∃ r,f x left = some r ∧ r ≤ 1048576 ∧ (0 ≤ r → r + Wt.wt x ≤ left)
theorem HA {α : Type} [Dat α] [Wt α] {l : List α} (h0 : ∀ x : α,Wt.wt x = 0) (f : List α → Int → Option Int)
  (hf : ∀ left,f l left = if (decide ((wr (left - (l.length : Int))) < 0)) = true then (some (-1)) else (some (wr (left - (l.length : Int))))) (hl : l.length ≤ 9223372036854775807) : Qi f l:=by
 intro left h1 h2
 have hs : (l.map Wt.wt).sum = 0:=by
  clear hf hl
  induction l with
  | nil=>rfl
  | cons x l ih=>rw [List.map_cons,List.sum_cons,h0,ih]
 have hw : Wt.wt l = l.length:=by rw [Ku,hs]; rfl
 rw [hf,YS (by omega),hw]
 by_cases h : left - (l.length : Int) < 0
 ·exact ⟨-1,by simp [h],by omega,by omega⟩
 ·exact ⟨left - l.length,by simp [h],by omega,by omega⟩
theorem kX {α : Type} [Dat α] [Wt α] {p0 : List α} (f : List α → Int → Option Int) (c : α → Int → Option Int) (L : Int × Int → Option (Fl (Int × Int) (Fl Int Int)))
  (hL : ∀ s,L s = if (decide (s.2 < (p0.length : Int))) = true then ((idx p0 s.2).bind fun x=>(c x s.1).bind fun r=>if (decide (r < 0)) = true then (some (Fl.ex (Fl.ex (-1)))) else (some (Fl.nx (r,wr (s.2 + 1))))) else (some (Fl.ex (Fl.nx s.1))))
  (hf : ∀ left,f p0 left = if (decide ((wr (left - (p0.length : Int))) < 0)) = true then (some (-1)) else ((ZB L (wr (left - (p0.length : Int)),0) : Option (Fl Int Int)).bind fun j2=>j2.el (fun s=>some s) (fun r=>some r)))
  (hl : p0.length ≤ 9223372036854775807) (hc : ∀ x ∈ p0,Qi c x) : Qi f p0:=by
 intro left h1 h2
 rw [hf,YS (by omega)]
 by_cases h : left - (p0.length : Int) < 0
 ·exact ⟨-1,by simp [h],by omega,by omega⟩
 simp only [h,decide_false,Bool.false_eq_true,if_false]
 have key : ∀ (k m : Nat) (a : Int),m + k = p0.length → 0 ≤ a → a ≤ 1048576 → ∃ o : Fl Int Int,ZB L (a,(m : Int)) = some o ∧ ((o = .ex (-1)) ∨ ∃ r,o = .nx r ∧ 0 ≤ r ∧ r + (((p0.drop m).map Wt.wt).sum : Nat) ≤ a):=by
  intro k
  induction k with
  | zero =>
   intro m a hm h0 h3
   have : m = p0.length:=by omega
   subst this
   refine ⟨.nx a,?_,.inr ⟨a,rfl,h0,?_⟩⟩
   ·rw [WG (t:=.nx a)]; rw [hL]; simp
   ·simp
  | succ k ih =>
   intro m a hm h0 h3
   have hi : m < p0.length:=by omega
   obtain ⟨r,e1,e2,e3⟩:=hc _ (List.getElem_mem hi) a h0 h3
   have hst : L (a,(m : Int)) = (if (decide (r < 0)) = true then (some (Fl.ex (Fl.ex (-1)))) else (some (Fl.nx (r,((m + 1 : Nat) : Int))))):=by
    rw [hL]
    simp only [Int.ofNat_lt,hi,decide_true,if_true,AP hi,Option.bind_some,e1,Xf (show m < 9223372036854775807 by omega)]
   by_cases hr : r < 0
   ·simp only [hr,decide_true,if_true] at hst
    exact ⟨_,WG hst,.inl rfl⟩
   ·simp only [hr,decide_false,Bool.false_eq_true,if_false] at hst
    obtain ⟨o,k1,k2⟩:=ih (m + 1) r (by omega) (by omega) e2
    refine ⟨o,by rw [WZ hst]; exact k1,k2.imp id ?_⟩
    rintro ⟨q,rfl,q1,q2⟩
    refine ⟨q,rfl,q1,?_⟩
    have e3:=e3 (by omega)
    rw [List.drop_eq_getElem_cons hi,List.map_cons,List.sum_cons]
    omega
 obtain ⟨o,k1,k2⟩:=key p0.length 0 (left - p0.length) (by omega) (by omega) (by omega)
 have k1' : ZB L (left - (p0.length : Int),0) = some o:=k1
 rw [k1']
 rcases k2 with rfl | ⟨r,rfl,q1,q2⟩
 ·exact ⟨-1,rfl,by omega,by omega⟩
 ·refine ⟨r,rfl,by omega,fun _=>?_⟩
  rw [List.drop_zero] at q2
  rw [Ku]; omega
@[simp] theorem Yz {α : Type} (l : List α) (i : Nat) : idx l (i : Int) = l[i]?:=by unfold idx; simp
@[simp] theorem idx_zero {α : Type} (l : List α) : idx l (0 : Int) = l[0]?:=Yz l 0
theorem jN {T : Type} {f : Int → Option (Fl Int (Fl Unit T))} (n : Nat) (p : Nat → Bool) (t : Nat → T) (hn : n < 9223372036854775807)
  (h : ∀ i,i < n → f (i : Int) = some (if p i then .ex (.ex (t i)) else .nx (wr ((i : Int) + 1)))) (he : f (n : Int) = some (.ex (.nx ()))) (m : Nat) (hm : m ≤ n) :
  ZB f (m : Int) = some (match (List.range' m (n - m)).find? p with | some i=>.ex (t i) | none=>.nx ()):=by
 rw [KR (fun i : Nat=>(i : Int)) p (fun i=>.ex (t i)) n (n - m) m (by omega) (fun i _ hi=>by rw [h i hi,Xf (by omega)]) he]
 cases (List.range' m (n - m)).find? p <;> rfl
theorem Zcf {T : Type} {f : Int → Option (Fl Int (Fl Unit T))} (n : Nat) (p : Nat → Bool) (t : T) (hn : n < 9223372036854775807)
  (h : ∀ i,i < n → f (i : Int) = some (if p i then .ex (.ex t) else .nx (wr ((i : Int) + 1)))) (he : f (n : Int) = some (.ex (.nx ()))) (m : Nat) (hm : m ≤ n) :
  ZB f (m : Int) = some (if (List.range' m (n - m)).any p then .ex t else .nx ()) :=
 kj p hm (fun i _ hi=>by rw [h i hi,Xf (by omega)]) he
theorem KH {α β S T : Type} {f : S → Option (Fl S T)} (l : List α) (pack : β → Int → S) (g : β → α → β) (b0 : β) {t : T} (hn : l.length < 9223372036854775807)
  (h : ∀ i (hi : i < l.length),f (pack ((l.take i).foldl g b0) (i : Int)) = some (.nx (pack (g ((l.take i).foldl g b0) l[i]) (wr ((i : Int) + 1))))) (he : f (pack (l.foldl g b0) (l.length : Int)) = some (.ex t)) :
  ZB f (pack b0 0) = some t:=by
 have:=Z1 (f:=f) (fun i : Nat=>pack ((l.take i).foldl g b0) (i : Int)) 0 l.length (Nat.zero_le _) (t:=t) (fun i _ hi=>by
  rw [h i hi,Xf (by omega)]
  congr 3
  rw [List.take_succ_eq_append_getElem hi,List.foldl_append]; rfl) (by rw [List.take_length]; exact he)
 simpa using this
theorem ya {α β : Type} (g : α → β) (l : List α) (acc : List β) : l.foldl (fun b x=>b ++ [g x]) acc = acc ++ l.map g:=by
 induction l generalizing acc with
 | nil=>simp
 | cons x l ih=>simp [ih]
theorem zq {α β T : Type} {f : List β × Int → Option (Fl (List β × Int) T)} (l : List α) (g : α → β) {t : T} (hn : l.length < 9223372036854775807)
  (h : ∀ i (hi : i < l.length),f ((l.take i).map g,(i : Int)) = some (.nx ((l.take i).map g ++ [g l[i]],wr ((i : Int) + 1)))) (he : f (l.map g,(l.length : Int)) = some (.ex t)) :
  ZB f ([],0) = some t:=by
 have e : ∀ m : List α,m.foldl (fun b x=>b ++ [g x]) [] = m.map g:=fun m=>by rw [ya]; rfl
 exact KH (f:=f) l (fun b i=>(b,i)) (fun b x=>b ++ [g x]) [] hn (fun i hi=>by simp only [e]; exact h i hi) (by simp only [e]; exact he)
theorem YP {α : Type} {by_ : Nat} {l m : List α} (h : (l.length + m.length) * by_ ≤ 140737488355328) : app by_ l m = some (l ++ m):=by unfold app; rw [if_pos h]
theorem HL {α : Type} {l : List α} {i j : Nat} (h : i ≤ j) (h2 : j ≤ l.length) : slc l (i : Int) (j : Int) = some ((l.take j).drop i):=by
 unfold slc; rw [if_pos (by omega)]; simp

theorem T9 {α : Type} {n : Nat} {v w : Vector α n} (h : ∀ i (hi : i < n),v[i] = w[i]) : v = w:=Vector.ext h
@[simp] theorem W5 {α : Type} {n : Nat} (v : Vector α n) (i : Nat) : ZH v (i : Int) = v[i]?:=by unfold ZH; simp
theorem ju {n : Nat} (p0 : Vector UInt8 n) (L : Vector UInt8 n × Int → Option (Fl (Vector UInt8 n × Int) (Vector UInt8 n)))
  (hL : ∀ s,L s = if decide (s.2 < (n : Int)) = true then ((ZH p0 s.2).bind fun x=>(ZH s.1 s.2).bind fun _=>some (Fl.nx (s.1.setIfInBounds (s.2).toNat x,wr (s.2 + 1)))) else (some (Fl.ex s.1))) (hn : n < 9223372036854775807) (z : Vector UInt8 n) :
  ZB L (z,0) = some p0:=by
 have:=Z1 (f:=L) (fun i : Nat=>(Vector.ofFn fun j : Fin n=>if j.1 < i then p0[j] else z[j],(i : Int))) 0 n (Nat.zero_le _) (t:=p0) (fun i _ hi=>by
  rw [hL]
  simp only [Int.ofNat_lt,hi,decide_true,if_true,W5,Vector.getElem?_eq_getElem hi,Option.bind_some,Int.toNat_natCast,Xf (show i < 9223372036854775807 by omega)]
  congr 3
  apply T9
  intro j hj
  rw [Vector.getElem_setIfInBounds]
  simp only [Vector.getElem_ofFn,Fin.getElem_fin]
  by_cases h : i = j
  ·subst h; simp
  ·by_cases h2 : j < i
   ·simp [h,h2,show j < i + 1 by omega]
   ·simp [h,h2,show ¬ j < i + 1 by omega]) (by
  rw [hL]
  simp only [Int.ofNat_lt,Nat.lt_irrefl,decide_false,Bool.false_eq_true,if_false]
  congr 2
  apply T9
  intro j hj
  simp [hj])
 have h0 : (Vector.ofFn fun j : Fin n=>if j.1 < 0 then p0[j] else z[j]) = z:=by
  apply T9
  intro j hj
  simp
 rw [h0] at this
 exact this
theorem Za8 {n : Nat} (p0 : Vector UInt8 n) (L : Int → Option (Fl Int (Fl Unit Bool)))
  (hL : ∀ s,L s = if decide (s < (n : Int)) = true then (((ZH p0 s).bind fun x=>(ZH p0 s).bind fun y=>some (x != y) : Option Bool).bind fun j=>if j = true then (some (Fl.ex (Fl.ex false))) else (some (Fl.nx (wr (s + 1))))) else (some (Fl.ex (Fl.nx ())))) (hn : n < 9223372036854775807) :
  ((ZB L 0 : Option (Fl Unit Bool)).bind fun j5=>j5.el (fun _=>some true) (fun r=>some r)) = some true:=by
 have:=Z1 (f:=L) (fun i : Nat=>(i : Int)) 0 n (Nat.zero_le _) (t:=.nx ()) (fun i _ hi=>by
  rw [hL]
  simp only [Int.ofNat_lt,hi,decide_true,if_true,W5,Vector.getElem?_eq_getElem hi,Option.bind_some]
  simp [Xf (show i < 9223372036854775807 by omega)]) (by rw [hL]; simp)
 have h2 : ZB L 0 = some (.nx ()):=this
 rw [h2]; rfl

def Jd (n : Nat) (k : Int) : Vector UInt8 n:=Vector.ofFn fun j=>Zr (k + j)
theorem zY {k : Int} (h : 0 ≤ k) (h2 : k < 9223372036854775807) : wr (k + 1) = k + 1:=YS (by omega)
theorem Bp {α : Type} {n : Nat} (get : α → Vector UInt8 n) (put : α → Vector UInt8 n → α) (i : Nat) (I : Int) (hI : I = i) (L : List α × Int × Int → Option (Fl (List α × Int × Int) (List α × Int)))
  (hL : ∀ s,L s = if decide (s.2.2 < (n : Int)) = true then ((idx s.1 I).bind fun x=>(ZH (get x) s.2.2).bind fun _=>some (Fl.nx (s.1.set (I).toNat (put x ((get x).setIfInBounds (s.2.2).toNat (Zr s.2.1))),wr (s.2.1 + 1),wr (s.2.2 + 1)))) else (some (Fl.ex (s.1,s.2.1))))
  (hgp : ∀ x v,get (put x v) = v) (hpp : ∀ x v w,put (put x v) w = put x w) (hpg : ∀ x,put x (get x) = x) (hn : n < 9223372036854775807)
  (l : List α) (hi : i < l.length) (k : Int) (h0 : 0 ≤ k) (hk : k + n ≤ 4611686018427387904) : ZB L (l,k,0) = some (l.set i (put l[i] (Jd n k)),k + n):=by
 subst hI
 have:=Z1 (f:=L) (fun j : Nat=>(l.set i (put l[i] (Vector.ofFn fun q : Fin n=>if q.1 < j then Zr (k + q) else (get l[i])[q])),k + j,(j : Int))) 0 n (Nat.zero_le _) (t:=(l.set i (put l[i] (Jd n k)),k + n)) (fun j _ hj=>by
  rw [hL]
  have hi' : i < (l.set i (put l[i] (Vector.ofFn fun q : Fin n=>if q.1 < j then Zr (k + q) else (get l[i])[q]))).length:=by simpa using hi
  simp only [Int.ofNat_lt,hj,decide_true,if_true,Yz,W5,List.getElem?_eq_getElem hi',Vector.getElem?_eq_getElem hj,Option.bind_some,Int.toNat_natCast,Xf (show j < 9223372036854775807 by omega),List.getElem_set_self,hgp,hpp,List.set_set]
  rw [zY (by omega) (by omega)]
  congr 3
  ·congr 2
   apply T9
   intro q hq
   rw [Vector.getElem_setIfInBounds]
   simp only [Vector.getElem_ofFn,Fin.getElem_fin]
   by_cases h : j = q
   ·subst h; simp
   ·by_cases h2 : q < j
    ·simp [h,h2,show q < j + 1 by omega]
    ·simp [h,h2,show ¬ q < j + 1 by omega]
  ·congr 1
   omega) (by
  rw [hL]
  simp only [Int.ofNat_lt,Nat.lt_irrefl,decide_false,Bool.false_eq_true,if_false]
  have e : (Vector.ofFn fun q : Fin n=>if q.1 < n then Zr (k + q) else (get l[i])[q]) = Jd n k:=by
   unfold Jd
   apply T9
   intro j hj
   simp [hj]
  rw [e])
 have h0' : (Vector.ofFn fun q : Fin n=>if q.1 < 0 then Zr (k + q) else (get l[i])[q]) = get l[i]:=by
  apply T9
  intro j hj
  simp
 rw [h0',hpg,List.set_getElem_self] at this
 simpa using this
theorem HX {α : Type} {n : Nat} (get : α → Vector UInt8 n) (l : List α) (i : Nat) (I : Int) (hI : I = i) (L : Int × Int → Option (Fl (Int × Int) (Fl Int Int)))
  (hL : ∀ s,L s = if decide (s.2 < (n : Int)) = true then ((idx l I).bind fun x=>(ZH (get x) s.2).bind fun b=>if (b != (Zr s.1)) = true then (some (Fl.ex (Fl.ex (-1)))) else (some (Fl.nx (wr (s.1 + 1),wr (s.2 + 1))))) else (some (Fl.ex (Fl.nx s.1))))
  {x : α} (hx : l[i]? = some x) (k : Int) (h0 : 0 ≤ k) (hk : k + n ≤ 4611686018427387904) (hg : get x = Jd n k) : ZB L (k,0) = some (.nx (k + n)):=by
 subst hI
 have:=Z1 (f:=L) (fun j : Nat=>(k + j,(j : Int))) 0 n (Nat.zero_le _) (t:=.nx (k + n)) (fun j _ hj=>by
  rw [hL]
  simp only [Int.ofNat_lt,hj,decide_true,if_true,Yz,W5,hx,Vector.getElem?_eq_getElem hj,Option.bind_some,Xf (show j < 9223372036854775807 by omega)]
  rw [zY (by omega) (by omega)]
  have : (get x)[j] = Zr (k + j):=by simp [hg,Jd]
  rw [this]
  simp only [bne_self_eq_false,Bool.false_eq_true,if_false]
  congr 3
  omega) (by rw [hL]; simp)
 simpa using this
def zG {α : Type} (Fm : α → Int → Option (α × Int)) (Fh : α → Int → Option Int) (x : α) (n : Nat) : Prop :=
 ∀ k : Int,0 ≤ k → k + n ≤ 4611686018427387904 → ∃ x',Fm x k = some (x',k + n) ∧ Fh x' k = some (k + n)
theorem JT {α : Type} (Fm : List α → Int → Option (List α × Int)) (Fh : List α → Int → Option Int) (Lm : List α × Int × Int → Option (Fl (List α × Int × Int) (List α × Int))) (Lh : List α → Int × Int → Option (Fl (Int × Int) (Fl Int Int))) (mk : α → Nat)
  (hFm : ∀ l k,Fm l k = (ZB Lm (l,k,0) : Option (List α × Int)).bind fun j1=>some (j1.1,j1.2)) (hFh : ∀ l k,Fh l k = (ZB (Lh l) (k,0) : Option (Fl Int Int)).bind fun j1=>j1.el (fun s=>some s) (fun r=>some r))
  (l : List α) (hl : l.length ≤ 9223372036854775807)
  (hm : ∀ (l' : List α) (i : Nat) (k : Int) (hi : i < l'.length),l'[i] ∈ l → i < 9223372036854775807 → 0 ≤ k → k + mk l'[i] ≤ 4611686018427387904 → ∃ x',Lm (l',k,(i : Int)) = some (.nx (l'.set i x',k + mk l'[i],wr ((i : Int) + 1))) ∧
   ∀ (m : List α),m[i]? = some x' → Lh m (k,(i : Int)) = some (.nx (k + mk l'[i],wr ((i : Int) + 1))))
  (hme : ∀ (l' : List α) k,Lm (l',k,(l'.length : Int)) = some (.ex (l',k))) (hhe : ∀ (m : List α) k,Lh m (k,(m.length : Int)) = some (.ex (.nx k))) : zG Fm Fh l (l.map mk).sum:=by
 have aux : ∀ (n i : Nat) (l' : List α) (k : Int),i + n = l'.length → l'.length = l.length → l'.drop i = l.drop i → 0 ≤ k → k + (((l.drop i).map mk).sum : Nat) ≤ 4611686018427387904 →
   ∃ l'',ZB Lm (l',k,(i : Int)) = some (l'',k + (((l.drop i).map mk).sum : Nat)) ∧ l''.length = l'.length ∧ (∀ j,j < i → l''[j]? = l'[j]?) ∧ ZB (Lh l'') (k,(i : Int)) = some (.nx (k + (((l.drop i).map mk).sum : Nat))):=by
  intro n
  induction n with
  | zero =>
   intro i l' k hi hll hd h0 hk
   have hi : i = l'.length:=by omega
   subst hi
   have e : l.drop l'.length = []:=by rw [hll]; simp
   rw [e]
   refine ⟨l',?_,rfl,fun _ _=>rfl,?_⟩
   ·rw [WG (hme l' k)]; simp
   ·rw [WG (hhe l' k)]; simp
  | succ n ih =>
   intro i l' k hi hll hd h0 hk
   have hil : i < l'.length:=by omega
   have hil2 : i < l.length:=by omega
   have e1 : l'[i] = l[i]:=by
    have h1:=List.drop_eq_getElem_cons hil
    have h2:=List.drop_eq_getElem_cons hil2
    rw [h1,h2] at hd
    exact (List.cons.inj hd).1
   have e2 : l.drop i = l[i] :: l.drop (i + 1):=List.drop_eq_getElem_cons hil2
   rw [e2,List.map_cons,List.sum_cons] at hk ⊢
   obtain ⟨x',h1,h2⟩:=hm l' i k hil (by rw [e1]; exact List.getElem_mem hil2) (by omega) h0 (by rw [e1]; omega)
   rw [e1] at h1 h2
   rw [Xf (by omega)] at h1 h2
   obtain ⟨l'',k1,k2,k3,k4⟩:=ih (i + 1) (l'.set i x') (k + mk l[i]) (by simp; omega) (by simpa using hll) (by
    rw [List.drop_set_of_lt (by omega)]
    have h1:=List.drop_eq_getElem_cons hil
    rw [h1,e2] at hd
    exact (List.cons.inj hd).2) (by omega) (by omega)
   refine ⟨l'',?_,by simpa using k2,fun j hj=>?_,?_⟩
   ·rw [WZ h1,k1]; congr 2; omega
   ·rw [k3 j (by omega),List.getElem?_set_ne (by omega)]
   ·rw [WZ (h2 l'' (by rw [k3 i (by omega)]; simp [hil])),k4]; congr 2; omega
 intro k h0 hk
 obtain ⟨l'',k1,k2,k3,k4⟩:=aux l.length 0 l k (by omega) rfl rfl h0 (by simpa using hk)
 simp only [List.drop_zero] at k1 k4
 refine ⟨l'',?_,?_⟩
 ·rw [hFm]
  have : ZB Lm (l,k,0) = _:=k1
  rw [this]; rfl
 ·rw [hFh]
  have : ZB (Lh l'') (k,0) = _:=k4
  rw [this]; rfl
theorem BK {α : Type} [Dat α] [Wt α] (mk : α → Nat) (c : Nat) (h : ∀ x,mk x ≤ c * (1 + Wt.wt x)) (l : List α) : (l.map mk).sum ≤ c * Wt.wt l:=by
 rw [Ku]
 induction l with
 | nil=>simp
 | cons x l ih =>
  have:=h x
  simp only [List.map_cons,List.sum_cons,List.length_cons]
  have e : c * (l.length + 1 + (Wt.wt x + (l.map Wt.wt).sum)) = c * (1 + Wt.wt x) + c * (l.length + (l.map Wt.wt).sum):=by
   rw [← Nat.mul_add]; congr 1; omega
  omega
theorem KI (l : List UInt8) : Wt.wt l = l.length:=by
 rw [Ku]
 have : (l.map Wt.wt).sum = 0:=by
  induction l with
  | nil=>rfl
  | cons x l ih=>rw [List.map_cons,List.sum_cons,ih]; rfl
 omega
theorem JZ (l : List UInt8) (h : Wt.wt l ≤ 1048576) : YE l = some l:=by
 have:=js l
 unfold YE
 have:=JX l (fun x=>some x) id 1 0 (Qc l) (fun s=>by unfold Qc; rfl) (fun _ _=>rfl) (by omega) (by omega)
 simpa using this
theorem JV (l : List UInt8) (h : Wt.ln l) : Wp l l = some true:=by
 unfold Wp
 exact AD l (fun x y=>some (x != y)) (Qg l l) (fun s=>by unfold Qg; rfl) (fun x _=>by simp) (Vz h)
theorem yl (l : List UInt8) (h : Wt.ln l) : Qi Ww l :=
 HA (fun _=>rfl) Ww (fun left=>by unfold Ww; rfl) (Vz h)
theorem B6 (l : List UInt8) (h : Wt.ln l) : zG YC W9 l (l.map fun _=>1).sum :=
 JT YC W9 Xk VY (fun _=>1) (fun _ _=>rfl) (fun _ _=>rfl) l (Vz h) (fun l' i k hi _ _ h0 hk=>by
  have e:=zY (k:=k) h0 (by omega)
  refine ⟨Zr k,?_,fun m hm=>?_⟩
  ·unfold Xk
   simp only [Int.ofNat_lt,hi,decide_true,if_true,Yz,List.getElem?_eq_getElem hi,Option.bind_some,Int.toNat_natCast,e]; rfl
  ·have hi':=(List.getElem?_eq_some_iff.1 hm).1
   unfold VY
   simp only [Int.ofNat_lt,hi',decide_true,if_true,Yz,hm,Option.bind_some,bne_self_eq_false,Bool.false_eq_true,if_false,e]; rfl) (fun l' k=>by unfold Xk; simp) (fun m k=>by unfold VY; simp)
instance : Wt GRecord:=⟨fun x=>Wt.wt x.Label + Wt.wt x.Body,fun x=>Wt.ln x.Label ∧ Wt.ln x.Body,fun x h=>⟨Wt.bdln x.Label h.2.2.2.1,Wt.bdln x.Body h.2.2.2.2.1⟩,fun x h=>⟨Wt.wtln x.Label (by omega),Wt.wtln x.Body (by omega)⟩⟩
instance : Wt GEvent:=⟨fun _=>0,fun _=>True,fun _ _=>trivial,fun _ _=>trivial⟩
instance : Wt GVault:=⟨fun x=>Wt.wt x.Keys + (Wt.wt x.Records + Wt.wt x.Events),fun x=>Wt.ln x.Keys ∧ Wt.ln x.Records ∧ Wt.ln x.Events,fun x h=>⟨Wt.bdln x.Keys h.1,Wt.bdln x.Records h.2.2.1,Wt.bdln x.Events h.2.2.2.1⟩,
 fun x h=>⟨Wt.wtln x.Keys (by omega),Wt.wtln x.Records (by omega),Wt.wtln x.Events (by omega)⟩⟩
theorem BN (x : Vector UInt8 16) : Xo x = some x:=by
 unfold Xo
 rw [ju x (Qh x) (fun s=>by unfold Qh; rfl) (by omega)]; rfl
theorem Hv (x : Vector UInt8 32) : WP x = some x:=by
 unfold WP
 rw [ju x (TG x) (fun s=>by unfold TG; rfl) (by omega)]; rfl
theorem yB (x : Vector UInt8 16) : Vr x x = some true:=by
 unfold Vr
 exact Za8 x (Qb x x) (fun s=>by unfold Qb; rfl) (by omega)
theorem Hn (x : Vector UInt8 32) : WO x x = some true:=by
 unfold WO
 exact Za8 x (TT x x) (fun s=>by unfold TT; rfl) (by omega)
theorem qc (l : List (Vector UInt8 16)) (h : Wt.wt l ≤ 1048576) : UU l = some l:=by
 have:=js l
 unfold UU
 have:=JX l Xo id 16 (Vector.replicate 16 0) (TJ l) (fun s=>by unfold TJ; rfl) (fun x _=>BN x) (by omega) (by omega)
 simpa using this
theorem qs (l : List (Vector UInt8 16)) (h : Wt.ln l) : UW l l = some true:=by
 unfold UW
 exact AD l (fun x y=>(Vr x y).bind fun r=>some (!r)) (TV l l) (fun s=>by unfold TV; rfl) (fun x _=>by simp [yB x]) (Vz h)
theorem qd (l : List (Vector UInt8 16)) (h : Wt.ln l) : Qi VG l :=
 HA (fun _=>rfl) VG (fun left=>by unfold VG; rfl) (Vz h)
theorem Hc (l' : List (Vector UInt8 16)) (i : Nat) (k : Int) (hi : i < l'.length) (h0 : 0 ≤ k) (hk : k + 16 ≤ 4611686018427387904) :
  Y5 (l',k,(i : Int)) = some (.nx (l'.set i (Jd 16 k),k + 16,wr ((i : Int) + 1))):=by
 unfold Y5
 have h1:=Bp (n:=16) (fun x : Vector UInt8 16=>x) (fun _ v=>v) i i rfl (UE (l',k,(i : Int))) (fun s=>by unfold UE; rfl) (fun _ _=>rfl) (fun _ _ _=>rfl) (fun _=>rfl) (by omega) l' hi k h0 hk
 simp only [Int.ofNat_lt,hi,decide_true,if_true,h1,Option.bind_some]
 rfl
theorem yW (l : List (Vector UInt8 16)) (h : Wt.ln l) : zG XJ VX l (l.map fun _=>16).sum :=
 JT XJ VX Y5 Vl (fun _=>16) (fun _ _=>rfl) (fun _ _=>rfl) l (Vz h) (fun l' i k hi _ _ h0 hk=>by
  refine ⟨Jd 16 k,Hc l' i k hi h0 (by omega),fun m hm=>?_⟩
  have hi':=(List.getElem?_eq_some_iff.1 hm).1
  unfold Vl
  have h1:=HX (n:=16) (fun x : Vector UInt8 16=>x) m i i rfl (UL m (k,(i : Int))) (fun s=>by unfold UL; rfl) hm k h0 (by omega) rfl
  simp only [Int.ofNat_lt,hi',decide_true,if_true,h1,Option.bind_some,Fl.el]
  try rfl) (fun l' k=>by unfold Y5; simp) (fun m k=>by unfold Vl; simp)
theorem kK (x : GRecord) (h : Wt.wt x ≤ 1048576) : VI x = some x:=by
 have h : Wt.wt x.Label + Wt.wt x.Body ≤ 1048576:=h
 unfold VI
 simp [BN,Hv,JZ x.Label (by omega),JZ x.Body (by omega)]
theorem ky (l : List GRecord) (h : Wt.wt l ≤ 1048576) : Uq l = some l:=by
 have:=js l
 unfold Uq
 have:=JX l VI id 112 ⟨0,0,Vector.replicate 16 0,[],[],Vector.replicate 32 0⟩ (Tc l) (fun s=>by unfold Tc; rfl) (fun x hx=>kK x (Nat.le_trans (Zdn hx) h)) (by omega) (by omega)
 simpa using this
theorem qe (x : GRecord) (h : Wt.ln x) : VL x x = some true:=by
 unfold VL
 simp [yB,Hn,JV x.Label h.1,JV x.Body h.2]
theorem jM (l : List GRecord) (h : Wt.ln l) : Ue l l = some true:=by
 unfold Ue
 exact AD l (fun x y=>(VL x y).bind fun r=>some (!r)) (Ti l l) (fun s=>by unfold Ti; rfl) (fun x hx=>by simp [qe x (je h hx)]) (Vz h)
theorem HE {α β : Type} [Dat α] [Wt α] [Dat β] [Wt β] {f : α → Int → Option Int} {g : β → Int → Option Int} {x : α} {y : β} (hf : Qi f x) (hg : Qi g y) (left : Int) (h1 : 0 ≤ left) (h2 : left ≤ 1048576) :
  ∃ r,((f x left).bind fun r=>if decide (r < 0) = true then some (-1) else g y r) = some r ∧ r ≤ 1048576 ∧ (0 ≤ r → r + (Wt.wt x + Wt.wt y : Nat) ≤ left):=by
 obtain ⟨r,e1,e2,e3⟩:=hf left h1 h2
 rw [e1]
 by_cases hr : r < 0
 ·exact ⟨-1,by simp [hr],by omega,by omega⟩
 ·have e3:=e3 (by omega)
  obtain ⟨q,k1,k2,k3⟩:=hg r (by omega) e2
  refine ⟨q,by simp [hr,k1],k2,fun hq=>?_⟩
  have:=k3 hq
  omega
theorem yk {f : Option Int} {left w : Int} (h : ∃ r,f = some r ∧ r ≤ 1048576 ∧ (0 ≤ r → r + w ≤ left)) : ∃ r,(f.bind fun r=>if decide (r < 0) = true then some (-1) else some r) = some r ∧ r ≤ 1048576 ∧ (0 ≤ r → r + w ≤ left):=by
 obtain ⟨r,e1,e2,e3⟩:=h
 by_cases hr : r < 0
 ·exact ⟨-1,by simp [e1,hr],by omega,by omega⟩
 ·exact ⟨r,by simp [e1,hr],e2,e3⟩
theorem k8 (x : GRecord) (h : Wt.ln x) : Qi U3 x:=by
 intro left h1 h2
 have h3 : Qi (fun (y : List UInt8) r=>(Ww y r).bind fun r=>if decide (r < 0) = true then some (-1) else some r) x.Body:=fun left h1 h2=>yk (yl x.Body h.2 left h1 h2)
 have:=HE (yl x.Label h.1) h3 left h1 h2
 exact this
theorem kh (l : List GRecord) (h : Wt.ln l) : Qi X7 l :=
 kX X7 U3 (Tf l) (fun s=>by unfold Tf; rfl) (fun left=>by unfold X7; rfl) (Vz h) (fun x hx=>k8 x (je h hx))
theorem Zaj (x : GEvent) : Ut x = some x:=by
 unfold Ut
 simp [Hv]
theorem qk (l : List GEvent) (h : Wt.wt l ≤ 1048576) : U2 l = some l:=by
 have:=js l
 unfold U2
 have:=JX l Ut id 48 ⟨0,0,Vector.replicate 32 0⟩ (TM l) (fun s=>by unfold TM; rfl) (fun x _=>Zaj x) (by omega) (by omega)
 simpa using this
theorem Zaf (x : GEvent) : Uv x x = some true:=by
 unfold Uv
 simp [Hn]
theorem qn (l : List GEvent) (h : Wt.ln l) : U1 l l = some true:=by
 unfold U1
 exact AD l (fun x y=>(Uv x y).bind fun r=>some (!r)) (TR l l) (fun s=>by unfold TR; rfl) (fun x _=>by simp [Zaf x]) (Vz h)
theorem qf (l : List GEvent) (h : Wt.ln l) : Qi X0 l :=
 HA (fun _=>rfl) X0 (fun left=>by unfold X0; rfl) (Vz h)
theorem JC (x : GVault) : Wt.wt x = Wt.wt x.Keys + (Wt.wt x.Records + Wt.wt x.Events):=rfl
theorem Za2 (x : GVault) (h : Wt.wt x ≤ 1048576) : Wk x = some x:=by
 rw [JC] at h
 unfold Wk
 simp [Hv,qc x.Keys (by omega),ky x.Records (by omega),qk x.Events (by omega)]
theorem ym (x : GVault) (h : Wt.ln x) : Wr x x = some true:=by
 unfold Wr
 simp [Hn,qs x.Keys h.1,jM x.Records h.2.1,qn x.Events h.2.2]
theorem Zab (x : GVault) (h : Wt.ln x) : Qi QD x:=by
 intro left h1 h2
 have h3 : Qi (fun (y : List GEvent) r=>(X0 y r).bind fun r=>if decide (r < 0) = true then some (-1) else some r) x.Events:=fun left h1 h2=>yk (qf x.Events h.2.2 left h1 h2)
 have h4 : Qi (α:=List GRecord × List GEvent) (fun y r=>(X7 y.1 r).bind fun r=>if decide (r < 0) = true then some (-1) else (X0 y.2 r).bind fun r=>if decide (r < 0) = true then some (-1) else some r) (x.Records,x.Events):=fun left h1 h2=>HE (kh x.Records h.2.1) h3 left h1 h2
 exact HE (qd x.Keys h.1) h4 left h1 h2
def BP {α : Type} (Fm : α → Int → Option (α × Int)) (x : α) (n : Nat) : Prop :=
 ∀ k : Int,0 ≤ k → k + n ≤ 4611686018427387904 → ∃ x',Fm x k = some (x',k + n)
theorem AG {α : Type} (Fm : List α → Int → Option (List α × Int)) (Lm : List α × Int × Int → Option (Fl (List α × Int × Int) (List α × Int))) (mk : α → Nat)
  (hFm : ∀ l k,Fm l k = (ZB Lm (l,k,0) : Option (List α × Int)).bind fun j1=>some (j1.1,j1.2)) (l : List α) (hl : l.length ≤ 9223372036854775807)
  (hm : ∀ (l' : List α) (i : Nat) (k : Int) (hi : i < l'.length),l'[i] ∈ l → i < 9223372036854775807 → 0 ≤ k → k + mk l'[i] ≤ 4611686018427387904 → ∃ x',Lm (l',k,(i : Int)) = some (.nx (l'.set i x',k + mk l'[i],wr ((i : Int) + 1))))
  (hme : ∀ (l' : List α) k,Lm (l',k,(l'.length : Int)) = some (.ex (l',k))) : BP Fm l (l.map mk).sum:=by
 intro k h0 hk
 have aux : ∀ (n i : Nat) (l' : List α) (k : Int),i + n = l'.length → l'.length = l.length → l'.drop i = l.drop i → 0 ≤ k → k + (((l.drop i).map mk).sum : Nat) ≤ 4611686018427387904 →
   ∃ l'',ZB Lm (l',k,(i : Int)) = some (l'',k + (((l.drop i).map mk).sum : Nat)):=by
  intro n
  induction n with
  | zero =>
   intro i l' k hi hll hd h0 hk
   have hi : i = l'.length:=by omega
   subst hi
   have e : l.drop l'.length = []:=by rw [hll]; simp
   rw [e]
   exact ⟨l',by rw [WG (hme l' k)]; simp⟩
  | succ n ih =>
   intro i l' k hi hll hd h0 hk
   have hil : i < l'.length:=by omega
   have hil2 : i < l.length:=by omega
   have h1:=List.drop_eq_getElem_cons hil
   have e2 : l.drop i = l[i] :: l.drop (i + 1):=List.drop_eq_getElem_cons hil2
   rw [h1,e2] at hd
   have e1:=(List.cons.inj hd).1
   rw [e2,List.map_cons,List.sum_cons] at hk ⊢
   obtain ⟨x',h1⟩:=hm l' i k hil (by rw [e1]; exact List.getElem_mem hil2) (by omega) h0 (by rw [e1]; omega)
   rw [e1,Xf (by omega)] at h1
   obtain ⟨l'',k1⟩:=ih (i + 1) (l'.set i x') (k + mk l[i]) (by simp; omega) (by simpa using hll) (by
    rw [List.drop_set_of_lt (by omega)]
    exact (List.cons.inj hd).2) (by omega) (by omega)
   exact ⟨l'',by rw [WZ h1,k1]; congr 2; omega⟩
 obtain ⟨l'',k1⟩:=aux l.length 0 l k (by omega) rfl rfl h0 (by simpa using hk)
 simp only [List.drop_zero] at k1
 refine ⟨l'',?_⟩
 rw [hFm]
 have : ZB Lm (l,k,0) = _:=k1
 rw [this]; rfl
theorem Kr (l : List UInt8) (h : Wt.ln l) : BP YC l (l.map fun _=>1).sum :=
 AG YC Xk (fun _=>1) (fun _ _=>rfl) l (Vz h) (fun l' i k hi _ _ h0 hk=>by
  have e:=zY (k:=k) h0 (by omega)
  refine ⟨Zr k,?_⟩
  unfold Xk
  simp only [Int.ofNat_lt,hi,decide_true,if_true,Yz,List.getElem?_eq_getElem hi,Option.bind_some,Int.toNat_natCast,e]; rfl) (fun l' k=>by unfold Xk; simp)
theorem jp (l : List (Vector UInt8 16)) (h : Wt.ln l) : BP XJ l (l.map fun _=>16).sum :=
 AG XJ Y5 (fun _=>16) (fun _ _=>rfl) l (Vz h) (fun l' i k hi _ _ h0 hk=>⟨_,Hc l' i k hi h0 (by omega)⟩) (fun l' k=>by unfold Y5; simp)
def X5 (x : GRecord) : Nat:=50 + ((x.Label.map fun _=>1).sum + (x.Body.map fun _=>1).sum)
theorem Jq (l' : List GRecord) (i : Nat) (k : Int) (hi : i < l'.length) (h0 : 0 ≤ k) (hk : k + X5 l'[i] ≤ 4611686018427387904) {la bo : List UInt8}
  (hla : YC l'[i].Label (k + 18) = some (la,k + 18 + ((l'[i].Label.map fun _=>1).sum : Nat))) (hbo : YC l'[i].Body (k + 18 + ((l'[i].Label.map fun _=>1).sum : Nat)) = some (bo,k + 18 + ((l'[i].Label.map fun _=>1).sum : Nat) + ((l'[i].Body.map fun _=>1).sum : Nat))) :
  YY (l',k,(i : Int)) = some (.nx (l'.set i ⟨k,k + 1,Jd 16 (k + 2),la,bo,Jd 32 (k + 18 + ((l'[i].Label.map fun _=>1).sum : Nat) + ((l'[i].Body.map fun _=>1).sum : Nat))⟩,k + X5 l'[i],wr ((i : Int) + 1))):=by
 unfold X5 at hk
 have e1:=zY (k:=k) h0 (by omega)
 have e2:=zY (k:=k + 1) (by omega) (by omega)
 unfold YY
 have hi2 : i < (l'.set i (⟨k,k + 1,l'[i].Nonce,l'[i].Label,l'[i].Body,l'[i].Tag⟩ : GRecord)).length:=by simpa using hi
 have h1:=Bp (n:=16) (fun x : GRecord=>x.Nonce) (fun x v=>⟨x.Number,x.Version,v,x.Label,x.Body,x.Tag⟩) i i rfl (Ua (l',k,(i : Int))) (fun s=>by unfold Ua; rfl) (fun _ _=>rfl) (fun _ _ _=>rfl) (fun _=>rfl) (by omega) _ hi2 (k + 1 + 1) (by omega) (by omega)
 rw [show k + 1 + 1 + ((16 : Nat) : Int) = k + 18 by omega] at h1
 simp only [List.getElem_set_self,List.set_set] at h1
 simp only [Int.ofNat_lt,hi,decide_true,if_true,Yz,List.getElem?_eq_getElem hi,Option.bind_some,Int.toNat_natCast,e1,List.getElem?_set_self hi,List.set_set,e2,h1,hla,hbo]
 have hi3 : i < (l'.set i (⟨k,k + 1,Jd 16 (k + 1 + 1),la,bo,l'[i].Tag⟩ : GRecord)).length:=by simpa using hi
 have h2:=Bp (n:=32) (fun x : GRecord=>x.Tag) (fun x v=>⟨x.Number,x.Version,x.Nonce,x.Label,x.Body,v⟩) i i rfl (V4 (l',k,(i : Int))) (fun s=>by unfold V4; rfl) (fun _ _=>rfl) (fun _ _ _=>rfl) (fun _=>rfl) (by omega) _ hi3
  (k + 18 + ((l'[i].Label.map fun _=>1).sum : Nat) + ((l'[i].Body.map fun _=>1).sum : Nat)) (by omega) (by omega)
 simp only [List.getElem_set_self,List.set_set] at h2
 rw [h2]
 simp only [Option.bind_some]
 rw [show k + 1 + 1 = k + 2 by omega]
 congr 3
 congr 1
 unfold X5
 omega
theorem z9 (l : List GRecord) (h : Wt.ln l) : BP Xx l (l.map X5).sum :=
 AG Xx YY X5 (fun _ _=>rfl) l (Vz h) (fun l' i k hi hx _ h0 hk=>by
  have hk':=hk
  unfold X5 at hk'
  have hln : Wt.ln l'[i]:=je h hx
  obtain ⟨la,h1⟩:=Kr l'[i].Label hln.1 (k + 18) (by omega) (by omega)
  obtain ⟨bo,h2⟩:=Kr l'[i].Body hln.2 (k + 18 + ((l'[i].Label.map fun _=>1).sum : Nat)) (by omega) (by omega)
  exact ⟨_,Jq l' i k hi h0 hk h1 h2⟩) (fun l' k=>by unfold YY; simp)
theorem Ha (l' : List GEvent) (i : Nat) (k : Int) (hi : i < l'.length) (h0 : 0 ≤ k) (hk : k + 34 ≤ 4611686018427387904) :
  Y2 (l',k,(i : Int)) = some (.nx (l'.set i ⟨k,k + 1,Jd 32 (k + 2)⟩,k + 34,wr ((i : Int) + 1))):=by
 have e1:=zY (k:=k) h0 (by omega)
 have e2:=zY (k:=k + 1) (by omega) (by omega)
 unfold Y2
 have hi2 : i < (l'.set i (⟨k,k + 1,l'[i].Tag⟩ : GEvent)).length:=by simpa using hi
 have h1:=Bp (n:=32) (fun x : GEvent=>x.Tag) (fun x v=>⟨x.Kind,x.Number,v⟩) i i rfl (UB (l',k,(i : Int))) (fun s=>by unfold UB; rfl) (fun _ _=>rfl) (fun _ _ _=>rfl) (fun _=>rfl) (by omega) _ hi2 (k + 1 + 1) (by omega) (by omega)
 rw [show k + 1 + 1 + ((32 : Nat) : Int) = k + 34 by omega] at h1
 simp only [List.getElem_set_self,List.set_set] at h1
 simp only [Int.ofNat_lt,hi,decide_true,if_true,Yz,List.getElem?_eq_getElem hi,Option.bind_some,Int.toNat_natCast,e1,List.getElem?_set_self hi,List.set_set,e2,h1]
 rw [show k + 1 + 1 = k + 2 by omega]
theorem yT (l : List GEvent) (h : Wt.ln l) : BP XM l (l.map fun _=>34).sum :=
 AG XM Y2 (fun _=>34) (fun _ _=>rfl) l (Vz h) (fun l' i k hi _ _ h0 hk=>⟨_,Ha l' i k hi h0 (by omega)⟩) (fun l' k=>by unfold Y2; simp)
def UK (x : GVault) : Nat:=(x.Keys.map fun _=>16).sum + ((x.Records.map X5).sum + (x.Events.map fun _=>34).sum)
theorem H2 (l : List UInt8) : (l.map fun _=>1).sum = l.length:=by
 induction l with
 | nil=>rfl
 | cons x l ih=>rw [List.map_cons,List.sum_cons,ih,List.length_cons]; omega
theorem AY (x : GVault) : UK x ≤ 50 * Wt.wt x:=by
 have h1:=BK (fun _ : Vector UInt8 16=>16) 50 (fun _=>by omega) x.Keys
 have h2:=BK X5 50 (fun x=>by
  unfold X5
  have e : Wt.wt x = Wt.wt x.Label + Wt.wt x.Body:=rfl
  rw [e,KI,KI,H2,H2]; omega) x.Records
 have h3:=BK (fun _ : GEvent=>34) 50 (fun _=>by omega) x.Events
 rw [JC]; unfold UK; omega
theorem jW (x : GVault) (h : Wt.ln x) : BP XE x (UK x):=by
 intro k h0 hk
 unfold UK at hk
 obtain ⟨a,h1⟩:=jp x.Keys h.1 k h0 (by omega)
 obtain ⟨b,h2⟩:=z9 x.Records h.2.1 _ (by omega : (0 : Int) ≤ k + ((x.Keys.map fun _=>16).sum : Nat)) (by omega)
 obtain ⟨c,h3⟩:=yT x.Events h.2.2 _ (by omega : (0 : Int) ≤ k + ((x.Keys.map fun _=>16).sum : Nat) + ((x.Records.map X5).sum : Nat)) (by omega)
 refine ⟨⟨a,x.Next,b,c,x.Head⟩,?_⟩
 unfold XE
 rw [h1]; simp only [Option.bind_some]; rw [h2]; simp only [Option.bind_some]; rw [h3]; simp only [Option.bind_some]
 unfold UK
 congr 2
 omega
theorem BE (n a b : Int) : Xp n a b = some (decide (a ≤ n ∧ n ≤ b)):=by
 unfold Xp
 by_cases h1 : a ≤ n <;> by_cases h2 : n ≤ b <;> simp [h1,h2]
theorem yU (n a b : Int) : VN n a b = some (decide (a ≤ n ∧ n ≤ b)):=by
 unfold VN
 by_cases h1 : a ≤ n <;> by_cases h2 : n ≤ b <;> simp [h1,h2]
theorem qK {α : Type} (l : List α) (p : α → Option Bool) (q : α → Bool) (L : Int → Option (Fl Int (Fl Unit Int)))
  (hL : ∀ s,L s = if (decide (s < (l.length : Int))) = true then ((idx l s).bind fun x=>((p x)).bind fun r=>if r = true then (some (Fl.ex (Fl.ex s))) else (some (Fl.nx (wr (s + 1))))) else (some (Fl.ex (Fl.nx ()))))
  (hl : l.length < 9223372036854775807) (hp : ∀ x ∈ l,p x = some (q x)) :
  ((ZB L 0 : Option (Fl Unit Int)).bind fun j1=>j1.el (fun _=>some (-1)) (fun r=>some r)) = some (match l.findIdx? q with | some i=>(i : Int) | none=>-1):=by
 have h:=jN (f:=L) l.length (fun i=>(l[i]?.map q).getD false) (fun i=>(i : Int)) hl (fun i hi=>by
  rw [hL]
  simp only [Int.ofNat_lt,hi,decide_true,if_true,Yz,List.getElem?_eq_getElem hi,Option.bind_some,Option.map_some,Option.getD_some,hp _ (List.getElem_mem hi)]
  split <;> rfl) (by rw [hL]; simp) 0 (Nat.zero_le _)
 have h3 : ZB L 0 = _:=h
 rw [h3]
 have key : (List.range' 0 (l.length - 0)).find? (fun i=>(l[i]?.map q).getD false) = l.findIdx? q:=by
  rw [Nat.sub_zero,← List.range_eq_range']
  clear h h3 hL hp hl
  induction l with
  | nil=>rfl
  | cons x l ih =>
   rw [List.length_cons,List.range_succ_eq_map,List.find?_cons,List.findIdx?_cons]
   simp only [List.getElem?_cons_zero,Option.map_some,Option.getD_some]
   cases q x with
   | true=>rfl
   | false =>
    simp only [Bool.false_eq_true,if_false]
    rw [List.find?_map,← ih]
    congr 1
 rw [key]
 cases l.findIdx? q <;> rfl
theorem Zbm {α : Type} (l : List α) (q : α → Bool) : decide ((match l.findIdx? q with | some i=>(i : Int) | none=>-1) ≥ 0) = l.any q:=by
 rw [Bool.eq_iff_iff,decide_eq_true_eq]
 cases h : l.findIdx? q with
 | none =>
  have:=List.findIdx?_eq_none_iff.1 h
  simp
  exact this
 | some i =>
  have h2:=List.findIdx?_eq_some_iff_getElem.1 h
  obtain ⟨hi,hq,_⟩:=h2
  simp
  exact ⟨_,List.getElem_mem hi,hq⟩
def Tl (e : GEvent) : Bool:=decide ((1 ≤ e.Kind ∧ e.Kind ≤ 4) ∧ (0 ≤ e.Number ∧ e.Number ≤ 1000000))
theorem qp (e : GEvent) : UO e = some (Tl e):=by
 unfold UO Tl
 simp only [yU,Option.bind_some]
 by_cases h1 : (1 ≤ e.Kind ∧ e.Kind ≤ 4) <;> by_cases h2 : (0 ≤ e.Number ∧ e.Number ≤ 1000000) <;> simp [h1,h2]
theorem Zac (e : GEvent) : TD e = some (Tl e):=by
 unfold TD Tl Qa
 simp only [BE,Option.bind_some]
 by_cases h1 : (1 ≤ e.Kind ∧ e.Kind ≤ 4) <;> by_cases h2 : (0 ≤ e.Number ∧ e.Number ≤ 1000000) <;> simp [h1,h2]
theorem Ar (l : List GEvent) (p : GEvent → Option Bool) (q : GEvent → Bool) (hl : l.length < 9223372036854775807) (hp : ∀ x ∈ l,p x = some (q x)) : Z0 l p = some (l.any q):=by
 unfold Z0 Yw
 rw [qK l p q _ (fun s=>by unfold YU; rfl) hl hp]
 simp only [Option.bind_some,Zbm]
def Q0 (l : List GRecord) : Nat → Int
 | 0=>0
 | i + 1=>(l[i]?.map (·.Number)).getD 0
def zn (v : GVault) (r : GRecord) : Bool:=!decide ((0 : Int) ≤ r.Version ∧ r.Version ≤ (v.Keys.length : Int) - 1) || decide (32 < r.Label.length) || decide (200 < r.Body.length)
def Bw (v : GVault) (i : Nat) : Bool:=match v.Records[i]? with
 | some r=>decide (r.Number ≤ Q0 v.Records i) || decide (r.Number ≥ v.Next) || zn v r
 | none=>false
def badI (v : GVault) (i : Nat) : Bool:=match v.Records[i]? with
 | some r=>!decide (1 ≤ r.Number ∧ r.Number ≤ v.Next - 1) || (decide (0 < i) && decide (Q0 v.Records i ≥ r.Number)) || zn v r
 | none=>false
def He (v : GVault) : Bool:=decide (1 ≤ v.Keys.length ∧ v.Keys.length ≤ 8 ∧ 1 ≤ v.Next ∧ v.Next ≤ 1000000 ∧ v.Records.length ≤ 12 ∧ v.Events.length ≤ 60)
def WR (v : GVault) : Bool:=He v && !((List.range' 0 (v.Records.length - 0)).any (Bw v)) && v.Events.all Tl
theorem Zca (v : GVault) : (List.range' 0 (v.Records.length - 0)).any (badI v) = (List.range' 0 (v.Records.length - 0)).any (Bw v):=by
 have h : ∀ b c : Bool,(b = false ↔ c = false) → b = c:=by intro b c; cases b <;> cases c <;> simp
 apply h
 rw [List.any_eq_false,List.any_eq_false]
 simp only [List.mem_range'_1,Nat.zero_le,true_and,Nat.sub_zero,Nat.zero_add,Bool.not_eq_true]
 constructor
 ·intro hI i hi
  have h1:=hI i hi
  unfold badI Bw at *
  rw [List.getElem?_eq_getElem hi] at h1 ⊢
  simp only [Bool.or_eq_false_iff,Bool.not_eq_false',decide_eq_true_eq,Bool.and_eq_false_iff,decide_eq_false_iff_not] at h1 ⊢
  refine ⟨⟨?_,by omega⟩,h1.2⟩
  cases i with
  | zero=>simp only [Q0]; omega
  | succ i =>
   rcases h1.1.2 with h2 | h2
   ·omega
   ·omega
 ·intro hS
  have pos : ∀ i,i < v.Records.length → 0 ≤ Q0 v.Records i ∧ Q0 v.Records i < (v.Records[i]?.map (·.Number)).getD 0:=by
   intro i
   induction i with
   | zero =>
    intro hi
    have h1:=hS 0 hi
    unfold Bw at h1
    rw [List.getElem?_eq_getElem hi] at h1 ⊢
    simp only [Bool.or_eq_false_iff,decide_eq_false_iff_not,Option.map_some,Option.getD_some] at h1 ⊢
    have e : Q0 v.Records 0 = 0:=rfl
    have h2:=h1.1.1
    rw [e] at h2 ⊢
    omega
   | succ i ih =>
    intro hi
    have h0:=ih (by omega)
    have h1:=hS (i + 1) hi
    unfold Bw at h1
    have e : Q0 v.Records (i + 1) = (v.Records[i]?.map (·.Number)).getD 0:=rfl
    rw [List.getElem?_eq_getElem hi] at h1 ⊢
    simp only [Bool.or_eq_false_iff,decide_eq_false_iff_not,Option.map_some,Option.getD_some] at h1 ⊢
    rw [e] at h1 ⊢
    omega
  intro i hi
  have h1:=hS i hi
  have h2:=pos i hi
  unfold badI Bw at *
  rw [List.getElem?_eq_getElem hi] at h1 h2 ⊢
  simp only [Bool.or_eq_false_iff,Bool.not_eq_false',decide_eq_true_eq,Bool.and_eq_false_iff,decide_eq_false_iff_not,Option.map_some,Option.getD_some] at h1 h2 ⊢
  exact ⟨⟨by omega,.inr (by omega)⟩,h1.2⟩
theorem Zdp (v : GVault) (hb : Wt.ln v) : Qt v = some (WR v):=by
 have hb1:=Vz hb.1; have hb2:=Vz hb.2.1; have hb3:=Vz hb.2.2
 unfold Qt
 simp only [yU,Option.bind_some]
 by_cases hh : He v = true
 ·have hh' : 1 ≤ v.Keys.length ∧ v.Keys.length ≤ 8 ∧ 1 ≤ v.Next ∧ v.Next ≤ 1000000 ∧ v.Records.length ≤ 12 ∧ v.Events.length ≤ 60:=by simpa [He] using hh
  have c1 : ¬ ((v.Keys.length : Int) < 1):=by omega
  have c2 : ¬ ((v.Keys.length : Int) > 8):=by omega
  have c3 : 1 ≤ v.Next ∧ v.Next ≤ 1000000:=by omega
  have c4 : ¬ ((v.Records.length : Int) > 12):=by omega
  have c5 : ¬ ((v.Events.length : Int) > 60):=by omega
  simp only [c1,c2,c3,c4,c5,decide_false,decide_true,and_self,Bool.not_true,Bool.false_eq_true,if_false,Option.bind_some]
  have hw : wr ((v.Keys.length : Int) - 1) = (v.Keys.length : Int) - 1:=YS (by omega)
  have h1:=KR (f:=U9 v) (fun i : Nat=>(Q0 v.Records i,(i : Int))) (Bw v) (fun _=>(.ex false : Fl Unit Bool)) (e:=.nx ()) v.Records.length v.Records.length 0 (by omega) (fun i _ hi=>by
   unfold U9 Bw
   simp only [Int.ofNat_lt,hi,decide_true,if_true,Yz,List.getElem?_eq_getElem hi,Option.bind_some,yU,hw,Xf (show i < 9223372036854775807 by omega)]
   have e : Q0 v.Records (i + 1) = v.Records[i].Number:=by simp [Q0,List.getElem?_eq_getElem hi]
   rw [e]
   unfold zn
   by_cases d1 : v.Records[i].Number ≤ Q0 v.Records i
   ·simp [d1]
   ·by_cases d2 : v.Records[i].Number ≥ v.Next
    ·simp [d1,d2]
    ·by_cases d3 : (0 : Int) ≤ v.Records[i].Version ∧ v.Records[i].Version ≤ (v.Keys.length : Int) - 1
     ·by_cases d4 : 32 < v.Records[i].Label.length
      ·have d4' : (v.Records[i].Label.length : Int) > 32:=by omega
       simp [d1,d2,d3,d4,d4']
      ·have d4' : ¬ ((v.Records[i].Label.length : Int) > 32):=by omega
       by_cases d5 : 200 < v.Records[i].Body.length
       ·have d5' : (v.Records[i].Body.length : Int) > 200:=by omega
        simp [d1,d2,d3,d4,d4',d5,d5']
       ·have d5' : ¬ ((v.Records[i].Body.length : Int) > 200):=by omega
        simp [d1,d2,d3,d4,d4',d5,d5']
     ·simp [d1,d2,d3]) (by unfold U9; simp)
  have h2 : ZB (U9 v) (0,0) = _:=h1
  rw [h2]
  have h3:=yL (f:=T8 v) v.Events (fun e=>!Tl e) (t:=false) (by omega) (fun i hi=>by
   unfold T8
   simp only [Int.ofNat_lt,hi,decide_true,if_true,Yz,List.getElem?_eq_getElem hi,Option.bind_some,qp]
   cases Tl v.Events[i] <;> simp) (by unfold T8; simp)
  rw [h3]
  unfold WR
  rw [hh,Nat.sub_zero]
  cases hf : (List.range' 0 v.Records.length).find? (Bw v) with
  | none =>
   have : (List.range' 0 v.Records.length).any (Bw v) = false:=by
    rw [List.any_eq_false]; exact List.find?_eq_none.1 hf
   rw [this,List.any_eq_not_all_not]
   simp only [Bool.not_not]
   cases v.Events.all Tl <;> rfl
  | some i =>
   have : (List.range' 0 v.Records.length).any (Bw v) = true:=by
    rw [List.any_eq_true]; exact ⟨i,List.mem_of_find?_eq_some hf,List.find?_some hf⟩
   rw [this]; rfl
 ·have hf : He v = false:=by simpa using hh
  unfold WR
  rw [hf]
  have hh' : ¬ (1 ≤ v.Keys.length ∧ v.Keys.length ≤ 8 ∧ 1 ≤ v.Next ∧ v.Next ≤ 1000000 ∧ v.Records.length ≤ 12 ∧ v.Events.length ≤ 60):=by simpa [He] using hf
  by_cases c1 : ((v.Keys.length : Int) < 1)
  ·simp [c1]
  ·by_cases c2 : ((v.Keys.length : Int) > 8)
   ·simp [c1,c2]
   ·by_cases c3 : 1 ≤ v.Next ∧ v.Next ≤ 1000000
    ·by_cases c4 : ((v.Records.length : Int) > 12)
     ·simp [c1,c2,c3,c4]
     ·have c5 : ((v.Events.length : Int) > 60):=by omega
      simp [c1,c2,c3,c4,c5]
    ·simp [c1,c2,c3]
theorem zN (v : GVault) (hb : Wt.ln v) : TE v = some (WR v):=by
 have hb1:=Vz hb.1; have hb2:=Vz hb.2.1; have hb3:=Vz hb.2.2
 unfold TE Z2
 simp only [BE,Option.bind_some]
 by_cases hh : He v = true
 ·have hh' : 1 ≤ v.Keys.length ∧ v.Keys.length ≤ 8 ∧ 1 ≤ v.Next ∧ v.Next ≤ 1000000 ∧ v.Records.length ≤ 12 ∧ v.Events.length ≤ 60:=by simpa [He] using hh
  have c1 : (1 : Int) ≤ v.Keys.length ∧ (v.Keys.length : Int) ≤ 8:=by omega
  have c3 : 1 ≤ v.Next ∧ v.Next ≤ 1000000:=by omega
  have c4 : ¬ ((v.Records.length : Int) > 12):=by omega
  have c5 : ¬ ((v.Events.length : Int) > 60):=by omega
  simp only [c1,c3,c4,c5,decide_false,decide_true,and_self,Bool.not_true,Bool.false_eq_true,if_false,Option.bind_some]
  have hw : wr ((v.Keys.length : Int) - 1) = (v.Keys.length : Int) - 1:=YS (by omega)
  have hw2 : wr (v.Next - 1) = v.Next - 1:=YS (by omega)
  have h1:=Zcf (f:=VJ v) v.Records.length (badI v) false (by omega) (fun i hi=>by
   unfold VJ badI Z2
   simp only [Int.ofNat_lt,hi,decide_true,if_true,Yz,List.getElem?_eq_getElem hi,Option.bind_some,BE,hw,hw2]
   unfold zn
   by_cases d1 : 1 ≤ v.Records[i].Number ∧ v.Records[i].Number ≤ v.Next - 1
   ·have key : (if decide ((i : Int) > 0) = true then (idx v.Records (wr ((i : Int) - 1))).bind fun x=>some (decide (x.Number ≥ v.Records[i].Number)) else some false) = some (decide (0 < i) && decide (Q0 v.Records i ≥ v.Records[i].Number)):=by
     cases i with
     | zero=>simp
     | succ i =>
      have e1 : wr (((i + 1 : Nat) : Int) - 1) = (i : Int):=by rw [YS (by omega)]; omega
      have hi' : i < v.Records.length:=by omega
      have e2 : Q0 v.Records (i + 1) = v.Records[i].Number:=by simp [Q0,List.getElem?_eq_getElem hi']
      have e3 : ((i + 1 : Nat) : Int) > 0:=by omega
      simp only [e1,e2,e3,decide_true,if_true,Yz,List.getElem?_eq_getElem hi',Option.bind_some]
      simp
    simp only [d1,decide_true,and_self,Bool.not_true,Bool.false_eq_true,if_false,key,Option.bind_some,Bool.false_or]
    by_cases d2 : (decide (0 < i) && decide (Q0 v.Records i ≥ v.Records[i].Number)) = true
    ·simp [d2]
    ·have d2 : (decide (0 < i) && decide (Q0 v.Records i ≥ v.Records[i].Number)) = false:=by simpa using d2
     rw [d2]
     by_cases d3 : (0 : Int) ≤ v.Records[i].Version ∧ v.Records[i].Version ≤ (v.Keys.length : Int) - 1
     ·by_cases d4 : 32 < v.Records[i].Label.length
      ·have d4' : (v.Records[i].Label.length : Int) > 32:=by omega
       simp [d3,d4,d4']
      ·have d4' : ¬ ((v.Records[i].Label.length : Int) > 32):=by omega
       by_cases d5 : 200 < v.Records[i].Body.length
       ·have d5' : (v.Records[i].Body.length : Int) > 200:=by omega
        simp [d3,d4,d4',d5,d5']
       ·have d5' : ¬ ((v.Records[i].Body.length : Int) > 200):=by omega
        simp [d3,d4,d4',d5,d5']
     ·simp [d3]
   ·simp [d1]) (by unfold VJ; simp) 0 (Nat.zero_le _)
  have h2 : ZB (VJ v) 0 = _:=h1
  rw [h2,Zca,Ar v.Events _ (fun e=>!Tl e) (by omega) (fun x _=>by unfold Ui; rw [Zac]; rfl)]
  have ha : (v.Events.any fun e=>!Tl e) = !(v.Events.all Tl):=by rw [List.any_eq_not_all_not]; simp
  unfold WR
  rw [hh,ha]
  generalize (List.range' 0 (v.Records.length - 0)).any (Bw v) = z
  cases z <;> simp [Fl.el]
 ·have hf : He v = false:=by simpa using hh
  unfold WR
  rw [hf]
  have hh' : ¬ (1 ≤ v.Keys.length ∧ v.Keys.length ≤ 8 ∧ 1 ≤ v.Next ∧ v.Next ≤ 1000000 ∧ v.Records.length ≤ 12 ∧ v.Events.length ≤ 60):=by simpa [He] using hf
  by_cases c1 : (1 : Int) ≤ v.Keys.length ∧ (v.Keys.length : Int) ≤ 8
  ·by_cases c3 : 1 ≤ v.Next ∧ v.Next ≤ 1000000
   ·by_cases c4 : ((v.Records.length : Int) > 12)
    ·simp [c1,c3,c4]
    ·have c5 : ((v.Events.length : Int) > 60):=by omega
     simp [c1,c3,c4,c5]
   ·simp [c1,c3]
  ·simp [c1]
theorem Zdt {α : Type} [Dat α] [Wt α] {f : α → Int → Option Int} {x : α} {left : Int} {G : Int → Option Bool} (hf : Qi f x) (h1 : 0 ≤ left) (h2 : left ≤ 1048576) (hG : ∀ r,0 ≤ r → r ≤ 1048576 → r + (Wt.wt x : Nat) ≤ left → G r = some true) :
  ((f x left).bind fun r=>if decide (r < 0) = true then some true else G r) = some true:=by
 obtain ⟨r,e1,e2,e3⟩:=hf left h1 h2
 rw [e1]
 by_cases hr : r < 0
 ·simp [hr]
 ·have:=hG r (by omega) e2 (e3 (by omega))
  simp [hr,this]
theorem Kt {v : GVault} (h : WR v = true) : 1 ≤ v.Keys.length ∧ v.Keys.length ≤ 8 ∧ 1 ≤ v.Next ∧ v.Next ≤ 1000000 ∧ v.Records.length ≤ 12 ∧ v.Events.length ≤ 60:=by
 unfold WR He at h
 simp only [Bool.and_eq_true,decide_eq_true_eq] at h
 exact h.1.1
theorem Bz (a : Nat) (h : a < 9223372036854775808) : (BitVec.ofInt 64 (a : Int)).toNat = a:=by
 rw [BitVec.toNat_ofInt]
 omega
theorem Ju (a b : Nat) (ha : a < 9223372036854775808) (hb : b < 9223372036854775808) : BF (a : Int) (b : Int) = ((a ^^^ b : Nat) : Int):=by
 unfold BF
 rw [BitVec.toNat_xor,Bz a ha,Bz b hb]
 have : a ^^^ b < 2 ^ 63:=Nat.xor_lt_two_pow ha hb
 exact YS (by omega)
theorem Zb2 (a b : Nat) (ha : a < 9223372036854775808) (hb : b < 9223372036854775808) : Q7 (a : Int) (b : Int) = ((a &&& b : Nat) : Int):=by
 unfold Q7
 rw [BitVec.toNat_and,Bz a ha,Bz b hb]
 have : a &&& b < 2 ^ 63:=Nat.and_lt_two_pow _ hb
 exact YS (by omega)
theorem kx (a i : Nat) (hi : i ≤ 63) (h : a <<< i < 9223372036854775808) : zZ (a : Int) (i : Int) = ((a <<< i : Nat) : Int):=by
 unfold zZ
 rw [show min ((i : Int)).toNat 64 = i by omega]
 have : ((a : Int) * 2 ^ i) = ((a <<< i : Nat) : Int):=by rw [Nat.shiftLeft_eq]; simp
 rw [this]
 generalize a <<< i = x at h ⊢
 exact YS (by omega)
theorem kf (a i : Nat) (hi : i ≤ 63) : Vy (a : Int) (i : Int) = ((a >>> i : Nat) : Int):=by
 unfold Vy
 rw [show min ((i : Int)).toNat 64 = i by omega,Nat.shiftRight_eq_div_pow,Int.fdiv_eq_ediv_of_nonneg _ (by exact_mod_cast Nat.zero_le _)]
 simp
theorem jr (a i : Nat) : ((a >>> i) &&& 1 = 1) ↔ a.testBit i = true:=by
 rw [Nat.testBit,Nat.and_comm]
 have h:=Nat.and_one_is_mod (a >>> i)
 rw [Nat.and_comm] at h
 rw [h]
 rcases Nat.mod_two_eq_zero_or_one (a >>> i) with h | h <;> simp [h]
theorem Zbp (a : Nat) : Int.tmod (a : Int) 2 = ((a % 2 : Nat) : Int):=by
 rw [Int.tmod_eq_emod_of_nonneg (by omega)]; simp
theorem Zco (a : Nat) : Int.tdiv (a : Int) 2 = ((a / 2 : Nat) : Int):=by
 rw [Int.tdiv_eq_ediv_of_nonneg (by omega)]; simp
theorem qW (a : Nat) (h : a < 9223372036854775808) : wr (a : Int) = (a : Int):=YS (by omega)
theorem Zcl (a : Nat) (h : a < 9223372036854775808) : IntKind.u64.wrap (a : Int) = (a : Int):=by
 simp only [IntKind.wrap,IntKind.bits,IntKind.signed]
 simp
 omega

def Y6 (m deg : Nat) : Nat → Nat → Nat
 | 0,a=>a
 | k + 1,a=>Y6 m deg k (if a.testBit (deg + k) then a ^^^ (m <<< k) else a)
theorem JO {m k n : Nat} (h : m < 2 ^ n) : m <<< k < 2 ^ (n + k):=by
 rw [Nat.shiftLeft_eq,Nat.pow_add]
 exact Nat.mul_lt_mul_of_pos_right h (Nat.two_pow_pos _)
theorem yo {a n : Nat} (h : a < 2 ^ (n + 1)) (hb : a.testBit n = false) : a < 2 ^ n:=by
 apply Nat.lt_pow_two_of_testBit
 intro i hi
 rcases Nat.eq_or_lt_of_le hi with rfl | hi
 ·exact hb
 ·exact Nat.testBit_lt_two_pow (Nat.lt_of_lt_of_le h (Nat.pow_le_pow_right (by omega) hi))
theorem qw {m d : Nat} (h1 : 2 ^ d ≤ m) (h2 : m < 2 ^ (d + 1)) : m.testBit d = true:=by
 rw [Nat.testBit,Nat.shiftRight_eq_div_pow]
 have : m / 2 ^ d = 1:=by
  apply Nat.div_eq_of_lt_le
  ·simpa using h1
  ·rw [Nat.pow_succ] at h2; omega
 rw [this]; rfl
theorem Zdw {m d k a : Nat} (h1 : 2 ^ d ≤ m) (h2 : m < 2 ^ (d + 1)) (ha : a < 2 ^ (d + (k + 1))) (hb : a.testBit (d + k) = true) : a ^^^ (m <<< k) < 2 ^ (d + k):=by
 have hm : m <<< k < 2 ^ (d + (k + 1)):=by have:=JO (k:=k) h2; rwa [show d + 1 + k = d + (k + 1) by omega] at this
 refine yo (Nat.xor_lt_two_pow (by rwa [show d + k + 1 = d + (k + 1) by omega]) (by rwa [show d + k + 1 = d + (k + 1) by omega])) ?_
 rw [Nat.testBit_xor,hb,Nat.testBit_shiftLeft]
 simp [qw h1 h2]
theorem H0 {m d : Nat} (h1 : 2 ^ d ≤ m) (h2 : m < 2 ^ (d + 1)) : ∀ (k a : Nat),a < 2 ^ (d + k) → Y6 m d k a < 2 ^ d
 | 0,a,h=>by simpa [Y6] using h
 | k + 1,a,h=>by
  unfold Y6
  cases hb : a.testBit (d + k) with
  | true=>simp only [if_true]; exact H0 h1 h2 k _ (Zdw h1 h2 h hb)
  | false=>simp only [Bool.false_eq_true,if_false]; exact H0 h1 h2 k a (yo h hb)
theorem Ke (m d : Nat) : ∀ (k a b : Nat),Y6 m d k (a ^^^ b) = Y6 m d k a ^^^ Y6 m d k b
 | 0,_,_=>rfl
 | k + 1,a,b=>by
  simp only [Y6]
  rw [Nat.testBit_xor]
  cases a.testBit (d + k) <;> cases b.testBit (d + k) <;> simp only [Bool.xor_false,Bool.false_xor,Bool.xor_self,Bool.xor_true,Bool.not_false,Bool.not_true,Bool.false_eq_true,if_true,if_false]
  ·exact Ke m d k a b
  ·rw [Nat.xor_assoc]; exact Ke m d k a _
  ·rw [← Ke m d k]; congr 1; rw [Nat.xor_assoc,Nat.xor_comm b,← Nat.xor_assoc]
  ·rw [← Ke m d k]; congr 1
   rw [Nat.xor_assoc,← Nat.xor_assoc (m <<< k),Nat.xor_comm (m <<< k) b,Nat.xor_assoc,Nat.xor_self,Nat.xor_zero]
theorem TO {m d : Nat} : ∀ (k a : Nat),a < 2 ^ d → Y6 m d k a = a
 | 0,_,_=>rfl
 | k + 1,a,h=>by
  unfold Y6
  rw [Nat.testBit_lt_two_pow (Nat.lt_of_lt_of_le h (Nat.pow_le_pow_right (by omega) (by omega)))]
  simp only [Bool.false_eq_true,if_false]
  exact TO k a h
theorem yA {m d k a : Nat} (h : a < 2 ^ (d + k)) : Y6 m d (k + 1) a = Y6 m d k a:=by
 conv=>lhs; unfold Y6
 rw [Nat.testBit_lt_two_pow h]; rfl
theorem Kv (m d : Nat) : ∀ (k x : Nat),Y6 m d (k + 1) (x <<< 1) = (if ((Y6 m d k x) <<< 1).testBit d then ((Y6 m d k x) <<< 1) ^^^ m else (Y6 m d k x) <<< 1)
 | 0,x=>by simp [Y6]
 | k + 1,x=>by
  conv=>lhs; unfold Y6
  conv=>rhs; unfold Y6
  have e : (x <<< 1).testBit (d + (k + 1)) = x.testBit (d + k):=by
   rw [Nat.testBit_shiftLeft]
   have : d + (k + 1) ≥ 1:=by omega
   simp only [this,decide_true,Bool.true_and]
   congr 1
  rw [e]
  cases x.testBit (d + k) with
  | false=>simp only [Bool.false_eq_true,if_false]; exact Kv m d k x
  | true =>
   simp only [if_true]
   have e2 : x <<< 1 ^^^ m <<< (k + 1) = (x ^^^ m <<< k) <<< 1:=by
    rw [Nat.shiftLeft_xor_distrib,← Nat.shiftLeft_add]
   rw [e2]
   exact Kv m d k _

def lenN (n : Nat) : Nat:=if n = 0 then 0 else n.log2 + 1
theorem v_rest (a m d : Nat) (hd : d ≤ 15) (ha : a < 2 ^ 16) (hm : m < 2 ^ 20) : Qm (a : Int) (m : Int) (d : Int) = some ((Y6 m d (16 - d) a : Nat) : Int):=by
 have key : ∀ (k a : Nat),d + k ≤ 16 → a < 2 ^ 40 → ZB (TH (m : Int) (d : Int)) ((a : Int),((d + k : Nat) : Int) - 1) = some ((Y6 m d k a : Nat) : Int):=by
  intro k
  induction k with
  | zero =>
   intro a _ _
   rw [WG (t:=(a : Int))]
   ·rfl
   ·unfold TH
    have : ¬ (((d + 0 : Nat) : Int) - 1 ≥ (d : Int)):=by omega
    simp only [this,decide_false,Bool.false_eq_true,if_false]
  | succ k ih =>
   intro a hk ha
   have e0 : ((d + (k + 1) : Nat) : Int) - 1 = ((d + k : Nat) : Int):=by omega
   have hsh : m <<< k < 2 ^ (20 + k):=JO hm
   have hsh2 : m <<< k < 2 ^ 40:=Nat.lt_of_lt_of_le hsh (Nat.pow_le_pow_right (by omega) (by omega))
   have hst : TH (m : Int) (d : Int) ((a : Int),((d + (k + 1) : Nat) : Int) - 1) = some (.nx (((if a.testBit (d + k) then a ^^^ (m <<< k) else a : Nat) : Int),((d + k : Nat) : Int) - 1)):=by
    rw [e0]
    unfold TH
    have c1 : ((d + k : Nat) : Int) ≥ (d : Int):=by omega
    have c2 : Wm ((d + k : Nat) : Int) = some ():=by unfold Wm; rw [if_pos (by omega)]
    have c3 : wr (((d + k : Nat) : Int) - (d : Int)) = ((k : Nat) : Int):=by rw [show ((d + k : Nat) : Int) - (d : Int) = ((k : Nat) : Int) by omega,qW _ (by omega)]
    have c4 : Wm ((k : Nat) : Int) = some ():=by unfold Wm; rw [if_pos (by omega)]
    have c5 : wr (((d + k : Nat) : Int) - 1) = ((d + k : Nat) : Int) - 1:=YS (by omega)
    simp only [c1,decide_true,if_true,c2,c3,c4,c5,Option.bind_some]
    have c6 : Q7 (Vy (a : Int) ((d + k : Nat) : Int)) 1 = (((a >>> (d + k)) &&& 1 : Nat) : Int):=by
     rw [kf a (d + k) (by omega)]
     exact Zb2 _ 1 (Nat.lt_of_le_of_lt (Nat.shiftRight_le _ _) (by omega)) (by omega)
    rw [c6,kx m k (by omega) (by omega),Ju a _ (by omega) (by omega)]
    cases hb : a.testBit (d + k) with
    | true =>
     have:=(jr a (d + k)).2 hb
     rw [this]; rfl
    | false =>
     have : ¬ ((a >>> (d + k)) &&& 1 = 1):=fun h=>by rw [(jr a (d + k)).1 h] at hb; cases hb
     have h2 : (((((a >>> (d + k)) &&& 1 : Nat) : Int)) == 1) = false:=by
      rw [beq_eq_false_iff_ne]; omega
     rw [h2]; rfl
   rw [WZ hst,ih _ (by omega) ?_]
   ·conv=>rhs; unfold Y6
   ·split
    ·exact Nat.xor_lt_two_pow ha hsh2
    ·exact ha
 unfold Qm
 have:=key (16 - d) a (by omega) (by omega)
 rw [show ((d + (16 - d) : Nat) : Int) - 1 = 15 by omega] at this
 rw [this]; rfl

def H9 : Nat → Nat → Nat → Nat
 | 0,_,_=>0
 | n + 1,a,b=>(if b % 2 = 1 then a else 0) ^^^ H9 n (a <<< 1) (b / 2)
theorem Bx : ∀ (n a : Nat),H9 n a 0 = 0
 | 0,_=>rfl
 | n + 1,a=>by simp [H9,Bx n]
theorem qN : ∀ (n a b p : Nat),a < 2 ^ p → H9 n a b < 2 ^ (p + n)
 | 0,_,_,_,_=>by simp [H9]; exact Nat.two_pow_pos _
 | n + 1,a,b,p,h=>by
  unfold H9
  have h1 : a <<< 1 < 2 ^ (p + 1):=JO h
  have h2:=qN n (a <<< 1) (b / 2) (p + 1) h1
  rw [show p + 1 + n = p + (n + 1) by omega] at h2
  refine Nat.xor_lt_two_pow ?_ h2
  have h3 : 2 ^ p ≤ 2 ^ (p + (n + 1)):=Nat.pow_le_pow_right (by omega) (by omega)
  have h4:=Nat.two_pow_pos (p + (n + 1))
  split <;> omega
def prC : Nat → Nat → Nat → Nat
 | 0,_,_=>0
 | i + 1,a,b=>prC i a b ^^^ (if b.testBit i then a <<< i else 0)
theorem kg : ∀ (n a b : Nat),prC (n + 1) a b = (if b % 2 = 1 then a else 0) ^^^ prC n (a <<< 1) (b / 2)
 | 0,a,b=>by
  simp only [prC,Nat.zero_xor,Nat.xor_zero,Nat.shiftLeft_zero]
  have : b.testBit 0 = decide (b % 2 = 1):=by simp [Nat.testBit_zero]
  rw [this]; simp
 | n + 1,a,b=>by
  conv=>lhs; unfold prC
  rw [kg n a b]
  conv=>rhs; unfold prC
  rw [← Nat.xor_assoc]
  congr 1
  rw [Nat.testBit_succ,← Nat.shiftLeft_add,Nat.add_comm 1 n]
theorem Zbq : ∀ (n a b : Nat),prC n a b = H9 n a b
 | 0,_,_=>rfl
 | n + 1,a,b=>by rw [kg,Zbq n]; rfl
theorem kS (a b : Nat) (h : a < 256) : ∀ i,i ≤ 8 → prC i a b < 2 ^ 16
 | 0,_=>by simp [prC]
 | i + 1,hi=>by
  unfold prC
  have h1 : a <<< i < 2 ^ (8 + i):=JO h
  have h2 : 2 ^ (8 + i) ≤ 2 ^ 16:=Nat.pow_le_pow_right (by omega) (by omega)
  refine Nat.xor_lt_two_pow (kS a b h i (by omega)) ?_
  split
  ·omega
  ·omega
def Yg (m : Nat) (a b : UInt8) : UInt8:=Zr ((Y6 m 8 8 (H9 8 a.toNat b.toNat) : Nat) : Int)
theorem T5 (m : Nat) (hm : m < 512) (a b : UInt8) : Yk (m : Int) a b = some (Yg m a b):=by
 have ha : a.toNat < 256:=a.toNat_lt
 have hb : b.toNat < 256:=b.toNat_lt
 have h:=Z1 (f:=XQ a b) (fun i : Nat=>(((prC i a.toNat b.toNat : Nat) : Int),(i : Int))) 0 8 (Nat.zero_le _) (t:=((prC 8 a.toNat b.toNat : Nat) : Int)) (fun i _ hi=>by
  unfold XQ
  have c1 : ((i : Int) < 8):=by omega
  have c2 : Wm (i : Int) = some ():=by unfold Wm; rw [if_pos (by omega)]
  have c3 : prC i a.toNat b.toNat < 2 ^ 16:=kS _ _ ha i (by omega)
  have c4 : a.toNat <<< i < 2 ^ (8 + i):=JO ha
  have c5 : 2 ^ (8 + i) ≤ 2 ^ 16:=Nat.pow_le_pow_right (by omega) (by omega)
  have c6 : (((zb b (i : Int)) &&& 1) == 1) = b.toNat.testBit i:=by
   have e1 : (zb b (i : Int)).toNat = b.toNat >>> i:=by
    unfold zb Zr
    rw [show min ((i : Int)).toNat 8 = i by omega,Int.fdiv_eq_ediv_of_nonneg _ (by exact_mod_cast Nat.zero_le _)]
    have : ((b.toNat : Int) / 2 ^ i) = ((b.toNat >>> i : Nat) : Int):=by rw [Nat.shiftRight_eq_div_pow]; simp
    rw [this]
    have h3 : b.toNat >>> i ≤ b.toNat:=Nat.shiftRight_le _ _
    generalize b.toNat >>> i = q at h3 ⊢
    have h4 : (((q : Nat) : Int) % 256).toNat = q:=by omega
    rw [h4]
    simp
    omega
   rw [Bool.eq_iff_iff,beq_iff_eq,← jr,← UInt8.toNat_inj,UInt8.toNat_and,e1]
   simp
  simp only [c1,decide_true,if_true,c2,Option.bind_some,c6,Xf (show i < 9223372036854775807 by omega)]
  rw [kx _ i (by omega) (by omega),Ju _ _ (by omega) (by omega)]
  cases hbit : b.toNat.testBit i with
  | true=>simp [prC,hbit]
  | false=>simp [prC,hbit]) (by unfold XQ; simp)
 have h2 : ZB (XQ a b) (0,0) = _:=h
 unfold Yk
 rw [h2]
 simp only [Option.bind_some]
 have h3:=v_rest (prC 8 a.toNat b.toNat) m 8 (by omega) (kS _ _ ha 8 (by omega)) (by omega)
 have h4 : Qm ((prC 8 a.toNat b.toNat : Nat) : Int) (m : Int) 8 = _:=h3
 rw [h4,Zbq]
 rfl
theorem Hu (m : Nat) (hm : m < 512) (hm2 : 256 ≤ m) (a b : UInt8) : Xb (m : Int) a b = some (Yg m a b):=by
 have ha : a.toNat < 256:=a.toNat_lt
 have hb : b.toNat < 256:=b.toNat_lt
 have h1 : 2 ^ 8 ≤ m:=hm2
 have h2 : m < 2 ^ (8 + 1):=hm
 have hR : ∀ i,i ≤ 8 → Y6 m 8 8 (a.toNat <<< i) < 256:=fun i hi=>H0 h1 h2 8 _ (by
  have:=JO (k:=i) (show a.toNat < 2 ^ 8 from ha)
  exact Nat.lt_of_lt_of_le this (Nat.pow_le_pow_right (by omega) (by omega)))
 have hdbl : ∀ i,i ≤ 7 → Y6 m 8 8 (a.toNat <<< (i + 1)) = if 256 ≤ (Y6 m 8 8 (a.toNat <<< i)) * 2 then (Y6 m 8 8 (a.toNat <<< i)) * 2 ^^^ m else (Y6 m 8 8 (a.toNat <<< i)) * 2:=by
  intro i hi
  have hx : a.toNat <<< i < 2 ^ (8 + 7):=Nat.lt_of_lt_of_le (JO (show a.toNat < 2 ^ 8 from ha)) (Nat.pow_le_pow_right (by omega) (by omega))
  have e : a.toNat <<< (i + 1) = (a.toNat <<< i) <<< 1:=by rw [← Nat.shiftLeft_add]
  rw [e,Kv m 8 7,← yA hx]
  have hlt:=hR i (by omega)
  generalize Y6 m 8 8 (a.toNat <<< i) = y at hlt ⊢
  have e2 : y <<< 1 = y * 2:=by rw [Nat.shiftLeft_eq]
  rw [e2]
  have e3 : (y * 2).testBit 8 = decide (256 ≤ y * 2):=by
   by_cases hy : 256 ≤ y * 2
   ·rw [qw (d:=8) hy (by omega)]; simp [hy]
   ·rw [Nat.testBit_lt_two_pow (by omega : y * 2 < 2 ^ 8)]; simp [hy]
  rw [e3]
  by_cases hy : 256 ≤ y * 2 <;> simp [hy]
 have key : ∀ (n i o r : Nat),i + n ≤ 8 → r < 2 ^ n → o < 256 → ZB (XC (m : Int)) ((o : Int),((Y6 m 8 8 (a.toNat <<< i) : Nat) : Int),(r : Int)) = some ((o ^^^ Y6 m 8 8 (H9 n (a.toNat <<< i) r) : Nat) : Int):=by
  intro n
  induction n with
  | zero =>
   intro i o r _ hr ho
   have : r = 0:=by simpa using hr
   subst this
   rw [WG (t:=(o : Int))]
   ·rw [Bx,TO 8 0 (by omega),Nat.xor_zero]
   ·unfold XC; simp
  | succ n ih =>
   intro i o r hi hr ho
   by_cases h0 : r = 0
   ·subst h0
    rw [WG (t:=(o : Int))]
    ·rw [Bx,TO 8 0 (by omega),Nat.xor_zero]
    ·unfold XC; simp
   ·have hy:=hR i (by omega)
    have hst : XC (m : Int) ((o : Int),((Y6 m 8 8 (a.toNat <<< i) : Nat) : Int),(r : Int)) = some (.nx (((o ^^^ Y6 m 8 8 (if r % 2 = 1 then a.toNat <<< i else 0) : Nat) : Int),((Y6 m 8 8 (a.toNat <<< (i + 1)) : Nat) : Int),((r / 2 : Nat) : Int))):=by
     rw [hdbl i (by omega)]
     unfold XC
     have c1 : (r : Int) > 0:=by omega
     have hr2 : r < 512:=Nat.lt_of_lt_of_le hr (Nat.le_trans (Nat.pow_le_pow_right (by omega) (by omega : n + 1 ≤ 9)) (by omega))
     simp only [c1,decide_true,if_true,Zbp,Zco]
     have e1 : wr (((Y6 m 8 8 (a.toNat <<< i) : Nat) : Int) * 2) = (((Y6 m 8 8 (a.toNat <<< i)) * 2 : Nat) : Int):=by rw [YS (by omega)]; omega
     have e2 : wr ((r / 2 : Nat) : Int) = ((r / 2 : Nat) : Int):=qW _ (by omega)
     rw [e1,e2,Ju _ _ (by omega) (by omega),Ju _ _ (by omega) (by omega)]
     have e3 : ((((r % 2 : Nat) : Int)) == 1) = decide (r % 2 = 1):=by
      rw [Bool.eq_iff_iff,beq_iff_eq,decide_eq_true_eq]; omega
     rw [e3]
     have e4 : decide ((((Y6 m 8 8 (a.toNat <<< i)) * 2 : Nat) : Int) ≥ 256) = decide (256 ≤ (Y6 m 8 8 (a.toNat <<< i)) * 2):=by rw [decide_eq_decide]; omega
     rw [e4]
     have e5 : Y6 m 8 8 0 = 0:=TO 8 0 (by omega)
     by_cases c2 : r % 2 = 1 <;> by_cases c3 : 256 ≤ (Y6 m 8 8 (a.toNat <<< i)) * 2 <;> simp only [c2,c3,decide_true,decide_false,Bool.false_eq_true,if_true,if_false,Option.bind_some,e5,Nat.xor_zero]
    rw [WZ hst,ih (i + 1) _ (r / 2) (by omega) (by rw [Nat.pow_succ] at hr; omega) ?_]
    ·conv=>rhs; unfold H9
     rw [Ke,Nat.xor_assoc,Nat.shiftLeft_add]
    ·refine Nat.xor_lt_two_pow (n:=8) ho ?_
     split
     ·exact hR i (by omega)
     ·rw [TO 8 0 (by omega)]; omega
 have:=key 8 0 0 b.toNat (by omega) hb (by omega)
 rw [Nat.shiftLeft_zero,TO 8 a.toNat ha,Nat.zero_xor] at this
 have h3 : ZB (XC (m : Int)) (0,bI a,bI b) = _:=this
 unfold Xb
 rw [h3]
 rfl

def AA (m : Nat) : Nat → UInt8 → Nat → UInt8 → UInt8
 | 0,_,_,o=>o
 | f + 1,a,k,o=>if k = 0 then o else AA m f (Yg m a a) (k / 2) (if k % 2 = 1 then Yg m o a else o)
theorem jz (m : Nat) (L : UInt8 × Int × UInt8 → Option (Fl (UInt8 × Int × UInt8) UInt8)) (T : UInt8 → UInt8 → Option UInt8) (hT : ∀ a b,T a b = some (Yg m a b))
  (hL : ∀ s,L s = if (decide (s.2.1 > 0)) = true then (((if ((Int.tmod s.2.1 2) == 1) = true then ((T s.2.2 s.1).bind fun r=>some r) else (some s.2.2) : Option UInt8).bind fun j12=>(T s.1 s.1).bind fun r20=>some (r20,j12) : Option (UInt8 × UInt8)).bind fun j9=>some (Fl.nx (j9.1,wr (Int.tdiv s.2.1 2),j9.2))) else (some (Fl.ex s.2.2))) :
  ∀ (f k : Nat) (a o : UInt8),k < 2 ^ f → f ≤ 62 → ZB L (a,(k : Int),o) = some (AA m f a k o):=by
 intro f
 induction f with
 | zero =>
  intro k a o hk _
  have : k = 0:=by simpa using hk
  subst this
  exact WG (by rw [hL]; simp [AA])
 | succ f ih =>
  intro k a o hk hf
  by_cases h0 : k = 0
  ·subst h0
   exact WG (by rw [hL]; simp [AA])
  ·have hlt : k < 9223372036854775808:=Nat.lt_of_lt_of_le hk (Nat.pow_le_pow_right (by omega : 0 < 2) (by omega : f + 1 ≤ 63))
   have hst : L (a,(k : Int),o) = some (.nx (Yg m a a,((k / 2 : Nat) : Int),if k % 2 = 1 then Yg m o a else o)):=by
    rw [hL]
    have c1 : (k : Int) > 0:=by omega
    have e3 : ((((k % 2 : Nat) : Int)) == 1) = decide (k % 2 = 1):=by
     rw [Bool.eq_iff_iff,beq_iff_eq,decide_eq_true_eq]; omega
    simp only [c1,decide_true,if_true,Zbp,Zco,hT,e3,Option.bind_some,qW (k / 2) (by omega)]
    by_cases c2 : k % 2 = 1 <;> simp [c2]
   rw [WZ hst,ih (k / 2) _ _ (by rw [Nat.pow_succ] at hk; omega) (by omega)]
   conv=>rhs; unfold AA
   rw [if_neg h0]
theorem z5 (m : Nat) (hm : m < 512) (a : UInt8) (k f : Nat) (hk : k < 2 ^ f) (hf : f ≤ 62) : X8 (m : Int) a (k : Int) = some (AA m f a k 1):=by
 unfold X8
 rw [jz m (V7 (m : Int)) _ (T5 m hm) (fun s=>by unfold V7; rfl) f k a 1 hk hf]; rfl
theorem kR (m : Nat) (hm : m < 512) (hm2 : 256 ≤ m) (a : UInt8) (k f : Nat) (hk : k < 2 ^ f) (hf : f ≤ 62) : VD (m : Int) a (k : Int) = some (AA m f a k 1):=by
 unfold VD
 rw [jz m (TF (m : Int)) _ (Hu m hm hm2) (fun s=>by unfold TF; rfl) f k a 1 hk hf]; rfl
def Kn (m : Nat) (a : UInt8) : UInt8:=AA m 8 a 254 1
theorem Jh (m : Nat) (hm : m < 512) (a : UInt8) : YD (m : Int) a = some (Kn m a):=by
 unfold YD
 have:=z5 m hm a 254 8 (by omega) (by omega)
 have h2 : X8 (m : Int) a 254 = _:=this
 rw [h2]; rfl
theorem Zbx (m : Nat) (hm : m < 512) (hm2 : 256 ≤ m) (a : UInt8) : V1 (m : Int) a = some (Kn m a):=by
 unfold V1
 have:=kR m hm hm2 a 254 8 (by omega) (by omega)
 have h2 : VD (m : Int) a 254 = _:=this
 rw [h2]; rfl

def redB (m d : Nat) : Bool:=Y6 d (lenN d - 1) (16 - (lenN d - 1)) m == 0
def H6 (m : Int) : Bool:=decide (256 ≤ m ∧ m ≤ 511) && !((List.range' 2 30).any (redB m.toNat))
theorem jV {m : Int} (h : H6 m = true) : ∃ n : Nat,m = n ∧ 256 ≤ n ∧ n < 512:=by
 unfold H6 at h
 simp only [Bool.and_eq_true,decide_eq_true_eq] at h
 exact ⟨m.toNat,by omega,by omega,by omega⟩
def Zbl (l : List UInt8) : Bool:=decide l.Nodup
def dbl (m y : Nat) : Nat:=if (y <<< 1).testBit 8 then (y <<< 1) ^^^ m else y <<< 1
theorem ki (a b c d : Nat) : (a ^^^ b) ^^^ (c ^^^ d) = (a ^^^ c) ^^^ (b ^^^ d):=by
 rw [Nat.xor_assoc,Nat.xor_assoc,← Nat.xor_assoc b,← Nat.xor_assoc c,Nat.xor_comm b c]
theorem qP (m x y : Nat) : dbl m (x ^^^ y) = dbl m x ^^^ dbl m y:=by
 unfold dbl
 rw [Nat.shiftLeft_xor_distrib,Nat.testBit_xor]
 cases (x <<< 1).testBit 8 <;> cases (y <<< 1).testBit 8 <;> simp only [Bool.xor_false,Bool.false_xor,Bool.xor_self,Bool.xor_true,Bool.not_false,Bool.not_true,Bool.false_eq_true,if_true,if_false]
 ·rw [Nat.xor_assoc]
 ·rw [Nat.xor_assoc,Nat.xor_assoc,Nat.xor_comm m]
 ·rw [ki,Nat.xor_self,Nat.xor_zero]
theorem A2 (m : Nat) : dbl m 0 = 0:=by simp [dbl]
def opP (m : Nat) : Nat → Nat → Nat → Nat
 | 0,_,_=>0
 | n + 1,b,x=>(if b % 2 = 1 then x else 0) ^^^ opP m n (b / 2) (dbl m x)
theorem jw (m n b x : Nat) : opP m (n + 1) b x = (if b % 2 = 1 then x else 0) ^^^ opP m n (b / 2) (dbl m x):=rfl
theorem yV (m : Nat) : ∀ (n b x y : Nat),opP m n b (x ^^^ y) = opP m n b x ^^^ opP m n b y
 | 0,_,_,_=>by simp [opP]
 | n + 1,b,x,y=>by
  unfold opP
  rw [qP,yV m n,ki]
  congr 1
  split <;> simp
theorem Bj (m : Nat) : ∀ (n b : Nat),opP m n b 0 = 0
 | 0,_=>rfl
 | n + 1,b=>by unfold opP; rw [A2,Bj m n]; simp
theorem qC (m : Nat) : ∀ (n b x : Nat),opP m n b (dbl m x) = dbl m (opP m n b x)
 | 0,_,_=>(A2 m).symm
 | n + 1,b,x=>by
  unfold opP
  rw [qC m n,qP]
  congr 1
  split
  ·rfl
  ·exact (A2 m).symm
theorem jL (m : Nat) : ∀ (n b k c x : Nat),opP m n b (opP m k c x) = opP m k c (opP m n b x)
 | 0,_,k,c,_=>(Bj m k c).symm
 | n + 1,b,k,c,x=>by
  rw [jw,jw,← qC,jL m n,yV]
  congr 1
  split
  ·rfl
  ·exact (Bj m k c).symm
theorem Zai (a : Nat) : (if a % 2 = 1 then 1 else 0) ^^^ (a / 2) <<< 1 = a:=by
 rw [Nat.shiftLeft_eq]
 have h : (if a % 2 = 1 then 1 else 0) = a % 2:=by split <;> omega
 rw [h]
 apply Nat.eq_of_testBit_eq
 intro i
 rw [Nat.testBit_xor]
 cases i with
 | zero =>
  simp [Nat.testBit_zero]
 | succ i =>
  rw [Nat.testBit_succ,Nat.testBit_succ,Nat.testBit_succ]
  have h1 : a % 2 / 2 = 0:=by omega
  have h2 : a / 2 * 2 ^ 1 / 2 = a / 2:=by omega
  rw [h1,h2]; simp
theorem Zdr (m i : Nat) (hi : i < 7) : dbl m (1 <<< i) = 1 <<< (i + 1):=by
 unfold dbl
 rw [← Nat.shiftLeft_add]
 have : (1 <<< (i + 1)).testBit 8 = false:=by
  apply Nat.testBit_lt_two_pow
  rw [Nat.shiftLeft_eq,Nat.one_mul]
  exact Nat.pow_lt_pow_right (by omega) (by omega)
 rw [this]; rfl
theorem y4 (m : Nat) : ∀ (n i a : Nat), n + i ≤ 8 → a < 2 ^ n → opP m n a (1 <<< i) = a <<< i
  | 0, i, a, _, ha => by
    have : a = 0 := by simpa using ha
    subst this; simp [opP]
  | n + 1, i, a, hn, ha => by
    have e : a <<< i = (if a % 2 = 1 then 1 <<< i else 0) ^^^ (a / 2) <<< (i + 1) := by
      conv => lhs; rw [← Zai a]
      rw [Nat.shiftLeft_xor_distrib, ← Nat.shiftLeft_add, Nat.add_comm 1 i]
      congr 1
      split <;> simp
    unfold opP
    rw [e]
    congr 1
    rcases Nat.eq_zero_or_pos n with rfl | hp
    · have : a / 2 = 0 := by have : a < 2 := by simpa using ha
                             omega
      rw [this]; simp [opP]
    · rw [Zdr m i (by omega)]
      exact y4 m n (i + 1) (a / 2) (by omega) (by rw [Nat.pow_succ] at ha; omega)

theorem qZ (m x : Nat) (hx : x < 2 ^ 15) : Y6 m 8 8 (x <<< 1) = dbl m (Y6 m 8 8 x):=by
 rw [Kv m 8 7,← yA (d:=8) (k:=7) hx]; rfl
theorem Zcu (m : Nat) : ∀ (n i a b : Nat),i + n ≤ 8 → a < 2 ^ 8 → Y6 m 8 8 (H9 n (a <<< i) b) = opP m n b (Y6 m 8 8 (a <<< i))
 | 0,_,_,_,_,_=>by simp [H9,opP,TO 8 0]
 | n + 1,i,a,b,hn,ha=>by
  unfold H9 opP
  rw [Ke]
  have hx : a <<< i < 2 ^ 15:=Nat.lt_of_lt_of_le (JO ha) (Nat.pow_le_pow_right (by omega) (by omega))
  rw [← qZ m _ hx,← Nat.shiftLeft_add,Zcu m n (i + 1) a (b / 2) (by omega) ha]
  congr 1
  split
  ·rfl
  ·exact TO 8 0 (by omega)
theorem Kg (m : Nat) (h1 : 256 ≤ m) (h2 : m < 512) (a b : UInt8) : (Yg m a b).toNat = opP m 8 b.toNat a.toNat:=by
 have ha : a.toNat < 2 ^ 8:=a.toNat_lt
 have hr : Y6 m 8 8 (H9 8 a.toNat b.toNat) < 256:=H0 (d:=8) h1 h2 8 _ (qN 8 a.toNat b.toNat 8 ha)
 have e:=Zcu m 8 0 a.toNat b.toNat (by omega) ha
 rw [Nat.shiftLeft_zero,TO 8 _ ha] at e
 unfold Yg Zr
 rw [e] at hr ⊢
 generalize opP m 8 b.toNat a.toNat = q at hr ⊢
 have : (((q : Nat) : Int) % 256).toNat = q:=by omega
 rw [this]
 simp
 omega
section
variable {m : Nat} (h1 : 256 ≤ m) (h2 : m < 512)
include h1 h2
theorem K5 (a b : UInt8) : Yg m a b = Yg m b a:=by
 apply UInt8.toNat_inj.1
 rw [Kg m h1 h2,Kg m h1 h2]
 have ea:=y4 m 8 0 a.toNat (by omega) a.toNat_lt
 have eb:=y4 m 8 0 b.toNat (by omega) b.toNat_lt
 simp only [Nat.shiftLeft_zero] at ea eb
 rw [← ea,jL,eb,ea]
theorem Zak (a b c : UInt8) : Yg m (a ^^^ b) c = Yg m a c ^^^ Yg m b c:=by
 apply UInt8.toNat_inj.1
 rw [UInt8.toNat_xor,Kg m h1 h2,Kg m h1 h2,Kg m h1 h2,UInt8.toNat_xor,yV]
theorem kJ (a b c : UInt8) : Yg m a (b ^^^ c) = Yg m a b ^^^ Yg m a c:=by
 rw [K5 h1 h2,Zak h1 h2,K5 h1 h2 b,K5 h1 h2 c]
theorem HK (a : UInt8) : Yg m 0 a = 0:=by
 apply UInt8.toNat_inj.1
 rw [Kg m h1 h2]
 exact Bj m 8 _
end
def vf {α : Type} (n : Nat) (f : Nat → α) : Vector α n:=Vector.ofFn fun i=>f i.1
theorem K4 {α : Type} {n i : Nat} (f : Nat → α) (h : i < n) : (vf n f)[i] = f i:=by simp [vf]
theorem Bh {α : Type} {n i : Nat} (f : Nat → α) (h : i < n) : (vf n f)[i]? = some (f i):=by rw [Vector.getElem?_eq_getElem h,K4 f h]
theorem ZT {α : Type} {n i : Nat} (f : Nat → α) (h : i < n) : ZH (vf n f) (i : Int) = some (f i):=by rw [W5,Bh f h]
theorem Xv {α : Type} {n : Nat} {f g : Nat → α} (h : ∀ i,i < n → f i = g i) : vf n f = vf n g:=by
 apply T9
 intro i hi
 rw [K4 f hi,K4 g hi,h i hi]
theorem Qx {α : Type} {n : Nat} (f : Nat → α) (k : Nat) (x : α) : (vf n f).setIfInBounds k x = vf n (fun i=>if i = k then x else f i):=by
 apply T9
 intro i hi
 rw [Vector.getElem_setIfInBounds,K4 _ hi,K4 _ hi]
 by_cases h : k = i
 ·subst h; simp
 ·rw [if_neg h,if_neg (fun e=>h e.symm)]
theorem Ql {α : Type} (n : Nat) (x : α) : Vector.replicate n x = vf n (fun _=>x):=by
 apply T9
 intro i hi
 rw [K4 _ hi]; simp
theorem qA {α : Type} [Inhabited α] {n : Nat} (v : Vector α n) : v = vf n (fun i=>v[i]?.getD default):=by
 apply T9
 intro i hi
 rw [K4 _ hi,Vector.getElem?_eq_getElem hi]; rfl
abbrev Mat:=Vector (Vector UInt8 4) 4
def mf (f : Nat → Nat → UInt8) : Mat:=vf 4 fun i=>vf 4 (f i)
theorem Vv {f g : Nat → Nat → UInt8} (h : ∀ i,i < 4 → ∀ j,j < 4 → f i j = g i j) : mf f = mf g:=Xv fun i hi=>Xv fun j hj=>h i hi j hj
theorem TN {i : Nat} (f : Nat → Nat → UInt8) (h : i < 4) : ZH (mf f) (i : Int) = some (vf 4 (f i)):=ZT _ h
theorem HB (f : Nat → Nat → UInt8) (k : Nat) (g : Nat → UInt8) : (mf f).setIfInBounds k (vf 4 g) = mf (fun i j=>if i = k then g j else f i j):=by
 unfold mf
 rw [Qx]
 apply Xv
 intro i hi
 by_cases h : i = k
 ·simp [h]
 ·simp [h]
theorem ji : Vector.replicate 4 (Vector.replicate 4 (0 : UInt8)) = mf (fun _ _=>0):=by rw [Ql 4 (0 : UInt8),Ql]; rfl
theorem lt4 {i : Nat} (h : i < 4) : decide ((i : Int) < 4) = true:=by simp; omega
theorem lt4' {i : Nat} (h : ¬ i < 4) : decide ((i : Int) < 4) = false:=by simp; omega
theorem wr4 {i : Nat} (h : i < 1000) : wr ((i : Int) + 1) = ((i + 1 : Nat) : Int):=Xf (by omega)

def Br (i j : Nat) : UInt8:=if i = j then 1 else 0
theorem Zao (L : Mat × Int → Option (Fl (Mat × Int) Mat))
  (hL : ∀ s8,L s8 = if (decide (s8.2 < 4)) = true then ((ZH s8.1 s8.2).bind fun (x14 : (Vector UInt8 4))=>(ZH x14 s8.2).bind fun (x17 : UInt8)=>some (Fl.nx ((s8.1.setIfInBounds (s8.2).toNat (x14.setIfInBounds (s8.2).toNat 1)),wr (s8.2 + 1)))) else (some (Fl.ex s8.1))) :
  ZB L (Vector.replicate 4 (Vector.replicate 4 (0 : UInt8)),0) = some (mf Br):=by
 have:=Z1 (f:=L) (fun i : Nat=>(mf fun r c=>if r < i then Br r c else 0,(i : Int))) 0 4 (by omega) (t:=mf Br) (fun i _ hi=>by
  rw [hL]
  simp only [lt4 hi,if_true,TN _ hi,ZT _ hi,Option.bind_some,Int.toNat_natCast,Qx,HB,wr4 (show i < 1000 by omega)]
  congr 3
  apply Vv
  intro r hr c hc
  by_cases h1 : r = i
  ·subst h1; simp [Br,eq_comm]
  ·simp only [h1,if_false]
   by_cases h2 : r < i
   ·rw [if_pos h2,if_pos (by omega)]
   ·rw [if_neg h2,if_neg (by omega)]) (by
  rw [hL]
  simp only [lt4' (show ¬ 4 < 4 by omega),Bool.false_eq_true,if_false]
  exact congrArg (fun z=>some (Fl.ex z)) (Vv fun r hr c hc=>by rw [if_pos hr]))
 rw [ji]
 simpa using this
theorem Bt : VO = some (mf Br):=by
 unfold VO
 rw [Zao Qk fun s=>rfl]; rfl

abbrev MF:=Nat → Nat → UInt8
def J8 (f : MF) (k : Nat) : Nat:=((List.range' k (4 - k)).find? fun i=>!(f i k == 0)).getD 4
def Zcp (f : MF) (i k : Nat) : MF:=fun r c=>if r = k then f i c else if r = i then f k c else f r c
def jh (m : Nat) (f : MF) (k : Nat) (by_ : UInt8) : MF:=fun r c=>if r = k then Yg m (f k c) by_ else f r c
def Te (m : Nat) (f g : MF) (k : Nat) : MF:=fun r c=>if r = k then g r c else g r c ^^^ Yg m (f r k) (g k c)
structure Red where
 a : MF
 b : MF
 det : UInt8
def Bn (m : Nat) (s : Red) (k : Nat) : Option Red :=
 let i:=J8 s.a k
 if i = 4 then none else
  let f:=Zcp s.a i k
  let g:=Zcp s.b i k
  let q:=Kn m (f k k)
  let f2:=jh m f k q
  let g2:=jh m g k q
  some ⟨Te m f2 f2 k,Te m f2 g2 k,Yg m s.det (f k k)⟩
def Ba (m : Nat) : Nat → Nat → Red → Option Red
 | 0,_,s=>some s
 | n + 1,k,s=>(Bn m s k).bind (Ba m n (k + 1))
def AF (m : Nat) (a : MF) : UInt8 × Mat:=match Ba m 4 0 ⟨a,Br,1⟩ with
 | some s=>(s.det,mf s.b)
 | none=>(0,mf fun _ _=>0)
theorem k9 (L : Int → Option (Fl Int Int)) (f : MF) (k : Nat) (hk : k < 4)
  (hL : ∀ s,L s = (if (decide (s < 4)) = true then ((ZH (mf f) s).bind fun (x30 : (Vector UInt8 4))=>(ZH x30 (k : Int)).bind fun (x33 : UInt8)=>some (x33 == 0)) else (some false) : Option (Bool)).bind fun (j25 : Bool)=>if j25 = true then (some (Fl.nx (wr (s + 1)))) else (some (Fl.ex s))) :
  ZB L (k : Int) = some ((J8 f k : Nat) : Int):=by
 have:=KR (f:=L) (fun i : Nat=>(i : Int)) (fun i=>!(f i k == 0)) (fun i=>(i : Int)) (e:=(4 : Int)) 4 (4 - k) k (by omega) (fun i _ hi=>by
  rw [hL]
  simp only [lt4 hi,if_true,TN _ hi,ZT _ hk,Option.bind_some]
  cases h : (f i k == 0)
  ·simp
  ·simp [wr4 (show i < 1000 by omega)]) (by rw [hL]; simp)
 rw [this]
 unfold J8
 cases (List.range' k (4 - k)).find? fun i=>!(f i k == 0) <;> rfl
theorem Zbc {f : MF} {k : Nat} (h : J8 f k ≠ 4) : J8 f k < 4:=by
 unfold J8 at h ⊢
 cases hf : (List.range' k (4 - k)).find? fun i=>!(f i k == 0) with
 | none=>rw [hf] at h; exact absurd rfl h
 | some i =>
  have:=List.mem_range'_1.1 (List.mem_of_find?_eq_some hf)
  simp only [Option.getD_some]
  omega
theorem yz (L : Mat × Mat × Int → Option (Fl (Mat × Mat × Int) (Mat × Mat))) (f g : MF) (k : Nat) (hk : k < 4) (p q : Nat → UInt8)
  (hL : ∀ c,c < 4 → ∀ a b : MF,(∀ r,r ≠ k → a r = f r) → (∀ r,r ≠ k → b r = g r) → a k c = f k c → b k c = g k c → L (mf a,mf b,(c : Int)) = some (Fl.nx ((mf a).setIfInBounds k ((vf 4 (a k)).setIfInBounds c (p c)),(mf b).setIfInBounds k ((vf 4 (b k)).setIfInBounds c (q c)),wr ((c : Int) + 1))))
  (he : ∀ a b : Mat,L (a,b,4) = some (Fl.ex (a,b))) :
  ZB L (mf f,mf g,0) = some (mf (fun r c=>if r = k then p c else f r c),mf (fun r c=>if r = k then q c else g r c)):=by
 have k1 : (mf fun r c=>if r = k then (if c < 4 then p c else f k c) else f r c) = mf fun r c=>if r = k then p c else f r c:=Vv fun r _ c hc=>by rw [if_pos hc]
 have k2 : (mf fun r c=>if r = k then (if c < 4 then q c else g k c) else g r c) = mf fun r c=>if r = k then q c else g r c:=Vv fun r _ c hc=>by rw [if_pos hc]
 have:=Z1 (f:=L) (fun i : Nat=>(mf fun r c=>if r = k then (if c < i then p c else f k c) else f r c,mf fun r c=>if r = k then (if c < i then q c else g k c) else g r c,(i : Int))) 0 4 (by omega)
  (t:=(mf (fun r c=>if r = k then p c else f r c),mf (fun r c=>if r = k then q c else g r c))) (fun i _ hi=>by
  rw [hL i hi _ _ (fun r hr=>by funext c; rw [if_neg hr]) (fun r hr=>by funext c; rw [if_neg hr]) (by simp) (by simp)]
  simp only [Qx,HB,wr4 (show i < 1000 by omega)]
  congr 3
  ·apply Vv
   intro r hr c hc
   by_cases h : r = k
   ·simp only [h,if_true]
    by_cases h2 : c = i
    ·subst h2; simp
    ·by_cases h3 : c < i
     ·rw [if_neg h2,if_pos h3,if_pos (by omega)]
     ·rw [if_neg h2,if_neg h3,if_neg (by omega)]
   ·simp only [h,if_false]
  ·congr 1
   apply Vv
   intro r hr c hc
   by_cases h : r = k
   ·simp only [h,if_true]
    by_cases h2 : c = i
    ·subst h2; simp
    ·by_cases h3 : c < i
     ·rw [if_neg h2,if_pos h3,if_pos (by omega)]
     ·rw [if_neg h2,if_neg h3,if_neg (by omega)]
   ·simp only [h,if_false]) (by
  simp only [k1,k2]
  exact he _ _)
 have e1 : mf (fun r c=>if r = k then (if c < 0 then p c else f k c) else f r c) = mf f:=Vv fun r hr c hc=>by
  by_cases h : r = k
  ·subst h; simp
  ·simp [h]
 have e2 : mf (fun r c=>if r = k then (if c < 0 then q c else g k c) else g r c) = mf g:=Vv fun r hr c hc=>by
  by_cases h : r = k
  ·subst h; simp
  ·simp [h]
 simp only [e1,e2] at this
 exact this
theorem kw {S : Type} (m : Nat) (L : S → Option (Fl S (Fl (Mat × UInt8) (UInt8 × Mat)))) (pk : Red → Nat → S)
  (hstep : ∀ k,k < 4 → ∀ s,L (pk s k) = some (match Bn m s k with | none=>.ex (.ex (0,mf fun _ _=>0)) | some s'=>.nx (pk s' (k + 1))))
  (hend : ∀ s,L (pk s 4) = some (.ex (.nx (mf s.b,s.det)))) : ∀ (n k : Nat) (s : Red),k + n = 4 → ZB L (pk s k) = some (match Ba m n k s with | some s'=>.nx (mf s'.b,s'.det) | none=>.ex (0,mf fun _ _=>0))
 | 0,k,s,h=>by
  have : k = 4:=by omega
  subst this
  rw [WG (hend s)]; rfl
 | n + 1,k,s,h=>by
  have h1:=hstep k (by omega) s
  unfold Ba
  cases hr : Bn m s k with
  | none=>rw [hr] at h1; rw [WG h1]; rfl
  | some s'=>rw [hr] at h1; rw [WZ h1]; exact kw m L pk hstep hend n (k + 1) s' (by omega)
theorem Zde {i k : Nat} : (((i : Int)) != ((k : Nat) : Int)) = decide (i ≠ k):=by
 by_cases h : i = k
 ·subst h; simp
 ·have : (i : Int) ≠ (k : Int):=by omega
  simp [h,this]
theorem Zal (m : Nat) (L : Mat × Mat × Int → Option (Fl (Mat × Mat × Int) (Mat × Mat))) (f g : MF) (k : Nat)
  (hL : ∀ i,i < 4 → ∀ a b : MF,(a i = f i) → (b i = g i) → (a k = f k) → (b k = g k) → L (mf a,mf b,(i : Int)) = some (Fl.nx (mf (fun r c=>if r = i then Te m f f k r c else a r c),mf (fun r c=>if r = i then Te m f g k r c else b r c),wr ((i : Int) + 1))))
  (he : ∀ a b : Mat,L (a,b,4) = some (Fl.ex (a,b))) : ZB L (mf f,mf g,0) = some (mf (Te m f f k),mf (Te m f g k)):=by
 have ek : ∀ h : MF,Te m f h k k = h k:=fun h=>by funext c; simp [Te]
 have k1 : (mf fun r c=>if r < 4 then Te m f f k r c else f r c) = mf (Te m f f k):=Vv fun r hr c _=>by rw [if_pos hr]
 have k2 : (mf fun r c=>if r < 4 then Te m f g k r c else g r c) = mf (Te m f g k):=Vv fun r hr c _=>by rw [if_pos hr]
 have:=Z1 (f:=L) (fun i : Nat=>(mf fun r c=>if r < i then Te m f f k r c else f r c,mf fun r c=>if r < i then Te m f g k r c else g r c,(i : Int))) 0 4 (by omega)
  (t:=(mf (Te m f f k),mf (Te m f g k))) (fun i _ hi=>by
  rw [hL i hi _ _ (by funext c; simp) (by funext c; simp) (by funext c; by_cases h : k < i <;> simp [h,ek]) (by funext c; by_cases h : k < i <;> simp [h,ek])]
  rw [wr4 (show i < 1000 by omega)]
  have e : ∀ (x y : MF),(mf fun r c=>if r = i then x r c else if r < i then x r c else y r c) = mf fun r c=>if r < i + 1 then x r c else y r c:=fun x y=>Vv fun r _ c _=>by
   by_cases h1 : r = i
   ·subst h1; simp
   ·by_cases h2 : r < i
    ·rw [if_neg h1,if_pos h2,if_pos (by omega)]
    ·rw [if_neg h1,if_neg h2,if_neg (by omega)]
  rw [e,e]) (by
  simp only [k1,k2]
  exact he _ _)
 simpa using this

theorem Zbo (f : MF) {i k : Nat} : ((mf f).setIfInBounds i (vf 4 (f k))).setIfInBounds k (vf 4 (f i)) = mf (Zcp f i k):=by
 rw [HB,HB]; rfl
section
variable (m : Nat) (hm : m < 512) (hm2 : 256 ≤ m)
include hm
theorem kN (A B : Mat) (det : UInt8) (q : UInt8) (f g : MF) (k : Nat) (hk : k < 4) : ZB (Wo (m : Int) (A,B,(k : Int),det) q) (mf f,mf g,0) = some (mf (jh m f k q),mf (jh m g k q)):=by
 refine yz _ f g k hk (fun c=>Yg m (f k c) q) (fun c=>Yg m (g k c) q) (fun c hc a b _ _ ha hb=>?_) (fun a b=>?_)
 ·unfold Wo
  simp only [lt4 hc,if_true,TN _ hk,ZT _ hc,Option.bind_some,T5 m hm,ha,hb,Int.toNat_natCast]
 ·unfold Wo; simp
theorem Zbe (A B : Mat) (det : UInt8) (s1 : Mat × Mat × Int) (x : UInt8) (f g : MF) (k i : Nat) (hk : k < 4) (hi : i < 4) (hik : i ≠ k) (hs : s1.2.2 = (i : Int)) :
  ZB (Wq (m : Int) (A,B,(k : Int),det) s1 x) (mf f,mf g,0) = some (mf (fun r c=>if r = i then f i c ^^^ Yg m x (f k c) else f r c),mf (fun r c=>if r = i then g i c ^^^ Yg m x (g k c) else g r c)):=by
 refine yz _ f g i hi (fun c=>f i c ^^^ Yg m x (f k c)) (fun c=>g i c ^^^ Yg m x (g k c)) (fun c hc a b ha' hb' ha hb=>?_) (fun a b=>?_)
 ·unfold Wq
  have e1:=ha' k (Ne.symm hik)
  have e2:=hb' k (Ne.symm hik)
  simp only [hs,lt4 hc,if_true,TN _ hk,TN _ hi,ZT _ hc,Option.bind_some,T5 m hm,ha,hb,e1,e2,Int.toNat_natCast]
 ·unfold Wq; simp
include hm2
theorem Zaa (A B : Mat) (det : UInt8) (f g : MF) (k : Nat) (hk : k < 4) : ZB (Wv (m : Int) (A,B,(k : Int),det)) (mf f,mf g,0) = some (mf (Te m f f k),mf (Te m f g k)):=by
 refine Zal m _ f g k (fun i hi a b hai hbi hak hbk=>?_) (fun a b=>by unfold Wv; simp)
 unfold Wv
 have hfi : a i k = f i k:=by rw [hai]
 simp only [lt4 hi,if_true,TN _ hi,ZT _ hk,Option.bind_some,Zde,hfi]
 by_cases h : i = k
 ·subst h
  simp only [ne_eq,not_true_eq_false,decide_false,Bool.false_eq_true,if_false,Option.bind_some]
  congr 3
  ·exact Vv fun r _ c _=>by
    by_cases h : r = i
    ·subst h; simp [Te,hai]
    ·simp [h]
  ·congr 1
   exact Vv fun r _ c _=>by
    by_cases h : r = i
    ·subst h; simp [Te,hbi]
    ·simp [h]
 ·have hd : decide (i ≠ k) = true:=by simpa using h
  simp only [hd,if_true,Option.bind_some]
  by_cases h0 : f i k = 0
  ·simp only [h0,bne_self_eq_false,Bool.false_eq_true,if_false,Option.bind_some]
   congr 3
   ·exact Vv fun r _ c _=>by
     by_cases h2 : r = i
     ·subst h2; simp [Te,hai,h,h0,HK hm2 hm]
     ·simp [h2]
   ·congr 1
    exact Vv fun r _ c _=>by
     by_cases h2 : r = i
     ·subst h2; simp [Te,hbi,h,h0,HK hm2 hm]
     ·simp [h2]
  ·have hb0 : (f i k != 0) = true:=by simpa using h0
   simp only [hb0,if_true,Option.bind_some]
   rw [Zbe m hm A B det _ _ a b k i hk hi h rfl]
   simp only [Option.bind_some]
   congr 3
   ·exact Vv fun r _ c _=>by
     by_cases h2 : r = i
     ·subst h2; simp [Te,hai,hak,h]
     ·simp [h2]
   ·congr 1
    exact Vv fun r _ c _=>by
     by_cases h2 : r = i
     ·subst h2; simp [Te,hbi,hbk,h]
     ·simp [h2]
theorem Zau (k : Nat) (hk : k < 4) (s : Red) : Y3 (m : Int) (mf s.a,mf s.b,(k : Int),s.det) = some (match Bn m s k with | none=>.ex (.ex (0,mf fun _ _=>0)) | some s'=>.nx (mf s'.a,mf s'.b,((k + 1 : Nat) : Int),s'.det)):=by
 unfold Y3
 have hp:=k9 (Tu (mf s.a,mf s.b,(k : Int),s.det)) s.a k hk (fun x=>rfl)
 simp only [lt4 hk,if_true,hp,Option.bind_some]
 unfold Bn
 by_cases h4 : J8 s.a k = 4
 ·have : ((4 : Nat) : Int) = 4:=rfl
  simp only [h4,this,beq_self_eq_true,if_true,ji]
 ·have hi:=Zbc h4
  have h5 : (((J8 s.a k : Nat) : Int) == 4) = false:=by
   have : ((J8 s.a k : Nat) : Int) ≠ 4:=by omega
   simpa using this
  generalize hpi : J8 s.a k = i at *
  simp only [h4,h5,Bool.false_eq_true,if_false]
  have x1 : ZH ((mf s.a).setIfInBounds i (vf 4 (s.a k))) (k : Int) = some (vf 4 (fun c=>if k = i then s.a k c else s.a k c)):=by rw [HB]; exact TN _ hk
  have x2 : ZH ((mf s.b).setIfInBounds i (vf 4 (s.b k))) (k : Int) = some (vf 4 (fun c=>if k = i then s.b k c else s.b k c)):=by rw [HB]; exact TN _ hk
  simp only [TN _ hk,TN _ hi,Option.bind_some,Int.toNat_natCast,x1,x2,Zbo,ZT _ hk,T5 m hm,Jh m hm,kN m hm _ _ _ _ _ _ k hk,Zaa m hm hm2 _ _ _ _ _ k hk,wr4 (show k < 1000 by omega)]
theorem AU (f : MF) : XT (m : Int) (mf f) = some (AF m f):=by
 unfold XT
 have h:=kw m (Y3 (m : Int)) (fun s k=>(mf s.a,mf s.b,(k : Int),s.det)) (Zau m hm hm2) (fun s=>by unfold Y3; simp) 4 0 ⟨f,Br,1⟩ rfl
 have h2 : ZB (Y3 (m : Int)) (mf f,mf Br,0,1) = _:=h
 rw [Bt,Option.bind_some,h2]
 unfold AF
 cases Ba m 4 0 ⟨f,Br,1⟩ <;> rfl
end
theorem yv {n i : Nat} (v : Vector UInt8 n) (h : i < n) : ZH v (i : Int) = some (v.toList.getD i 0):=by
 rw [W5,Vector.getElem?_eq_getElem h]
 simp [List.getD_eq_getElem?_getD,h]
theorem ke (x : UInt8) : (bI x).toNat = x.toNat:=rfl
def Q9 (p : Vector UInt8 16) : Bool:=p.toList.all (fun x=>decide (x < 16)) && Zbl p.toList
def Al (a : Mat) : MF:=fun i j=>(a[i]?.getD default)[j]?.getD default
theorem AK (a : Mat) : a = mf (Al a):=calc a = vf 4 (fun i=>a[i]?.getD default):=qA a
  _ = _:=Xv fun i _=>qA _
def detC (m : Nat) (a : Mat) : UInt8:=(AF m (Al a)).1
def invM (m : Nat) (a : Mat) : Mat:=(AF m (Al a)).2
def YI (c : GCipher) : Bool:=H6 c.Field && Zbl c.Box.toList && Q9 c.Places && decide (1 ≤ c.Rounds ∧ c.Rounds ≤ 20) && (detC c.Field.toNat c.Mix != 0)
theorem Zcm (m : Nat) (hm : m < 512) (hm2 : 256 ≤ m) (a : Mat) : XT (m : Int) a = some (detC m a,invM m a):=by
 have:=AU m hm hm2 (Al a)
 rw [← AK] at this
 exact this
theorem HS {c : GCipher} (h : YI c = true) : ∃ m : Nat,c.Field = m ∧ 256 ≤ m ∧ m < 512:=by
 unfold YI at h
 simp only [Bool.and_eq_true] at h
 exact jV h.1.1.1.1
theorem WF {n : Nat} (L : Vector UInt8 n × Int → Option (Fl (Vector UInt8 n × Int) (Vector UInt8 n))) (f h : Nat → UInt8) (hn : n < 9223372036854775807) (m : Nat) (hm : m ≤ n) (h0 : ∀ j,j < m → h j = f j)
  (hL : ∀ i,m ≤ i → i < n → ∀ a : Nat → UInt8,(∀ j,j < i → a j = h j) → (∀ j,i ≤ j → a j = f j) → L (vf n a,(i : Int)) = some (.nx ((vf n a).setIfInBounds i (h i),wr ((i : Int) + 1))))
  (he : ∀ v,L (v,(n : Int)) = some (.ex v)) : ZB L (vf n f,(m : Int)) = some (vf n h):=by
 have k1 : (vf n fun j=>if j < n then h j else f j) = vf n h:=Xv fun j hj=>by rw [if_pos hj]
 have k0 : (vf n fun j=>if j < m then h j else f j) = vf n f:=Xv fun j hj=>by
  by_cases h1 : j < m
  ·rw [if_pos h1,h0 j h1]
  ·rw [if_neg h1]
 have:=Z1 (f:=L) (fun i : Nat=>(vf n fun j=>if j < i then h j else f j,(i : Int))) m n hm (t:=vf n h) (fun i hmi hi=>by
  rw [hL i hmi hi _ (fun j hj=>by rw [if_pos hj]) (fun j hj=>by rw [if_neg (by omega)]),Qx,Xf (show i < 9223372036854775807 by omega)]
  refine congrArg (fun z=>some (Fl.nx (z,((i + 1 : Nat) : Int)))) (Xv fun j hj=>?_)
  by_cases h1 : j = i
  ·subst h1; simp
  ·by_cases h2 : j < i
   ·rw [if_neg h1,if_pos h2,if_pos (by omega)]
   ·rw [if_neg h1,if_neg h2,if_neg (by omega)]) (by
  simp only [k1]
  exact he _)
 simp only [k0] at this
 exact this
def yH (b : Vector UInt8 256) (x : UInt8) : UInt8:=b[x.toNat]'(UInt8.toNat_lt x)
theorem KU (b : Vector UInt8 256) (x : UInt8) : ZH b (bI x) = some (yH b x):=by
 have : ZH b ((x.toNat : Nat) : Int) = _:=W5 b x.toNat
 rw [Vector.getElem?_eq_getElem (UInt8.toNat_lt x)] at this
 exact this
abbrev Blk:=Vector UInt8 16
def bf (v : Blk) (i : Nat) : UInt8:=v[i]?.getD default
theorem Zbv (v : Blk) : v = vf 16 (bf v):=qA v
theorem Ho {i : Nat} (h : i < 16) : decide ((i : Int) < 16) = true:=by simp; omega
def HW (f g : Nat → UInt8) : Nat → UInt8:=fun i=>f i ^^^ g i
theorem Bl (f g : Nat → UInt8) : XH (vf 16 f) (vf 16 g) = some (vf 16 (HW f g)):=by
 unfold XH
 have:=WF (Uh (vf 16 g)) f (HW f g) (by omega) 0 (by omega) (fun j hj=>by omega) (fun i _ hi a _ ha=>by
  unfold Uh
  simp only [Ho hi,if_true,ZT _ hi,Option.bind_some,Int.toNat_natCast,ha i (Nat.le_refl _),HW]) (fun v=>by unfold Uh; simp)
 have h2 : ZB (Uh (vf 16 g)) (vf 16 f,0) = _:=this
 rw [h2]; rfl
theorem Qn (f g : Nat → UInt8) : YM (vf 16 f) (vf 16 g) = some (vf 16 (HW f g)):=by
 unfold YM
 have:=WF (WJ (vf 16 g)) f (HW f g) (by omega) 0 (by omega) (fun j hj=>by omega) (fun i _ hi a _ ha=>by
  unfold WJ
  simp only [Ho hi,if_true,ZT _ hi,Option.bind_some,Int.toNat_natCast,ha i (Nat.le_refl _),HW]) (fun v=>by unfold WJ; simp)
 have h2 : ZB (WJ (vf 16 g)) (vf 16 f,0) = _:=this
 rw [h2]; rfl
def zc (b : Vector UInt8 256) (f : Nat → UInt8) : Nat → UInt8:=fun i=>yH b (f i)
theorem kV (b : Vector UInt8 256) (f : Nat → UInt8) : UX b (vf 16 f) = some (vf 16 (zc b f)):=by
 unfold UX
 have:=WF (W6 b) f (zc b f) (by omega) 0 (by omega) (fun j hj=>by omega) (fun i _ hi a _ ha=>by
  unfold W6
  simp only [Ho hi,if_true,ZT _ hi,Option.bind_some,Int.toNat_natCast,ha i (Nat.le_refl _),KU,zc]) (fun v=>by unfold W6; simp)
 have h2 : ZB (W6 b) (vf 16 f,0) = _:=this
 rw [h2]; rfl
def Hb (p : Blk) (f : Nat → UInt8) : Nat → UInt8:=fun i=>f (bf p i).toNat
theorem BA {p : Blk} (h : Q9 p = true) {i : Nat} (hi : i < 16) : (bf p i).toNat < 16:=by
 unfold Q9 at h
 simp only [Bool.and_eq_true,List.all_eq_true,decide_eq_true_eq] at h
 have e : bf p i = p[i]:=by unfold bf; rw [Vector.getElem?_eq_getElem hi]; rfl
 have:=h.1 p[i] (by simp)
 rw [UInt8.lt_iff_toNat_lt] at this
 rw [e]; exact this
theorem HY (p : Blk) {i : Nat} (h : i < 16) : ZH p (i : Int) = some (bf p i):=by
 rw [W5]; unfold bf; rw [Vector.getElem?_eq_getElem h]; rfl
theorem j0 (f : Nat → UInt8) {x : UInt8} (h : x.toNat < 16) : ZH (vf 16 f) (bI x) = some (f x.toNat):=ZT f h
theorem Za4 (p : Blk) (hp : Q9 p = true) (f : Nat → UInt8) : Tw p (vf 16 f) = some (vf 16 (Hb p f)):=by
 unfold Tw
 have:=WF (VH p (vf 16 f)) (fun _=>0) (Hb p f) (by omega) 0 (by omega) (fun j hj=>by omega) (fun i _ hi a _ ha=>by
  unfold VH
  simp only [Ho hi,if_true,ZT _ hi,HY _ hi,Option.bind_some,Int.toNat_natCast,j0 f (BA hp hi),Hb]) (fun v=>by unfold VH; simp)
 have h2 : ZB (VH p (vf 16 f)) (vf 16 (fun _=>0),0) = _:=this
 rw [Ql 16 (0 : UInt8),h2]; rfl
theorem v_move (p : Blk) (hp : Q9 p = true) (f : Nat → UInt8) : Vs p (vf 16 f) = some (vf 16 (Hb p f)):=by
 unfold Vs
 have:=WF (XP p (vf 16 f)) (fun _=>0) (Hb p f) (by omega) 0 (by omega) (fun j hj=>by omega) (fun i _ hi a _ ha=>by
  unfold XP
  simp only [Ho hi,if_true,ZT _ hi,HY _ hi,Option.bind_some,Int.toNat_natCast,j0 f (BA hp hi),Hb]) (fun v=>by unfold XP; simp)
 have h2 : ZB (XP p (vf 16 f)) (vf 16 (fun _=>0),0) = _:=this
 rw [Ql 16 (0 : UInt8),h2]; rfl

def KP (b : Vector UInt8 256) (f : Nat → UInt8) (r : Int) : Nat → UInt8
 | 0=>f 0 ^^^ yH b (f 15 ^^^ Zr r)
 | i + 1=>f (i + 1) ^^^ yH b (KP b f r i)
theorem Za3 (b : Vector UInt8 256) (f : Nat → UInt8) (r : Int) : Tp b (vf 16 f) r = some (vf 16 (KP b f r)) := by
  unfold Tp
  have := WF (VK b r) f (KP b f r) (by omega) 0 (by omega) (fun j hj => by omega) (fun i _ hi a hb ha => by
    unfold VK
    cases i with
    | zero =>
      have e1 : Int.tmod (wr (((0 : Nat) : Int) + 15)) 16 = ((15 : Nat) : Int) := by decide
      simp only [e1, Ho hi, if_true, ZT a (show 15 < 16 by omega), Option.bind_some]
      have e2 : (((0 : Nat) : Int) == 0) = true := rfl
      simp only [e2, if_true, Option.bind_some, KU, ZT a hi, Int.toNat_natCast, ha 0 (by omega), ha 15 (by omega), KP]
    | succ i =>
      have e1 : Int.tmod (wr (((i + 1 : Nat) : Int) + 15)) 16 = ((i : Nat) : Int) := by
        rw [YS (by omega)]
        have : (((i + 1 : Nat) : Int) + 15) = ((i + 16 : Nat) : Int) := by omega
        rw [this]
        have : Int.tmod ((i + 16 : Nat) : Int) 16 = (((i + 16) % 16 : Nat) : Int) := rfl
        rw [this]
        omega
      have e2 : (((i + 1 : Nat) : Int) == 0) = false := by have : ((i + 1 : Nat) : Int) ≠ 0 := by omega
                                                           simpa using this
      simp only [e1, e2, Ho hi, if_true, ZT a (show i < 16 by omega), Option.bind_some, Bool.false_eq_true, if_false, KU, ZT a hi, Int.toNat_natCast, ha (i + 1) (Nat.le_refl _), hb i (by omega), KP]) (fun v => by unfold VK; simp)
  have h2 : ZB (VK b r) (vf 16 f, 0) = _ := this
  rw [h2]; rfl
theorem Zaz (e : Ref Gengine) (f : Nat → UInt8) (r : Int) : X4 e (vf 16 f) r = some (vf 16 (KP e.v.box f r)):=by
 unfold X4
 have x0 : ZH (vf 16 f) (0 : Int) = some (f 0):=ZT f (show 0 < 16 by omega)
 have x15 : ZH (vf 16 f) (15 : Int) = some (f 15):=ZT f (show 15 < 16 by omega)
 have z : (0 : Int).toNat = 0:=rfl
 simp only [x0,x15,Option.bind_some,KU,z,Qx]
 have:=WF (Xc e) (fun i=>if i = 0 then f 0 ^^^ yH e.v.box (f 15 ^^^ Zr r) else f i) (KP e.v.box f r) (by omega) 1 (by omega) (fun j hj=>by
  have : j = 0:=by omega
  subst this; simp [KP]) (fun i h1 hi a hb ha=>by
  unfold Xc
  obtain ⟨i,rfl⟩ : ∃ k,i = k + 1:=⟨i - 1,by omega⟩
  have e1 : wr (((i + 1 : Nat) : Int) - 1) = ((i : Nat) : Int):=by rw [YS (by omega)]; omega
  simp only [e1,Ho hi,if_true,ZT a (show i < 16 by omega),ZT a hi,Option.bind_some,KU,Int.toNat_natCast,ha (i + 1) (Nat.le_refl _),hb i (by omega),KP]
  simp) (fun v=>by unfold Xc; simp)
 have h2 : ZB (Xc e) (vf 16 (fun i=>if i = 0 then f 0 ^^^ yH e.v.box (f 15 ^^^ Zr r) else f i),1) = _:=this
 rw [h2]; rfl
def yQ (b : Vector UInt8 256) (k : Nat → UInt8) : Nat → Nat → UInt8
 | 0=>k
 | r + 1=>KP b (yQ b k r) ((r + 1 : Nat) : Int)
def U5 (b : Vector UInt8 256) (k : Nat → UInt8) (n : Nat) : List Blk:=(List.range (n + 1)).map fun r=>vf 16 (yQ b k r)
theorem yE (b : Vector UInt8 256) (k : Nat → UInt8) (n : Nat) : U5 b k (n + 1) = U5 b k n ++ [vf 16 (KP b (yQ b k n) ((n + 1 : Nat) : Int))]:=by
 unfold U5
 rw [List.range_succ,List.map_append]; rfl
theorem JN (b : Vector UInt8 256) (k : Nat → UInt8) (n : Nat) : (U5 b k n).length = n + 1:=by simp [U5]
theorem H8 (b : Vector UInt8 256) (k : Nat → UInt8) {n r : Nat} (h : r ≤ n) : idx (U5 b k n) (r : Int) = some (vf 16 (yQ b k r)):=by
 rw [Yz]; unfold U5; rw [List.getElem?_map,List.getElem?_range (by omega)]; rfl
theorem Zap (c : GCipher) (k : Nat → UInt8) (n : Nat) (hn : n ≤ 1000) : Tt c (vf 16 k) (n : Int) = some (U5 c.Box k n):=by
 unfold Tt
 have:=Z1 (f:=VM c (n : Int)) (fun i : Nat=>(vf 16 (yQ c.Box k (i - 1)),U5 c.Box k (i - 1),(i : Int))) 1 (n + 1) (by omega) (t:=U5 c.Box k n) (fun i h1 hi=>by
  unfold VM
  obtain ⟨i,rfl⟩ : ∃ q,i = q + 1:=⟨i - 1,by omega⟩
  have e1 : decide (((i + 1 : Nat) : Int) ≤ (n : Int)) = true:=by simp; omega
  have e2 : app 16 (U5 c.Box k i) [vf 16 (KP c.Box (yQ c.Box k i) ((i + 1 : Nat) : Int))] = _:=YP (by rw [JN]; simp; omega)
  simp only [Nat.add_sub_cancel,e1,if_true,Za3,Option.bind_some,e2,Xf (show i + 1 < 9223372036854775807 by omega),yE]
  rfl) (by
  unfold VM
  have e1 : decide (((n + 1 : Nat) : Int) ≤ (n : Int)) = false:=by simp; omega
  simp only [e1,Bool.false_eq_true,if_false,Nat.add_sub_cancel])
 have h2 : ZB (VM c (n : Int)) (vf 16 k,[vf 16 k],1) = _:=this
 rw [h2]; rfl
theorem v_keys (e : Ref Gengine) (k : Nat → UInt8) (n : Nat) (hn : n ≤ 1000) : Vt e (vf 16 k) (n : Int) = some (U5 e.v.box k n):=by
 unfold Vt
 have:=Z1 (f:=XR e (n : Int)) (fun i : Nat=>(vf 16 (yQ e.v.box k (i - 1)),U5 e.v.box k (i - 1),(i : Int))) 1 (n + 1) (by omega) (t:=U5 e.v.box k n) (fun i h1 hi=>by
  unfold XR
  obtain ⟨i,rfl⟩ : ∃ q,i = q + 1:=⟨i - 1,by omega⟩
  have e1 : decide (((i + 1 : Nat) : Int) ≤ (n : Int)) = true:=by simp; omega
  have e2 : app 16 (U5 e.v.box k i) [vf 16 (KP e.v.box (yQ e.v.box k i) ((i + 1 : Nat) : Int))] = _:=YP (by rw [JN]; simp; omega)
  simp only [Nat.add_sub_cancel,e1,if_true,Zaz,Option.bind_some,e2,Xf (show i + 1 < 9223372036854775807 by omega),yE]
  rfl) (by
  unfold XR
  have e1 : decide (((n + 1 : Nat) : Int) ≤ (n : Int)) = false:=by simp; omega
  simp only [e1,Bool.false_eq_true,if_false,Nat.add_sub_cancel])
 have h2 : ZB (XR e (n : Int)) (vf 16 k,[vf 16 k],1) = _:=this
 rw [h2]; rfl

def rowF (m : Nat) (a : MF) (f : Nat → UInt8) (c r : Nat) : UInt8:=((Yg m (a r 0) (f c) ^^^ Yg m (a r 1) (f (c + 1))) ^^^ Yg m (a r 2) (f (c + 2))) ^^^ Yg m (a r 3) (f (c + 3))
def Tj (m : Nat) (a : MF) (f : Nat → UInt8) : Nat → UInt8:=fun i=>rowF m a f (i / 4 * 4) (i % 4)
theorem set_set (f : Nat → UInt8) (k : Nat) (x y : UInt8) : (fun i=>if i = k then y else if i = k then x else f i) = fun i=>if i = k then y else f i:=by
 funext i; by_cases h : i = k <;> simp [h]
theorem wr_at {c r : Nat} (hc : c < 4) (hr : r < 4) : wr (wr (4 * (c : Int)) + (r : Int)) = ((c * 4 + r : Nat) : Int):=by
 rw [YS (x:=4 * (c : Int)) (by omega),YS (by omega)]; omega
theorem Zdo (m : Nat) (hm : m < 512) (hm2 : 256 ≤ m) (a : MF) (f g : Nat → UInt8) (c r : Nat) (hc : c < 4) (hr : r < 4) (s1 s2 : Blk × Int) (h1 : s1.2 = (c : Int)) (h2 : s2.2 = (r : Int)) (hg : g (c * 4 + r) = 0) :
  ZB (Ws (m : Int) (mf a) (vf 16 f) s1 s2) (vf 16 g,0) = some (vf 16 fun i=>if i = c * 4 + r then rowF m a f (c * 4) r else g i):=by
 have hcr : c * 4 + r < 16:=by omega
 have step : ∀ (j : Nat) (h : Nat → UInt8),j < 4 → Ws (m : Int) (mf a) (vf 16 f) s1 s2 (vf 16 h,(j : Int)) = some (.nx (vf 16 (fun i=>if i = c * 4 + r then h (c * 4 + r) ^^^ Yg m (a r j) (f (c * 4 + j)) else h i),((j + 1 : Nat) : Int))):=fun j h hj=>by
  unfold Ws
  simp only [h1,h2,lt4 hj,if_true,wr_at hc hr,wr_at hc hj,ZT _ hcr,TN _ hr,ZT _ hj,ZT f (show c * 4 + j < 16 by omega),Option.bind_some,Hu m hm hm2,Int.toNat_natCast,Qx,wr4 (show j < 1000 by omega)]
 have e0:=step 0 g (by omega)
 have e1:=step 1 (fun i=>if i = c * 4 + r then g (c * 4 + r) ^^^ Yg m (a r 0) (f (c * 4 + 0)) else g i) (by omega)
 have e2:=step 2 (fun i=>if i = c * 4 + r then (g (c * 4 + r) ^^^ Yg m (a r 0) (f (c * 4 + 0))) ^^^ Yg m (a r 1) (f (c * 4 + 1)) else g i) (by omega)
 have e3:=step 3 (fun i=>if i = c * 4 + r then ((g (c * 4 + r) ^^^ Yg m (a r 0) (f (c * 4 + 0))) ^^^ Yg m (a r 1) (f (c * 4 + 1))) ^^^ Yg m (a r 2) (f (c * 4 + 2)) else g i) (by omega)
 have e4 : ∀ v : Blk,Ws (m : Int) (mf a) (vf 16 f) s1 s2 (v,((4 : Nat) : Int)) = some (.ex v):=fun v=>by unfold Ws; simp
 simp only [if_true,set_set] at e1 e2 e3
 have e0' : Ws (m : Int) (mf a) (vf 16 f) s1 s2 (vf 16 g,0) = _:=e0
 rw [WZ e0',WZ e1,WZ e2,WZ e3,WG (e4 _)]
 refine congrArg some (Xv fun i _=>?_)
 by_cases h : i = c * 4 + r
 ·simp [h,hg,rowF]
 ·simp [h]
theorem Zcb (m : Nat) (hm : m < 512) (hm2 : 256 ≤ m) (a : MF) (f : Nat → UInt8) : T7 (m : Int) (mf a) (vf 16 f) = some (vf 16 (Tj m a f)):=by
 unfold T7
 -- after c columns and r rows of the next
 have inner : ∀ c : Nat,c < 4 → ∀ s1 : Blk × Int,s1.2 = (c : Int) → ZB (Uu (m : Int) (mf a) (vf 16 f) s1) (vf 16 (fun i=>if i < c * 4 then Tj m a f i else 0),0) = some (vf 16 fun i=>if i < (c + 1) * 4 then Tj m a f i else 0):=fun c hc s1 h1=>by
  have k1 : (vf 16 fun i=>if i < c * 4 + 4 then Tj m a f i else 0) = vf 16 fun i=>if i < (c + 1) * 4 then Tj m a f i else 0:=by rw [show c * 4 + 4 = (c + 1) * 4 by omega]
  have:=Z1 (f:=Uu (m : Int) (mf a) (vf 16 f) s1) (fun r : Nat=>(vf 16 fun i=>if i < c * 4 + r then Tj m a f i else 0,(r : Int))) 0 4 (by omega) (t:=vf 16 fun i=>if i < (c + 1) * 4 then Tj m a f i else 0) (fun r _ hr=>by
   unfold Uu
   have h2:=Zdo m hm hm2 a f (fun i=>if i < c * 4 + r then Tj m a f i else 0) c r hc hr s1 (vf 16 fun i=>if i < c * 4 + r then Tj m a f i else 0,(r : Int)) h1 rfl (by simp)
   simp only [lt4 hr,if_true,h2,Option.bind_some,wr4 (show r < 1000 by omega)]
   refine congrArg (fun z=>some (Fl.nx (z,((r + 1 : Nat) : Int)))) (Xv fun i _=>?_)
   by_cases h : i = c * 4 + r
   ·subst h
    have q1 : (c * 4 + r) / 4 = c:=by omega
    have q2 : (c * 4 + r) % 4 = r:=by omega
    rw [if_pos rfl,if_pos (by omega)]
    unfold Tj; rw [q1,q2]
   ·by_cases h3 : i < c * 4 + r
    ·rw [if_neg h,if_pos h3,if_pos (by omega)]
    ·rw [if_neg h,if_neg h3,if_neg (by omega)]) (by
   unfold Uu
   simp only [k1]
   simp)
  exact this
 have:=Z1 (f:=Un (m : Int) (mf a) (vf 16 f)) (fun c : Nat=>(vf 16 fun i=>if i < c * 4 then Tj m a f i else 0,(c : Int))) 0 4 (by omega) (t:=vf 16 (Tj m a f)) (fun c _ hc=>by
  unfold Un
  have h2:=inner c hc (vf 16 fun i=>if i < c * 4 then Tj m a f i else 0,(c : Int)) rfl
  simp only [lt4 hc,if_true,h2,Option.bind_some,wr4 (show c < 1000 by omega)]) (by
  unfold Un
  have : (vf 16 fun i=>if i < 4 * 4 then Tj m a f i else 0) = vf 16 (Tj m a f):=Xv fun i hi=>by rw [if_pos (by omega)]
  simp only [this]
  simp)
 have e0 : (vf 16 fun i=>if i < 0 * 4 then Tj m a f i else 0) = vf 16 fun _=>(0 : UInt8):=Xv fun i _=>by rw [if_neg (by omega)]
 simp only [e0] at this
 have h2 : ZB (Un (m : Int) (mf a) (vf 16 f)) (vf 16 fun _=>(0 : UInt8),0) = _:=this
 rw [Ql 16 (0 : UInt8),h2]; rfl

abbrev Tab:=Vector (Vector (Vector UInt8 256) 4) 4
def Ai (m : Nat) (a : MF) : Tab:=vf 4 fun i=>vf 4 fun j=>vf 256 fun x=>Yg m (a i j) (UInt8.ofNat x)
theorem Zbn (m : Nat) (a : MF) (i j : Nat) (x : UInt8) : ZH (vf 256 fun x=>Yg m (a i j) (UInt8.ofNat x)) (bI x) = some (Yg m (a i j) x):=by
 rw [show bI x = ((x.toNat : Nat) : Int) from rfl,ZT _ (UInt8.toNat_lt x)]
 simp
theorem v_mix (m : Nat) (a : MF) (f : Nat → UInt8) : Ug ⟨Ai m a⟩ (vf 16 f) = some (vf 16 (Tj m a f)):=by
 unfold Ug
 have i0 : ∀ (v : Vector (Vector UInt8 256) 4),ZH v (0 : Int) = v[0]?:=fun v=>W5 v 0
 have i1 : ∀ (v : Vector (Vector UInt8 256) 4),ZH v (1 : Int) = v[1]?:=fun v=>W5 v 1
 have i2 : ∀ (v : Vector (Vector UInt8 256) 4),ZH v (2 : Int) = v[2]?:=fun v=>W5 v 2
 have i3 : ∀ (v : Vector (Vector UInt8 256) 4),ZH v (3 : Int) = v[3]?:=fun v=>W5 v 3
 have inner : ∀ c : Nat,c < 4 → ∀ s1 : Blk × Int,s1.2 = ((c * 4 : Nat) : Int) → ZB (WC ⟨Ai m a⟩ s1 (f (c * 4),f (c * 4 + 1),f (c * 4 + 2),f (c * 4 + 3))) (vf 16 (fun i=>if i < c * 4 then Tj m a f i else f i),0) = some (vf 16 fun i=>if i < (c + 1) * 4 then Tj m a f i else f i):=fun c hc s1 h1=>by
  have k1 : (vf 16 fun i=>if i < c * 4 + 4 then Tj m a f i else f i) = vf 16 fun i=>if i < (c + 1) * 4 then Tj m a f i else f i:=by rw [show c * 4 + 4 = (c + 1) * 4 by omega]
  have:=Z1 (f:=WC ⟨Ai m a⟩ s1 (f (c * 4),f (c * 4 + 1),f (c * 4 + 2),f (c * 4 + 3))) (fun r : Nat=>(vf 16 fun i=>if i < c * 4 + r then Tj m a f i else f i,(r : Int))) 0 4 (by omega) (t:=vf 16 fun i=>if i < (c + 1) * 4 then Tj m a f i else f i) (fun r _ hr=>by
   unfold WC
   have e1 : wr (s1.2 + (r : Int)) = ((c * 4 + r : Nat) : Int):=by rw [h1,YS (by omega)]; omega
   have et : ZH (Ai m a) (r : Int) = some (vf 4 fun j=>vf 256 fun x=>Yg m (a r j) (UInt8.ofNat x)):=ZT _ hr
   simp only [lt4 hr,if_true,et,i0,i1,i2,i3,Bh _ (show 0 < 4 by omega),Bh _ (show 1 < 4 by omega),Bh _ (show 2 < 4 by omega),Bh _ (show 3 < 4 by omega),Zbn,e1,ZT _ (show c * 4 + r < 16 by omega),Option.bind_some,Int.toNat_natCast,Qx,wr4 (show r < 1000 by omega)]
   refine congrArg (fun z=>some (Fl.nx (z,((r + 1 : Nat) : Int)))) (Xv fun i _=>?_)
   by_cases h : i = c * 4 + r
   ·subst h
    have q1 : (c * 4 + r) / 4 = c:=by omega
    have q2 : (c * 4 + r) % 4 = r:=by omega
    rw [if_pos rfl,if_pos (by omega)]
    unfold Tj; rw [q1,q2]; rfl
   ·by_cases h3 : i < c * 4 + r
    ·rw [if_neg h,if_pos h3,if_pos (by omega)]
    ·rw [if_neg h,if_neg h3,if_neg (by omega)]) (by
   unfold WC
   simp only [k1]
   simp)
  exact this
 have:=Z1 (f:=Wy ⟨Ai m a⟩) (fun c : Nat=>(vf 16 fun i=>if i < c * 4 then Tj m a f i else f i,((c * 4 : Nat) : Int))) 0 4 (by omega) (t:=vf 16 (Tj m a f)) (fun c _ hc=>by
  unfold Wy
  have hd : decide (((c * 4 : Nat) : Int) < ((vf 16 fun i=>if i < c * 4 then Tj m a f i else f i).toList.length : Int)) = true:=by rw [Vector.length_toList]; simp; omega
  have x0:=ZT (n:=16) (fun i=>if i < c * 4 then Tj m a f i else f i) (show c * 4 < 16 by omega)
  have x1:=ZT (n:=16) (fun i=>if i < c * 4 then Tj m a f i else f i) (show c * 4 + 1 < 16 by omega)
  have x2:=ZT (n:=16) (fun i=>if i < c * 4 then Tj m a f i else f i) (show c * 4 + 2 < 16 by omega)
  have x3:=ZT (n:=16) (fun i=>if i < c * 4 then Tj m a f i else f i) (show c * 4 + 3 < 16 by omega)
  have w1 : wr (((c * 4 : Nat) : Int) + 1) = ((c * 4 + 1 : Nat) : Int):=by rw [YS (by omega)]; omega
  have w2 : wr (((c * 4 : Nat) : Int) + 2) = ((c * 4 + 2 : Nat) : Int):=by rw [YS (by omega)]; omega
  have w3 : wr (((c * 4 : Nat) : Int) + 3) = ((c * 4 + 3 : Nat) : Int):=by rw [YS (by omega)]; omega
  have w4 : wr (((c * 4 : Nat) : Int) + 4) = (((c + 1) * 4 : Nat) : Int):=by rw [YS (by omega)]; omega
  rw [if_neg (by omega)] at x0 x1 x2 x3
  have h2:=inner c hc (vf 16 fun i=>if i < c * 4 then Tj m a f i else f i,((c * 4 : Nat) : Int)) rfl
  simp only [hd,if_true,x0,w1,x1,w2,x2,w3,x3,Option.bind_some,h2,w4]) (by
  unfold Wy
  have : (vf 16 fun i=>if i < 4 * 4 then Tj m a f i else f i) = vf 16 (Tj m a f):=Xv fun i hi=>by rw [if_pos (by omega)]
  simp only [this]
  simp)
 have e0 : (vf 16 fun i=>if i < 0 * 4 then Tj m a f i else f i) = vf 16 f:=Xv fun i _=>by rw [if_neg (by omega)]
 simp only [e0] at this
 have h2 : ZB (Wy ⟨Ai m a⟩) (vf 16 f,0) = _:=this
 rw [h2]; rfl

def tb (g : Nat → Nat → Nat → UInt8) : Tab:=vf 4 fun i=>vf 4 fun j=>vf 256 (g i j)
theorem BM {g h : Nat → Nat → Nat → UInt8} (e : ∀ i,i < 4 → ∀ j,j < 4 → ∀ x,x < 256 → g i j x = h i j x) : tb g = tb h :=
 Xv fun i hi=>Xv fun j hj=>Xv fun x hx=>e i hi j hj x hx
theorem Zd0 (g : Nat → Nat → Nat → UInt8) {i : Nat} (hi : i < 4) : ZH (tb g) (i : Int) = some (vf 4 fun j=>vf 256 (g i j)):=ZT _ hi
theorem Zbi (g : Nat → Nat → Nat → UInt8) (i : Nat) {j : Nat} (hj : j < 4) : ZH (vf 4 fun j=>vf 256 (g i j)) (j : Int) = some (vf 256 (g i j)):=ZT _ hj
theorem tb_set (g : Nat → Nat → Nat → UInt8) (i j : Nat) (h : Nat → UInt8) : (tb g).setIfInBounds i ((vf 4 fun j=>vf 256 (g i j)).setIfInBounds j (vf 256 h)) = tb (fun i' j'=>if i' = i ∧ j' = j then h else g i' j'):=by
 unfold tb
 rw [Qx,Qx]
 refine Xv fun i' _=>?_
 by_cases h1 : i' = i
 ·subst h1
  rw [if_pos rfl]
  refine Xv fun j' _=>?_
  by_cases h2 : j' = j
  ·subst h2; simp
  ·simp [h2]
 ·rw [if_neg h1]
  refine Xv fun j' _=>?_
  simp [h1]
theorem Zdx (a b : Nat) (ha : a < 9223372036854775808) (hb : b < 9223372036854775808) : orI (a : Int) (b : Int) = ((a ||| b : Nat) : Int):=by
 unfold orI
 rw [BitVec.toNat_or,Bz a ha,Bz b hb]
 have : a ||| b < 2 ^ 63:=Nat.or_lt_two_pow ha hb
 exact YS (by omega)
theorem XY (n : Nat) : Zr (n : Int) = UInt8.ofNat n:=by
 unfold Zr
 have : ((n : Int) % 256).toNat = n % 256:=by omega
 rw [this]
 apply UInt8.toNat_inj.1
 simp
theorem Zda (g : Nat → Nat → Nat → UInt8) (i j : Nat) (h : Nat → UInt8) : (tb g).setIfInBounds i (vf 4 fun j'=>if j' = j then vf 256 h else vf 256 (g i j')) = tb (fun i' j'=>if i' = i ∧ j' = j then h else g i' j'):=by
 have:=tb_set g i j h
 rw [Qx] at this
 exact this
theorem Zb4 {p low : Nat} (h : low < 2 ^ p) : 2 ^ p ||| low = 2 ^ p + low:=by
 have:=Nat.two_pow_add_eq_or_of_lt h 1
 simpa using this.symm
theorem Zbt {p low : Nat} (hp : p < 8) (h : low < 2 ^ p) : UInt8.ofNat (2 ^ p + low) = UInt8.ofNat (2 ^ p) ^^^ UInt8.ofNat low:=by
 apply UInt8.toNat_inj.1
 have h7 : 2 ^ p ≤ 2 ^ 7:=Nat.pow_le_pow_right (by omega) (by omega)
 rw [UInt8.toNat_xor]
 simp only [UInt8.toNat_ofNat']
 rw [Nat.mod_eq_of_lt (by omega),Nat.mod_eq_of_lt (by omega),Nat.mod_eq_of_lt (by omega)]
 rw [← Zb4 h]
 apply Nat.eq_of_testBit_eq
 intro i
 rw [Nat.testBit_or,Nat.testBit_xor,Nat.testBit_two_pow]
 by_cases hi : p = i
 ·subst hi
  rw [Nat.testBit_lt_two_pow h]; simp
 ·simp [hi]
section
variable (m : Nat) (hm : m < 512) (hm2 : 256 ≤ m) (a : MF)
include hm hm2
def JI (m : Nat) (a : MF) (i j n : Nat) (g : Nat → Nat → Nat → UInt8) : Nat → Nat → Nat → UInt8:=fun i' j'=>if i' = i ∧ j' = j then (fun x=>if x < n then Yg m (a i j) (UInt8.ofNat x) else 0) else g i' j'
theorem Zb7 (i j p : Nat) (hi : i < 4) (hj : j < 4) (hp : p < 8) (g : Nat → Nat → Nat → UInt8) (s0 s1 s2 : Tab × Int) (h0 : s0.2 = (i : Int)) (h1 : s1.2 = (j : Int)) (h2 : s2.2 = ((2 ^ p : Nat) : Int)) :
  ZB (Va s0 s1 s2 (Yg m (a i j) (UInt8.ofNat (2 ^ p)))) (tb (JI m a i j (2 ^ p) g),0) = some (tb (JI m a i j (2 ^ (p + 1)) g)):=by
 have h7 : 2 ^ p ≤ 2 ^ 7:=Nat.pow_le_pow_right (by omega) (by omega)
 have k1 : 2 ^ p + 2 ^ p = 2 ^ (p + 1):=by rw [Nat.pow_succ]; omega
 have:=Z1 (f:=Va s0 s1 s2 (Yg m (a i j) (UInt8.ofNat (2 ^ p)))) (fun low : Nat=>(tb (JI m a i j (2 ^ p + low) g),(low : Int))) 0 (2 ^ p) (Nat.zero_le _) (t:=tb (JI m a i j (2 ^ (p + 1)) g)) (fun low _ hl=>by
  unfold Va
  have hd : decide ((low : Int) < ((2 ^ p : Nat) : Int)) = true:=by simp only [decide_eq_true_eq]; omega
  have ho : orI ((2 ^ p : Nat) : Int) (low : Int) = ((2 ^ p + low : Nat) : Int):=by rw [Zdx _ _ (by omega) (by omega),Zb4 hl]
  have eg : JI m a i j (2 ^ p + low) g i j = fun x=>if x < 2 ^ p + low then Yg m (a i j) (UInt8.ofNat x) else 0:=by simp [JI]
  simp only [h0,h1,h2,hd,if_true,Zd0 _ hi,Zbi _ i hj,eg,ZT _ (show low < 256 by omega),ho,ZT _ (show 2 ^ p + low < 256 by omega),Option.bind_some,Int.toNat_natCast,Qx,Xf (show low < 9223372036854775807 by omega)]
  rw [if_pos (show low < 2 ^ p + low from Nat.lt_add_of_pos_left (Nat.two_pow_pos p)),← kJ hm2 hm,← Zbt hp hl]
  have:=Zda (JI m a i j (2 ^ p + low) g) i j (fun x=>if x = 2 ^ p + low then Yg m (a i j) (UInt8.ofNat (2 ^ p + low)) else if x < 2 ^ p + low then Yg m (a i j) (UInt8.ofNat x) else 0)
  rw [this]
  refine congrArg (fun z=>some (Fl.nx (z,((low + 1 : Nat) : Int)))) (BM fun i' _ j' _ x _=>?_)
  unfold JI
  by_cases h : i' = i ∧ j' = j
  ·simp only [h,and_self,if_true]
   by_cases hx : x = 2 ^ p + low
   ·subst hx; simp
   ·by_cases hx2 : x < 2 ^ p + low
    ·rw [if_neg hx,if_pos hx2,if_pos (by omega)]
    ·rw [if_neg hx,if_neg hx2,if_neg (by omega)]
  ·simp only [h,if_false]) (by
  unfold Va
  simp only [h2,k1]
  simp)
 exact this
theorem Zcv (i j : Nat) (hi : i < 4) (hj : j < 4) (g : Nat → Nat → Nat → UInt8) (s0 s1 : Tab × Int) (h0 : s0.2 = (i : Int)) (h1 : s1.2 = (j : Int)) :
  ZB (Vc (m : Int) s0 s1 (a i j)) (tb (JI m a i j 1 g),1) = some (tb (JI m a i j 256 g)):=by
 have:=Z1 (f:=Vc (m : Int) s0 s1 (a i j)) (fun p : Nat=>(tb (JI m a i j (2 ^ p) g),((2 ^ p : Nat) : Int))) 0 8 (by omega) (t:=tb (JI m a i j 256 g)) (fun p _ hp=>by
  unfold Vc
  have h7 : 2 ^ p ≤ 2 ^ 7:=Nat.pow_le_pow_right (by omega) (by omega)
  have hd : decide (((2 ^ p : Nat) : Int) < 256) = true:=by simp only [decide_eq_true_eq]; omega
  have hb : Zr ((2 ^ p : Nat) : Int) = UInt8.ofNat (2 ^ p):=by rw [XY]
  have hw : wr (((2 ^ p : Nat) : Int) * 2) = ((2 ^ (p + 1) : Nat) : Int):=by
   rw [Nat.pow_succ]
   generalize 2 ^ p = q at h7 ⊢
   rw [YS (by omega)]; omega
  have h3:=Zb7 m hm hm2 a i j p hi hj hp g s0 s1 (tb (JI m a i j (2 ^ p) g),((2 ^ p : Nat) : Int)) h0 h1 rfl
  simp only [hd,if_true,hb,T5 m hm,Option.bind_some,h3,hw]) (by unfold Vc; simp)
 exact this
theorem AT (A : Mat) (hA : A = mf a) : VF (m : Int) A = some ⟨Ai m a⟩:=by
 subst hA
 unfold VF
 let G : Nat → Nat → Nat → Nat → Nat → UInt8:=fun r c i j x=>if i < r ∨ (i = r ∧ j < c) then Yg m (a i j) (UInt8.ofNat x) else 0
 have hGt : ∀ r c i j x,(i < r ∨ (i = r ∧ j < c)) → G r c i j x = Yg m (a i j) (UInt8.ofNat x):=fun r c i j x h=>if_pos h
 have hGf : ∀ r c i j x,¬ (i < r ∨ (i = r ∧ j < c)) → G r c i j x = 0:=fun r c i j x h=>if_neg h
 have hGe : ∀ r c r' c' i j x,((i < r ∨ (i = r ∧ j < c)) ↔ (i < r' ∨ (i = r' ∧ j < c'))) → G r c i j x = G r' c' i j x:=fun r c r' c' i j x h=>by show (if _ then _ else _) = (if _ then _ else _); simp only [h]
 have z0 : ∀ i j,Yg m (a i j) (UInt8.ofNat 0) = 0:=fun i j=>by rw [K5 hm2 hm]; exact HK hm2 hm _
 have col : ∀ r : Nat,r < 4 → ∀ s0 : Tab × Int,s0.2 = (r : Int) → ZB (Vj (m : Int) s0 (vf 4 (a r))) (tb (G r 0),0) = some (tb (G (r + 1) 0)):=fun r hr s0 h0=>by
  have k1 : tb (G r 4) = tb (G (r + 1) 0):=BM fun i hi j hj x _=>by
   exact hGe _ _ _ _ _ _ _ (by omega)
  have:=Z1 (f:=Vj (m : Int) s0 (vf 4 (a r))) (fun c : Nat=>(tb (G r c),(c : Int))) 0 4 (by omega) (t:=tb (G (r + 1) 0)) (fun c _ hc=>by
   unfold Vj
   have e1 : tb (G r c) = tb (JI m a r c 1 (G r c)):=BM fun i _ j _ x _=>by
    unfold JI
    by_cases h : i = r ∧ j = c
    ·obtain ⟨rfl,rfl⟩:=h
     simp only [and_self,if_true]
     rw [hGf _ _ _ _ _ (by omega)]
     by_cases hx : x < 1
     ·have : x = 0:=by omega
      subst this; rw [if_pos hx,z0]
     ·rw [if_neg hx]
    ·simp only [h,if_false]
   have e2 : tb (JI m a r c 256 (G r c)) = tb (G r (c + 1)):=BM fun i _ j _ x hx=>by
    unfold JI
    by_cases h : i = r ∧ j = c
    ·obtain ⟨rfl,rfl⟩:=h
     simp only [and_self,if_true,hx]
     rw [hGt _ _ _ _ _ (by omega)]
    ·simp only [h,if_false]
     exact hGe _ _ _ _ _ _ _ (by omega)
   have h3:=Zcv m hm hm2 a r c hr hc (G r c) s0 (tb (G r c),(c : Int)) h0 rfl
   rw [← e1,e2] at h3
   simp only [lt4 hc,if_true,ZT _ hc,h3,Option.bind_some,wr4 (show c < 1000 by omega)]) (by
   unfold Vj
   simp only [k1]
   simp)
  exact this
 have kz : tb (G 0 0) = Vector.replicate 4 (Vector.replicate 4 (Vector.replicate 256 (0 : UInt8))):=by
  rw [Ql 256 (0 : UInt8),Ql 4,Ql 4]
  exact BM fun i _ j _ x _=>by
   exact hGf _ _ _ _ _ (by omega)
 have k4 : tb (G 4 0) = Ai m a:=BM fun i hi j _ x _=>by
  exact hGt _ _ _ _ _ (by omega)
 have:=Z1 (f:=Vd (m : Int) (mf a)) (fun r : Nat=>(tb (G r 0),(r : Int))) 0 4 (by omega) (t:=Ai m a) (fun r _ hr=>by
  unfold Vd
  have h3:=col r hr (tb (G r 0),(r : Int)) rfl
  simp only [lt4 hr,if_true,TN _ hr,h3,Option.bind_some,wr4 (show r < 1000 by omega)]) (by
  unfold Vd
  simp only [k4]
  simp)
 have h2 : ZB (Vd (m : Int) (mf a)) (tb (G 0 0),0) = _:=this
 rw [← kz,h2]; rfl
end

def A0 (n : Nat) (p : Vector UInt8 n) : Nat → Vector UInt8 n
 | 0=>Vector.replicate n 0
 | i + 1=>(A0 n p i).setIfInBounds (p.toList.getD i 0).toNat (Zr (i : Int))
theorem zU (p : Vector UInt8 256) : Vk p = some (A0 256 p 256):=by
 unfold Vk
 have:=Z1 (f:=XU p) (fun i : Nat=>(A0 256 p i,(i : Int))) 0 256 (by omega) (t:=A0 256 p 256) (fun i _ hi=>by
  unfold XU
  have hd : decide ((i : Int) < 256) = true:=by simp; omega
  simp only [hd,if_true,yv p hi,KU,Option.bind_some,ke,Xf (show i < 9223372036854775807 by omega)]
  rfl) (by unfold XU; simp)
 have h2 : ZB (XU p) (Vector.replicate 256 0,0) = _:=this
 rw [h2]; rfl
theorem Zdy (p : Blk) {i : Nat} (h : i < 16) : p.toList.getD i 0 = bf p i:=by
 have h1:=yv p h
 rw [HY p h] at h1
 exact (Option.some.inj h1).symm
theorem BR (p : Blk) (hp : Q9 p = true) : X6 p = some (A0 16 p 16):=by
 unfold X6
 have:=Z1 (f:=Xe p) (fun i : Nat=>(A0 16 p i,(i : Int))) 0 16 (by omega) (t:=A0 16 p 16) (fun i _ hi=>by
  unfold Xe
  have hlt:=BA hp hi
  have hv : ZH (A0 16 p i) (bI (bf p i)) = some (bf (A0 16 p i) (bf p i).toNat):=HY _ hlt
  simp only [Ho hi,if_true,HY p hi,hv,Option.bind_some,ke,Xf (show i < 9223372036854775807 by omega)]
  rw [← Zdy p hi]
  rfl) (by unfold Xe; simp)
 have h2 : ZB (Xe p) (Vector.replicate 16 0,0) = _:=this
 rw [h2]; rfl

def YB (c : GCipher) : Gengine:=⟨c.Box,A0 256 c.Box 256,c.Places,A0 16 c.Places 16,⟨Ai c.Field.toNat (Al c.Mix)⟩,⟨Ai c.Field.toNat (Al (invM c.Field.toNat c.Mix))⟩,c.Rounds⟩
theorem KC {c : GCipher} (h : YI c = true) : Q9 c.Places = true:=by
 unfold YI at h
 simp only [Bool.and_eq_true] at h
 exact h.1.1.2
theorem J6 {c : GCipher} (h : YI c = true) : 1 ≤ c.Rounds ∧ c.Rounds ≤ 20:=by
 unfold YI at h
 simp only [Bool.and_eq_true,decide_eq_true_eq] at h
 exact h.1.2
theorem kD (c : GCipher) (h : YI c = true) : Us c = some ⟨YB c⟩:=by
 obtain ⟨m,hm,h1,h2⟩:=HS h
 have e : c.Field.toNat = m:=by omega
 unfold Us YB
 rw [e]
 simp only [hm,Zcm m h2 h1,Option.bind_some,zU,BR _ (KC h),AT m h2 h1 (Al c.Mix) c.Mix (AK _),AT m h2 h1 (Al (invM m c.Mix)) (invM m c.Mix) (AK _)]

def zo (c : GCipher) (n r : Nat) (k f : Nat → UInt8) : Nat → UInt8 :=
 HW (if r < n then Tj c.Field.toNat (Al c.Mix) (Hb c.Places (zc c.Box f)) else Hb c.Places (zc c.Box f)) k
def Bv (c : GCipher) (k f : Nat → UInt8) (n : Nat) : Nat → Nat → UInt8
 | 0=>HW f k
 | r + 1=>zo c n (r + 1) (yQ c.Box k (r + 1)) (Bv c k f n r)
def jl (c : GCipher) (k f : Nat → UInt8) (n : Nat) : Nat → UInt8:=Bv c k f n n
theorem z4 (c : GCipher) (h : YI c = true) (k f : Nat → UInt8) (n : Nat) (hn : n ≤ 1000) : Xu c (vf 16 k) (vf 16 f) (n : Int) = some (vf 16 (jl c k f n)):=by
 obtain ⟨m,hm,h1,h2⟩:=HS h
 have e : c.Field.toNat = m:=by omega
 have hp:=KC h
 unfold Xu
 have i0 : idx (U5 c.Box k n) (0 : Int) = some (vf 16 k):=H8 c.Box k (Nat.zero_le n)
 simp only [Zap c k n hn,Option.bind_some,i0,Bl]
 have:=Z1 (f:=XS c (n : Int) (U5 c.Box k n)) (fun i : Nat=>(vf 16 (Bv c k f n (i - 1)),(i : Int))) 1 (n + 1) (by omega) (t:=vf 16 (jl c k f n)) (fun i hi1 hi=>by
  unfold XS
  obtain ⟨r,rfl⟩ : ∃ q,i = q + 1:=⟨i - 1,by omega⟩
  have e1 : decide (((r + 1 : Nat) : Int) ≤ (n : Int)) = true:=by simp only [decide_eq_true_eq]; omega
  have YL:=Zcb m h2 h1 (Al c.Mix) (Hb c.Places (zc c.Box (Bv c k f n r)))
  rw [← AK] at YL
  simp only [Nat.add_sub_cancel,e1,if_true,kV,Option.bind_some,Za4 c.Places hp,hm,YL,H8 c.Box k (show r + 1 ≤ n by omega),Xf (show r + 1 < 9223372036854775807 by omega)]
  by_cases hr : r + 1 < n
  ·have e2 : decide (((r + 1 : Nat) : Int) < (n : Int)) = true:=by simp only [decide_eq_true_eq]; omega
   simp only [e2,if_true,Option.bind_some,Bl,Bv,zo,hr,e]
  ·have e2 : decide (((r + 1 : Nat) : Int) < (n : Int)) = false:=by simp only [decide_eq_false_iff_not]; omega
   simp only [e2,Bool.false_eq_true,if_false,Option.bind_some,Bl,Bv,zo,hr]) (by
  unfold XS
  have e1 : decide (((n + 1 : Nat) : Int) ≤ (n : Int)) = false:=by simp only [decide_eq_false_iff_not]; omega
  simp only [e1,Bool.false_eq_true,if_false,Nat.add_sub_cancel,jl])
 have h3 : ZB (XS c (n : Int) (U5 c.Box k n)) (vf 16 (HW f k),1) = _:=this
 rw [h3]; rfl
theorem kT (e : Ref Gengine) (s : Blk × Int) (f : Nat → UInt8) (hs : s.1 = vf 16 f) : ZB (YK e s) (vf 16 f,0) = some (vf 16 (zc e.v.box f)):=by
 have:=WF (YK e s) f (zc e.v.box f) (by omega) 0 (by omega) (fun j hj=>by omega) (fun i _ hi a _ ha=>by
  unfold YK
  simp only [hs,Ho hi,if_true,ZT _ hi,Option.bind_some,Int.toNat_natCast,KU,zc]) (fun v=>by unfold YK; simp)
 exact this
theorem zE (c : GCipher) (h : YI c = true) (k f : Nat → UInt8) (n : Nat) (hn : n ≤ 1000) : Y4 ⟨YB c⟩ (U5 c.Box k n) (vf 16 f) = some (vf 16 (jl c k f n)):=by
 have hp:=KC h
 unfold Y4
 have i0 : idx (U5 c.Box k n) (0 : Int) = some (vf 16 k):=H8 c.Box k (Nat.zero_le n)
 simp only [Option.bind_some,i0,Qn]
 have:=Z1 (f:=YJ ⟨YB c⟩ (U5 c.Box k n)) (fun i : Nat=>(vf 16 (Bv c k f n (i - 1)),(i : Int))) 1 (n + 1) (by omega) (t:=vf 16 (jl c k f n)) (fun i hi1 hi=>by
  unfold YJ
  obtain ⟨r,rfl⟩ : ∃ q,i = q + 1:=⟨i - 1,by omega⟩
  have e1 : decide (((r + 1 : Nat) : Int) < ((U5 c.Box k n).length : Int)) = true:=by rw [JN]; simp only [decide_eq_true_eq]; omega
  have e3 : wr (((U5 c.Box k n).length : Int) - 1) = (n : Int):=by rw [JN,YS (by omega)]; omega
  have hb:=kT ⟨YB c⟩ (vf 16 (Bv c k f n r),((r + 1 : Nat) : Int)) (Bv c k f n r) rfl
  have hmv:=v_move c.Places hp (zc c.Box (Bv c k f n r))
  have YL:=v_mix c.Field.toNat (Al c.Mix) (Hb c.Places (zc c.Box (Bv c k f n r)))
  have hsl : ∀ g : Nat → UInt8,slc (vf 16 g).toList (0 : Int) (16 : Int) = some (vf 16 g).toList:=fun g=>by
   have:=HL (l:=(vf 16 g).toList) (i:=0) (j:=16) (by omega) (by simp)
   simp only [List.drop_zero] at this
   rw [List.take_of_length_le (by simp)] at this
   exact this
  have q1 : (YB c).box = c.Box:=rfl
  have q2 : (YB c).places = c.Places:=rfl
  have q3 : (YB c).mixer = ⟨Ai c.Field.toNat (Al c.Mix)⟩:=rfl
  simp only [q1] at hb
  simp only [Nat.add_sub_cancel,e1,if_true,hb,Option.bind_some,q2,q3,hmv,e3,hsl,YL,H8 c.Box k (show r + 1 ≤ n by omega),Xf (show r + 1 < 9223372036854775807 by omega)]
  by_cases hr : r + 1 < n
  ·have e2 : decide (((r + 1 : Nat) : Int) < (n : Int)) = true:=by simp only [decide_eq_true_eq]; omega
   simp only [e2,if_true,Option.bind_some,Qn,Bv,zo,hr]
  ·have e2 : decide (((r + 1 : Nat) : Int) < (n : Int)) = false:=by simp only [decide_eq_false_iff_not]; omega
   simp only [e2,Bool.false_eq_true,if_false,Option.bind_some,Qn,Bv,zo,hr]) (by
  unfold YJ
  have e1 : decide (((n + 1 : Nat) : Int) < ((U5 c.Box k n).length : Int)) = false:=by rw [JN]; simp only [decide_eq_false_iff_not]; omega
  simp only [e1,Bool.false_eq_true,if_false,Nat.add_sub_cancel,jl])
 have h3 : ZB (YJ ⟨YB c⟩ (U5 c.Box k n)) (vf 16 (HW f k),1) = _:=this
 rw [h3]; rfl
theorem HZ (c : GCipher) (h : YI c = true) (k f : Nat → UInt8) : YQ ⟨YB c⟩ (vf 16 k) (vf 16 f) = some (vf 16 (jl c k f c.Rounds.toNat)):=by
 have hr:=J6 h
 obtain ⟨n,hn⟩ : ∃ n : Nat,c.Rounds = n:=⟨c.Rounds.toNat,by omega⟩
 have e1 : (YB c).rounds = (n : Int):=hn
 have e2 : (YB c).box = c.Box:=rfl
 have hk:=v_keys ⟨YB c⟩ k n (by omega)
 rw [e2] at hk
 unfold YQ
 simp only [e1,hk,Option.bind_some,zE c h k f n (by omega),hn,Int.toNat_natCast]
theorem HO (c : GCipher) (h : YI c = true) (k f : Nat → UInt8) : Xu c (vf 16 k) (vf 16 f) c.Rounds = some (vf 16 (jl c k f c.Rounds.toNat)):=by
 have hr:=J6 h
 obtain ⟨n,hn⟩ : ∃ n : Nat,c.Rounds = n:=⟨c.Rounds.toNat,by omega⟩
 rw [hn]
 exact z4 c h k f n (by omega)
theorem yF (x : Nat) : UInt8.ofNat (x % 256) = UInt8.ofNat x:=by
 apply UInt8.toNat_inj.1; simp
def tab (n : Nat) (f : Nat → UInt8) : List UInt8:=(List.range n).map f
@[simp] theorem tab_len (n : Nat) (f : Nat → UInt8) : (tab n f).length = n:=by simp [tab]
theorem Zct {α : Type} (by_ : Nat) (z : α) (n : Nat) (h : n * by_ ≤ 140737488355328) (hby : 0 < by_) :
  ((if (decide ((n : Int) < 0)) = true then (none) else (some ()) : Option (Unit)).bind fun (_ : Unit)=>(if (decide ((wr ((n : Int) - (wr (0 - 0)))) > 0)) = true then ((mkS by_ z (wr ((n : Int) - (wr (0 - 0))))).bind fun (l14 : List α)=>(slc l14 (0 : Int) (0 : Int)).bind fun (l16 : List α)=>some l16) else (some ([])) : Option (List α)).bind fun (j6 : List α)=>some j6) = some []:=by
 have hn : n ≤ 140737488355328:=Nat.le_trans (Nat.le_mul_of_pos_right _ hby) h
 have e0 : wr (0 - 0) = 0:=by decide
 have e1 : wr ((n : Int) - (wr (0 - 0))) = (n : Int):=by rw [e0,YS (by omega)]; omega
 have e2 : ¬ ((n : Int) < 0):=by omega
 rw [e1]
 simp only [e2,decide_false,Bool.false_eq_true,if_false,Option.bind_some]
 by_cases h3 : (n : Int) > 0
 ·have hm : mkS by_ z (n : Int) = some (List.replicate n z):=by
   have h4 : ((n * by_ : Nat) : Int) ≤ 140737488355328:=by omega
   rw [Int.natCast_mul] at h4
   unfold mkS
   rw [if_pos ⟨by omega,h4⟩,Int.toNat_natCast]
  have hs : slc (List.replicate n z) (0 : Int) (0 : Int) = some []:=by
   have:=HL (l:=List.replicate n z) (i:=0) (j:=0) (Nat.le_refl _) (Nat.zero_le _)
   simpa using this
  simp [h3,hm,hs]
 ·have h4 : decide ((n : Int) > 0) = false:=by simp only [decide_eq_false_iff_not]; exact h3
  simp only [h4,Bool.false_eq_true,if_false,Option.bind_some]
theorem y6 {α : Type} (by_ : Nat) (p0 : List (List α)) (L0 : Int × Int → Option (Fl (Int × Int) Int)) (L1 : Int × List α → Option (Fl (Int × List α) (List α)))
  (h0 : ∀ s,L0 s = if (decide (s.1 < (p0.length : Int))) = true then (((idx p0 s.1).bind fun (x : List α)=>(if (decide ((wr (s.2 + (x.length : Int))) < 0)) = true then (none) else (some ()) : Option (Unit)).bind fun (_ : Unit)=>some (wr (s.2 + (x.length : Int))) : Option (Int)).bind fun (j : Int)=>some (Fl.nx (wr (s.1 + 1),j))) else (some (Fl.ex s.2)))
  (h1 : ∀ s,L1 s = if (decide (s.1 < (p0.length : Int))) = true then ((idx p0 s.1).bind fun (x : List α)=>(app by_ s.2 x).bind fun (_ : List α)=>some (Fl.nx (wr (s.1 + 1),(s.2 ++ x)))) else (some (Fl.ex s.2)))
  (hl : p0.flatten.length * by_ ≤ 140737488355328) (hby : 0 < by_) (hn : p0.length < 9223372036854775807) :
  ZB L0 (0,0) = some (p0.flatten.length : Int) ∧ ZB L1 (0,[]) = some p0.flatten:=by
 have hlen : p0.flatten.length ≤ 140737488355328:=Nat.le_trans (Nat.le_mul_of_pos_right _ hby) hl
 have hstep : ∀ i (hi : i < p0.length),(p0.take (i + 1)).flatten = (p0.take i).flatten ++ p0[i]:=fun i hi=>by
  rw [List.take_succ_eq_append_getElem hi,List.flatten_append]; simp
 have hle : ∀ i,(p0.take i).flatten.length ≤ p0.flatten.length:=fun i=>by
  have : p0.flatten = (p0.take i).flatten ++ (p0.drop i).flatten:=by rw [← List.flatten_append,List.take_append_drop]
  rw [this,List.length_append]; omega
 constructor
 ·have:=Z1 (f:=L0) (fun i : Nat=>((i : Int),((p0.take i).flatten.length : Int))) 0 p0.length (Nat.zero_le _) (t:=(p0.flatten.length : Int)) (fun i _ hi=>by
   have hs:=congrArg List.length (hstep i hi)
   rw [List.length_append] at hs
   have h3:=hle (i + 1)
   have e1 : wr (((p0.take i).flatten.length : Int) + (p0[i].length : Int)) = ((p0.take (i + 1)).flatten.length : Int):=by rw [YS (by omega)]; omega
   have e2 : ¬ (((p0.take (i + 1)).flatten.length : Int) < 0):=by omega
   rw [h0]
   simp only [Int.ofNat_lt,hi,decide_true,if_true,Yz,List.getElem?_eq_getElem hi,Option.bind_some,e1,e2,decide_false,Bool.false_eq_true,if_false,Xf (show i < 9223372036854775807 by omega)]) (by
   rw [h0]; simp)
  exact this
 ·have:=Z1 (f:=L1) (fun i : Nat=>((i : Int),(p0.take i).flatten)) 0 p0.length (Nat.zero_le _) (t:=p0.flatten) (fun i _ hi=>by
   have hs:=congrArg List.length (hstep i hi)
   rw [List.length_append] at hs
   have h3:=hle (i + 1)
   have hap : app by_ (p0.take i).flatten p0[i] = some ((p0.take i).flatten ++ p0[i]):=YP (by
    have : ((p0.take i).flatten.length + p0[i].length) * by_ ≤ p0.flatten.length * by_:=Nat.mul_le_mul_right _ (by omega)
    omega)
   rw [h1]
   simp only [Int.ofNat_lt,hi,decide_true,if_true,Yz,List.getElem?_eq_getElem hi,Option.bind_some,hap,Xf (show i < 9223372036854775807 by omega),hstep i hi]) (by
   rw [h1]; simp)
  exact this
def Hh (k : Nat) (b : UInt8) : UInt8:=shlB b (k : Int) ||| zb b ((8 - k : Nat) : Int)
theorem v_rot1 (b : UInt8) : Yx b 1 = some (Hh 1 b):=by
 have e1 : wru (BitVec.ofInt 64 (IntKind.u64.wrap 1) &&& BitVec.ofInt 64 7).toNat = 1:=by decide +kernel
 have e2 : IntKind.u64.wrap (8 - 1) = 7:=by decide +kernel
 have e3 : Wm 1 = some ():=rfl
 have e4 : Wm 7 = some ():=rfl
 unfold Yx
 simp only [e1,e2,e3,e4,Option.bind_some]
 rfl
theorem v_rot4 (b : UInt8) : Yx b 4 = some (Hh 4 b):=by
 have e1 : wru (BitVec.ofInt 64 (IntKind.u64.wrap 4) &&& BitVec.ofInt 64 7).toNat = 4:=by decide +kernel
 have e2 : IntKind.u64.wrap (8 - 4) = 4:=by decide +kernel
 have e3 : Wm 4 = some ():=rfl
 unfold Yx
 simp only [e1,e2,e3,Option.bind_some]
 rfl
def zy (k : Nat) (b : UInt8) : UInt8:=Zr (Q7 (orI (zZ (bI b) (k : Int)) (Vy (zZ (bI b) (k : Int)) 8)) 255)
theorem AZ {p : UInt8 → Bool} (h : ((List.range 256).all fun n=>p (UInt8.ofNat n)) = true) (b : UInt8) : p b = true:=by
 have:=List.all_eq_true.1 h b.toNat (by simpa using UInt8.toNat_lt b)
 simpa using this
theorem turn0 (b : UInt8) : zy 0 b = b:=by
 have:=AZ (p:=fun b=>zy 0 b == b) (by decide +kernel) b
 simpa using this
theorem turn1 (b : UInt8) : zy 1 b = Hh 1 b:=by
 have:=AZ (p:=fun b=>zy 1 b == Hh 1 b) (by decide +kernel) b
 simpa using this
theorem turn4 (b : UInt8) : zy 4 b = Hh 4 b:=by
 have:=AZ (p:=fun b=>zy 4 b == Hh 4 b) (by decide +kernel) b
 simpa using this
theorem kG (b : UInt8) (k : Nat) (h : k < 64) : Wj b (k : Int) = some (zy k b):=by
 have e1 : IntKind.u64.wrap (k : Int) = (k : Int):=Zcl k (by omega)
 unfold Wj
 rw [e1]
 have e2 : Wm (k : Int) = some ():=by unfold Wm; rw [if_pos (by omega)]
 rw [e2]; rfl
def zp (x : UInt8) : UInt8:=((Kn 285 x ^^^ Hh 1 (Kn 285 x)) ^^^ Hh 4 (Kn 285 x)) ^^^ 90
def YT (n : Int) : GCipher:=⟨285,vf 256 fun x=>zp (UInt8.ofNat x),mf fun i j=>Kn 285 (UInt8.ofNat (i ^^^ (4 + j))),vf 16 fun i=>UInt8.ofNat ((13 * i + 4) % 16),n⟩
theorem jq {i : Nat} (h : i < 256) : decide ((i : Int) < 256) = true:=by simp; omega
theorem AQ (L : Vector UInt8 256 × Int → Option (Fl (Vector UInt8 256 × Int) (Vector UInt8 256))) (h : Nat → UInt8) (hL : ∀ i : Nat,i < 256 → ∀ a : Nat → UInt8,L (vf 256 a,(i : Int)) = some (.nx ((vf 256 a).setIfInBounds i (h i),wr ((i : Int) + 1))))
  (he : ∀ v,L (v,256) = some (.ex v)) : ZB L (Vector.replicate 256 0,0) = some (vf 256 h):=by
 rw [Ql]
 exact WF L (fun _=>0) h (by omega) 0 (by omega) (fun j hj=>by omega) (fun i _ hi a _ _=>hL i hi a) he
theorem jC (E : UInt8 → Option UInt8) (hE : ∀ a,E a = some (Kn 285 a)) (L1 : Mat × Int → Mat × Int → Option (Fl (Mat × Int) Mat)) (L0 : Mat × Int → Option (Fl (Mat × Int) Mat))
  (h1 : ∀ s t,L1 s t = if (decide (t.2 < 4)) = true then ((E (Zr (BF s.2 (wr (4 + t.2))))).bind fun r=>(ZH t.1 s.2).bind fun x=>(ZH x t.2).bind fun _=>some (Fl.nx ((t.1.setIfInBounds (s.2).toNat (x.setIfInBounds (t.2).toNat r)),wr (t.2 + 1)))) else (some (Fl.ex t.1)))
  (h0 : ∀ s,L0 s = if (decide (s.2 < 4)) = true then ((ZB (L1 s) (s.1,0) : Option Mat).bind fun j=>some (Fl.nx (j,wr (s.2 + 1)))) else (some (Fl.ex s.1))) :
  ZB L0 (Vector.replicate 4 (Vector.replicate 4 (0 : UInt8)),0) = some (mf fun i j=>Kn 285 (UInt8.ofNat (i ^^^ (4 + j)))):=by
 have inner : ∀ (i : Nat) (hi : i < 4) (g : MF),ZB (L1 (mf g,(i : Int))) (mf g,0) = some (mf fun r c=>if r = i then Kn 285 (UInt8.ofNat (i ^^^ (4 + c))) else g r c):=by
  intro i hi g
  have:=Z1 (f:=L1 (mf g,(i : Int))) (fun j : Nat=>(mf fun r c=>if r = i ∧ c < j then Kn 285 (UInt8.ofNat (i ^^^ (4 + c))) else g r c,(j : Int))) 0 4 (by omega) (t:=mf fun r c=>if r = i then Kn 285 (UInt8.ofNat (i ^^^ (4 + c))) else g r c) (fun j _ hj=>by
   have e1 : wr (4 + (j : Int)) = ((4 + j : Nat) : Int):=by rw [YS (by omega)]; omega
   rw [h1]
   simp only [lt4 hj,if_true,e1,Ju i (4 + j) (by omega) (by omega),XY,hE,Option.bind_some,TN _ hi,ZT _ hj,Int.toNat_natCast,Qx,HB,wr4 (show j < 1000 by omega)]
   refine congrArg (fun z=>some (Fl.nx (z,((j + 1 : Nat) : Int)))) (Vv fun r _ c _=>?_)
   by_cases hr : r = i
   ·subst hr
    by_cases hc : c = j
    ·subst hc; simp
    ·by_cases hc2 : c < j
     ·simp [hc,hc2,show c < j + 1 by omega]
     ·simp [hc,hc2,show ¬ c < j + 1 by omega]
   ·simp [hr]) (by
   rw [h1]
   simp only [show decide (((4 : Nat) : Int) < 4) = false from rfl,Bool.false_eq_true,if_false]
   refine congrArg (fun z=>some (Fl.ex z)) (Vv fun r _ c hc=>?_)
   by_cases hr : r = i <;> simp [hr,hc])
  have e0 : (mf fun r c=>if r = i ∧ c < 0 then Kn 285 (UInt8.ofNat (i ^^^ (4 + c))) else g r c) = mf g:=Vv fun r _ c _=>by simp
  simp only [e0] at this
  exact this
 have:=Z1 (f:=L0) (fun i : Nat=>(mf fun r c=>if r < i then Kn 285 (UInt8.ofNat (r ^^^ (4 + c))) else 0,(i : Int))) 0 4 (by omega) (t:=mf fun i j=>Kn 285 (UInt8.ofNat (i ^^^ (4 + j)))) (fun i _ hi=>by
  rw [h0]
  simp only [lt4 hi,if_true,inner i hi,Option.bind_some,wr4 (show i < 1000 by omega)]
  refine congrArg (fun z=>some (Fl.nx (z,((i + 1 : Nat) : Int)))) (Vv fun r _ c _=>?_)
  by_cases hr : r = i
  ·subst hr; simp
  ·by_cases hc2 : r < i
   ·simp [hr,hc2,show r < i + 1 by omega]
   ·simp [hr,hc2,show ¬ r < i + 1 by omega]) (by
  rw [h0]
  simp only [show decide (((4 : Nat) : Int) < 4) = false from rfl,Bool.false_eq_true,if_false]
  exact congrArg (fun z=>some (Fl.ex z)) (Vv fun r hr c hc=>by simp [hr]))
 have e0 : (mf fun r c=>if r < 0 then Kn 285 (UInt8.ofNat (r ^^^ (4 + c))) else 0) = mf fun _ _=>0:=Vv fun r _ c _=>by simp
 simp only [e0] at this
 rw [ji]
 exact this
theorem A8 (L : Blk × Int → Option (Fl (Blk × Int) Blk))
  (hL : ∀ s,L s = if (decide (s.2 < 16)) = true then ((ZH s.1 s.2).bind fun _=>some (Fl.nx ((s.1.setIfInBounds (s.2).toNat (Zr (Int.tmod (wr ((wr (13 * s.2)) + 4)) 16))),wr (s.2 + 1)))) else (some (Fl.ex s.1))) :
  ZB L (Vector.replicate 16 0,0) = some (vf 16 fun i=>UInt8.ofNat ((13 * i + 4) % 16)):=by
 rw [Ql]
 exact WF L (fun _=>0) (fun i=>UInt8.ofNat ((13 * i + 4) % 16)) (by omega) 0 (by omega) (fun j hj=>by omega) (fun i _ hi a _ _=>by
  have e1 : wr (13 * (i : Int)) = 13 * (i : Int):=YS (by omega)
  have e2 : wr (13 * (i : Int) + 4) = ((13 * i + 4 : Nat) : Int):=by rw [YS (by omega)]; omega
  have e3 : Int.tmod ((13 * i + 4 : Nat) : Int) 16 = (((13 * i + 4) % 16 : Nat) : Int):=by rw [Int.tmod_eq_emod_of_nonneg (by omega)]; omega
  rw [hL]
  simp only [Ho hi,if_true,ZT _ hi,Option.bind_some,e1,e2,e3,XY,Int.toNat_natCast]) (fun v=>by rw [hL]; simp)
theorem zV (n : Int) : Vx n = some (YT n):=by
 have hinv : ∀ a,YD 285 a = some (Kn 285 a):=fun a=>Jh 285 (by omega) a
 have h1:=AQ WT (fun x=>zp (UInt8.ofNat x)) (fun i hi a=>by
  unfold WT
  simp only [jq hi,if_true,XY,hinv,v_rot1,v_rot4,Option.bind_some,ZT _ hi,Int.toNat_natCast]
  rfl) (fun v=>by unfold WT; simp)
 have h2:=jC (YD 285) hinv Ub V8 (fun s t=>by unfold Ub; rfl) (fun s=>by unfold V8; rfl)
 have h3:=A8 V6 (fun s=>by unfold V6; rfl)
 unfold Vx YT
 simp only [h1,h2,h3,Option.bind_some]
theorem Zc0 (L : UInt8 × UInt8 × Int → Option (Fl (UInt8 × UInt8 × Int) UInt8)) (T : UInt8 → UInt8 → Option UInt8) (hT : ∀ a b,T a b = some (Yg 285 a b))
  (hL : ∀ s,L s = if (decide (s.2.2 > 0)) = true then (((if ((Int.tmod s.2.2 2) == 1) = true then ((T s.1 s.2.1).bind fun r=>some r) else (some s.1) : Option UInt8).bind fun j24=>(T s.2.1 s.2.1).bind fun r32=>some (j24,r32) : Option (UInt8 × UInt8)).bind fun j21=>some (Fl.nx (j21.1,j21.2,wr (Int.tdiv s.2.2 2)))) else (some (Fl.ex s.1))) :
  ∀ (f k : Nat) (a o : UInt8),k < 2 ^ f → f ≤ 62 → ZB L (o,a,(k : Int)) = some (AA 285 f a k o):=by
 intro f
 induction f with
 | zero =>
  intro k a o hk _
  have : k = 0:=by simpa using hk
  subst this
  exact WG (by rw [hL]; simp [AA])
 | succ f ih =>
  intro k a o hk hf
  by_cases h0 : k = 0
  ·subst h0
   exact WG (by rw [hL]; simp [AA])
  ·have hlt : k < 9223372036854775808:=Nat.lt_of_lt_of_le hk (Nat.pow_le_pow_right (by omega : 0 < 2) (by omega : f + 1 ≤ 63))
   have hst : L (o,a,(k : Int)) = some (.nx (if k % 2 = 1 then Yg 285 o a else o,Yg 285 a a,((k / 2 : Nat) : Int))):=by
    rw [hL]
    have c1 : (k : Int) > 0:=by omega
    have e3 : ((((k % 2 : Nat) : Int)) == 1) = decide (k % 2 = 1):=by
     rw [Bool.eq_iff_iff,beq_iff_eq,decide_eq_true_eq]; omega
    simp only [c1,decide_true,if_true,Zbp,Zco,hT,e3,Option.bind_some,qW (k / 2) (by omega)]
    by_cases c2 : k % 2 = 1 <;> simp [c2]
   rw [WZ hst,ih (k / 2) _ _ (by rw [Nat.pow_succ] at hk; omega) (by omega)]
   conv=>rhs; unfold AA
   rw [if_neg h0]
theorem k7 : UQ 285 254 = some (vf 256 fun x=>Kn 285 (UInt8.ofNat x)):=by
 have hp:=Zc0 (Uy 285) (Xb 285) (Hu 285 (by omega) (by omega)) (fun s=>by unfold Uy; rfl)
 have hp2 : ∀ a,ZB (Uy 285) (1,a,254) = some (Kn 285 a):=fun a=>hp 8 254 a 1 (by omega) (by omega)
 have h1:=AQ (Up 285 254) (fun x=>Kn 285 (UInt8.ofNat x)) (fun i hi a=>by
  unfold Up
  simp only [jq hi,if_true,XY,hp2,Option.bind_some,ZT _ hi,Int.toNat_natCast]) (fun v=>by unfold Up; simp)
 unfold UQ
 simp only [h1,Option.bind_some]
def rots (x : UInt8) : UInt8:=((90 ^^^ x) ^^^ Hh 1 x) ^^^ Hh 4 x
theorem A5 : WW ([0,1,4] : List Int) 90 = some (vf 256 fun x=>rots (UInt8.ofNat x)):=by
 have t0 : ∀ b,Wj b 0 = some b:=fun b=>by have:=kG b 0 (by omega); rw [turn0] at this; exact this
 have t1 : ∀ b,Wj b 1 = some (Hh 1 b):=fun b=>by have:=kG b 1 (by omega); rw [turn1] at this; exact this
 have t4 : ∀ b,Wj b 4 = some (Hh 4 b):=fun b=>by have:=kG b 4 (by omega); rw [turn4] at this; exact this
 have w1 : wr 1 = 1:=by decide
 have w2 : wr 2 = 2:=by decide
 have w3 : wr 3 = 3:=by decide
 have hin : ∀ (s : Vector UInt8 256 × Int),ZB (Yt [0,1,4] s) (90,0) = some (rots (Zr s.2)):=by
  intro s
  rw [WZ (f:=Yt [0,1,4] s) (s:=(90,0)) (s':=(90 ^^^ Zr s.2,1)) (by unfold Yt; simp [t0,w1,idx])]
  rw [WZ (f:=Yt [0,1,4] s) (s':=((90 ^^^ Zr s.2) ^^^ Hh 1 (Zr s.2),2)) (by unfold Yt; simp [t1,w2,idx])]
  rw [WZ (f:=Yt [0,1,4] s) (s':=(((90 ^^^ Zr s.2) ^^^ Hh 1 (Zr s.2)) ^^^ Hh 4 (Zr s.2),3)) (by unfold Yt; simp [t4,w3,idx])]
  exact WG (by unfold Yt; simp; rfl)
 have h1:=AQ (We [0,1,4] 90) (fun x=>rots (UInt8.ofNat x)) (fun i hi a=>by
  unfold We
  simp only [jq hi,if_true,hin,XY,Option.bind_some,ZT _ hi,Int.toNat_natCast]) (fun v=>by unfold We; simp)
 unfold WW
 simp only [h1,Option.bind_some]
theorem Zad (f g : Nat → UInt8) : Tq (vf 256 f) (vf 256 g) = some (vf 256 fun x=>g (f x).toNat):=by
 have hv : ∀ x : UInt8,ZH (vf 256 g) (bI x) = some (g x.toNat):=fun x=>ZT g (UInt8.toNat_lt x)
 have h1:=AQ (U4 (vf 256 f) (vf 256 g)) (fun x=>g (f x).toNat) (fun i hi a=>by
  unfold U4
  simp only [jq hi,if_true,Option.bind_some,ZT _ hi,hv,Int.toNat_natCast]) (fun v=>by unfold U4; simp)
 unfold Tq
 simp only [h1,Option.bind_some]
theorem qb (x : UInt8) : rots (UInt8.ofNat (Kn 285 x).toNat) = zp x:=by
 rw [UInt8.ofNat_toNat]
 unfold rots zp
 ac_rfl
theorem kF (n : Int) : UY n = some (YT n):=by
 have hinv : ∀ a,V1 285 a = some (Kn 285 a):=fun a=>Zbx 285 (by omega) (by omega) a
 have h2:=jC (V1 285) hinv TP TL (fun s t=>by unfold TP; rfl) (fun s=>by unfold TL; rfl)
 have h3:=A8 TI (fun s=>by unfold TI; rfl)
 unfold UY YT
 simp only [k7,A5,Zad,qb,h2,h3,Option.bind_some]

theorem JW {α : Type} (n : Nat) (f : Nat → α) : (vf n f).toList = (List.range n).map f:=by
 apply List.ext_getElem
 ·simp
 ·intro i h1 h2
  simp at h1
  rw [Vector.getElem_toList,K4 f h1]; simp
theorem Zaq : Zbl ((List.range 256).map fun x=>zp (UInt8.ofNat x)) = true:=by decide +kernel
theorem jX : Q9 (vf 16 fun i=>UInt8.ofNat ((13 * i + 4) % 16)) = true:=by
 unfold Q9
 rw [JW]
 decide +kernel
theorem jH : H6 285 = true:=by decide +kernel
theorem Zae : (detC 285 (mf fun i j=>Kn 285 (UInt8.ofNat (i ^^^ (4 + j)))) != 0) = true:=by decide +kernel
theorem kk (n : Int) (h : 1 ≤ n ∧ n ≤ 20) : YI (YT n) = true:=by
 unfold YI YT
 simp only [JW,Zaq,jX,jH,Bool.true_and,h,decide_true,Bool.and_true,and_self]
 exact Zae
theorem K6 (p0 : List (List UInt8)) (hl : p0.flatten.length ≤ 140737488355328) (hn : p0.length < 9223372036854775807) : Ya p0 = some p0.flatten:=by
 obtain ⟨a1,a2⟩:=y6 1 p0 (XI p0) (XL p0) (fun s=>by unfold XI; rfl) (fun s=>by unfold XL; rfl) (by omega) (by omega) hn
 have hg : YZ (p0.flatten.length : Int) = some []:=by
  unfold YZ
  exact Zct 1 _ _ (by omega) (by omega)
 unfold Ya
 simp only [a1,a2,hg,Option.bind_some]
theorem Qp (l : List UInt8) (h : l.length ≤ 140737488355328) : ZS l = some l:=by
 unfold ZS
 rw [YP (by simp; omega)]; rfl
theorem KQ (l : List UInt8) (h : l.length ≤ 140737488355328) : Xa l = some l:=by
 unfold Xa
 rw [YP (by simp; omega)]; rfl
theorem zC {l : List UInt8} {n : Nat} (h : n ≤ l.length) : QH n l = some (vf n fun j=>l.getD j 0):=by
 unfold QH
 rw [dif_pos h]
 refine congrArg some (T9 fun i hi=>?_)
 rw [K4 _ hi,List.getD_eq_getElem?_getD,List.getElem?_eq_getElem (by omega)]
 simp
theorem kA {l : List UInt8} {i j : Nat} (h : i ≤ j) (h2 : j ≤ l.length) : ∃ r,slc l (i : Int) (j : Int) = some r ∧ r.length = j - i ∧ ∀ k,k < j - i → r.getD k 0 = l.getD (i + k) 0:=by
 refine ⟨_,HL h h2,by simp; omega,fun k hk=>?_⟩
 rw [List.getD_eq_getElem?_getD,List.getD_eq_getElem?_getD,List.getElem?_drop,List.getElem?_take,if_pos (by omega)]

def beL (n : Int) : Nat → List UInt8
 | 0=>[]
 | k + 1=>Zr (Vy n ((8 * k : Nat) : Int)) :: beL n k
theorem Td (n : Int) : ∀ k,(beL n k).length = k
 | 0=>rfl
 | k + 1=>by rw [beL,List.length_cons,Td n k]
theorem qO (n : Int) (L : List UInt8 × Int → Option (Fl (List UInt8 × Int) (List UInt8))) (K : Nat)
  (hL : ∀ (k : Nat) (acc : List UInt8),k < K → acc.length ≤ 100000000 → L (acc,(k : Int)) = some (.nx (acc ++ [Zr (Vy n ((8 * k : Nat) : Int))],(k : Int) - 1))) (he : ∀ acc,L (acc,-1) = some (.ex acc)) :
  ∀ (k : Nat) (acc : List UInt8),k ≤ K → acc.length + k ≤ 100000000 → ZB L (acc,(k : Int) - 1) = some (acc ++ beL n k):=by
 intro k
 induction k with
 | zero=>intro acc _ _; rw [show ((0 : Nat) : Int) - 1 = -1 from rfl,WG (he acc)]; simp [beL]
 | succ k ih =>
  intro acc hk hl
  have e : ((k + 1 : Nat) : Int) - 1 = (k : Int):=by omega
  rw [e,WZ (hL k acc (by omega) (by omega)),ih _ (by omega) (by simp; omega)]
  simp [beL]
theorem JD (n : Int) (m : Nat) (hm : m ≤ 100) : YW n (m : Int) = some (beL n m):=by
 have h:=qO n (VS n) 100 (fun k acc hk hl=>by
  unfold VS
  have e1 : wr (8 * (k : Int)) = ((8 * k : Nat) : Int):=by rw [YS (by omega)]; omega
  have e2 : Wm ((8 * k : Nat) : Int) = some ():=by unfold Wm; rw [if_pos (by omega)]
  have e3 : wr ((k : Int) - 1) = (k : Int) - 1:=YS (by omega)
  have e4 : decide ((k : Int) ≥ 0) = true:=by simp
  simp only [e1,e2,e3,e4,if_true,Option.bind_some]
  rw [YP (by simp; omega)]; rfl) (fun acc=>by unfold VS; simp) m [] hm (by simp; omega)
 have e : wr ((m : Int) - 1) = (m : Int) - 1:=YS (by omega)
 unfold YW
 rw [e,h]; rfl
theorem Zbw (x : Int) : Zr (Q7 x 255) = Zr x:=by
 have h1 : (BitVec.ofInt 64 255) = (255 : BitVec 64):=rfl
 have h2 : (BitVec.ofInt 64 x &&& BitVec.ofInt 64 255).toNat = (x % 256).toNat:=by
  rw [BitVec.toNat_and,h1,show (255 : BitVec 64).toNat = 2 ^ 8 - 1 from rfl,Nat.and_two_pow_sub_one_eq_mod,BitVec.toNat_ofInt]
  omega
 unfold Q7 Zr
 rw [h2,YS (by omega)]
 congr 1
 omega
theorem yn (n : Int) : Uw n = some (beL n 4):=by
 have e0 : Vy n 0 = n:=by unfold Vy; simp
 unfold Uw
 simp only [Zbw]
 have : beL n 4 = [Zr (Vy n 24),Zr (Vy n 16),Zr (Vy n 8),Zr (Vy n 0)]:=rfl
 rw [this,e0]

def Ul (n : Nat) : Nat:=(24 - n % 16) % 16
def Jr (d : List UInt8) : List UInt8:=((d ++ [128]) ++ List.replicate (Ul (d.length + 1)) 0) ++ beL (d.length : Int) 8
theorem ko (d : List UInt8) : ∃ n,(Jr d).length = 16 * n ∧ n ≤ d.length + 2:=by
 have : (Jr d).length = d.length + 1 + Ul (d.length + 1) + 8:=by simp [Jr,Td]; omega
 refine ⟨(d.length + 1 + Ul (d.length + 1) + 8) / 16,?_,?_⟩
 ·rw [this]; unfold Ul; omega
 ·unfold Ul; omega
theorem jR (L : List UInt8 → Option (Fl (List UInt8) (List UInt8))) (hL : ∀ s,L s = if ((Int.tmod (s.length : Int) 16) != 8) = true then ((app 1 s ([0] : List UInt8)).bind fun (_ : List UInt8)=>some (Fl.nx (s ++ ([0] : List UInt8)))) else (some (Fl.ex s)))
  (l : List UInt8) (hl : l.length ≤ 100000000) : ZB L l = some (l ++ List.replicate (Ul l.length) 0):=by
 have ht : ∀ n : Nat,Int.tmod (n : Int) 16 = ((n % 16 : Nat) : Int):=fun n=>by rw [Int.tmod_eq_emod_of_nonneg (by omega)]; omega
 have:=Z1 (f:=L) (fun i : Nat=>l ++ List.replicate i 0) 0 (Ul l.length) (Nat.zero_le _) (t:=l ++ List.replicate (Ul l.length) 0) (fun i _ hi=>by
  rw [hL,ht]
  have hz : Ul l.length < 16:=by unfold Ul; omega
  have e : ((((l ++ List.replicate i 0).length % 16 : Nat) : Int) != 8) = true:=by
   simp only [List.length_append,List.length_replicate,bne_iff_ne,ne_eq]
   unfold Ul at hi; omega
  rw [e,if_pos rfl,YP (by simp; omega)]
  simp [List.replicate_succ']) (by
  rw [hL,ht]
  have e : ((((l ++ List.replicate (Ul l.length) 0).length % 16 : Nat) : Int) != 8) = false:=by
   simp only [List.length_append,List.length_replicate,bne_eq_false_iff_eq]
   unfold Ul; omega
  rw [e]; rfl)
 simpa using this
theorem yZ (d : List UInt8) (h : d.length ≤ 10000000) : VT d = some (Jr d):=by
 have h1:=jR UI (fun s=>by unfold UI; rfl) (d ++ [128]) (by simp; omega)
 have h2:=JD (d.length : Int) 8 (by omega)
 have h3 : YW (d.length : Int) 8 = some (beL (d.length : Int) 8):=h2
 have hz : Ul (d.length + 1) < 16:=by unfold Ul; omega
 have e : (d ++ [128]).length = d.length + 1:=by simp
 rw [e] at h1
 unfold VT Jr
 rw [Qp d (by omega),Option.bind_some,YP (by simp; omega),Option.bind_some,h1,Option.bind_some,h3,Option.bind_some,YP (by simp [Td]; omega)]
 rfl
theorem Zb8 (d : List UInt8) (h : d.length ≤ 10000000) : T3 d = some (Jr d):=by
 have h1:=jR Qs (fun s=>by unfold Qs; rfl) (d ++ [128]) (by simp; omega)
 have hz : Ul (d.length + 1) < 16:=by unfold Ul; omega
 have e : (d ++ [128]).length = d.length + 1:=by simp
 rw [e] at h1
 have h2:=qO (d.length : Int) (Ux d) 100 (fun k acc hk hl=>by
  unfold Ux
  have e1 : wr (8 * (k : Int)) = ((8 * k : Nat) : Int):=by rw [YS (by omega)]; omega
  have e5 : IntKind.u64.wrap ((8 * k : Nat) : Int) = ((8 * k : Nat) : Int):=Zcl _ (by omega)
  have e2 : Wm ((8 * k : Nat) : Int) = some ():=by unfold Wm; rw [if_pos (by omega)]
  have e3 : wr ((k : Int) - 1) = (k : Int) - 1:=YS (by omega)
  have e4 : decide ((k : Int) ≥ 0) = true:=by simp
  simp only [e1,e5,e2,e3,e4,if_true,Option.bind_some,Zbw]
  rw [YP (by simp; omega)]; rfl) (fun acc=>by unfold Ux; simp) 8 ((d ++ [128]) ++ List.replicate (Ul (d.length + 1)) 0) (by omega) (by simp; omega)
 have h3 : ZB (Ux d) ((d ++ [128]) ++ List.replicate (Ul (d.length + 1)) 0,7) = some (((d ++ [128]) ++ List.replicate (Ul (d.length + 1)) 0) ++ beL (d.length : Int) 8):=h2
 unfold T3 Jr
 rw [KQ d (by omega),Option.bind_some,YP (by simp; omega),Option.bind_some,h1,Option.bind_some,h3]
 rfl

def qI (l : List UInt8) (i : Nat) : Blk:=vf 16 fun j=>l.getD (16 * i + j) 0
def WK (l : List UInt8) (n : Nat) : List Blk:=(List.range n).map (qI l)
theorem Ks (l : List UInt8) (n : Nat) : (WK l n).length = n:=by simp [WK]
theorem HP (l : List UInt8) (n : Nat) : WK l (n + 1) = WK l n ++ [qI l n]:=by simp [WK,List.range_succ]
theorem kI (l : List UInt8) (n : Nat) (hl : l.length = 16 * n) (hn : n ≤ 100000000) : UZ l = some (WK l n):=by
 have:=Z1 (f:=Vf l) (fun i : Nat=>(WK l i,((16 * i : Nat) : Int))) 0 n (Nat.zero_le _) (t:=WK l n) (fun i _ hi=>by
  unfold Vf
  have e1 : wr (((16 * i : Nat) : Int) + 16) = ((16 * (i + 1) : Nat) : Int):=by rw [YS (by omega)]; omega
  have e2 : decide (((16 * i : Nat) : Int) < (l.length : Int)) = true:=by simp; omega
  obtain ⟨r,r1,r2,r3⟩:=kA (l:=l) (i:=16 * i) (j:=16 * (i + 1)) (by omega) (by omega)
  have e3 : QH 16 r = some (qI l i):=by
   rw [zC (by omega)]
   exact congrArg some (Xv fun j hj=>r3 j (by omega))
  simp only [e1,e2,if_true,r1,e3,Option.bind_some]
  rw [YP (by rw [Ks]; simp; omega),HP]; rfl) (by
  unfold Vf
  have e2 : decide (((16 * n : Nat) : Int) < (l.length : Int)) = false:=by simp; omega
  simp only [e2,Bool.false_eq_true,if_false])
 have h2 : ZB (Vf l) ([],0) = _:=this
 unfold UZ
 rw [h2]; rfl
theorem jZ (l : List UInt8) (n : Nat) (hl : l.length = 16 * n) (hn : n ≤ 100000000) : Uf l = some (WK l n):=by
 have:=Z1 (f:=WI l) (fun i : Nat=>(WK l i,((16 * i : Nat) : Int))) 0 n (Nat.zero_le _) (t:=WK l n) (fun i _ hi=>by
  unfold WI
  have e1 : wr (((16 * i : Nat) : Int) + 16) = ((16 * (i + 1) : Nat) : Int):=by rw [YS (by omega)]; omega
  have e2 : decide (((16 * (i + 1) : Nat) : Int) ≤ (l.length : Int)) = true:=by simp; omega
  have h3:=WF (WH l (WK l i,((16 * i : Nat) : Int))) (fun _=>0) (fun j=>l.getD (16 * i + j) 0) (by omega) 0 (by omega) (fun j hj=>by omega) (fun j _ hj a _ _=>by
   unfold WH
   have e4 : wr (((16 * i : Nat) : Int) + (j : Int)) = ((16 * i + j : Nat) : Int):=by rw [YS (by omega)]; omega
   have e5 : 16 * i + j < l.length:=by omega
   simp only [Ho hj,if_true,e4,Yz,List.getElem?_eq_getElem e5,ZT _ hj,Option.bind_some,Int.toNat_natCast,List.getD_eq_getElem?_getD,Option.getD_some]) (fun v=>by unfold WH; simp)
  have h4 : ZB (WH l (WK l i,((16 * i : Nat) : Int))) (Vector.replicate 16 0,0) = some (qI l i):=by rw [Ql]; exact h3
  simp only [e1,e2,if_true,h4,Option.bind_some]
  rw [YP (by rw [Ks]; simp; omega),HP]; rfl) (by
  unfold WI
  have e1 : wr (((16 * n : Nat) : Int) + 16) = ((16 * (n + 1) : Nat) : Int):=by rw [YS (by omega)]; omega
  have e2 : decide (((16 * (n + 1) : Nat) : Int) ≤ (l.length : Int)) = false:=by simp; omega
  simp only [e1,e2,Bool.false_eq_true,if_false])
 have h2 : ZB (WI l) ([],0) = _:=this
 unfold Uf
 rw [h2]; rfl

abbrev Dig:=Vector UInt8 32
def df (v : Dig) (i : Nat) : UInt8:=v[i]?.getD default
theorem Zcg (v : Dig) : v = vf 32 (df v):=qA v
def K7 : Dig:=vf 32 fun i=>UInt8.ofNat (17 * i)
theorem lt32 {i : Nat} (h : i < 32) : decide ((i : Int) < 32) = true:=by simp; omega
theorem Zdz : Wg = some K7:=by
 have h:=WF Xm (fun _=>0) (fun i=>UInt8.ofNat (17 * i)) (by omega) 0 (by omega) (fun j hj=>by omega) (fun i _ hi a _ _=>by
  unfold Xm
  have e1 : wr (17 * (i : Int)) = ((17 * i : Nat) : Int):=by rw [YS (by omega)]; omega
  simp only [lt32 hi,if_true,ZT _ hi,Option.bind_some,e1,XY,Int.toNat_natCast]) (fun v=>by unfold Xm; simp)
 have h2 : ZB Xm (Vector.replicate 32 0,0) = some K7:=by rw [Ql]; exact h
 unfold Wg
 rw [h2]; rfl
theorem kP : UR = some K7:=by
 have h:=WF Vi (fun _=>0) (fun i=>UInt8.ofNat (17 * i)) (by omega) 0 (by omega) (fun j hj=>by omega) (fun i _ hi a _ _=>by
  unfold Vi
  have e1 : wr (17 * (i : Int)) = ((17 * i : Nat) : Int):=by rw [YS (by omega)]; omega
  have e2 : Int.tmod ((17 * i : Nat) : Int) 256 = ((17 * i % 256 : Nat) : Int):=by rw [Int.tmod_eq_emod_of_nonneg (by omega)]; omega
  simp only [lt32 hi,if_true,ZT _ hi,Option.bind_some,e1,e2,XY,yF,Int.toNat_natCast]) (fun v=>by unfold Vi; simp)
 have h2 : ZB Vi (Vector.replicate 32 0,0) = some K7:=by rw [Ql]; exact h
 unfold UR
 rw [h2]; rfl
def hiF (s : Nat → UInt8) : Nat → UInt8:=fun i=>s (16 + i)
def yp (f g : Nat → UInt8) : Nat → UInt8:=fun i=>if i < 16 then f i else g (i - 16)
def qV (c : GCipher) (k a : Nat → UInt8) : Nat → UInt8:=HW (jl c k a c.Rounds.toNat) a
def absC (c : GCipher) (s m : Nat → UInt8) : Nat → UInt8 :=
 yp (qV c (hiF s) (HW s m)) (qV c (qV c (hiF s) (HW s m)) (HW (hiF s) m))
theorem jJ (s : Nat → UInt8) : Uj (vf 32 s) = some (vf 16 s,vf 16 (hiF s)):=by
 have:=Z1 (f:=WA (vf 32 s)) (fun i : Nat=>(vf 16 (fun j=>if j < i then hiF s j else 0),vf 16 (fun j=>if j < i then s j else 0),(i : Int))) 0 16 (by omega) (t:=(vf 16 (hiF s),vf 16 s)) (fun i _ hi=>by
  unfold WA
  have e1 : wr (16 + (i : Int)) = ((16 + i : Nat) : Int):=by rw [YS (by omega)]; omega
  simp only [Ho hi,if_true,e1,ZT _ (show i < 32 by omega),ZT _ (show 16 + i < 32 by omega),ZT _ hi,Option.bind_some,Int.toNat_natCast,Qx,Xf (show i < 9223372036854775807 by omega)]
  have e : ∀ f : Nat → UInt8,(vf 16 fun j=>if j = i then f i else if j < i then f j else 0) = vf 16 fun j=>if j < i + 1 then f j else 0:=fun f=>Xv fun j _=>by
   by_cases h1 : j = i
   ·subst h1; simp
   ·by_cases h2 : j < i
    ·rw [if_neg h1,if_pos h2,if_pos (by omega)]
    ·rw [if_neg h1,if_neg h2,if_neg (by omega)]
  have ea:=e (hiF s)
  have eb:=e s
  rw [eb]
  have ea' : (vf 16 fun j=>if j = i then s (16 + i) else if j < i then hiF s j else 0) = vf 16 fun j=>if j < i + 1 then hiF s j else 0:=ea
  rw [ea']) (by
  unfold WA
  simp only [show decide (((16 : Nat) : Int) < 16) = false from rfl,Bool.false_eq_true,if_false]
  refine congrArg (fun z=>some (Fl.ex z)) (congr (congrArg Prod.mk (Xv fun j hj=>by rw [if_pos hj])) (Xv fun j hj=>by rw [if_pos hj])))
 have h2 : ZB (WA (vf 32 s)) (vf 16 (fun _=>0),vf 16 (fun _=>0),0) = some (vf 16 (hiF s),vf 16 s):=by
  have e0 : ∀ f : Nat → UInt8,(vf 16 fun j=>if j < 0 then f j else 0) = vf 16 fun _=>0:=fun f=>Xv fun j _=>by simp
  simp only [e0] at this
  exact this
 unfold Uj
 rw [Ql,h2]; rfl
theorem jK (c : GCipher) (h : YI c = true) (s m : Nat → UInt8) : Vg c (vf 32 s) (vf 16 m) = some (vf 32 (absC c s m)):=by
 have hj : ∀ f g : Nat → UInt8,ZB (Wz (vf 16 f) (vf 16 g)) (Vector.replicate 32 0,0) = some (vf 32 (yp f g)):=by
  intro f g
  have:=Z1 (f:=Wz (vf 16 f) (vf 16 g)) (fun i : Nat=>(vf 32 (fun j=>if j < i then f j else if 16 ≤ j ∧ j < 16 + i then g (j - 16) else 0),(i : Int))) 0 16 (by omega) (t:=vf 32 (yp f g)) (fun i _ hi=>by
   unfold Wz
   have e1 : wr (16 + (i : Int)) = ((16 + i : Nat) : Int):=by rw [YS (by omega)]; omega
   simp only [Ho hi,if_true,e1,ZT _ (show i < 32 by omega),ZT _ (show 16 + i < 32 by omega),ZT _ hi,Option.bind_some,Int.toNat_natCast,Qx,Xf (show i < 9223372036854775807 by omega)]
   refine congrArg (fun z=>some (Fl.nx (z,((i + 1 : Nat) : Int)))) (Xv fun j hj=>?_)
   by_cases h1 : j = 16 + i
   ·subst h1
    rw [if_pos rfl,if_neg (by omega),if_pos (by omega)]
    congr 1; omega
   ·rw [if_neg h1]
    by_cases h2 : j = i
    ·subst h2; rw [if_pos rfl,if_pos (by omega)]
    ·rw [if_neg h2]
     by_cases h3 : j < i
     ·rw [if_pos h3,if_pos (by omega)]
     ·rw [if_neg h3,if_neg (show ¬ j < i + 1 by omega)]
      by_cases h4 : 16 ≤ j ∧ j < 16 + i
      ·rw [if_pos h4,if_pos (by omega)]
      ·rw [if_neg h4,if_neg (by omega)]) (by
   unfold Wz
   simp only [show decide (((16 : Nat) : Int) < 16) = false from rfl,Bool.false_eq_true,if_false]
   refine congrArg (fun z=>some (Fl.ex z)) (Xv fun j hj=>?_)
   unfold yp
   by_cases h3 : j < 16
   ·rw [if_pos h3,if_pos h3]
   ·rw [if_neg h3,if_neg h3,if_pos (by omega)])
  have e0 : (vf 32 fun j=>if j < 0 then f j else if 16 ≤ j ∧ j < 16 + 0 then g (j - 16) else 0) = vf 32 fun _=>0:=Xv fun j _=>by rw [if_neg (by omega),if_neg (by omega)]
  simp only [e0] at this
  rw [Ql]
  exact this
 unfold Vg
 simp only [jJ,Option.bind_some,Bl,HO c h,hj]
 rfl
theorem Zbr (c : GCipher) (h : YI c = true) (s m : Nat → UInt8) : XB ⟨YB c⟩ (vf 32 s) (vf 16 m) = some (vf 32 (absC c s m)):=by
 have g1 : ∀ {n : Nat} (f : Nat → UInt8) (k : Nat),k < n → (vf n f).toList.getD k 0 = f k:=fun f k hk=>by
  rw [JW,List.getD_eq_getElem?_getD,List.getElem?_map,List.getElem?_range hk]; rfl
 have hl : ∀ {n : Nat} (f : Nat → UInt8),(vf n f).toList.length = n:=fun f=>by simp
 have cut : ∀ {n : Nat} (f : Nat → UInt8) (i j : Nat),i ≤ j → j ≤ n → ∃ r,slc (vf n f).toList (i : Int) (j : Int) = some r ∧ r.length = j - i ∧ QH (j - i) r = some (vf (j - i) fun k=>f (i + k)) ∧ ∀ k,k < j - i → r.getD k 0 = f (i + k):=by
  intro n f i j hij hjn
  obtain ⟨r,r1,r2,r3⟩:=kA (l:=(vf n f).toList) (i:=i) (j:=j) hij (by rw [hl]; exact hjn)
  have r4 : ∀ k,k < j - i → r.getD k 0 = f (i + k):=fun k hk=>by rw [r3 k hk,g1 f (i + k) (by omega)]
  refine ⟨r,r1,r2,?_,r4⟩
  rw [zC (by omega)]
  exact congrArg some (Xv r4)
 obtain ⟨l,l1,l2,l3,l4⟩:=cut (n:=32) s 0 16 (by omega) (by omega)
 obtain ⟨l',l1',l2',l3',l4'⟩:=cut (n:=32) s 16 32 (by omega) (by omega)
 have a1 : slc (vf 32 s).toList (0 : Int) (16 : Int) = some l:=l1
 have a2 : slc (vf 32 s).toList (16 : Int) (32 : Int) = some l':=l1'
 have a3 : QH 16 l = some (vf 16 s):=by
  have : QH 16 l = some (vf 16 fun k=>s (0 + k)):=l3
  rw [this]; exact congrArg some (Xv fun k _=>by rw [Nat.zero_add])
 have a4 : QH 16 l' = some (vf 16 (hiF s)):=l3'
 have join : ∀ f g : Nat → UInt8,((slc (vf 16 f).toList (0 : Int) (16 : Int)).bind fun (l56 : (List UInt8))=>(slc (vf 16 g).toList (0 : Int) (16 : Int)).bind fun (l59 : (List UInt8))=>(Ya ([l56,l59] : (List (List UInt8)))).bind fun (r64 : (List UInt8))=>(QH 32 r64).bind fun (x67 : (Vector UInt8 32))=>some x67 : Option ((Vector UInt8 32))) = some (vf 32 (yp f g)):=by
  intro f g
  obtain ⟨p,p1,p2,_,p4⟩:=cut (n:=16) f 0 16 (by omega) (by omega)
  obtain ⟨q,q1,q2,_,q4⟩:=cut (n:=16) g 0 16 (by omega) (by omega)
  have b1 : slc (vf 16 f).toList (0 : Int) (16 : Int) = some p:=p1
  have b2 : slc (vf 16 g).toList (0 : Int) (16 : Int) = some q:=q1
  have b3 : Ya [p,q] = some (p ++ q):=by
   have:=K6 [p,q] (by simp; omega) (by simp)
   simpa using this
  rw [b1,Option.bind_some,b2,Option.bind_some,b3,Option.bind_some,zC (by simp; omega),Option.bind_some]
  refine congrArg some (Xv fun k hk=>?_)
  unfold yp
  rw [List.getD_eq_getElem?_getD]
  by_cases h1 : k < 16
  ·rw [if_pos h1,List.getElem?_append_left (by omega),← List.getD_eq_getElem?_getD,p4 k (by omega),Nat.zero_add]
  ·rw [if_neg h1,List.getElem?_append_right (by omega),← List.getD_eq_getElem?_getD,q4 (k - p.length) (by omega),Nat.zero_add,show p.length = 16 from p2]
 have in1 : ∀ k a : Nat → UInt8,((YQ ⟨YB c⟩ (vf 16 k) (vf 16 a)).bind fun (r34 : (Vector UInt8 16))=>(YM r34 (vf 16 a)).bind fun (r36 : (Vector UInt8 16))=>some r36 : Option (Vector UInt8 16)) = some (vf 16 (qV c k a)):=fun k a=>by
  rw [HZ c h,Option.bind_some,Qn,Option.bind_some]; rfl
 unfold XB
 rw [a1,Option.bind_some,a3,Option.bind_some,a2,Option.bind_some,a4,Option.bind_some,Qn,Option.bind_some,in1,Option.bind_some,Qn,Option.bind_some,in1,Option.bind_some,join,Option.bind_some]
 rfl

def absV (c : GCipher) (s : Dig) (m : Blk) : Dig:=vf 32 (absC c (df s) (bf m))
theorem qY (c : GCipher) (h : YI c = true) (s : Dig) (m : Blk) : XB ⟨YB c⟩ s m = some (absV c s m) ∧ Vg c s m = some (absV c s m):=by
 have h1:=Zbr c h (df s) (bf m)
 have h2:=jK c h (df s) (bf m)
 rw [← Zcg,← Zbv] at h1 h2
 exact ⟨h1,h2⟩
def KM (c : GCipher) (d : List UInt8) : Dig:=(WK (Jr d) ((Jr d).length / 16)).foldl (absV c) K7
theorem HU (c : GCipher) (h : YI c = true) (ps : List (List UInt8)) (hl : ps.flatten.length ≤ 10000000) (hn : ps.length < 9223372036854775807) : YN ⟨YB c⟩ ps = some (KM c ps.flatten):=by
 obtain ⟨n,n1,n2⟩:=ko ps.flatten
 have e : (Jr ps.flatten).length / 16 = n:=by omega
 have h1:=KH (f:=Xn ⟨YB c⟩ (WK (Jr ps.flatten) n)) (WK (Jr ps.flatten) n) (fun (b : Dig) i=>(b,i)) (absV c) K7 (t:=KM c ps.flatten) (by rw [Ks]; omega) (fun i hi=>by
  unfold Xn
  simp only [Int.ofNat_lt,hi,decide_true,if_true,Yz,List.getElem?_eq_getElem hi,Option.bind_some,(qY c h _ _).1]) (by
  unfold Xn KM
  rw [e]; simp)
 unfold YN
 rw [Zdz,Option.bind_some,K6 ps (by omega) hn,Option.bind_some,yZ _ hl,Option.bind_some,kI _ n n1 (by omega),Option.bind_some]
 have h2 : ZB (Xn ⟨YB c⟩ (WK (Jr ps.flatten) n)) (K7,0) = _:=h1
 rw [h2]; rfl
theorem AE (c : GCipher) (h : YI c = true) (d : List UInt8) (hl : d.length ≤ 10000000) : W2 c d = some (KM c d):=by
 obtain ⟨n,n1,n2⟩:=ko d
 have e : (Jr d).length / 16 = n:=by omega
 have h1:=KH (f:=U8 c (WK (Jr d) n)) (WK (Jr d) n) (fun (b : Dig) i=>(b,i)) (absV c) K7 (t:=KM c d) (by rw [Ks]; omega) (fun i hi=>by
  unfold U8
  simp only [Int.ofNat_lt,hi,decide_true,if_true,Yz,List.getElem?_eq_getElem hi,Option.bind_some,(qY c h _ _).2]) (by
  unfold U8 KM
  rw [e]; simp)
 unfold W2
 rw [Zb8 _ hl,Option.bind_some,jZ _ n n1 (by omega),Option.bind_some,kP,Option.bind_some]
 have h2 : ZB (U8 c (WK (Jr d) n)) (K7,0) = _:=h1
 rw [h2]; rfl
theorem K2 (d : Dig) : XZ d = some d.toList:=by
 have h:=zq (f:=Uo d) (List.range 32) (fun i=>df d i) (t:=d.toList) (by simp) (fun i hi=>by
  have hi' : i < 32:=by simpa using hi
  unfold Uo
  have hv : ZH d (i : Int) = some (df d i):=by
   have:=ZT (df d) hi'
   rwa [← Zcg] at this
  simp only [lt32 hi',if_true,hv,Option.bind_some]
  rw [YP (by simp; omega)]
  simp) (by
  unfold Uo
  have e : (List.range 32).map (fun i=>df d i) = d.toList:=by
   conv=>rhs; rw [Zcg d]
   rw [JW]
  simp only [List.length_range,show decide (((32 : Nat) : Int) < 32) = false from rfl,Bool.false_eq_true,if_false,e])
 unfold XZ
 rw [h]; rfl
def JP (d : Dig) (e : GEvent) : List UInt8:=((d.toList ++ [Zr e.Kind]) ++ beL e.Number 4) ++ e.Tag.toList
theorem ku (d : Dig) (e : GEvent) : (JP d e).length = 69:=by simp [JP,Td]
def BY (c : GCipher) (d : Dig) (e : GEvent) : Dig:=KM c (JP d e)
def zI (c : GCipher) (l : List GEvent) : Dig:=l.foldl (BY c) (KM c (List.replicate 32 0))
theorem Hg : YI (YT 4) = true:=kk 4 (by omega)
theorem Kw : XA = some (YT 4):=by
 unfold XA
 rw [kF]; rfl
theorem Zc2 (n : Int) (h : 1 ≤ n ∧ n ≤ 20) : Qu n = some ⟨YB (YT n)⟩:=by
 unfold Qu
 rw [zV,Option.bind_some,kD _ (kk n h)]; rfl
theorem zW : Vn = some ⟨YB (YT 4)⟩:=by
 unfold Vn
 rw [Zc2 4 (by omega)]; rfl
theorem yP (d : Dig) : slc d.toList (0 : Int) (32 : Int) = some d.toList:=by
 have h1 : slc d.toList ((0 : Nat) : Int) ((32 : Nat) : Int) = _:=HL (Nat.zero_le _) (by simp)
 have h2 : slc d.toList (0 : Int) (32 : Int) = _:=h1
 rw [h2,List.drop_zero,List.take_of_length_le (by simp)]
theorem z8 (c : GCipher) (h : YI c = true) (l : List GEvent) (hl : l.length < 9223372036854775807) : Vq ⟨YB c⟩ l = some (zI c l):=by
 have hm : mkS 1 (0 : UInt8) 32 = some (List.replicate 32 0):=by unfold mkS; rw [if_pos (by omega)]; rfl
 have h0:=HU c h [List.replicate 32 0] (by simp) (by simp)
 have e0 : ([List.replicate 32 0] : List (List UInt8)).flatten = List.replicate 32 0:=by simp
 rw [e0] at h0
 have h1:=KH (f:=XV ⟨YB c⟩ l) l (fun (b : Dig) i=>(b,i)) (BY c) (KM c (List.replicate 32 0)) (t:=zI c l) hl (fun i hi=>by
  unfold XV
  have hb : YW l[i].Number 4 = some (beL l[i].Number 4):=JD _ 4 (by omega)
  have hd:=HU c h [((l.take i).foldl (BY c) (KM c (List.replicate 32 0))).toList,[Zr l[i].Kind],beL l[i].Number 4,l[i].Tag.toList] (by simp [Td]) (by simp)
  have ed : ([((l.take i).foldl (BY c) (KM c (List.replicate 32 0))).toList,[Zr l[i].Kind],beL l[i].Number 4,l[i].Tag.toList] : List (List UInt8)).flatten = JP ((l.take i).foldl (BY c) (KM c (List.replicate 32 0))) l[i]:=by simp [JP]
  rw [ed] at hd
  simp only [Int.ofNat_lt,hi,decide_true,if_true,Yz,List.getElem?_eq_getElem hi,Option.bind_some,yP,hb,hd]
  rfl) (by unfold XV zI; simp)
 unfold Vq
 rw [hm,Option.bind_some,h0,Option.bind_some]
 have h2 : ZB (XV ⟨YB c⟩ l) (KM c (List.replicate 32 0),0) = _:=h1
 rw [h2]; rfl
theorem Zaw (d : Dig) (e : GEvent) : Tz d e = some (BY (YT 4) d e):=by
 have h1:=AE (YT 4) Hg (JP d e) (by rw [ku]; omega)
 unfold Tz
 rw [K2,Option.bind_some,YP (by simp),Option.bind_some,Option.bind_some,yn,Option.bind_some,YP (by simp [Td]),Option.bind_some,Kw,Option.bind_some,K2,Option.bind_some,YP (by simp [Td]),Option.bind_some]
 have h2 : W2 (YT 4) (((d.toList ++ [Zr e.Kind]) ++ beL e.Number 4) ++ e.Tag.toList) = some (BY (YT 4) d e):=h1
 rw [h2]; rfl
theorem Zah (l : List GEvent) (hl : l.length < 9223372036854775807) : Tx l = some (zI (YT 4) l):=by
 have hm : mkS 1 (0 : UInt8) 32 = some (List.replicate 32 0):=by unfold mkS; rw [if_pos (by omega)]; rfl
 have h1:=KH (f:=VE l) l (fun (b : Dig) i=>(b,i)) (BY (YT 4)) (KM (YT 4) (List.replicate 32 0)) (t:=zI (YT 4) l) hl (fun i hi=>by
  unfold VE
  simp only [Int.ofNat_lt,hi,decide_true,if_true,Yz,List.getElem?_eq_getElem hi,Option.bind_some,Zaw]) (by unfold VE zI; simp)
 unfold Tx
 rw [Kw,Option.bind_some,hm,Option.bind_some,AE _ Hg _ (by simp),Option.bind_some]
 have h2 : ZB (VE l) (KM (YT 4) (List.replicate 32 0),0) = _:=h1
 rw [h2]; rfl
theorem jb (l : List GEvent) (h : Wt.ln l) : zG XM VV l (l.map fun _=>34).sum :=
 JT XM VV Y2 Vp (fun _=>34) (fun _ _=>rfl) (fun _ _=>rfl) l (Vz h) (fun l' i k hi _ _ h0 hk=>by
  refine ⟨_,Ha l' i k hi h0 (by omega),fun m hm=>?_⟩
  have hi':=(List.getElem?_eq_some_iff.1 hm).1
  have e1:=zY (k:=k) h0 (by omega)
  have e2 : wr (k + 2) = k + 2:=YS (by omega)
  unfold Vp
  have h1:=HX (n:=32) (fun x : GEvent=>x.Tag) m i i rfl (UD m (k,(i : Int))) (fun s=>by unfold UD; rfl) hm (k + 2) (by omega) (by omega) rfl
  rw [show k + 2 + ((32 : Nat) : Int) = k + 34 by omega] at h1
  simp only [Int.ofNat_lt,hi',decide_true,if_true,Yz,hm,Option.bind_some,bne_self_eq_false,Bool.false_eq_true,if_false,e1,e2,show k + 1 + 1 = k + 2 by omega,h1,Fl.el]
  rfl) (fun l' k=>by unfold Y2; simp) (fun m k=>by unfold Vp; simp)
theorem zR (l : List GRecord) (h : Wt.ln l) : zG Xx Vm l (l.map X5).sum :=
 JT Xx Vm YY WV X5 (fun _ _=>rfl) (fun _ _=>rfl) l (Vz h) (fun l' i k hi hx _ h0 hk=>by
  have hk':=hk
  unfold X5 at hk'
  have hln : Wt.ln l'[i]:=je h hx
  obtain ⟨la,a1,a2⟩:=B6 l'[i].Label hln.1 (k + 18) (by omega) (by omega)
  obtain ⟨bo,b1,b2⟩:=B6 l'[i].Body hln.2 (k + 18 + ((l'[i].Label.map fun _=>1).sum : Nat)) (by omega) (by omega)
  refine ⟨_,Jq l' i k hi h0 hk a1 b1,fun m hm=>?_⟩
  have hi':=(List.getElem?_eq_some_iff.1 hm).1
  have e1:=zY (k:=k) h0 (by omega)
  have e2 : wr (k + 2) = k + 2:=YS (by omega)
  have h1:=HX (n:=16) (fun x : GRecord=>x.Nonce) m i i rfl (V9 m (k,(i : Int))) (fun s=>by unfold V9; rfl) hm (k + 2) (by omega) (by omega) rfl
  have h2:=HX (n:=32) (fun x : GRecord=>x.Tag) m i i rfl (Ud m (k,(i : Int))) (fun s=>by unfold Ud; rfl) hm (k + 18 + ((l'[i].Label.map fun _=>1).sum : Nat) + ((l'[i].Body.map fun _=>1).sum : Nat)) (by omega) (by omega) rfl
  rw [show k + 2 + ((16 : Nat) : Int) = k + 18 by omega] at h1
  have c1 : ¬ (k + 18 + ((l'[i].Label.map fun _=>1).sum : Nat) < 0):=by omega
  have c2 : ¬ (k + 18 + ((l'[i].Label.map fun _=>1).sum : Nat) + ((l'[i].Body.map fun _=>1).sum : Nat) < 0):=by omega
  unfold WV
  simp only [Int.ofNat_lt,hi',decide_true,if_true,Yz,hm,Option.bind_some,bne_self_eq_false,Bool.false_eq_true,if_false,e1,e2,show k + 1 + 1 = k + 2 by omega,h1,Fl.el,a2,b2,c1,c2,decide_false,h2]
  refine congrArg (fun z=>some (Fl.nx (z,wr ((i : Int) + 1)))) ?_
  unfold X5; omega) (fun l' k=>by unfold YY; simp) (fun m k=>by unfold WV; simp)
theorem jD (x : GVault) (h : Wt.ln x) (k : Int) (h0 : 0 ≤ k) (hk : k + (UK x : Nat) ≤ 4611686018427387904) :
  ∃ x',XE x k = some (x',k + (UK x : Nat)) ∧ ∀ n hd,Ve ⟨x'.Keys,n,x'.Records,x'.Events,hd⟩ k = some (k + (UK x : Nat)):=by
 unfold UK at hk
 obtain ⟨a,a1,a2⟩:=yW x.Keys h.1 k h0 (by omega)
 obtain ⟨b,b1,b2⟩:=zR x.Records h.2.1 _ (by omega : (0 : Int) ≤ k + ((x.Keys.map fun _=>16).sum : Nat)) (by omega)
 obtain ⟨c,c1,c2⟩:=jb x.Events h.2.2 _ (by omega : (0 : Int) ≤ k + ((x.Keys.map fun _=>16).sum : Nat) + ((x.Records.map X5).sum : Nat)) (by omega)
 refine ⟨⟨a,x.Next,b,c,x.Head⟩,?_,fun n hd=>?_⟩
 ·unfold XE UK
  simp only [a1,b1,c1,Option.bind_some]
  refine congrArg (fun z=>some (_,z)) ?_
  omega
 ·have d1 : ¬ (k + ((x.Keys.map fun _=>16).sum : Nat) < 0):=by omega
  have d2 : ¬ (k + ((x.Keys.map fun _=>16).sum : Nat) + ((x.Records.map X5).sum : Nat) < 0):=by omega
  have d3 : ¬ (k + ((x.Keys.map fun _=>16).sum : Nat) + ((x.Records.map X5).sum : Nat) + ((x.Events.map fun _=>34).sum : Nat) < 0):=by omega
  unfold Ve UK
  simp only [a2,b2,c2,d1,d2,d3,decide_false,Bool.false_eq_true,if_false,Option.bind_some]
  refine congrArg some ?_
  omega

def T6 (k : Blk) (b : UInt8) : Blk:=vf 16 fun i=>bf k i ^^^ b
theorem yC (b : UInt8) (L : Blk × Int → Option (Fl (Blk × Int) Blk)) (hL : ∀ s,L s = if (decide (s.2 < 16)) = true then ((ZH s.1 s.2).bind fun x=>(ZH s.1 s.2).bind fun _=>some (Fl.nx ((s.1.setIfInBounds (s.2).toNat (x ^^^ b)),wr (s.2 + 1)))) else (some (Fl.ex s.1))) (k : Blk) :
  ZB L (k,0) = some (T6 k b):=by
 have h:=WF L (bf k) (fun i=>bf k i ^^^ b) (by omega) 0 (by omega) (fun j hj=>by omega) (fun i _ hi a _ ha=>by
  rw [hL]
  simp only [Ho hi,if_true,ZT _ hi,Option.bind_some,Int.toNat_natCast,ha i (Nat.le_refl _)]) (fun v=>by rw [hL]; simp)
 rw [← Zbv] at h
 exact h
theorem KZ (k : Blk) (b : UInt8) : XN k b = some (T6 k b).toList:=by
 have hs : ∀ v : Blk,slc v.toList (0 : Int) (16 : Int) = some v.toList:=fun v=>by
  have h1 : slc v.toList ((0 : Nat) : Int) ((16 : Nat) : Int) = _:=HL (Nat.zero_le _) (by simp)
  have h2 : slc v.toList (0 : Int) (16 : Int) = _:=h1
  rw [h2,List.drop_zero,List.take_of_length_le (by simp)]
 unfold XN
 rw [yC b (UN b) (fun s=>by unfold UN; rfl),Option.bind_some,hs]; rfl
theorem ja (k : Blk) (b : UInt8) : VP k b = some (T6 k b):=by
 unfold VP
 rw [yC b (UC b) (fun s=>by unfold UC; rfl)]; rfl
theorem jY {n : Nat} (v : Vector UInt8 n) (g : UInt8 → UInt8) (L : List UInt8 × Int → Option (Fl (List UInt8 × Int) (List UInt8))) (acc : List UInt8) (hn : n ≤ 1000) (ha : acc.length ≤ 100000000)
  (hL : ∀ s,L s = if (decide (s.2 < (n : Int))) = true then ((ZH v s.2).bind fun x=>(app 1 s.1 ([g x] : List UInt8)).bind fun _=>some (Fl.nx ((s.1 ++ ([g x] : List UInt8)),wr (s.2 + 1)))) else (some (Fl.ex s.1))) :
  ZB L (acc,0) = some (acc ++ v.toList.map g):=by
 have hlen : v.toList.length = n:=by simp
 have:=Z1 (f:=L) (fun i : Nat=>(acc ++ (v.toList.take i).map g,(i : Int))) 0 n (Nat.zero_le _) (t:=acc ++ v.toList.map g) (fun i _ hi=>by
  have hi' : i < v.toList.length:=by omega
  rw [hL]
  simp only [Int.ofNat_lt,hi,decide_true,if_true,W5,Vector.getElem?_eq_getElem hi,Option.bind_some,Xf (show i < 9223372036854775807 by omega)]
  rw [YP (by simp; omega),List.take_succ_eq_append_getElem hi']
  simp) (by
  rw [hL]
  have e : v.toList.take n = v.toList:=List.take_of_length_le (by omega)
  simp only [Int.ofNat_lt,Nat.lt_irrefl,decide_false,Bool.false_eq_true,if_false,e])
 simpa using this
theorem Zav (k : Blk) (b : UInt8) : (T6 k b).toList = k.toList.map fun x=>x ^^^ b:=by
 conv=>rhs; rw [Zbv k]
 unfold T6
 rw [JW,JW,List.map_map]; rfl
theorem B4 (k : Blk) (b : UInt8) : W7 k b = some (T6 k b).toList:=by
 unfold W7
 rw [jY k (fun x=>x ^^^ b) (Tg k b) [] (by omega) (by simp) (fun s=>by unfold Tg; rfl),Zav]; rfl
theorem Za0 {n : Nat} (v : Vector UInt8 n) : QH n v.toList = some v:=by
 unfold QH
 rw [dif_pos (by simp)]
 refine congrArg some (T9 fun i hi=>?_)
 simp
def Jg (l : List Blk) : List UInt8:=(l.map fun b=>b.toList).flatten
theorem yu (l : List Blk) (h : l.length ≤ 1000000) : Wi l = some (Jg l):=by
 have hlen : ∀ i,i ≤ l.length → (Jg (l.take i)).length = 16 * i:=by
  intro i
  induction i with
  | zero=>intro _; rfl
  | succ i ih =>
   intro hi
   have e : Jg (l.take (i + 1)) = Jg (l.take i) ++ (l[i]'(by omega)).toList:=by
    unfold Jg
    rw [List.take_succ_eq_append_getElem (by omega),List.map_append,List.flatten_append]; simp
   rw [e,List.length_append,ih (by omega)]; simp; omega
 have:=Z1 (f:=VB l) (fun i : Nat=>(Jg (l.take i),(i : Int))) 0 l.length (Nat.zero_le _) (t:=Jg l) (fun i _ hi=>by
  unfold VB
  have h1:=jY l[i] (fun x=>x) (Qd l (Jg (l.take i),(i : Int))) (Jg (l.take i)) (by omega) (by rw [hlen i (by omega)]; omega) (fun s=>by
   unfold Qd
   simp only [Yz,List.getElem?_eq_getElem hi,Option.bind_some]; rfl)
  simp only [Int.ofNat_lt,hi,decide_true,if_true,h1,Option.bind_some,Xf (show i < 9223372036854775807 by omega)]
  refine congrArg (fun z=>some (Fl.nx (z,((i + 1 : Nat) : Int)))) ?_
  unfold Jg
  rw [List.take_succ_eq_append_getElem hi,List.map_append,List.flatten_append]; simp) (by
  unfold VB
  simp)
 have h2 : ZB (VB l) ([],0) = _:=this
 unfold Wi
 rw [h2]; rfl

def tagC (c : GCipher) (key : Blk) (d : List UInt8) : Dig:=KM c ((T6 key 165).toList ++ (KM c ((T6 key 90).toList ++ d)).toList)
theorem v_tag (c : GCipher) (h : YI c = true) (key : Blk) (ps : List (List UInt8)) (hl : ps.flatten.length ≤ 1000000) (hn : ps.length < 9223372036854775807) : WB ⟨YB c⟩ key ps = some (tagC c key ps.flatten):=by
 have e1 : ([(T6 key 90).toList,ps.flatten] : List (List UInt8)).flatten = (T6 key 90).toList ++ ps.flatten:=by simp
 have d1:=HU c h [(T6 key 90).toList,ps.flatten] (by rw [e1,List.length_append,Vector.length_toList]; omega) (by simp)
 rw [e1] at d1
 have d2:=HU c h [(T6 key 165).toList,(KM c ((T6 key 90).toList ++ ps.flatten)).toList] (by simp) (by simp)
 have e2 : ([(T6 key 165).toList,(KM c ((T6 key 90).toList ++ ps.flatten)).toList] : List (List UInt8)).flatten = (T6 key 165).toList ++ (KM c ((T6 key 90).toList ++ ps.flatten)).toList:=by simp
 rw [e2] at d2
 unfold WB
 rw [KZ,Option.bind_some,K6 ps (by omega) hn,Option.bind_some,d1,Option.bind_some,KZ,Option.bind_some,yP,Option.bind_some,d2]
 rfl
theorem kB (c : GCipher) (h : YI c = true) (key : Blk) (d : List UInt8) (hl : d.length ≤ 1000000) : VZ c key d = some (tagC c key d):=by
 unfold VZ
 rw [B4,Option.bind_some,YP (by simp; omega),Option.bind_some,AE c h _ (by simp; omega),Option.bind_some,B4,Option.bind_some,K2,Option.bind_some,YP (by simp),Option.bind_some,AE c h _ (by simp)]
 rfl

theorem Za1 {v : GVault} (h : WR v = true) {r : GRecord} (hr : r ∈ v.Records) : 0 ≤ r.Version ∧ r.Version ≤ (v.Keys.length : Int) - 1 ∧ r.Label.length ≤ 32 ∧ r.Body.length ≤ 200:=by
 unfold WR at h
 simp only [Bool.and_eq_true,Bool.not_eq_true',List.any_eq_false,List.mem_range'_1] at h
 obtain ⟨i,hi,rfl⟩:=List.mem_iff_getElem.1 hr
 have:=h.1.2 i (by omega)
 unfold Bw zn at this
 rw [List.getElem?_eq_getElem hi] at this
 simp only [Bool.or_eq_true,Bool.not_eq_true',decide_eq_true_eq,decide_eq_false_iff_not,not_or,Classical.not_not] at this
 omega

def JA (v : GVault) (n : Int) : Blk:=v.Keys.getD n.toNat default
theorem AI {v : GVault} {n : Int} (h0 : 0 ≤ n) (h1 : n ≤ (v.Keys.length : Int) - 1) : idx v.Keys n = some (JA v n):=by
 have e : n = ((n.toNat : Nat) : Int):=by omega
 have hl : n.toNat < v.Keys.length:=by omega
 rw [e,Yz]
 unfold JA
 rw [Int.toNat_natCast,List.getD_eq_getElem?_getD,List.getElem?_eq_getElem hl]; rfl
def JJ (r : GRecord) : List UInt8:=((((beL r.Number 4 ++ [Zr r.Version]) ++ r.Nonce.toList) ++ [Zr (r.Label.length : Int)]) ++ r.Label) ++ r.Body
def BG (v : GVault) (r : GRecord) : Dig:=tagC (YT 4) (T6 (JA v r.Version) 129) (JJ r)
theorem qB (v : Blk) : slc v.toList (0 : Int) (16 : Int) = some v.toList:=by
 have h1 : slc v.toList ((0 : Nat) : Int) ((16 : Nat) : Int) = _:=HL (Nat.zero_le _) (by simp)
 have h2 : slc v.toList (0 : Int) (16 : Int) = _:=h1
 rw [h2,List.drop_zero,List.take_of_length_le (by simp)]
theorem Zdf (v : GVault) (r : GRecord) (h : 0 ≤ r.Version ∧ r.Version ≤ (v.Keys.length : Int) - 1) (hl : r.Label.length ≤ 1000) (hb : r.Body.length ≤ 1000) : Xi ⟨YB (YT 4)⟩ v r = some (BG v r):=by
 have hbe : YW r.Number 4 = some (beL r.Number 4):=JD _ 4 (by omega)
 have ht:=v_tag (YT 4) Hg (T6 (JA v r.Version) 129) [beL r.Number 4,[Zr r.Version],r.Nonce.toList,[Zr (r.Label.length : Int)],r.Label,r.Body] (by simp [Td]; omega) (by simp)
 have e : ([beL r.Number 4,[Zr r.Version],r.Nonce.toList,[Zr (r.Label.length : Int)],r.Label,r.Body] : List (List UInt8)).flatten = JJ r:=by simp [JJ]
 rw [e] at ht
 unfold Xi
 rw [AI h.1 h.2,Option.bind_some,KZ,Option.bind_some,Za0,Option.bind_some,hbe,Option.bind_some,qB,Option.bind_some,ht]
 rfl
theorem Zbf (v : GVault) (r : GRecord) (h : 0 ≤ r.Version ∧ r.Version ≤ (v.Keys.length : Int) - 1) (hl : r.Label.length ≤ 1000) (hb : r.Body.length ≤ 1000) : U6 v r = some (BG v r):=by
 have hd : Wi [r.Nonce] = some r.Nonce.toList:=by
  have:=yu [r.Nonce] (by simp)
  simpa [Jg] using this
 have ht:=kB (YT 4) Hg (T6 (JA v r.Version) 129) (JJ r) (by simp [JJ,Td]; omega)
 unfold U6
 rw [yn,Option.bind_some,YP (by simp [Td]),Option.bind_some,Option.bind_some,hd,Option.bind_some,YP (by simp [Td]),Option.bind_some,YP (by simp [Td]),Option.bind_some,YP (by simp [Td]; omega),Option.bind_some,YP (by simp [Td]; omega),Option.bind_some,Kw,Option.bind_some,AI h.1 h.2,Option.bind_some,ja,Option.bind_some]
 have ht' : VZ (YT 4) (T6 (JA v r.Version) 129) (((((beL r.Number 4 ++ [Zr r.Version]) ++ r.Nonce.toList) ++ [Zr (r.Label.length : Int)]) ++ r.Label) ++ r.Body) = some (BG v r):=ht
 rw [ht']; rfl
def jo (c : GCipher) (key nonce : Blk) (j : Nat) : List UInt8:=(tagC c key (nonce.toList ++ [UInt8.ofNat (j / 256),UInt8.ofNat j])).toList
def zt (c : GCipher) (key nonce : Blk) (k : Nat) : List UInt8:=((List.range k).map (jo c key nonce)).flatten
theorem yy (c : GCipher) (key nonce : Blk) (k : Nat) : zt c key nonce (k + 1) = zt c key nonce k ++ jo c key nonce k:=by
 unfold zt
 rw [List.range_succ,List.map_append,List.flatten_append]; simp
theorem Jy (c : GCipher) (key nonce : Blk) : ∀ k,(zt c key nonce k).length = 32 * k
 | 0=>rfl
 | k + 1=>by rw [yy,List.length_append,Jy c key nonce k]; simp [jo]; omega
def QO (c : GCipher) (key nonce : Blk) (n : Nat) : List UInt8:=(zt c key nonce ((n + 31) / 32)).take n
theorem QQ (c : GCipher) (key nonce : Blk) (n : Nat) : (QO c key nonce n).length = n:=by
 unfold QO
 rw [List.length_take,Jy]; omega
theorem B3 (c : GCipher) (key nonce : Blk) (n : Nat) (hn : n ≤ 100000) (L : Int × List UInt8 → Option (Fl (Int × List UInt8) (List UInt8)))
  (hL : ∀ (j : Nat) (out : List UInt8),j ≤ 100000 → out.length ≤ 1000000 → L ((j : Int),out) = if (decide ((out.length : Int) < (n : Int))) = true then some (Fl.nx (((j + 1 : Nat) : Int),out ++ jo c key nonce j)) else some (Fl.ex out)) :
  ((ZB L (0,[]) : Option (List UInt8)).bind fun j=>slc j (0 : Int) (n : Int)) = some (QO c key nonce n):=by
 have:=Z1 (f:=L) (fun j : Nat=>((j : Int),zt c key nonce j)) 0 ((n + 31) / 32) (Nat.zero_le _) (t:=zt c key nonce ((n + 31) / 32)) (fun j _ hj=>by
  have hlen:=Jy c key nonce j
  have e : decide (((zt c key nonce j).length : Int) < (n : Int)) = true:=by rw [hlen]; simp only [decide_eq_true_eq]; omega
  rw [hL j _ (by omega) (by omega),e,if_pos rfl,yy]) (by
  have hlen:=Jy c key nonce ((n + 31) / 32)
  have e : decide (((zt c key nonce ((n + 31) / 32)).length : Int) < (n : Int)) = false:=by rw [hlen]; simp only [decide_eq_false_iff_not]; omega
  rw [hL _ _ (by omega) (by omega),e]; rfl)
 have h2 : ZB L (0,[]) = _:=this
 rw [h2,Option.bind_some]
 have h3 : slc (zt c key nonce ((n + 31) / 32)) ((0 : Nat) : Int) (n : Int) = _:=HL (Nat.zero_le _) (by rw [Jy]; omega)
 have h4 : slc (zt c key nonce ((n + 31) / 32)) (0 : Int) (n : Int) = _:=h3
 rw [h4,List.drop_zero]; rfl
theorem Zba (c : GCipher) (h : YI c = true) (key nonce : Blk) (n : Nat) (hn : n ≤ 100000) : Wh ⟨YB c⟩ key nonce (n : Int) = some (QO c key nonce n):=by
 have h1:=B3 c key nonce n hn (Xl ⟨YB c⟩ key nonce (n : Int)) (fun j out hj ho=>by
  have e1 : Zr (Vy (j : Int) 8) = UInt8.ofNat (j / 256):=by
   have:=kf j 8 (by omega)
   rw [Nat.shiftRight_eq_div_pow] at this
   have h2 : Vy (j : Int) 8 = ((j / 2 ^ 8 : Nat) : Int):=this
   rw [h2,XY]
  have ht:=v_tag c h key [nonce.toList,[UInt8.ofNat (j / 256),UInt8.ofNat j]] (by simp) (by simp)
  have ef : ([nonce.toList,[UInt8.ofNat (j / 256),UInt8.ofNat j]] : List (List UInt8)).flatten = nonce.toList ++ [UInt8.ofNat (j / 256),UInt8.ofNat j]:=by simp
  rw [ef] at ht
  unfold Xl
  simp only [qB,Option.bind_some,e1,XY,ht,yP,Xf (show j < 9223372036854775807 by omega)]
  split
  ·rw [YP (by simp; omega)]; rfl
  ·rfl)
 unfold Wh
 rw [show (ZB (Xl ⟨YB c⟩ key nonce (n : Int)) (0,([] : List UInt8)) : Option (List UInt8)).bind (fun j7=>(slc j7 (0 : Int) (n : Int)).bind fun l46=>(ZS l46).bind fun r48=>some r48) = ((ZB (Xl ⟨YB c⟩ key nonce (n : Int)) (0,([] : List UInt8)) : Option (List UInt8)).bind (fun j7=>slc j7 (0 : Int) (n : Int))).bind (fun l46=>(ZS l46).bind fun r48=>some r48) from (Option.bind_assoc _ _ _).symm,h1,Option.bind_some,Qp _ (by rw [QQ]; omega)]
 rfl
theorem jS (c : GCipher) (h : YI c = true) (key nonce : Blk) (n : Nat) (hn : n ≤ 100000) : Um c key nonce (n : Int) = some (QO c key nonce n):=by
 have hd : Wi [nonce] = some nonce.toList:=by
  have:=yu [nonce] (by simp)
  simpa [Jg] using this
 have h1:=B3 c key nonce n hn (WE c key nonce (n : Int)) (fun j out hj ho=>by
  have e1 : Zr (wr (Int.tdiv (j : Int) 256)) = UInt8.ofNat (j / 256):=by
   have : Int.tdiv (j : Int) 256 = ((j / 256 : Nat) : Int):=by rw [Int.tdiv_eq_ediv_of_nonneg (by omega)]; omega
   rw [this,YS (by omega),XY]
  have e2 : Zr (Int.tmod (j : Int) 256) = UInt8.ofNat j:=by
   have : Int.tmod (j : Int) 256 = ((j % 256 : Nat) : Int):=by rw [Int.tmod_eq_emod_of_nonneg (by omega)]; omega
   rw [this,XY,yF]
  unfold WE
  split
  ·rw [hd,Option.bind_some,e1,e2,YP (by simp),Option.bind_some,kB c h key _ (by simp),Option.bind_some,K2,Option.bind_some,YP (by simp; omega),Option.bind_some,Xf (by omega)]
   rfl
  ·rfl)
 unfold Um
 rw [show (ZB (WE c key nonce (n : Int)) (0,([] : List UInt8)) : Option (List UInt8)).bind (fun j9=>(slc j9 (0 : Int) (n : Int)).bind fun l44=>(Xa l44).bind fun r46=>some r46) = ((ZB (WE c key nonce (n : Int)) (0,([] : List UInt8)) : Option (List UInt8)).bind (fun j7=>slc j7 (0 : Int) (n : Int))).bind (fun l46=>(Xa l46).bind fun r48=>some r48) from (Option.bind_assoc _ _ _).symm,h1,Option.bind_some,KQ _ (by rw [QQ]; omega)]
 rfl

def TA (a b : List UInt8) : List UInt8:=List.zipWith (fun x y=>x ^^^ y) a b
theorem BH {a b : List UInt8} (h : b.length = a.length) : (TA a b).length = a.length:=by simp [TA,h]
theorem km {a b : List UInt8} {i : Nat} (ha : i < a.length) (hb : i < b.length) (h : i < (TA a b).length) : (TA a b)[i] = a[i] ^^^ b[i]:=by simp [TA]
theorem kQ (v : GVault) (r : GRecord) (d : List UInt8) (h : 0 ≤ r.Version ∧ r.Version ≤ (v.Keys.length : Int) - 1) (hd : d.length ≤ 100000) :
  XK ⟨YB (YT 4)⟩ v r d = some (TA d (QO (YT 4) (JA v r.Version) r.Nonce d.length)):=by
 unfold XK
 rw [Qp d (by omega),Option.bind_some,AI h.1 h.2,Option.bind_some,Zba (YT 4) Hg _ _ _ hd,Option.bind_some,Option.bind_some]
 generalize hs : QO (YT 4) (JA v r.Version) r.Nonce d.length = s
 have hsl : s.length = d.length:=by rw [← hs,QQ]
 have hxl:=BH hsl
 have:=Z1 (f:=Y1 (s,(s.length : Int),0)) (fun i : Nat=>((i : Int),(TA d s).take i ++ d.drop i)) 0 d.length (Nat.zero_le _) (t:=TA d s) (fun i _ hi=>by
  have h1 : i < s.length:=by omega
  have h2 : i < (TA d s).length:=by omega
  have h3 : ((TA d s).take i ++ d.drop i)[i]? = some d[i]:=by
   rw [List.getElem?_append_right (by simp; omega),List.length_take,List.getElem?_drop]
   have e : i + (i - min i (TA d s).length) = i:=by omega
   rw [e,List.getElem?_eq_getElem hi]
  have h4 : ((TA d s).take i ++ d.drop i).set i (d[i] ^^^ s[i]) = (TA d s).take (i + 1) ++ d.drop (i + 1):=by
   rw [List.set_append_right _ _ (by simp; omega),List.drop_eq_getElem_cons hi]
   have e : i - ((TA d s).take i).length = 0:=by simp; omega
   rw [e,List.set_cons_zero,List.take_succ_eq_append_getElem h2,km hi h1 h2,List.append_assoc]; rfl
  unfold Y1
  simp only [Int.ofNat_lt,h1,decide_true,if_true,Yz,List.getElem?_eq_getElem h1,h3,Option.bind_some,Int.toNat_natCast,h4,Xf (show i < 9223372036854775807 by omega)]) (by
  have e : (TA d s).take d.length ++ d.drop d.length = TA d s:=by rw [List.take_of_length_le (by omega),List.drop_length,List.append_nil]
  unfold Y1
  simp only [hsl,Int.ofNat_lt,Nat.lt_irrefl,decide_false,Bool.false_eq_true,if_false,e])
 have h2 : ZB (Y1 (s,(s.length : Int),0)) (0,d) = _:=this
 rw [h2]; rfl
theorem jT (v : GVault) (r : GRecord) (d : List UInt8) (h : 0 ≤ r.Version ∧ r.Version ≤ (v.Keys.length : Int) - 1) (hd : d.length ≤ 100000) :
  Vb v r d = some (TA d (QO (YT 4) (JA v r.Version) r.Nonce d.length)):=by
 unfold Vb
 rw [Kw,Option.bind_some,AI h.1 h.2,Option.bind_some,jS (YT 4) Hg _ _ _ hd,Option.bind_some,Option.bind_some]
 generalize hs : QO (YT 4) (JA v r.Version) r.Nonce d.length = s
 have hsl : s.length = d.length:=by rw [← hs,QQ]
 have hxl:=BH hsl
 have:=Z1 (f:=WD d (s,[])) (fun i : Nat=>((TA d s).take i,(i : Int))) 0 d.length (Nat.zero_le _) (t:=TA d s) (fun i _ hi=>by
  have h1 : i < s.length:=by omega
  have h2 : i < (TA d s).length:=by omega
  unfold WD
  simp only [Int.ofNat_lt,hi,decide_true,if_true,Yz,List.getElem?_eq_getElem h1,List.getElem?_eq_getElem hi,Option.bind_some,Xf (show i < 9223372036854775807 by omega)]
  rw [YP (by simp; omega),List.take_succ_eq_append_getElem h2,km hi h1 h2]; rfl) (by
  have e : (TA d s).take d.length = TA d s:=List.take_of_length_le (by omega)
  unfold WD
  simp only [Int.ofNat_lt,Nat.lt_irrefl,decide_false,Bool.false_eq_true,if_false,e])
 have h2 : ZB (WD d (s,[])) ([],0) = _:=this
 rw [h2]; rfl

theorem y9 (l : List Blk) (h : l.length ≤ 1000000) : Yp l = some l:=by
 unfold Yp
 rw [YP (by simp; omega)]; rfl
theorem y0 (l : List GEvent) (h : l.length ≤ 1000000) : Yo l = some l:=by
 unfold Yo
 rw [YP (by simp; omega)]; rfl
theorem kp (l : List GRecord) : l.map (fun r=>(⟨r.Number,r.Version,r.Nonce,r.Label,r.Body,r.Tag⟩ : GRecord)) = l:=by
 induction l with
 | nil=>rfl
 | cons r l ih=>rw [List.map_cons,ih]
def y7 (v : GVault) : Prop:=v.Keys.length ≤ 1000 ∧ v.Events.length ≤ 1000 ∧ v.Records.length ≤ 1000 ∧ ∀ r ∈ v.Records,r.Label.length ≤ 1000000 ∧ r.Body.length ≤ 1000000
theorem Zds (v : GVault) (h : y7 v) : Vw v = some v:=by
 obtain ⟨h1,h2,h3,h4⟩:=h
 have hl:=zq (f:=WQ v) v.Records (fun r=>(⟨r.Number,r.Version,r.Nonce,r.Label,r.Body,r.Tag⟩ : GRecord)) (t:=v.Records) (by omega) (fun i hi=>by
  obtain ⟨a1,a2⟩:=h4 _ (List.getElem_mem hi)
  unfold WQ
  simp only [Int.ofNat_lt,hi,decide_true,if_true,Yz,List.getElem?_eq_getElem hi,Option.bind_some,Qp _ (show v.Records[i].Label.length ≤ 140737488355328 by omega),Qp _ (show v.Records[i].Body.length ≤ 140737488355328 by omega)]
  rw [YP (by simp; omega)]; rfl) (by
  unfold WQ
  rw [kp]; simp)
 unfold Vw
 rw [y9 _ (by omega),Option.bind_some,y0 _ (by omega),Option.bind_some,hl]; rfl
theorem Zcr (v : GVault) (h : y7 v) : T1 v = some v:=by
 obtain ⟨h1,h2,h3,h4⟩:=h
 have hl:=zq (f:=TB v) v.Records (fun r=>(⟨r.Number,r.Version,r.Nonce,r.Label,r.Body,r.Tag⟩ : GRecord)) (t:=v.Records) (by omega) (fun i hi=>by
  obtain ⟨a1,a2⟩:=h4 _ (List.getElem_mem hi)
  unfold TB
  simp only [Int.ofNat_lt,hi,decide_true,if_true,Yz,List.getElem?_eq_getElem hi,Option.bind_some,KQ _ (show v.Records[i].Label.length ≤ 140737488355328 by omega),KQ _ (show v.Records[i].Body.length ≤ 140737488355328 by omega)]
  rw [YP (by simp; omega)]; rfl) (by
  unfold TB
  rw [kp]; simp)
 unfold T1
 rw [YP (by simp; omega),Option.bind_some,YP (by simp; omega),Option.bind_some,hl]; rfl
theorem jc {v : GVault} (h : WR v = true) (hb : ∀ r ∈ v.Records,r.Label.length ≤ 1000000 ∧ r.Body.length ≤ 1000000) : y7 v:=by
 obtain ⟨h1,h2,h3,h4,h5,h6⟩:=Kt h
 exact ⟨by omega,by omega,by omega,hb⟩
def Jb (v : GVault) (e : GEvent) : GVault:=⟨v.Keys,v.Next,v.Records,v.Events ++ [e],zI (YT 4) (v.Events ++ [e])⟩
theorem Zc4 (v : GVault) (e : GEvent) (h : v.Events.length ≤ 1000) : XW ⟨YB (YT 4)⟩ v e = some (Jb v e):=by
 unfold XW
 rw [YP (by simp; omega),Option.bind_some,z8 _ Hg _ (by simp; omega)]; rfl
theorem Zar (v : GVault) (k n : Int) (t : Dig) (h : v.Events.length ≤ 1000) : Uk v k n t = some (Jb v ⟨k,n,t⟩):=by
 unfold Uk
 rw [YP (by simp; omega),Option.bind_some,Zah _ (by simp; omega)]; rfl
def J5 : GVault:=⟨[],0,[],[],Vector.replicate 32 0⟩
def kE (v : GVault) (nonce : Blk) : Bool:=v.Records.any fun r=>(r.Version == (v.Keys.length : Int) - 1) && decide (r.Nonce = nonce)
theorem AN {v : GVault} (h : v.Keys.length ≤ 1000) : wr ((v.Keys.length : Int) - 1) = (v.Keys.length : Int) - 1:=YS (by omega)
theorem kL (v : GVault) (nonce : Blk) (hk : v.Keys.length ≤ 1000) (hr : v.Records.length ≤ 1000) : X3 v nonce = some (kE v nonce):=by
 have h1 : ∀ z,Yy z v nonce = some ((z.Version == (v.Keys.length : Int) - 1) && decide (z.Nonce = nonce)):=fun z=>by
  have hlen : Z2 v.Keys = some (v.Keys.length : Int):=rfl
  unfold Yy
  rw [hlen,Option.bind_some,AN hk]
  cases z.Version == (v.Keys.length : Int) - 1 <;> rfl
 unfold X3 Yi Yr
 rw [qK v.Records (fun z=>Yy z v nonce) (fun z=>(z.Version == (v.Keys.length : Int) - 1) && decide (z.Nonce = nonce)) (Yn v.Records (fun z0=>Yy z0 v nonce)) (fun s=>by
  unfold Yn
  rfl) (by omega) (fun x _=>h1 x)]
 simp only [Option.bind_some,Zbm]
 rfl
theorem Zag (v : GVault) (nonce : Blk) (hk : v.Keys.length ≤ 1000) (hr : v.Records.length ≤ 1000) : Tr v nonce = some (kE v nonce):=by
 unfold Tr
 rw [yL (f:=U0 v nonce) v.Records (fun z=>(z.Version == (v.Keys.length : Int) - 1) && decide (z.Nonce = nonce)) (t:=true) (by omega) (fun i hi=>by
  unfold U0
  simp only [Int.ofNat_lt,hi,decide_true,if_true,Yz,List.getElem?_eq_getElem hi,Option.bind_some,AN hk]
  cases v.Records[i].Version == (v.Keys.length : Int) - 1 with
  | true =>
   simp only [if_true,Option.bind_some,Bool.true_and]
   cases decide (v.Records[i].Nonce = nonce) <;> rfl
  | false=>rfl) (by unfold U0; simp)]
 rw [Option.bind_some]
 show Fl.el _ _ _ = some (List.any v.Records fun z=>(z.Version == (v.Keys.length : Int) - 1) && decide (z.Nonce = nonce))
 cases List.any v.Records fun z=>(z.Version == (v.Keys.length : Int) - 1) && decide (z.Nonce = nonce) <;> rfl
def QX (v : GVault) (ver : Int) (nonce : Blk) (data : List UInt8) : List UInt8:=TA data (QO (YT 4) (JA v ver) nonce data.length)
theorem Jc (v : GVault) (ver : Int) (nonce : Blk) (data : List UInt8) : (QX v ver nonce data).length = data.length:=BH (QQ _ _ _ _)
def Th (v : GVault) (n ver : Int) (nonce : Blk) (label data : List UInt8) : GRecord:=⟨n,ver,nonce,label,QX v ver nonce data,BG v ⟨n,ver,nonce,label,QX v ver nonce data,Vector.replicate 32 0⟩⟩
def limB (v : GVault) : Bool:=(v.Records.length == 12) || (v.Events.length == 60) || (v.Next == 1000000)
theorem jx (v : GVault) : (if ((v.Records.length : Int) == 12) = true then (some true) else (if ((v.Events.length : Int) == 60) = true then (some true) else (some (v.Next == 1000000))) : Option Bool) = some (limB v):=by
 unfold limB
 have e1 : ((v.Records.length : Int) == 12) = (v.Records.length == 12):=by rw [Bool.eq_iff_iff,beq_iff_eq,beq_iff_eq]; omega
 have e2 : ((v.Events.length : Int) == 60) = (v.Events.length == 60):=by rw [Bool.eq_iff_iff,beq_iff_eq,beq_iff_eq]; omega
 rw [e1,e2]
 cases v.Records.length == 12 <;> cases v.Events.length == 60 <;> rfl
def JB (label data : List UInt8) : Bool:=decide (32 < label.length) || decide (200 < data.length)
theorem Zay (label data : List UInt8) : (if (decide ((label.length : Int) > 32)) = true then (some true) else (some (decide ((data.length : Int) > 200))) : Option Bool) = some (JB label data):=by
 unfold JB
 have e1 : decide ((label.length : Int) > 32) = decide (32 < label.length):=by rw [Bool.eq_iff_iff]; simp only [decide_eq_true_eq]; omega
 have e2 : decide ((data.length : Int) > 200) = decide (200 < data.length):=by rw [Bool.eq_iff_iff]; simp only [decide_eq_true_eq]; omega
 rw [e1,e2]
 cases decide (32 < label.length) <;> rfl
theorem qj (label data : List UInt8) : (if (decide ((data.length : Int) > 200)) = true then (some true) else (some (decide ((label.length : Int) > 32))) : Option Bool) = some (JB label data):=by
 unfold JB
 have e1 : decide ((label.length : Int) > 32) = decide (32 < label.length):=by rw [Bool.eq_iff_iff]; simp only [decide_eq_true_eq]; omega
 have e2 : decide ((data.length : Int) > 200) = decide (200 < data.length):=by rw [Bool.eq_iff_iff]; simp only [decide_eq_true_eq]; omega
 rw [e1,e2]
 cases decide (32 < label.length) <;> cases decide (200 < data.length) <;> rfl
def QM (v : GVault) (r : GRecord) : GVault:=⟨v.Keys,v.Next + 1,v.Records ++ [r],v.Events,v.Head⟩
def Jw (v : GVault) (label data : List UInt8) (nonce : Blk) : GVault × Int × Int :=
 if WR v then (if JB label data then (J5,0,2) else if kE v nonce then (J5,0,5) else if limB v then (J5,0,3) else
  (Jb (QM v (Th v v.Next ((v.Keys.length : Int) - 1) nonce label data)) ⟨1,v.Next,(Th v v.Next ((v.Keys.length : Int) - 1) nonce label data).Tag⟩,v.Next,0)) else (J5,0,1)
theorem Ja {label data : List UInt8} (h : JB label data = false) : label.length ≤ 32 ∧ data.length ≤ 200:=by
 unfold JB at h
 simp only [Bool.or_eq_false_iff,decide_eq_false_iff_not] at h
 omega
theorem kl {v : GVault} (hv : WR v = true) : y7 v:=jc hv fun r hr=>by
 obtain ⟨_,_,h1,h2⟩:=Za1 hv hr
 omega
theorem Zcn (v : GVault) (n ver : Int) (nonce : Blk) (label data : List UInt8) (t : Dig) (b : List UInt8) (h : 0 ≤ ver ∧ ver ≤ (v.Keys.length : Int) - 1) (hl : label.length ≤ 32) (hd : data.length ≤ 200) :
  Wf ⟨YB (YT 4)⟩ v ⟨n,ver,nonce,label,b,t⟩ data = some (Th v n ver nonce label data):=by
 unfold Wf
 rw [kQ v ⟨n,ver,nonce,label,b,t⟩ data h (by omega),Option.bind_some]
 have hb:=Jc v ver nonce data
 have ht : Xi ⟨YB (YT 4)⟩ v ⟨n,ver,nonce,label,QX v ver nonce data,t⟩ = some (BG v ⟨n,ver,nonce,label,QX v ver nonce data,t⟩):=Zdf v _ h (show label.length ≤ 1000 by omega) (show (QX v ver nonce data).length ≤ 1000 by omega)
 show (Xi ⟨YB (YT 4)⟩ v ⟨n,ver,nonce,label,QX v ver nonce data,t⟩).bind _ = _
 rw [ht]; rfl
theorem Ax (v : GVault) (hb : Wt.ln v) (label data : List UInt8) (nonce : Blk) : VC v label data nonce = some (Jw v label data nonce):=by
 unfold VC Jw
 rw [zN v hb,Option.bind_some]
 cases hv : WR v with
 | false=>rfl
 | true =>
  obtain ⟨h1,h2,h3,h4,h5,h6⟩:=Kt hv
  simp only [Bool.not_true,Bool.false_eq_true,if_false,if_true]
  rw [qj,Option.bind_some]
  cases hlg : JB label data with
  | true=>rfl
  | false =>
   obtain ⟨k1,k2⟩:=Ja hlg
   simp only [Bool.false_eq_true,if_false]
   rw [kL v nonce (by omega) (by omega),Option.bind_some]
   cases kE v nonce with
   | true=>rfl
   | false =>
    simp only [Bool.false_eq_true,if_false]
    rw [jx,Option.bind_some]
    cases limB v with
    | true=>rfl
    | false =>
     have hlen : Z2 v.Keys = some (v.Keys.length : Int):=rfl
     simp only [Bool.false_eq_true,if_false]
     rw [zW,Option.bind_some,Zds v (kl hv),Option.bind_some,hlen,Option.bind_some,Qp label (by omega),Option.bind_some,AN (by omega),
      Zcn v _ _ _ _ _ _ _ ⟨by omega,by omega⟩ k1 k2,Option.bind_some,YP (by simp; omega),Option.bind_some,YS (by omega)]
     have hn : ∀ e,XW ⟨YB (YT 4)⟩ (QM v (Th v v.Next ((v.Keys.length : Int) - 1) nonce label data)) e = some (Jb (QM v (Th v v.Next ((v.Keys.length : Int) - 1) nonce label data)) e):=fun e=>Zc4 _ e (show v.Events.length ≤ 1000 by omega)
     have:=hn ⟨1,(Th v v.Next ((v.Keys.length : Int) - 1) nonce label data).Number,(Th v v.Next ((v.Keys.length : Int) - 1) nonce label data).Tag⟩
     unfold QM at this
     rw [this]
     rfl
theorem Aj (v : GVault) (hb : Wt.ln v) (label data : List UInt8) (nonce : Blk) : UT v label data nonce = some (Jw v label data nonce):=by
 unfold UT Jw
 rw [Zdp v hb,Option.bind_some]
 cases hv : WR v with
 | false=>rfl
 | true =>
  obtain ⟨h1,h2,h3,h4,h5,h6⟩:=Kt hv
  simp only [Bool.not_true,Bool.false_eq_true,if_false,if_true]
  rw [Zay,Option.bind_some]
  cases hlg : JB label data with
  | true=>rfl
  | false =>
   obtain ⟨k1,k2⟩:=Ja hlg
   simp only [Bool.false_eq_true,if_false]
   rw [Zag v nonce (by omega) (by omega),Option.bind_some]
   cases kE v nonce with
   | true=>rfl
   | false =>
    simp only [Bool.false_eq_true,if_false]
    rw [jx,Option.bind_some]
    cases limB v with
    | true=>rfl
    | false =>
     have hbl:=Jc v ((v.Keys.length : Int) - 1) nonce data
     simp only [Bool.false_eq_true,if_false]
     have hm : ∀ t,Vb v ⟨v.Next,(v.Keys.length : Int) - 1,nonce,label,[],t⟩ data = some (QX v ((v.Keys.length : Int) - 1) nonce data):=fun t=>jT v _ data ⟨by show (0 : Int) ≤ (v.Keys.length : Int) - 1; omega,Int.le_refl _⟩ (by omega)
     have ht : ∀ t,U6 v ⟨v.Next,(v.Keys.length : Int) - 1,nonce,label,QX v ((v.Keys.length : Int) - 1) nonce data,t⟩ = some (BG v ⟨v.Next,(v.Keys.length : Int) - 1,nonce,label,QX v ((v.Keys.length : Int) - 1) nonce data,t⟩):=fun t=>Zbf v _ ⟨by show (0 : Int) ≤ (v.Keys.length : Int) - 1; omega,Int.le_refl _⟩ (show label.length ≤ 1000 by omega) (show (QX v ((v.Keys.length : Int) - 1) nonce data).length ≤ 1000 by omega)
     rw [Zcr v (kl hv),Option.bind_some,KQ label (by omega),Option.bind_some,AN (by omega),hm,Option.bind_some,ht,Option.bind_some,YP (by simp; omega),Option.bind_some,YS (by omega)]
     have hn : ∀ k n t,Uk (QM v (Th v v.Next ((v.Keys.length : Int) - 1) nonce label data)) k n t = some (Jb (QM v (Th v v.Next ((v.Keys.length : Int) - 1) nonce label data)) ⟨k,n,t⟩):=fun k n t=>Zar _ k n t (show v.Events.length ≤ 1000 by omega)
     have:=hn 1 v.Next (Th v v.Next ((v.Keys.length : Int) - 1) nonce label data).Tag
     unfold QM Th at this
     rw [this]
     rfl
theorem qM {α : Type} [Dat α] [Wt α] (l : List α) (x : α) : Wt.wt (l ++ [x]) = Wt.wt l + (Wt.wt x + 1):=by
 rw [Ku,Ku,List.map_append,List.sum_append,List.length_append,List.map_cons,List.map_nil,List.sum_cons,List.sum_nil,List.length_singleton]; omega
theorem Zdv (r : GRecord) : Wt.wt r = r.Label.length + r.Body.length:=by
 have e : Wt.wt r = Wt.wt r.Label + Wt.wt r.Body:=rfl
 rw [e,KI,KI]
theorem Zbz (v : GVault) (e : GEvent) : Wt.wt (Jb v e) = Wt.wt v + 1:=by
 unfold Jb
 rw [JC,JC]
 have e0 : Wt.wt e = 0:=rfl
 have:=qM v.Events e
 simp only [this,e0]; omega
theorem Zcj {v : GVault} (e : GEvent) (h : Wt.ln v) (he : v.Events.length ≤ 1000) : Wt.ln (Jb v e):=⟨h.1,h.2.1,⟨by simp [Jb]; omega,fun _ _=>trivial⟩⟩
theorem Zcy : Wt.wt J5 = 0:=rfl
theorem H1 : Wt.ln J5:=⟨⟨by simp [J5],fun _ _=>trivial⟩,⟨by simp [J5],fun x hx=>by simp [J5] at hx⟩,⟨by simp [J5],fun _ _=>trivial⟩⟩
theorem Zb9 (v : GVault) (label data : List UInt8) (nonce : Blk) (hw : Wt.wt v ≤ 1048576) : Wt.wt (Jw v label data nonce).1 ≤ 1049000:=by
 have hz:=Zcy
 unfold Jw
 split
 ·cases hlg : JB label data with
  | true=>simp only [if_true,hz]; omega
  | false =>
   obtain ⟨k1,k2⟩:=Ja hlg
   simp only [Bool.false_eq_true,if_false]
   split
   ·simp only [hz]; omega
   ·split
    ·simp only [hz]; omega
    ·simp only [Zbz]
     unfold QM
     rw [JC] at hw ⊢
     have:=qM v.Records (Th v v.Next ((v.Keys.length : Int) - 1) nonce label data)
     have h2:=Zdv (Th v v.Next ((v.Keys.length : Int) - 1) nonce label data)
     have h3:=Jc v ((v.Keys.length : Int) - 1) nonce data
     unfold Th at h2 this ⊢
     simp only [this,h2,h3]
     omega
 ·simp only [hz]; omega
theorem Zby (v : GVault) (label data : List UInt8) (nonce : Blk) (hl : Wt.ln v) : Wt.ln (Jw v label data nonce).1:=by
 unfold Jw
 cases hv : WR v with
 | false=>exact H1
 | true =>
  obtain ⟨h1,h2,h3,h4,h5,h6⟩:=Kt hv
  simp only [if_true]
  cases hlg : JB label data with
  | true=>exact H1
  | false =>
   obtain ⟨k1,k2⟩:=Ja hlg
   simp only [Bool.false_eq_true,if_false]
   split
   ·exact H1
   ·split
    ·exact H1
    ·refine Zcj _ ⟨hl.1,⟨by simp [QM]; omega,fun x hx=>?_⟩,hl.2.2⟩ (by show v.Events.length ≤ 1000; omega)
     simp only [QM,List.mem_append,List.mem_singleton] at hx
     rcases hx with hx | rfl
     ·exact hl.2.1.2 x hx
     ·have h3:=Jc v ((v.Keys.length : Int) - 1) nonce data
      exact ⟨⟨by show label.length ≤ _; omega,fun _ _=>trivial⟩,⟨by show (QX v ((v.Keys.length : Int) - 1) nonce data).length ≤ _; omega,fun _ _=>trivial⟩⟩
theorem jv {l : List UInt8} (h : l.length ≤ 9223372036854775807) : Wt.ln l:=⟨h,fun _ _=>trivial⟩
theorem J3 (v : GVault) (label data : List UInt8) (nonce : Blk) (h : Dat.bd v) (_ : Dat.bd label) (_ : Dat.bd data) (_ : Dat.bd nonce) : W0 v label data nonce = some true:=by
 unfold W0
 by_cases c1 : decide ((label.length : Int) > 1048576) = true
 ·rw [if_pos c1]
 rw [if_neg c1]
 by_cases c2 : decide ((data.length : Int) > 1048576) = true
 ·rw [if_pos c2]
 rw [if_neg c2]
 simp only [decide_eq_true_eq] at c1 c2
 refine Zdt (Zab v (Wt.bdln v h)) (by omega) (by omega) fun r _ _ hw=>?_
 have hw : Wt.wt v ≤ 1048576:=by omega
 have hl:=Wt.wtln v hw
 have hz:=Zb9 v label data nonce hw
 have hln:=Zby v label data nonce hl
 have hle:=AY v
 have hle2:=AY (Jw v label data nonce).1
 have hll : Wt.ln label:=jv (by omega)
 have hld : Wt.ln data:=jv (by omega)
 obtain ⟨x',m1⟩:=jW v hl 1 (by omega) (by omega)
 obtain ⟨y',m2,m3⟩:=jD (Jw v label data nonce).1 hln 1 (by omega) (by omega)
 obtain ⟨z1,n1⟩:=Kr label hll (1 + (UK v : Nat)) (by omega) (by rw [H2]; omega)
 obtain ⟨z2,n2⟩:=Kr data hld (1 + (UK v : Nat) + ((label.map fun _=>1).sum : Nat)) (by omega) (by rw [H2,H2]; omega)
 have e1 : ¬ ((1 : Int) + (UK v : Nat) + ((label.map fun _=>1).sum : Nat) + ((data.map fun _=>1).sum : Nat) < 0):=by omega
 have e2 : ¬ ((1 : Int) + (UK (Jw v label data nonce).1 : Nat) < 0):=by omega
 simp [Za2 v hw,BN,JZ label (by rw [KI]; omega),JZ data (by rw [KI]; omega),JV label hll,JV data hld,Aj v hl,Ax v hl,ym v hl,ym _ hln,m1,m2,m3,n1,n2,e1,e2]
end Go.Proofs.YtpibglnacohdkaaGreat
