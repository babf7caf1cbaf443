/- Plain laws, no program in sight. -/
import Derived.Test.YtpibglnacohdkaaGreatC3
set_option linter.unusedVariables false
set_option linter.unusedSimpArgs false
set_option maxRecDepth 20000
set_option maxHeartbeats 400000
namespace Go.Proofs.YtpibglnacohdkaaGreat
open Go
open Flat (enc)
theorem Bq {α : Type} {l : List α} {i : Nat} (h : i < l.length) : idx l (i : Int) = some l[i]:=by
 unfold idx
 rw [if_pos (by omega)]
 simp
theorem XB {i : Nat} (h : i < 9223372036854775807) : wr ((i : Int) + 1) = ((i + 1 : Nat) : Int):=by
 rw [YG (by omega)]; rfl

section
variable {S T : Type} {f : S → Option (Fl S T)}
theorem Za7 (g : Nat → S) (m n : Nat) (hmn : m ≤ n) (h : ∀ i, m ≤ i → i < n → f (g i) = some (.nx (g (i + 1)))) : ZB f (g m) = ZB f (g n) := by
  induction n with
  | zero => have : m = 0 := by omega
            subst this; rfl
  | succ n ih =>
    rcases Nat.lt_or_ge m (n + 1) with h1 | h1
    · rw [ih (by omega) (fun i h2 h3 => h i h2 (by omega)), Wu (h n (by omega) (by omega))]
    · have : m = n + 1 := by omega
      subst this; rfl
theorem ZY (g : Nat → S) (m n : Nat) (hmn : m ≤ n) {t : T} (h : ∀ i,m ≤ i → i < n → f (g i) = some (.nx (g (i + 1)))) (he : f (g n) = some (.ex t)) : ZB f (g m) = some t:=by
 rw [Za7 g m n hmn h,Wg he]
theorem QP (g : Nat → S) (p : Nat → Bool) (t : Nat → T) {e : T} (n : Nat) : ∀ (k m : Nat),m + k = n → (∀ i,m ≤ i → i < n → f (g i) = some (if p i then .ex (t i) else .nx (g (i + 1)))) → f (g n) = some (.ex e) →
  ZB f (g m) = some (((List.range' m k).find? p).elim e t)
 | 0,m,hk,_,he=>by
  have : m = n:=by omega
  subst this
  rw [Wg he]; rfl
 | k + 1,m,hk,h,he=>by
  have h1:=h m (Nat.le_refl _) (by omega)
  rw [List.range'_succ,List.find?_cons]
  cases hp : p m with
  | true=>rw [hp] at h1; rw [Wg h1]; rfl
  | false =>
   rw [hp] at h1
   rw [Wu h1,QP g p t n k (m + 1) (by omega) (fun i h2 h3=>h i (by omega) h3) he]
end

theorem yd {T : Type} {f : Int → Option (Fl Int (Fl Unit T))} (p : Nat → Bool) {t : T} {n m : Nat} (hm : m ≤ n)
  (h : ∀ i,m ≤ i → i < n → f (i : Int) = some (if p i then .ex (.ex t) else .nx ((i + 1 : Nat) : Int))) (he : f (n : Int) = some (.ex (.nx ()))) :
  ZB f (m : Int) = some (if (List.range' m (n - m)).any p then .ex t else .nx ()):=by
 rw [QP (fun i : Nat=>(i : Int)) p (fun _=>.ex t) n (n - m) m (by omega) h he]
 cases hf : (List.range' m (n - m)).find? p with
 | none =>
  have : (List.range' m (n - m)).any p = false:=by
   rw [List.any_eq_false]
   rw [List.find?_eq_none] at hf
   exact hf
  rw [this]; rfl
 | some i =>
  have : (List.range' m (n - m)).any p = true:=by
   rw [List.any_eq_true]
   exact ⟨i,List.mem_of_find?_eq_some hf,List.find?_some hf⟩
  rw [this]; rfl
theorem kR {p : Nat → Bool} {m n : Nat} : (List.range' m (n - m)).any p = true ↔ ∃ i,m ≤ i ∧ i < n ∧ p i = true:=by
 rw [List.any_eq_true]
 simp only [List.mem_range'_1]
 constructor
 ·rintro ⟨i,⟨h1,h2⟩,h3⟩; exact ⟨i,h1,by omega,h3⟩
 ·rintro ⟨i,h1,h2,h3⟩; exact ⟨i,⟨h1,by omega⟩,h3⟩
theorem qu {α : Type} {q : α → Bool} {l : List α} {p : Nat → Bool} (hp : ∀ i (h : i < l.length),p i = q l[i]) : (List.range' 0 (l.length - 0)).any p = l.any q:=by
 rw [Bool.eq_iff_iff,kR,List.any_eq_true]
 constructor
 ·rintro ⟨i,_,h,h3⟩; exact ⟨l[i],List.getElem_mem h,by rw [← hp i h]; exact h3⟩
 ·rintro ⟨x,hx,h⟩
  obtain ⟨i,hi,rfl⟩:=List.mem_iff_getElem.1 hx
  exact ⟨i,Nat.zero_le _,hi,by rw [hp i hi]; exact h⟩

theorem kK {T α : Type} {f : Int → Option (Fl Int (Fl Unit T))} (l : List α) (q : α → Bool) {t : T} (hl : l.length < 9223372036854775807)
  (h : ∀ i (hi : i < l.length),f (i : Int) = some (if q l[i] then .ex (.ex t) else .nx (wr ((i : Int) + 1)))) (he : f (l.length : Int) = some (.ex (.nx ()))) :
  ZB f 0 = some (if l.any q then .ex t else .nx ()):=by
 have:=yd (f:=f) (fun i=>if hi : i < l.length then q l[i] else false) (t:=t) (n:=l.length) (m:=0) (Nat.zero_le _) (fun i _ hi=>by
  rw [h i hi,XB (by omega)]; simp [hi]) he
 rw [qu (q:=q) (fun i hi=>by simp [hi])] at this
 exact this

class Wt (α : Type) [Dat α] where
 wt : α → Nat
 ln : α → Prop
 bdln : ∀ x,Dat.bd x → ln x
 wtln : ∀ x,wt x ≤ 1048576 → ln x
instance : Wt Int:=⟨fun _=>0,fun _=>True,fun _ _=>trivial,fun _ _=>trivial⟩
instance : Wt UInt8:=⟨fun _=>0,fun _=>True,fun _ _=>trivial,fun _ _=>trivial⟩
instance : Wt Bool:=⟨fun _=>0,fun _=>True,fun _ _=>trivial,fun _ _=>trivial⟩
instance : Wt Str:=⟨fun s=>s.l.length,fun s=>s.l.length ≤ 9223372036854775807,fun _ h=>h,fun _ h=>by omega⟩
instance {n : Nat} : Wt (Vector UInt8 n):=⟨fun _=>0,fun _=>True,fun _ _=>trivial,fun _ _=>trivial⟩
instance {n m : Nat} : Wt (Vector (Vector UInt8 m) n):=⟨fun _=>0,fun _=>True,fun _ _=>trivial,fun _ _=>trivial⟩
theorem kh {α : Type} {f : α → Nat} {l : List α} {x : α} (h : x ∈ l) : f x ≤ (l.map f).sum:=by
 induction l with
 | nil=>cases h
 | cons y l ih =>
  rw [List.map_cons,List.sum_cons]
  rcases List.mem_cons.1 h with rfl | h
  ·omega
  ·have:=ih h; omega
instance {α : Type} [Dat α] [Wt α] : Wt (List α):=⟨fun l=>l.length + (l.map Wt.wt).sum,fun l=>l.length ≤ 9223372036854775807 ∧ ∀ x ∈ l,Wt.ln x,fun _ h=>⟨h.1,fun x hx=>Wt.bdln x (h.2 x hx)⟩,
 fun l h=>⟨by omega,fun x hx=>Wt.wtln x (by have:=kh (f:=Wt.wt) hx; omega)⟩⟩
instance {α β : Type} [Dat α] [Dat β] [Wt α] [Wt β] : Wt (α × β):=⟨fun x=>Wt.wt x.1 + Wt.wt x.2,fun x=>Wt.ln x.1 ∧ Wt.ln x.2,fun x h=>⟨Wt.bdln x.1 h.1,Wt.bdln x.2 h.2⟩,fun x h=>⟨Wt.wtln x.1 (by omega),Wt.wtln x.2 (by omega)⟩⟩
theorem T1 {α : Type} [Dat α] [Wt α] (l : List α) : Wt.wt l = l.length + (l.map Wt.wt).sum:=rfl
theorem wt_mem {α : Type} [Dat α] [Wt α] {l : List α} {x : α} (h : x ∈ l) : Wt.wt x ≤ (l.map Wt.wt).sum:=kh h
theorem Zbt {α : Type} [Dat α] [Wt α] {l : List α} {x : α} (h : x ∈ l) : Wt.wt x ≤ Wt.wt l:=by
 have:=wt_mem h; rw [T1]; omega
theorem zZ {α : Type} [Dat α] [Wt α] (l : List α) : l.length ≤ Wt.wt l:=by rw [T1]; omega
theorem W3 {α : Type} [Dat α] [Wt α] {l : List α} (h : Wt.ln l) : l.length ≤ 9223372036854775807:=h.1
theorem zN {α : Type} [Dat α] [Wt α] {l : List α} {x : α} (h : Wt.ln l) (hx : x ∈ l) : Wt.ln x:=h.2 x hx

theorem KI {α β : Type} (p0 : List α) (c : α → Option β) (g : α → β) (by_ : Nat) (z : β) (L : List β × Int → Option (Fl (List β × Int) (List β)))
  (hL : ∀ s,L s = if (decide (s.2 < (p0.length : Int))) = true then ((idx p0 s.2).bind fun x=>(c x).bind fun r=>(idx s.1 s.2).bind fun _=>some (Fl.nx ((s.1.set (s.2).toNat r),wr (s.2 + 1)))) else (some (Fl.ex s.1)))
  (hc : ∀ x ∈ p0,c x = some (g x)) (hl : p0.length * by_ ≤ 140737488355328) (hl' : p0.length < 9223372036854775807) :
  ((mkS by_ z (p0.length : Int)).bind fun l1=>(ZB L (l1,0) : Option (List β)).bind fun j=>some j) = some (p0.map g):=by
 have hm : mkS by_ z (p0.length : Int) = some (List.replicate p0.length z):=by
  have h3 : ((p0.length * by_ : Nat) : Int) ≤ ((140737488355328 : Nat) : Int):=Int.ofNat_le.2 hl
  rw [Int.natCast_mul] at h3
  unfold mkS
  rw [if_pos ⟨by omega,h3⟩,Int.toNat_natCast]
 rw [hm]
 simp only [Option.bind_some]
 have hrun:=ZY (f:=L) (fun i : Nat=>((p0.take i).map g ++ List.replicate (p0.length - i) z,(i : Int))) 0 p0.length (Nat.zero_le _) (t:=p0.map g) (fun i _ hi=>by
  rw [hL]
  simp only [Int.ofNat_lt,hi,decide_true,if_true,Bq hi,Option.bind_some,hc _ (List.getElem_mem hi)]
  rw [Bq (by simp; omega)]
  simp only [Option.bind_some,XB (show i < 9223372036854775807 by omega),Int.toNat_natCast]
  congr 3
  rw [List.set_append_right _ _ (by simp; omega)]
  have e1 : p0.length - i = (p0.length - (i + 1)) + 1:=by omega
  have e2 : i - ((p0.take i).map g).length = 0:=by simp; omega
  rw [e1,List.replicate_succ,e2,List.set_cons_zero]
  rw [List.take_succ_eq_append_getElem hi,List.map_append,List.append_assoc]
  rfl) (by
  rw [hL]
  simp)
 simp at hrun
 simp [hrun]

theorem BC {α : Type} (p0 : List α) (ne : α → α → Option Bool) (L : Int → Option (Fl Int (Fl Unit Bool)))
  (hL : ∀ s,L s = if (decide (s < (p0.length : Int))) = true then (((idx p0 s).bind fun x=>(idx p0 s).bind fun y=>ne x y : Option Bool).bind fun j=>if j = true then (some (Fl.ex (Fl.ex false))) else (some (Fl.nx (wr (s + 1))))) else (some (Fl.ex (Fl.nx ()))))
  (hn : ∀ x ∈ p0,ne x x = some false) (hl : p0.length ≤ 9223372036854775807) :
  (if ((p0.length : Int) != (p0.length : Int)) = true then (some false) else ((ZB L 0 : Option (Fl Unit Bool)).bind fun j2=>j2.el (fun _=>some true) (fun r=>some r))) = some true:=by
 have:=ZY (f:=L) (fun i : Nat=>(i : Int)) 0 p0.length (Nat.zero_le _) (t:=.nx ()) (fun i _ hi=>by
  rw [hL]
  simp only [Int.ofNat_lt,hi,decide_true,if_true,Bq hi,Option.bind_some,hn _ (List.getElem_mem hi)]
  simp [XB (show i < 9223372036854775807 by omega)]) (by
  rw [hL]; simp)
 have h2 : ZB L 0 = some (.nx ()):=this
 simp [h2,Fl.el]

def TF {α : Type} [Dat α] [Wt α] (f : α → Int → Option Int) (x : α) : Prop:=∀ left : Int,0 ≤ left → left ≤ 1048576 → ∃ r,f x left = some r ∧ r ≤ 1048576 ∧ (0 ≤ r → r + Wt.wt x ≤ left)
theorem Ji {α : Type} [Dat α] [Wt α] {l : List α} (h0 : ∀ x : α,Wt.wt x = 0) (f : List α → Int → Option Int)
  (hf : ∀ left,f l left = if (decide ((wr (left - (l.length : Int))) < 0)) = true then (some (-1)) else (some (wr (left - (l.length : Int))))) (hl : l.length ≤ 9223372036854775807) : TF f l:=by
 intro left h1 h2
 have hs : (l.map Wt.wt).sum = 0:=by
  clear hf hl
  induction l with
  | nil=>rfl
  | cons x l ih=>rw [List.map_cons,List.sum_cons,h0,ih]
 have hw : Wt.wt l = l.length:=by rw [T1,hs]; rfl
 rw [hf,YG (by omega),hw]
 by_cases h : left - (l.length : Int) < 0
 ·exact ⟨-1,by simp [h],by omega,by omega⟩
 ·exact ⟨left - l.length,by simp [h],by omega,by omega⟩
theorem jp {α : Type} [Dat α] [Wt α] {p0 : List α} (f : List α → Int → Option Int) (c : α → Int → Option Int) (L : Int × Int → Option (Fl (Int × Int) (Fl Int Int)))
  (hL : ∀ s,L s = if (decide (s.2 < (p0.length : Int))) = true then ((idx p0 s.2).bind fun x=>(c x s.1).bind fun r=>if (decide (r < 0)) = true then (some (Fl.ex (Fl.ex (-1)))) else (some (Fl.nx (r,wr (s.2 + 1))))) else (some (Fl.ex (Fl.nx s.1))))
  (hf : ∀ left,f p0 left = if (decide ((wr (left - (p0.length : Int))) < 0)) = true then (some (-1)) else ((ZB L (wr (left - (p0.length : Int)),0) : Option (Fl Int Int)).bind fun j2=>j2.el (fun s=>some s) (fun r=>some r)))
  (hl : p0.length ≤ 9223372036854775807) (hc : ∀ x ∈ p0,TF c x) : TF f p0:=by
 intro left h1 h2
 rw [hf,YG (by omega)]
 by_cases h : left - (p0.length : Int) < 0
 ·exact ⟨-1,by simp [h],by omega,by omega⟩
 simp only [h,decide_false,Bool.false_eq_true,if_false]
 have key : ∀ (k m : Nat) (a : Int),m + k = p0.length → 0 ≤ a → a ≤ 1048576 → ∃ o : Fl Int Int,ZB L (a,(m : Int)) = some o ∧ ((o = .ex (-1)) ∨ ∃ r,o = .nx r ∧ 0 ≤ r ∧ r + (((p0.drop m).map Wt.wt).sum : Nat) ≤ a):=by
  intro k
  induction k with
  | zero =>
   intro m a hm h0 h3
   have : m = p0.length:=by omega
   subst this
   refine ⟨.nx a,?_,.inr ⟨a,rfl,h0,?_⟩⟩
   ·rw [Wg (t:=.nx a)]; rw [hL]; simp
   ·simp
  | succ k ih =>
   intro m a hm h0 h3
   have hi : m < p0.length:=by omega
   obtain ⟨r,e1,e2,e3⟩:=hc _ (List.getElem_mem hi) a h0 h3
   have hst : L (a,(m : Int)) = (if (decide (r < 0)) = true then (some (Fl.ex (Fl.ex (-1)))) else (some (Fl.nx (r,((m + 1 : Nat) : Int))))):=by
    rw [hL]
    simp only [Int.ofNat_lt,hi,decide_true,if_true,Bq hi,Option.bind_some,e1,XB (show m < 9223372036854775807 by omega)]
   by_cases hr : r < 0
   ·simp only [hr,decide_true,if_true] at hst
    exact ⟨_,Wg hst,.inl rfl⟩
   ·simp only [hr,decide_false,Bool.false_eq_true,if_false] at hst
    obtain ⟨o,k1,k2⟩:=ih (m + 1) r (by omega) (by omega) e2
    refine ⟨o,by rw [Wu hst]; exact k1,k2.imp id ?_⟩
    rintro ⟨q,rfl,q1,q2⟩
    refine ⟨q,rfl,q1,?_⟩
    have e3:=e3 (by omega)
    rw [List.drop_eq_getElem_cons hi,List.map_cons,List.sum_cons]
    omega
 obtain ⟨o,k1,k2⟩:=key p0.length 0 (left - p0.length) (by omega) (by omega) (by omega)
 have k1' : ZB L (left - (p0.length : Int),0) = some o:=k1
 rw [k1']
 rcases k2 with rfl | ⟨r,rfl,q1,q2⟩
 ·exact ⟨-1,rfl,by omega,by omega⟩
 ·refine ⟨r,rfl,by omega,fun _=>?_⟩
  rw [List.drop_zero] at q2
  rw [T1]; omega
@[simp] theorem YB {α : Type} (l : List α) (i : Nat) : idx l (i : Int) = l[i]?:=by unfold idx; simp
@[simp] theorem idx_zero {α : Type} (l : List α) : idx l (0 : Int) = l[0]?:=YB l 0
theorem yi {T : Type} {f : Int → Option (Fl Int (Fl Unit T))} (n : Nat) (p : Nat → Bool) (t : Nat → T) (hn : n < 9223372036854775807)
  (h : ∀ i,i < n → f (i : Int) = some (if p i then .ex (.ex (t i)) else .nx (wr ((i : Int) + 1)))) (he : f (n : Int) = some (.ex (.nx ()))) (m : Nat) (hm : m ≤ n) :
  ZB f (m : Int) = some (match (List.range' m (n - m)).find? p with | some i=>.ex (t i) | none=>.nx ()):=by
 rw [QP (fun i : Nat=>(i : Int)) p (fun i=>.ex (t i)) n (n - m) m (by omega) (fun i _ hi=>by rw [h i hi,XB (by omega)]) he]
 cases (List.range' m (n - m)).find? p <;> rfl
theorem qi {T : Type} {f : Int → Option (Fl Int (Fl Unit T))} (n : Nat) (p : Nat → Bool) (t : T) (hn : n < 9223372036854775807)
  (h : ∀ i,i < n → f (i : Int) = some (if p i then .ex (.ex t) else .nx (wr ((i : Int) + 1)))) (he : f (n : Int) = some (.ex (.nx ()))) (m : Nat) (hm : m ≤ n) :
  ZB f (m : Int) = some (if (List.range' m (n - m)).any p then .ex t else .nx ()) :=
 yd p hm (fun i _ hi=>by rw [h i hi,XB (by omega)]) he
theorem QU {α β S T : Type} {f : S → Option (Fl S T)} (l : List α) (pack : β → Int → S) (g : β → α → β) (b0 : β) {t : T} (hn : l.length < 9223372036854775807)
  (h : ∀ i (hi : i < l.length),f (pack ((l.take i).foldl g b0) (i : Int)) = some (.nx (pack (g ((l.take i).foldl g b0) l[i]) (wr ((i : Int) + 1))))) (he : f (pack (l.foldl g b0) (l.length : Int)) = some (.ex t)) :
  ZB f (pack b0 0) = some t:=by
 have:=ZY (f:=f) (fun i : Nat=>pack ((l.take i).foldl g b0) (i : Int)) 0 l.length (Nat.zero_le _) (t:=t) (fun i _ hi=>by
  rw [h i hi,XB (by omega)]
  congr 3
  rw [List.take_succ_eq_append_getElem hi,List.foldl_append]; rfl) (by rw [List.take_length]; exact he)
 simpa using this
theorem AA {α β : Type} (g : α → β) (l : List α) (acc : List β) : l.foldl (fun b x=>b ++ [g x]) acc = acc ++ l.map g:=by
 induction l generalizing acc with
 | nil=>simp
 | cons x l ih=>simp [ih]
theorem Av {α β T : Type} {f : List β × Int → Option (Fl (List β × Int) T)} (l : List α) (g : α → β) {t : T} (hn : l.length < 9223372036854775807)
  (h : ∀ i (hi : i < l.length),f ((l.take i).map g,(i : Int)) = some (.nx ((l.take i).map g ++ [g l[i]],wr ((i : Int) + 1)))) (he : f (l.map g,(l.length : Int)) = some (.ex t)) :
  ZB f ([],0) = some t:=by
 have e : ∀ m : List α,m.foldl (fun b x=>b ++ [g x]) [] = m.map g:=fun m=>by rw [AA]; rfl
 exact QU (f:=f) l (fun b i=>(b,i)) (fun b x=>b ++ [g x]) [] hn (fun i hi=>by simp only [e]; exact h i hi) (by simp only [e]; exact he)
theorem XK {α : Type} {by_ : Nat} {l m : List α} (h : (l.length + m.length) * by_ ≤ 140737488355328) : app by_ l m = some (l ++ m):=by unfold app; rw [if_pos h]
theorem zO {α : Type} {l : List α} {i j : Nat} (h : i ≤ j) (h2 : j ≤ l.length) : slc l (i : Int) (j : Int) = some ((l.take j).drop i):=by
 unfold slc; rw [if_pos (by omega)]; simp

theorem TT {α : Type} {n : Nat} {v w : Vector α n} (h : ∀ i (hi : i < n),v[i] = w[i]) : v = w:=Vector.ext h
@[simp] theorem Va {α : Type} {n : Nat} (v : Vector α n) (i : Nat) : ZH v (i : Int) = v[i]?:=by unfold ZH; simp
theorem yR {n : Nat} (p0 : Vector UInt8 n) (L : Vector UInt8 n × Int → Option (Fl (Vector UInt8 n × Int) (Vector UInt8 n)))
  (hL : ∀ s,L s = if decide (s.2 < (n : Int)) = true then ((ZH p0 s.2).bind fun x=>(ZH s.1 s.2).bind fun _=>some (Fl.nx (s.1.setIfInBounds (s.2).toNat x,wr (s.2 + 1)))) else (some (Fl.ex s.1))) (hn : n < 9223372036854775807) (z : Vector UInt8 n) :
  ZB L (z,0) = some p0:=by
 have:=ZY (f:=L) (fun i : Nat=>(Vector.ofFn fun j : Fin n=>if j.1 < i then p0[j] else z[j],(i : Int))) 0 n (Nat.zero_le _) (t:=p0) (fun i _ hi=>by
  rw [hL]
  simp only [Int.ofNat_lt,hi,decide_true,if_true,Va,Vector.getElem?_eq_getElem hi,Option.bind_some,Int.toNat_natCast,XB (show i < 9223372036854775807 by omega)]
  congr 3
  apply TT
  intro j hj
  rw [Vector.getElem_setIfInBounds]
  simp only [Vector.getElem_ofFn,Fin.getElem_fin]
  by_cases h : i = j
  ·subst h; simp
  ·by_cases h2 : j < i
   ·simp [h,h2,show j < i + 1 by omega]
   ·simp [h,h2,show ¬ j < i + 1 by omega]) (by
  rw [hL]
  simp only [Int.ofNat_lt,Nat.lt_irrefl,decide_false,Bool.false_eq_true,if_false]
  congr 2
  apply TT
  intro j hj
  simp [hj])
 have h0 : (Vector.ofFn fun j : Fin n=>if j.1 < 0 then p0[j] else z[j]) = z:=by
  apply TT
  intro j hj
  simp
 rw [h0] at this
 exact this
theorem Zaq {n : Nat} (p0 : Vector UInt8 n) (L : Int → Option (Fl Int (Fl Unit Bool)))
  (hL : ∀ s,L s = if decide (s < (n : Int)) = true then (((ZH p0 s).bind fun x=>(ZH p0 s).bind fun y=>some (x != y) : Option Bool).bind fun j=>if j = true then (some (Fl.ex (Fl.ex false))) else (some (Fl.nx (wr (s + 1))))) else (some (Fl.ex (Fl.nx ())))) (hn : n < 9223372036854775807) :
  ((ZB L 0 : Option (Fl Unit Bool)).bind fun j5=>j5.el (fun _=>some true) (fun r=>some r)) = some true:=by
 have:=ZY (f:=L) (fun i : Nat=>(i : Int)) 0 n (Nat.zero_le _) (t:=.nx ()) (fun i _ hi=>by
  rw [hL]
  simp only [Int.ofNat_lt,hi,decide_true,if_true,Va,Vector.getElem?_eq_getElem hi,Option.bind_some]
  simp [XB (show i < 9223372036854775807 by omega)]) (by rw [hL]; simp)
 have h2 : ZB L 0 = some (.nx ()):=this
 rw [h2]; rfl

def Ke (n : Nat) (k : Int) : Vector UInt8 n:=Vector.ofFn fun j=>Zy (k + j)
theorem AI {k : Int} (h : 0 ≤ k) (h2 : k < 9223372036854775807) : wr (k + 1) = k + 1:=YG (by omega)
theorem Ha {α : Type} {n : Nat} (get : α → Vector UInt8 n) (put : α → Vector UInt8 n → α) (i : Nat) (I : Int) (hI : I = i) (L : List α × Int × Int → Option (Fl (List α × Int × Int) (List α × Int)))
  (hL : ∀ s,L s = if decide (s.2.2 < (n : Int)) = true then ((idx s.1 I).bind fun x=>(ZH (get x) s.2.2).bind fun _=>some (Fl.nx (s.1.set (I).toNat (put x ((get x).setIfInBounds (s.2.2).toNat (Zy s.2.1))),wr (s.2.1 + 1),wr (s.2.2 + 1)))) else (some (Fl.ex (s.1,s.2.1))))
  (hgp : ∀ x v,get (put x v) = v) (hpp : ∀ x v w,put (put x v) w = put x w) (hpg : ∀ x,put x (get x) = x) (hn : n < 9223372036854775807)
  (l : List α) (hi : i < l.length) (k : Int) (h0 : 0 ≤ k) (hk : k + n ≤ 4611686018427387904) : ZB L (l,k,0) = some (l.set i (put l[i] (Ke n k)),k + n):=by
 subst hI
 have:=ZY (f:=L) (fun j : Nat=>(l.set i (put l[i] (Vector.ofFn fun q : Fin n=>if q.1 < j then Zy (k + q) else (get l[i])[q])),k + j,(j : Int))) 0 n (Nat.zero_le _) (t:=(l.set i (put l[i] (Ke n k)),k + n)) (fun j _ hj=>by
  rw [hL]
  have hi' : i < (l.set i (put l[i] (Vector.ofFn fun q : Fin n=>if q.1 < j then Zy (k + q) else (get l[i])[q]))).length:=by simpa using hi
  simp only [Int.ofNat_lt,hj,decide_true,if_true,YB,Va,List.getElem?_eq_getElem hi',Vector.getElem?_eq_getElem hj,Option.bind_some,Int.toNat_natCast,XB (show j < 9223372036854775807 by omega),List.getElem_set_self,hgp,hpp,List.set_set]
  rw [AI (by omega) (by omega)]
  congr 3
  ·congr 2
   apply TT
   intro q hq
   rw [Vector.getElem_setIfInBounds]
   simp only [Vector.getElem_ofFn,Fin.getElem_fin]
   by_cases h : j = q
   ·subst h; simp
   ·by_cases h2 : q < j
    ·simp [h,h2,show q < j + 1 by omega]
    ·simp [h,h2,show ¬ q < j + 1 by omega]
  ·congr 1
   omega) (by
  rw [hL]
  simp only [Int.ofNat_lt,Nat.lt_irrefl,decide_false,Bool.false_eq_true,if_false]
  have e : (Vector.ofFn fun q : Fin n=>if q.1 < n then Zy (k + q) else (get l[i])[q]) = Ke n k:=by
   unfold Ke
   apply TT
   intro j hj
   simp [hj]
  rw [e])
 have h0' : (Vector.ofFn fun q : Fin n=>if q.1 < 0 then Zy (k + q) else (get l[i])[q]) = get l[i]:=by
  apply TT
  intro j hj
  simp
 rw [h0',hpg,List.set_getElem_self] at this
 simpa using this
theorem Hi {α : Type} {n : Nat} (get : α → Vector UInt8 n) (l : List α) (i : Nat) (I : Int) (hI : I = i) (L : Int × Int → Option (Fl (Int × Int) (Fl Int Int)))
  (hL : ∀ s,L s = if decide (s.2 < (n : Int)) = true then ((idx l I).bind fun x=>(ZH (get x) s.2).bind fun b=>if (b != (Zy s.1)) = true then (some (Fl.ex (Fl.ex (-1)))) else (some (Fl.nx (wr (s.1 + 1),wr (s.2 + 1))))) else (some (Fl.ex (Fl.nx s.1))))
  {x : α} (hx : l[i]? = some x) (k : Int) (h0 : 0 ≤ k) (hk : k + n ≤ 4611686018427387904) (hg : get x = Ke n k) : ZB L (k,0) = some (.nx (k + n)):=by
 subst hI
 have:=ZY (f:=L) (fun j : Nat=>(k + j,(j : Int))) 0 n (Nat.zero_le _) (t:=.nx (k + n)) (fun j _ hj=>by
  rw [hL]
  simp only [Int.ofNat_lt,hj,decide_true,if_true,YB,Va,hx,Vector.getElem?_eq_getElem hj,Option.bind_some,XB (show j < 9223372036854775807 by omega)]
  rw [AI (by omega) (by omega)]
  have : (get x)[j] = Zy (k + j):=by simp [hg,Ke]
  rw [this]
  simp only [bne_self_eq_false,Bool.false_eq_true,if_false]
  congr 3
  omega) (by rw [hL]; simp)
 simpa using this
def B3 {α : Type} (Fm : α → Int → Option (α × Int)) (Fh : α → Int → Option Int) (x : α) (n : Nat) : Prop :=
 ∀ k : Int,0 ≤ k → k + n ≤ 4611686018427387904 → ∃ x',Fm x k = some (x',k + n) ∧ Fh x' k = some (k + n)
theorem KO {α : Type} (Fm : List α → Int → Option (List α × Int)) (Fh : List α → Int → Option Int) (Lm : List α × Int × Int → Option (Fl (List α × Int × Int) (List α × Int))) (Lh : List α → Int × Int → Option (Fl (Int × Int) (Fl Int Int))) (mk : α → Nat)
  (hFm : ∀ l k,Fm l k = (ZB Lm (l,k,0) : Option (List α × Int)).bind fun j1=>some (j1.1,j1.2)) (hFh : ∀ l k,Fh l k = (ZB (Lh l) (k,0) : Option (Fl Int Int)).bind fun j1=>j1.el (fun s=>some s) (fun r=>some r))
  (l : List α) (hl : l.length ≤ 9223372036854775807)
  (hm : ∀ (l' : List α) (i : Nat) (k : Int) (hi : i < l'.length),l'[i] ∈ l → i < 9223372036854775807 → 0 ≤ k → k + mk l'[i] ≤ 4611686018427387904 → ∃ x',Lm (l',k,(i : Int)) = some (.nx (l'.set i x',k + mk l'[i],wr ((i : Int) + 1))) ∧
   ∀ (m : List α),m[i]? = some x' → Lh m (k,(i : Int)) = some (.nx (k + mk l'[i],wr ((i : Int) + 1))))
  (hme : ∀ (l' : List α) k,Lm (l',k,(l'.length : Int)) = some (.ex (l',k))) (hhe : ∀ (m : List α) k,Lh m (k,(m.length : Int)) = some (.ex (.nx k))) : B3 Fm Fh l (l.map mk).sum:=by
 have aux : ∀ (n i : Nat) (l' : List α) (k : Int),i + n = l'.length → l'.length = l.length → l'.drop i = l.drop i → 0 ≤ k → k + (((l.drop i).map mk).sum : Nat) ≤ 4611686018427387904 →
   ∃ l'',ZB Lm (l',k,(i : Int)) = some (l'',k + (((l.drop i).map mk).sum : Nat)) ∧ l''.length = l'.length ∧ (∀ j,j < i → l''[j]? = l'[j]?) ∧ ZB (Lh l'') (k,(i : Int)) = some (.nx (k + (((l.drop i).map mk).sum : Nat))):=by
  intro n
  induction n with
  | zero =>
   intro i l' k hi hll hd h0 hk
   have hi : i = l'.length:=by omega
   subst hi
   have e : l.drop l'.length = []:=by rw [hll]; simp
   rw [e]
   refine ⟨l',?_,rfl,fun _ _=>rfl,?_⟩
   ·rw [Wg (hme l' k)]; simp
   ·rw [Wg (hhe l' k)]; simp
  | succ n ih =>
   intro i l' k hi hll hd h0 hk
   have hil : i < l'.length:=by omega
   have hil2 : i < l.length:=by omega
   have e1 : l'[i] = l[i]:=by
    have h1:=List.drop_eq_getElem_cons hil
    have h2:=List.drop_eq_getElem_cons hil2
    rw [h1,h2] at hd
    exact (List.cons.inj hd).1
   have e2 : l.drop i = l[i] :: l.drop (i + 1):=List.drop_eq_getElem_cons hil2
   rw [e2,List.map_cons,List.sum_cons] at hk ⊢
   obtain ⟨x',h1,h2⟩:=hm l' i k hil (by rw [e1]; exact List.getElem_mem hil2) (by omega) h0 (by rw [e1]; omega)
   rw [e1] at h1 h2
   rw [XB (by omega)] at h1 h2
   obtain ⟨l'',k1,k2,k3,k4⟩:=ih (i + 1) (l'.set i x') (k + mk l[i]) (by simp; omega) (by simpa using hll) (by
    rw [List.drop_set_of_lt (by omega)]
    have h1:=List.drop_eq_getElem_cons hil
    rw [h1,e2] at hd
    exact (List.cons.inj hd).2) (by omega) (by omega)
   refine ⟨l'',?_,by simpa using k2,fun j hj=>?_,?_⟩
   ·rw [Wu h1,k1]; congr 2; omega
   ·rw [k3 j (by omega),List.getElem?_set_ne (by omega)]
   ·rw [Wu (h2 l'' (by rw [k3 i (by omega)]; simp [hil])),k4]; congr 2; omega
 intro k h0 hk
 obtain ⟨l'',k1,k2,k3,k4⟩:=aux l.length 0 l k (by omega) rfl rfl h0 (by simpa using hk)
 simp only [List.drop_zero] at k1 k4
 refine ⟨l'',?_,?_⟩
 ·rw [hFm]
  have : ZB Lm (l,k,0) = _:=k1
  rw [this]; rfl
 ·rw [hFh]
  have : ZB (Lh l'') (k,0) = _:=k4
  rw [this]; rfl
theorem HB {α : Type} [Dat α] [Wt α] (mk : α → Nat) (c : Nat) (h : ∀ x,mk x ≤ c * (1 + Wt.wt x)) (l : List α) : (l.map mk).sum ≤ c * Wt.wt l:=by
 rw [T1]
 induction l with
 | nil=>simp
 | cons x l ih =>
  have:=h x
  simp only [List.map_cons,List.sum_cons,List.length_cons]
  have e : c * (l.length + 1 + (Wt.wt x + (l.map Wt.wt).sum)) = c * (1 + Wt.wt x) + c * (l.length + (l.map Wt.wt).sum):=by
   rw [← Nat.mul_add]; congr 1; omega
  omega
theorem ya (l : List UInt8) : Wt.wt l = l.length:=by
 rw [T1]
 have : (l.map Wt.wt).sum = 0:=by
  induction l with
  | nil=>rfl
  | cons x l ih=>rw [List.map_cons,List.sum_cons,ih]; rfl
 omega
theorem A1 (l : List UInt8) (h : Wt.wt l ≤ 1048576) : VP l = some l:=by
 have:=zZ l
 unfold VP
 have:=KI l (fun x=>some x) id 1 0 (Tw l) (fun s=>by unfold Tw; rfl) (fun _ _=>rfl) (by omega) (by omega)
 simpa using this
theorem AR (l : List UInt8) (h : Wt.ln l) : VL l l = some true:=by
 unfold VL
 exact BC l (fun x y=>some (x != y)) (TA l l) (fun s=>by unfold TA; rfl) (fun x _=>by simp) (W3 h)
theorem zj (l : List UInt8) (h : Wt.ln l) : TF X1 l :=
 Ji (fun _=>rfl) X1 (fun left=>by unfold X1; rfl) (W3 h)
theorem HW (l : List UInt8) (h : Wt.ln l) : B3 YE WK l (l.map fun _=>1).sum :=
 KO YE WK YW Vi (fun _=>1) (fun _ _=>rfl) (fun _ _=>rfl) l (W3 h) (fun l' i k hi _ _ h0 hk=>by
  have e:=AI (k:=k) h0 (by omega)
  refine ⟨Zy k,?_,fun m hm=>?_⟩
  ·unfold YW
   simp only [Int.ofNat_lt,hi,decide_true,if_true,YB,List.getElem?_eq_getElem hi,Option.bind_some,Int.toNat_natCast,e]; rfl
  ·have hi':=(List.getElem?_eq_some_iff.1 hm).1
   unfold Vi
   simp only [Int.ofNat_lt,hi',decide_true,if_true,YB,hm,Option.bind_some,bne_self_eq_false,Bool.false_eq_true,if_false,e]; rfl) (fun l' k=>by unfold YW; simp) (fun m k=>by unfold Vi; simp)
instance : Wt GRecord:=⟨fun x=>Wt.wt x.Label + Wt.wt x.Body,fun x=>Wt.ln x.Label ∧ Wt.ln x.Body,fun x h=>⟨Wt.bdln x.Label h.2.2.2.1,Wt.bdln x.Body h.2.2.2.2.1⟩,fun x h=>⟨Wt.wtln x.Label (by omega),Wt.wtln x.Body (by omega)⟩⟩
instance : Wt GEvent:=⟨fun _=>0,fun _=>True,fun _ _=>trivial,fun _ _=>trivial⟩
instance : Wt GVault:=⟨fun x=>Wt.wt x.Keys + (Wt.wt x.Records + Wt.wt x.Events),fun x=>Wt.ln x.Keys ∧ Wt.ln x.Records ∧ Wt.ln x.Events,fun x h=>⟨Wt.bdln x.Keys h.1,Wt.bdln x.Records h.2.2.1,Wt.bdln x.Events h.2.2.2.1⟩,
 fun x h=>⟨Wt.wtln x.Keys (by omega),Wt.wtln x.Records (by omega),Wt.wtln x.Events (by omega)⟩⟩
theorem AT (x : Vector UInt8 16) : WR x = some x:=by
 unfold WR
 rw [yR x (TC x) (fun s=>by unfold TC; rfl) (by omega)]; rfl
theorem Jw (x : Vector UInt8 32) : Wi x = some x:=by
 unfold Wi
 rw [yR x (U8 x) (fun s=>by unfold U8; rfl) (by omega)]; rfl
theorem A9 (x : Vector UInt8 16) : WT x x = some true:=by
 unfold WT
 exact Zaq x (TB x x) (fun s=>by unfold TB; rfl) (by omega)
theorem Ju (x : Vector UInt8 32) : Wj x x = some true:=by
 unfold Wj
 exact Zaq x (Tb x x) (fun s=>by unfold Tb; rfl) (by omega)
theorem jh (l : List (Vector UInt8 16)) (h : Wt.wt l ≤ 1048576) : Uo l = some l:=by
 have:=zZ l
 unfold Uo
 have:=KI l WR id 16 (Vector.replicate 16 0) (Td l) (fun s=>by unfold Td; rfl) (fun x _=>AT x) (by omega) (by omega)
 simpa using this
theorem jj (l : List (Vector UInt8 16)) (h : Wt.ln l) : Up l l = some true:=by
 unfold Up
 exact BC l (fun x y=>(WT x y).bind fun r=>some (!r)) (Tf l l) (fun s=>by unfold Tf; rfl) (fun x _=>by simp [A9 x]) (W3 h)
theorem jb (l : List (Vector UInt8 16)) (h : Wt.ln l) : TF Vd l :=
 Ji (fun _=>rfl) Vd (fun left=>by unfold Vd; rfl) (W3 h)
theorem KX (l' : List (Vector UInt8 16)) (i : Nat) (k : Int) (hi : i < l'.length) (h0 : 0 ≤ k) (hk : k + 16 ≤ 4611686018427387904) :
  YM (l',k,(i : Int)) = some (.nx (l'.set i (Ke 16 k),k + 16,wr ((i : Int) + 1))):=by
 unfold YM
 have h1:=Ha (n:=16) (fun x : Vector UInt8 16=>x) (fun _ v=>v) i i rfl (V2 (l',k,(i : Int))) (fun s=>by unfold V2; rfl) (fun _ _=>rfl) (fun _ _ _=>rfl) (fun _=>rfl) (by omega) l' hi k h0 hk
 simp only [Int.ofNat_lt,hi,decide_true,if_true,h1,Option.bind_some]
 rfl
theorem zF (l : List (Vector UInt8 16)) (h : Wt.ln l) : B3 Xn Vn l (l.map fun _=>16).sum :=
 KO Xn Vn YM W0 (fun _=>16) (fun _ _=>rfl) (fun _ _=>rfl) l (W3 h) (fun l' i k hi _ _ h0 hk=>by
  refine ⟨Ke 16 k,KX l' i k hi h0 (by omega),fun m hm=>?_⟩
  have hi':=(List.getElem?_eq_some_iff.1 hm).1
  unfold W0
  have h1:=Hi (n:=16) (fun x : Vector UInt8 16=>x) m i i rfl (V4 m (k,(i : Int))) (fun s=>by unfold V4; rfl) hm k h0 (by omega) rfl
  simp only [Int.ofNat_lt,hi',decide_true,if_true,h1,Option.bind_some,Fl.el]
  try rfl) (fun l' k=>by unfold YM; simp) (fun m k=>by unfold W0; simp)
theorem y7 (x : GRecord) (h : Wt.wt x ≤ 1048576) : Vg x = some x:=by
 have h : Wt.wt x.Label + Wt.wt x.Body ≤ 1048576:=h
 unfold Vg
 simp [AT,Jw,A1 x.Label (by omega),A1 x.Body (by omega)]
theorem yn (l : List GRecord) (h : Wt.wt l ≤ 1048576) : VS l = some l:=by
 have:=zZ l
 unfold VS
 have:=KI l Vg id 112 ⟨0,0,Vector.replicate 16 0,[],[],Vector.replicate 32 0⟩ (UC l) (fun s=>by unfold UC; rfl) (fun x hx=>y7 x (Nat.le_trans (Zbt hx) h)) (by omega) (by omega)
 simpa using this
theorem jz (x : GRecord) (h : Wt.ln x) : W6 x x = some true:=by
 unfold W6
 simp [A9,Ju,AR x.Label h.1,AR x.Body h.2]
theorem yp (l : List GRecord) (h : Wt.ln l) : VI l l = some true:=by
 unfold VI
 exact BC l (fun x y=>(W6 x y).bind fun r=>some (!r)) (UA l l) (fun s=>by unfold UA; rfl) (fun x hx=>by simp [jz x (zN h hx)]) (W3 h)
theorem Jz {α β : Type} [Dat α] [Wt α] [Dat β] [Wt β] {f : α → Int → Option Int} {g : β → Int → Option Int} {x : α} {y : β} (hf : TF f x) (hg : TF g y) (left : Int) (h1 : 0 ≤ left) (h2 : left ≤ 1048576) :
  ∃ r,((f x left).bind fun r=>if decide (r < 0) = true then some (-1) else g y r) = some r ∧ r ≤ 1048576 ∧ (0 ≤ r → r + (Wt.wt x + Wt.wt y : Nat) ≤ left):=by
 obtain ⟨r,e1,e2,e3⟩:=hf left h1 h2
 rw [e1]
 by_cases hr : r < 0
 ·exact ⟨-1,by simp [hr],by omega,by omega⟩
 ·have e3:=e3 (by omega)
  obtain ⟨q,k1,k2,k3⟩:=hg r (by omega) e2
  refine ⟨q,by simp [hr,k1],k2,fun hq=>?_⟩
  have:=k3 hq
  omega
theorem A3 {f : Option Int} {left w : Int} (h : ∃ r,f = some r ∧ r ≤ 1048576 ∧ (0 ≤ r → r + w ≤ left)) : ∃ r,(f.bind fun r=>if decide (r < 0) = true then some (-1) else some r) = some r ∧ r ≤ 1048576 ∧ (0 ≤ r → r + w ≤ left):=by
 obtain ⟨r,e1,e2,e3⟩:=h
 by_cases hr : r < 0
 ·exact ⟨-1,by simp [e1,hr],by omega,by omega⟩
 ·exact ⟨r,by simp [e1,hr],e2,e3⟩
theorem jo (x : GRecord) (h : Wt.ln x) : TF Uq x:=by
 intro left h1 h2
 have h3 : TF (fun (y : List UInt8) r=>(X1 y r).bind fun r=>if decide (r < 0) = true then some (-1) else some r) x.Body:=fun left h1 h2=>A3 (zj x.Body h.2 left h1 h2)
 have:=Jz (zj x.Label h.1) h3 left h1 h2
 exact this
theorem yu (l : List GRecord) (h : Wt.ln l) : TF XM l :=
 jp XM Uq (UB l) (fun s=>by unfold UB; rfl) (fun left=>by unfold XM; rfl) (W3 h) (fun x hx=>jo x (zN h hx))
theorem ky (x : GEvent) : VK x = some x:=by
 unfold VK
 simp [Jw]
theorem jr (l : List GEvent) (h : Wt.wt l ≤ 1048576) : Ui l = some l:=by
 have:=zZ l
 unfold Ui
 have:=KI l VK id 48 ⟨0,0,Vector.replicate 32 0⟩ (U3 l) (fun s=>by unfold U3; rfl) (fun x _=>ky x) (by omega) (by omega)
 simpa using this
theorem kC (x : GEvent) : VW x x = some true:=by
 unfold VW
 simp [Ju]
theorem jE (l : List GEvent) (h : Wt.ln l) : Uk l l = some true:=by
 unfold Uk
 exact BC l (fun x y=>(VW x y).bind fun r=>some (!r)) (U9 l l) (fun s=>by unfold U9; rfl) (fun x _=>by simp [kC x]) (W3 h)
theorem jt (l : List GEvent) (h : Wt.ln l) : TF Xy l :=
 Ji (fun _=>rfl) Xy (fun left=>by unfold Xy; rfl) (W3 h)
theorem Kp (x : GVault) : Wt.wt x = Wt.wt x.Keys + (Wt.wt x.Records + Wt.wt x.Events):=rfl
theorem kL (x : GVault) (h : Wt.wt x ≤ 1048576) : XZ x = some x:=by
 rw [Kp] at h
 unfold XZ
 simp [Jw,jh x.Keys (by omega),yn x.Records (by omega),jr x.Events (by omega)]
theorem zl (x : GVault) (h : Wt.ln x) : X5 x x = some true:=by
 unfold X5
 simp [Ju,jj x.Keys h.1,yp x.Records h.2.1,jE x.Events h.2.2]
theorem ku (x : GVault) (h : Wt.ln x) : TF TK x:=by
 intro left h1 h2
 have h3 : TF (fun (y : List GEvent) r=>(Xy y r).bind fun r=>if decide (r < 0) = true then some (-1) else some r) x.Events:=fun left h1 h2=>A3 (jt x.Events h.2.2 left h1 h2)
 have h4 : TF (α:=List GRecord × List GEvent) (fun y r=>(XM y.1 r).bind fun r=>if decide (r < 0) = true then some (-1) else (Xy y.2 r).bind fun r=>if decide (r < 0) = true then some (-1) else some r) (x.Records,x.Events):=fun left h1 h2=>Jz (yu x.Records h.2.1) h3 left h1 h2
 exact Jz (jb x.Keys h.1) h4 left h1 h2
def Hz {α : Type} (Fm : α → Int → Option (α × Int)) (x : α) (n : Nat) : Prop :=
 ∀ k : Int,0 ≤ k → k + n ≤ 4611686018427387904 → ∃ x',Fm x k = some (x',k + n)
theorem Bz {α : Type} (Fm : List α → Int → Option (List α × Int)) (Lm : List α × Int × Int → Option (Fl (List α × Int × Int) (List α × Int))) (mk : α → Nat)
  (hFm : ∀ l k,Fm l k = (ZB Lm (l,k,0) : Option (List α × Int)).bind fun j1=>some (j1.1,j1.2)) (l : List α) (hl : l.length ≤ 9223372036854775807)
  (hm : ∀ (l' : List α) (i : Nat) (k : Int) (hi : i < l'.length),l'[i] ∈ l → i < 9223372036854775807 → 0 ≤ k → k + mk l'[i] ≤ 4611686018427387904 → ∃ x',Lm (l',k,(i : Int)) = some (.nx (l'.set i x',k + mk l'[i],wr ((i : Int) + 1))))
  (hme : ∀ (l' : List α) k,Lm (l',k,(l'.length : Int)) = some (.ex (l',k))) : Hz Fm l (l.map mk).sum:=by
 intro k h0 hk
 have aux : ∀ (n i : Nat) (l' : List α) (k : Int),i + n = l'.length → l'.length = l.length → l'.drop i = l.drop i → 0 ≤ k → k + (((l.drop i).map mk).sum : Nat) ≤ 4611686018427387904 →
   ∃ l'',ZB Lm (l',k,(i : Int)) = some (l'',k + (((l.drop i).map mk).sum : Nat)):=by
  intro n
  induction n with
  | zero =>
   intro i l' k hi hll hd h0 hk
   have hi : i = l'.length:=by omega
   subst hi
   have e : l.drop l'.length = []:=by rw [hll]; simp
   rw [e]
   exact ⟨l',by rw [Wg (hme l' k)]; simp⟩
  | succ n ih =>
   intro i l' k hi hll hd h0 hk
   have hil : i < l'.length:=by omega
   have hil2 : i < l.length:=by omega
   have h1:=List.drop_eq_getElem_cons hil
   have e2 : l.drop i = l[i] :: l.drop (i + 1):=List.drop_eq_getElem_cons hil2
   rw [h1,e2] at hd
   have e1:=(List.cons.inj hd).1
   rw [e2,List.map_cons,List.sum_cons] at hk ⊢
   obtain ⟨x',h1⟩:=hm l' i k hil (by rw [e1]; exact List.getElem_mem hil2) (by omega) h0 (by rw [e1]; omega)
   rw [e1,XB (by omega)] at h1
   obtain ⟨l'',k1⟩:=ih (i + 1) (l'.set i x') (k + mk l[i]) (by simp; omega) (by simpa using hll) (by
    rw [List.drop_set_of_lt (by omega)]
    exact (List.cons.inj hd).2) (by omega) (by omega)
   exact ⟨l'',by rw [Wu h1,k1]; congr 2; omega⟩
 obtain ⟨l'',k1⟩:=aux l.length 0 l k (by omega) rfl rfl h0 (by simpa using hk)
 simp only [List.drop_zero] at k1
 refine ⟨l'',?_⟩
 rw [hFm]
 have : ZB Lm (l,k,0) = _:=k1
 rw [this]; rfl
theorem HY (l : List UInt8) (h : Wt.ln l) : Hz YE l (l.map fun _=>1).sum :=
 Bz YE YW (fun _=>1) (fun _ _=>rfl) l (W3 h) (fun l' i k hi _ _ h0 hk=>by
  have e:=AI (k:=k) h0 (by omega)
  refine ⟨Zy k,?_⟩
  unfold YW
  simp only [Int.ofNat_lt,hi,decide_true,if_true,YB,List.getElem?_eq_getElem hi,Option.bind_some,Int.toNat_natCast,e]; rfl) (fun l' k=>by unfold YW; simp)
theorem zT (l : List (Vector UInt8 16)) (h : Wt.ln l) : Hz Xn l (l.map fun _=>16).sum :=
 Bz Xn YM (fun _=>16) (fun _ _=>rfl) l (W3 h) (fun l' i k hi _ _ h0 hk=>⟨_,KX l' i k hi h0 (by omega)⟩) (fun l' k=>by unfold YM; simp)
def XD (x : GRecord) : Nat:=50 + ((x.Label.map fun _=>1).sum + (x.Body.map fun _=>1).sum)
theorem KB (l' : List GRecord) (i : Nat) (k : Int) (hi : i < l'.length) (h0 : 0 ≤ k) (hk : k + XD l'[i] ≤ 4611686018427387904) {la bo : List UInt8}
  (hla : YE l'[i].Label (k + 18) = some (la,k + 18 + ((l'[i].Label.map fun _=>1).sum : Nat))) (hbo : YE l'[i].Body (k + 18 + ((l'[i].Label.map fun _=>1).sum : Nat)) = some (bo,k + 18 + ((l'[i].Label.map fun _=>1).sum : Nat) + ((l'[i].Body.map fun _=>1).sum : Nat))) :
  YF (l',k,(i : Int)) = some (.nx (l'.set i ⟨k,k + 1,Ke 16 (k + 2),la,bo,Ke 32 (k + 18 + ((l'[i].Label.map fun _=>1).sum : Nat) + ((l'[i].Body.map fun _=>1).sum : Nat))⟩,k + XD l'[i],wr ((i : Int) + 1))):=by
 unfold XD at hk
 have e1:=AI (k:=k) h0 (by omega)
 have e2:=AI (k:=k + 1) (by omega) (by omega)
 unfold YF
 have hi2 : i < (l'.set i (⟨k,k + 1,l'[i].Nonce,l'[i].Label,l'[i].Body,l'[i].Tag⟩ : GRecord)).length:=by simpa using hi
 have h1:=Ha (n:=16) (fun x : GRecord=>x.Nonce) (fun x v=>⟨x.Number,x.Version,v,x.Label,x.Body,x.Tag⟩) i i rfl (VB (l',k,(i : Int))) (fun s=>by unfold VB; rfl) (fun _ _=>rfl) (fun _ _ _=>rfl) (fun _=>rfl) (by omega) _ hi2 (k + 1 + 1) (by omega) (by omega)
 rw [show k + 1 + 1 + ((16 : Nat) : Int) = k + 18 by omega] at h1
 simp only [List.getElem_set_self,List.set_set] at h1
 simp only [Int.ofNat_lt,hi,decide_true,if_true,YB,List.getElem?_eq_getElem hi,Option.bind_some,Int.toNat_natCast,e1,List.getElem?_set_self hi,List.set_set,e2,h1,hla,hbo]
 have hi3 : i < (l'.set i (⟨k,k + 1,Ke 16 (k + 1 + 1),la,bo,l'[i].Tag⟩ : GRecord)).length:=by simpa using hi
 have h2:=Ha (n:=32) (fun x : GRecord=>x.Tag) (fun x v=>⟨x.Number,x.Version,x.Nonce,x.Label,x.Body,v⟩) i i rfl (Vz (l',k,(i : Int))) (fun s=>by unfold Vz; rfl) (fun _ _=>rfl) (fun _ _ _=>rfl) (fun _=>rfl) (by omega) _ hi3
  (k + 18 + ((l'[i].Label.map fun _=>1).sum : Nat) + ((l'[i].Body.map fun _=>1).sum : Nat)) (by omega) (by omega)
 simp only [List.getElem_set_self,List.set_set] at h2
 rw [h2]
 simp only [Option.bind_some]
 rw [show k + 1 + 1 = k + 2 by omega]
 congr 3
 congr 1
 unfold XD
 omega
theorem AL (l : List GRecord) (h : Wt.ln l) : Hz Y7 l (l.map XD).sum :=
 Bz Y7 YF XD (fun _ _=>rfl) l (W3 h) (fun l' i k hi hx _ h0 hk=>by
  have hk':=hk
  unfold XD at hk'
  have hln : Wt.ln l'[i]:=zN h hx
  obtain ⟨la,h1⟩:=HY l'[i].Label hln.1 (k + 18) (by omega) (by omega)
  obtain ⟨bo,h2⟩:=HY l'[i].Body hln.2 (k + 18 + ((l'[i].Label.map fun _=>1).sum : Nat)) (by omega) (by omega)
  exact ⟨_,KB l' i k hi h0 hk h1 h2⟩) (fun l' k=>by unfold YF; simp)
theorem K4 (l' : List GEvent) (i : Nat) (k : Int) (hi : i < l'.length) (h0 : 0 ≤ k) (hk : k + 34 ≤ 4611686018427387904) :
  YR (l',k,(i : Int)) = some (.nx (l'.set i ⟨k,k + 1,Ke 32 (k + 2)⟩,k + 34,wr ((i : Int) + 1))):=by
 have e1:=AI (k:=k) h0 (by omega)
 have e2:=AI (k:=k + 1) (by omega) (by omega)
 unfold YR
 have hi2 : i < (l'.set i (⟨k,k + 1,l'[i].Tag⟩ : GEvent)).length:=by simpa using hi
 have h1:=Ha (n:=32) (fun x : GEvent=>x.Tag) (fun x v=>⟨x.Kind,x.Number,v⟩) i i rfl (V7 (l',k,(i : Int))) (fun s=>by unfold V7; rfl) (fun _ _=>rfl) (fun _ _ _=>rfl) (fun _=>rfl) (by omega) _ hi2 (k + 1 + 1) (by omega) (by omega)
 rw [show k + 1 + 1 + ((32 : Nat) : Int) = k + 34 by omega] at h1
 simp only [List.getElem_set_self,List.set_set] at h1
 simp only [Int.ofNat_lt,hi,decide_true,if_true,YB,List.getElem?_eq_getElem hi,Option.bind_some,Int.toNat_natCast,e1,List.getElem?_set_self hi,List.set_set,e2,h1]
 rw [show k + 1 + 1 = k + 2 by omega]
theorem zC (l : List GEvent) (h : Wt.ln l) : Hz Xk l (l.map fun _=>34).sum :=
 Bz Xk YR (fun _=>34) (fun _ _=>rfl) l (W3 h) (fun l' i k hi _ _ h0 hk=>⟨_,K4 l' i k hi h0 (by omega)⟩) (fun l' k=>by unfold YR; simp)
def Te (x : GVault) : Nat:=(x.Keys.map fun _=>16).sum + ((x.Records.map XD).sum + (x.Events.map fun _=>34).sum)
theorem jS (l : List UInt8) : (l.map fun _=>1).sum = l.length:=by
 induction l with
 | nil=>rfl
 | cons x l ih=>rw [List.map_cons,List.sum_cons,ih,List.length_cons]; omega
theorem Af (x : GVault) : Te x ≤ 50 * Wt.wt x:=by
 have h1:=HB (fun _ : Vector UInt8 16=>16) 50 (fun _=>by omega) x.Keys
 have h2:=HB XD 50 (fun x=>by
  unfold XD
  have e : Wt.wt x = Wt.wt x.Label + Wt.wt x.Body:=rfl
  rw [e,ya,ya,jS,jS]; omega) x.Records
 have h3:=HB (fun _ : GEvent=>34) 50 (fun _=>by omega) x.Events
 rw [Kp]; unfold Te; omega
theorem yj (x : GVault) (h : Wt.ln x) : Hz Xe x (Te x):=by
 intro k h0 hk
 unfold Te at hk
 obtain ⟨a,h1⟩:=zT x.Keys h.1 k h0 (by omega)
 obtain ⟨b,h2⟩:=AL x.Records h.2.1 _ (by omega : (0 : Int) ≤ k + ((x.Keys.map fun _=>16).sum : Nat)) (by omega)
 obtain ⟨c,h3⟩:=zC x.Events h.2.2 _ (by omega : (0 : Int) ≤ k + ((x.Keys.map fun _=>16).sum : Nat) + ((x.Records.map XD).sum : Nat)) (by omega)
 refine ⟨⟨a,x.Next,b,c,x.Head⟩,?_⟩
 unfold Xe
 rw [h1]; simp only [Option.bind_some]; rw [h2]; simp only [Option.bind_some]; rw [h3]; simp only [Option.bind_some]
 unfold Te
 congr 2
 omega
theorem HF (n a b : Int) : Y1 n a b = some (decide (a ≤ n ∧ n ≤ b)):=by
 unfold Y1
 by_cases h1 : a ≤ n <;> by_cases h2 : n ≤ b <;> simp [h1,h2]
theorem zx (n a b : Int) : Vo n a b = some (decide (a ≤ n ∧ n ≤ b)):=by
 unfold Vo
 by_cases h1 : a ≤ n <;> by_cases h2 : n ≤ b <;> simp [h1,h2]
theorem zA {α : Type} (l : List α) (p : α → Option Bool) (q : α → Bool) (L : Int → Option (Fl Int (Fl Unit Int)))
  (hL : ∀ s,L s = if (decide (s < (l.length : Int))) = true then ((idx l s).bind fun x=>((p x)).bind fun r=>if r = true then (some (Fl.ex (Fl.ex s))) else (some (Fl.nx (wr (s + 1))))) else (some (Fl.ex (Fl.nx ()))))
  (hl : l.length < 9223372036854775807) (hp : ∀ x ∈ l,p x = some (q x)) :
  ((ZB L 0 : Option (Fl Unit Int)).bind fun j1=>j1.el (fun _=>some (-1)) (fun r=>some r)) = some (match l.findIdx? q with | some i=>(i : Int) | none=>-1):=by
 have h:=yi (f:=L) l.length (fun i=>(l[i]?.map q).getD false) (fun i=>(i : Int)) hl (fun i hi=>by
  rw [hL]
  simp only [Int.ofNat_lt,hi,decide_true,if_true,YB,List.getElem?_eq_getElem hi,Option.bind_some,Option.map_some,Option.getD_some,hp _ (List.getElem_mem hi)]
  split <;> rfl) (by rw [hL]; simp) 0 (Nat.zero_le _)
 have h3 : ZB L 0 = _:=h
 rw [h3]
 have key : (List.range' 0 (l.length - 0)).find? (fun i=>(l[i]?.map q).getD false) = l.findIdx? q:=by
  rw [Nat.sub_zero,← List.range_eq_range']
  clear h h3 hL hp hl
  induction l with
  | nil=>rfl
  | cons x l ih =>
   rw [List.length_cons,List.range_succ_eq_map,List.find?_cons,List.findIdx?_cons]
   simp only [List.getElem?_cons_zero,Option.map_some,Option.getD_some]
   cases q x with
   | true=>rfl
   | false =>
    simp only [Bool.false_eq_true,if_false]
    rw [List.find?_map,← ih]
    congr 1
 rw [key]
 cases l.findIdx? q <;> rfl
theorem has_of {α : Type} (l : List α) (q : α → Bool) : decide ((match l.findIdx? q with | some i=>(i : Int) | none=>-1) ≥ 0) = l.any q:=by
 rw [Bool.eq_iff_iff,decide_eq_true_eq]
 cases h : l.findIdx? q with
 | none =>
  have:=List.findIdx?_eq_none_iff.1 h
  simp
  exact this
 | some i =>
  have h2:=List.findIdx?_eq_some_iff_getElem.1 h
  obtain ⟨hi,hq,_⟩:=h2
  simp
  exact ⟨_,List.getElem_mem hi,hq⟩
def UV (e : GEvent) : Bool:=decide ((1 ≤ e.Kind ∧ e.Kind ≤ 4) ∧ (0 ≤ e.Number ∧ e.Number ≤ 1000000))
theorem jq (e : GEvent) : Uj e = some (UV e):=by
 unfold Uj UV
 simp only [zx,Option.bind_some]
 by_cases h1 : (1 ≤ e.Kind ∧ e.Kind ≤ 4) <;> by_cases h2 : (0 ≤ e.Number ∧ e.Number ≤ 1000000) <;> simp [h1,h2]
theorem kM (e : GEvent) : UR e = some (UV e):=by
 unfold UR UV Tx
 simp only [HF,Option.bind_some]
 by_cases h1 : (1 ≤ e.Kind ∧ e.Kind ≤ 4) <;> by_cases h2 : (0 ≤ e.Number ∧ e.Number ≤ 1000000) <;> simp [h1,h2]
theorem H5 (l : List GEvent) (p : GEvent → Option Bool) (q : GEvent → Bool) (hl : l.length < 9223372036854775807) (hp : ∀ x ∈ l,p x = some (q x)) : ZU l p = some (l.any q):=by
 unfold ZU Yc
 rw [zA l p q _ (fun s=>by unfold YC; rfl) hl hp]
 simp only [Option.bind_some,has_of]
def Qg (l : List GRecord) : Nat → Int
 | 0=>0
 | i + 1=>(l[i]?.map (·.Number)).getD 0
def BV (v : GVault) (r : GRecord) : Bool:=!decide ((0 : Int) ≤ r.Version ∧ r.Version ≤ (v.Keys.length : Int) - 1) || decide (32 < r.Label.length) || decide (200 < r.Body.length)
def Hv (v : GVault) (i : Nat) : Bool:=match v.Records[i]? with
 | some r=>decide (r.Number ≤ Qg v.Records i) || decide (r.Number ≥ v.Next) || BV v r
 | none=>false
def badI (v : GVault) (i : Nat) : Bool:=match v.Records[i]? with
 | some r=>!decide (1 ≤ r.Number ∧ r.Number ≤ v.Next - 1) || (decide (0 < i) && decide (Qg v.Records i ≥ r.Number)) || BV v r
 | none=>false
def K3 (v : GVault) : Bool:=decide (1 ≤ v.Keys.length ∧ v.Keys.length ≤ 8 ∧ 1 ≤ v.Next ∧ v.Next ≤ 1000000 ∧ v.Records.length ≤ 12 ∧ v.Events.length ≤ 60)
def XJ (v : GVault) : Bool:=K3 v && !((List.range' 0 (v.Records.length - 0)).any (Hv v)) && v.Events.all UV
theorem qf (v : GVault) : (List.range' 0 (v.Records.length - 0)).any (badI v) = (List.range' 0 (v.Records.length - 0)).any (Hv v):=by
 have h : ∀ b c : Bool,(b = false ↔ c = false) → b = c:=by intro b c; cases b <;> cases c <;> simp
 apply h
 rw [List.any_eq_false,List.any_eq_false]
 simp only [List.mem_range'_1,Nat.zero_le,true_and,Nat.sub_zero,Nat.zero_add,Bool.not_eq_true]
 constructor
 ·intro hI i hi
  have h1:=hI i hi
  unfold badI Hv at *
  rw [List.getElem?_eq_getElem hi] at h1 ⊢
  simp only [Bool.or_eq_false_iff,Bool.not_eq_false',decide_eq_true_eq,Bool.and_eq_false_iff,decide_eq_false_iff_not] at h1 ⊢
  refine ⟨⟨?_,by omega⟩,h1.2⟩
  cases i with
  | zero=>simp only [Qg]; omega
  | succ i =>
   rcases h1.1.2 with h2 | h2
   ·omega
   ·omega
 ·intro hS
  have pos : ∀ i,i < v.Records.length → 0 ≤ Qg v.Records i ∧ Qg v.Records i < (v.Records[i]?.map (·.Number)).getD 0:=by
   intro i
   induction i with
   | zero =>
    intro hi
    have h1:=hS 0 hi
    unfold Hv at h1
    rw [List.getElem?_eq_getElem hi] at h1 ⊢
    simp only [Bool.or_eq_false_iff,decide_eq_false_iff_not,Option.map_some,Option.getD_some] at h1 ⊢
    have e : Qg v.Records 0 = 0:=rfl
    have h2:=h1.1.1
    rw [e] at h2 ⊢
    omega
   | succ i ih =>
    intro hi
    have h0:=ih (by omega)
    have h1:=hS (i + 1) hi
    unfold Hv at h1
    have e : Qg v.Records (i + 1) = (v.Records[i]?.map (·.Number)).getD 0:=rfl
    rw [List.getElem?_eq_getElem hi] at h1 ⊢
    simp only [Bool.or_eq_false_iff,decide_eq_false_iff_not,Option.map_some,Option.getD_some] at h1 ⊢
    rw [e] at h1 ⊢
    omega
  intro i hi
  have h1:=hS i hi
  have h2:=pos i hi
  unfold badI Hv at *
  rw [List.getElem?_eq_getElem hi] at h1 h2 ⊢
  simp only [Bool.or_eq_false_iff,Bool.not_eq_false',decide_eq_true_eq,Bool.and_eq_false_iff,decide_eq_false_iff_not,Option.map_some,Option.getD_some] at h1 h2 ⊢
  exact ⟨⟨by omega,.inr (by omega)⟩,h1.2⟩
theorem Zbd (v : GVault) (hb : Wt.ln v) : TN v = some (XJ v):=by
 have hb1:=W3 hb.1; have hb2:=W3 hb.2.1; have hb3:=W3 hb.2.2
 unfold TN
 simp only [zx,Option.bind_some]
 by_cases hh : K3 v = true
 ·have hh' : 1 ≤ v.Keys.length ∧ v.Keys.length ≤ 8 ∧ 1 ≤ v.Next ∧ v.Next ≤ 1000000 ∧ v.Records.length ≤ 12 ∧ v.Events.length ≤ 60:=by simpa [K3] using hh
  have c1 : ¬ ((v.Keys.length : Int) < 1):=by omega
  have c2 : ¬ ((v.Keys.length : Int) > 8):=by omega
  have c3 : 1 ≤ v.Next ∧ v.Next ≤ 1000000:=by omega
  have c4 : ¬ ((v.Records.length : Int) > 12):=by omega
  have c5 : ¬ ((v.Events.length : Int) > 60):=by omega
  simp only [c1,c2,c3,c4,c5,decide_false,decide_true,and_self,Bool.not_true,Bool.false_eq_true,if_false,Option.bind_some]
  have hw : wr ((v.Keys.length : Int) - 1) = (v.Keys.length : Int) - 1:=YG (by omega)
  have h1:=QP (f:=Uw v) (fun i : Nat=>(Qg v.Records i,(i : Int))) (Hv v) (fun _=>(.ex false : Fl Unit Bool)) (e:=.nx ()) v.Records.length v.Records.length 0 (by omega) (fun i _ hi=>by
   unfold Uw Hv
   simp only [Int.ofNat_lt,hi,decide_true,if_true,YB,List.getElem?_eq_getElem hi,Option.bind_some,zx,hw,XB (show i < 9223372036854775807 by omega)]
   have e : Qg v.Records (i + 1) = v.Records[i].Number:=by simp [Qg,List.getElem?_eq_getElem hi]
   rw [e]
   unfold BV
   by_cases d1 : v.Records[i].Number ≤ Qg v.Records i
   ·simp [d1]
   ·by_cases d2 : v.Records[i].Number ≥ v.Next
    ·simp [d1,d2]
    ·by_cases d3 : (0 : Int) ≤ v.Records[i].Version ∧ v.Records[i].Version ≤ (v.Keys.length : Int) - 1
     ·by_cases d4 : 32 < v.Records[i].Label.length
      ·have d4' : (v.Records[i].Label.length : Int) > 32:=by omega
       simp [d1,d2,d3,d4,d4']
      ·have d4' : ¬ ((v.Records[i].Label.length : Int) > 32):=by omega
       by_cases d5 : 200 < v.Records[i].Body.length
       ·have d5' : (v.Records[i].Body.length : Int) > 200:=by omega
        simp [d1,d2,d3,d4,d4',d5,d5']
       ·have d5' : ¬ ((v.Records[i].Body.length : Int) > 200):=by omega
        simp [d1,d2,d3,d4,d4',d5,d5']
     ·simp [d1,d2,d3]) (by unfold Uw; simp)
  have h2 : ZB (Uw v) (0,0) = _:=h1
  rw [h2]
  have h3:=kK (f:=Tv v) v.Events (fun e=>!UV e) (t:=false) (by omega) (fun i hi=>by
   unfold Tv
   simp only [Int.ofNat_lt,hi,decide_true,if_true,YB,List.getElem?_eq_getElem hi,Option.bind_some,jq]
   cases UV v.Events[i] <;> simp) (by unfold Tv; simp)
  rw [h3]
  unfold XJ
  rw [hh,Nat.sub_zero]
  cases hf : (List.range' 0 v.Records.length).find? (Hv v) with
  | none =>
   have : (List.range' 0 v.Records.length).any (Hv v) = false:=by
    rw [List.any_eq_false]; exact List.find?_eq_none.1 hf
   rw [this,List.any_eq_not_all_not]
   simp only [Bool.not_not]
   cases v.Events.all UV <;> rfl
  | some i =>
   have : (List.range' 0 v.Records.length).any (Hv v) = true:=by
    rw [List.any_eq_true]; exact ⟨i,List.mem_of_find?_eq_some hf,List.find?_some hf⟩
   rw [this]; rfl
 ·have hf : K3 v = false:=by simpa using hh
  unfold XJ
  rw [hf]
  have hh' : ¬ (1 ≤ v.Keys.length ∧ v.Keys.length ≤ 8 ∧ 1 ≤ v.Next ∧ v.Next ≤ 1000000 ∧ v.Records.length ≤ 12 ∧ v.Events.length ≤ 60):=by simpa [K3] using hf
  by_cases c1 : ((v.Keys.length : Int) < 1)
  ·simp [c1]
  ·by_cases c2 : ((v.Keys.length : Int) > 8)
   ·simp [c1,c2]
   ·by_cases c3 : 1 ≤ v.Next ∧ v.Next ≤ 1000000
    ·by_cases c4 : ((v.Records.length : Int) > 12)
     ·simp [c1,c2,c3,c4]
     ·have c5 : ((v.Events.length : Int) > 60):=by omega
      simp [c1,c2,c3,c4,c5]
    ·simp [c1,c2,c3]
theorem Ae (v : GVault) (hb : Wt.ln v) : UJ v = some (XJ v):=by
 have hb1:=W3 hb.1; have hb2:=W3 hb.2.1; have hb3:=W3 hb.2.2
 unfold UJ YD
 simp only [HF,Option.bind_some]
 by_cases hh : K3 v = true
 ·have hh' : 1 ≤ v.Keys.length ∧ v.Keys.length ≤ 8 ∧ 1 ≤ v.Next ∧ v.Next ≤ 1000000 ∧ v.Records.length ≤ 12 ∧ v.Events.length ≤ 60:=by simpa [K3] using hh
  have c1 : (1 : Int) ≤ v.Keys.length ∧ (v.Keys.length : Int) ≤ 8:=by omega
  have c3 : 1 ≤ v.Next ∧ v.Next ≤ 1000000:=by omega
  have c4 : ¬ ((v.Records.length : Int) > 12):=by omega
  have c5 : ¬ ((v.Events.length : Int) > 60):=by omega
  simp only [c1,c3,c4,c5,decide_false,decide_true,and_self,Bool.not_true,Bool.false_eq_true,if_false,Option.bind_some]
  have hw : wr ((v.Keys.length : Int) - 1) = (v.Keys.length : Int) - 1:=YG (by omega)
  have hw2 : wr (v.Next - 1) = v.Next - 1:=YG (by omega)
  have h1:=qi (f:=W7 v) v.Records.length (badI v) false (by omega) (fun i hi=>by
   unfold W7 badI YD
   simp only [Int.ofNat_lt,hi,decide_true,if_true,YB,List.getElem?_eq_getElem hi,Option.bind_some,HF,hw,hw2]
   unfold BV
   by_cases d1 : 1 ≤ v.Records[i].Number ∧ v.Records[i].Number ≤ v.Next - 1
   ·have key : (if decide ((i : Int) > 0) = true then (idx v.Records (wr ((i : Int) - 1))).bind fun x=>some (decide (x.Number ≥ v.Records[i].Number)) else some false) = some (decide (0 < i) && decide (Qg v.Records i ≥ v.Records[i].Number)):=by
     cases i with
     | zero=>simp
     | succ i =>
      have e1 : wr (((i + 1 : Nat) : Int) - 1) = (i : Int):=by rw [YG (by omega)]; omega
      have hi' : i < v.Records.length:=by omega
      have e2 : Qg v.Records (i + 1) = v.Records[i].Number:=by simp [Qg,List.getElem?_eq_getElem hi']
      have e3 : ((i + 1 : Nat) : Int) > 0:=by omega
      simp only [e1,e2,e3,decide_true,if_true,YB,List.getElem?_eq_getElem hi',Option.bind_some]
      simp
    simp only [d1,decide_true,and_self,Bool.not_true,Bool.false_eq_true,if_false,key,Option.bind_some,Bool.false_or]
    by_cases d2 : (decide (0 < i) && decide (Qg v.Records i ≥ v.Records[i].Number)) = true
    ·simp [d2]
    ·have d2 : (decide (0 < i) && decide (Qg v.Records i ≥ v.Records[i].Number)) = false:=by simpa using d2
     rw [d2]
     by_cases d3 : (0 : Int) ≤ v.Records[i].Version ∧ v.Records[i].Version ≤ (v.Keys.length : Int) - 1
     ·by_cases d4 : 32 < v.Records[i].Label.length
      ·have d4' : (v.Records[i].Label.length : Int) > 32:=by omega
       simp [d3,d4,d4']
      ·have d4' : ¬ ((v.Records[i].Label.length : Int) > 32):=by omega
       by_cases d5 : 200 < v.Records[i].Body.length
       ·have d5' : (v.Records[i].Body.length : Int) > 200:=by omega
        simp [d3,d4,d4',d5,d5']
       ·have d5' : ¬ ((v.Records[i].Body.length : Int) > 200):=by omega
        simp [d3,d4,d4',d5,d5']
     ·simp [d3]
   ·simp [d1]) (by unfold W7; simp) 0 (Nat.zero_le _)
  have h2 : ZB (W7 v) 0 = _:=h1
  rw [h2,qf,H5 v.Events _ (fun e=>!UV e) (by omega) (fun x _=>by unfold VU; rw [kM]; rfl)]
  have ha : (v.Events.any fun e=>!UV e) = !(v.Events.all UV):=by rw [List.any_eq_not_all_not]; simp
  unfold XJ
  rw [hh,ha]
  generalize (List.range' 0 (v.Records.length - 0)).any (Hv v) = z
  cases z <;> simp [Fl.el]
 ·have hf : K3 v = false:=by simpa using hh
  unfold XJ
  rw [hf]
  have hh' : ¬ (1 ≤ v.Keys.length ∧ v.Keys.length ≤ 8 ∧ 1 ≤ v.Next ∧ v.Next ≤ 1000000 ∧ v.Records.length ≤ 12 ∧ v.Events.length ≤ 60):=by simpa [K3] using hf
  by_cases c1 : (1 : Int) ≤ v.Keys.length ∧ (v.Keys.length : Int) ≤ 8
  ·by_cases c3 : 1 ≤ v.Next ∧ v.Next ≤ 1000000
   ·by_cases c4 : ((v.Records.length : Int) > 12)
    ·simp [c1,c3,c4]
    ·have c5 : ((v.Events.length : Int) > 60):=by omega
     simp [c1,c3,c4,c5]
   ·simp [c1,c3]
  ·simp [c1]
theorem Za6 {α : Type} [Dat α] [Wt α] {f : α → Int → Option Int} {x : α} {left : Int} {G : Int → Option Bool} (hf : TF f x) (h1 : 0 ≤ left) (h2 : left ≤ 1048576) (hG : ∀ r,0 ≤ r → r ≤ 1048576 → r + (Wt.wt x : Nat) ≤ left → G r = some true) :
  ((f x left).bind fun r=>if decide (r < 0) = true then some true else G r) = some true:=by
 obtain ⟨r,e1,e2,e3⟩:=hf left h1 h2
 rw [e1]
 by_cases hr : r < 0
 ·simp [hr]
 ·have:=hG r (by omega) e2 (e3 (by omega))
  simp [hr,this]
theorem T3 {v : GVault} (h : XJ v = true) : 1 ≤ v.Keys.length ∧ v.Keys.length ≤ 8 ∧ 1 ≤ v.Next ∧ v.Next ≤ 1000000 ∧ v.Records.length ≤ 12 ∧ v.Events.length ≤ 60:=by
 unfold XJ K3 at h
 simp only [Bool.and_eq_true,decide_eq_true_eq] at h
 exact h.1.1
theorem HQ (a : Nat) (h : a < 9223372036854775808) : (BitVec.ofInt 64 (a : Int)).toNat = a:=by
 rw [BitVec.toNat_ofInt]
 omega
theorem Kx (a b : Nat) (ha : a < 9223372036854775808) (hb : b < 9223372036854775808) : Hw (a : Int) (b : Int) = ((a ^^^ b : Nat) : Int):=by
 unfold Hw
 rw [BitVec.toNat_xor,HQ a ha,HQ b hb]
 have : a ^^^ b < 2 ^ 63:=Nat.xor_lt_two_pow ha hb
 exact YG (by omega)
theorem Zah (a b : Nat) (ha : a < 9223372036854775808) (hb : b < 9223372036854775808) : Qn (a : Int) (b : Int) = ((a &&& b : Nat) : Int):=by
 unfold Qn
 rw [BitVec.toNat_and,HQ a ha,HQ b hb]
 have : a &&& b < 2 ^ 63:=Nat.and_lt_two_pow _ hb
 exact YG (by omega)
theorem yQ (a i : Nat) (hi : i ≤ 63) (h : a <<< i < 9223372036854775808) : AN (a : Int) (i : Int) = ((a <<< i : Nat) : Int):=by
 unfold AN
 rw [show min ((i : Int)).toNat 64 = i by omega]
 have : ((a : Int) * 2 ^ i) = ((a <<< i : Nat) : Int):=by rw [Nat.shiftLeft_eq]; simp
 rw [this]
 generalize a <<< i = x at h ⊢
 exact YG (by omega)
theorem qK (a i : Nat) (hi : i ≤ 63) : Tk (a : Int) (i : Int) = ((a >>> i : Nat) : Int):=by
 unfold Tk
 rw [show min ((i : Int)).toNat 64 = i by omega,Nat.shiftRight_eq_div_pow,Int.fdiv_eq_ediv_of_nonneg _ (by exact_mod_cast Nat.zero_le _)]
 simp
theorem zR (a i : Nat) : ((a >>> i) &&& 1 = 1) ↔ a.testBit i = true:=by
 rw [Nat.testBit,Nat.and_comm]
 have h:=Nat.and_one_is_mod (a >>> i)
 rw [Nat.and_comm] at h
 rw [h]
 rcases Nat.mod_two_eq_zero_or_one (a >>> i) with h | h <;> simp [h]
theorem Zae (a : Nat) : Int.tmod (a : Int) 2 = ((a % 2 : Nat) : Int):=by
 rw [Int.tmod_eq_emod_of_nonneg (by omega)]; simp
theorem qb (a : Nat) : Int.tdiv (a : Int) 2 = ((a / 2 : Nat) : Int):=by
 rw [Int.tdiv_eq_ediv_of_nonneg (by omega)]; simp
theorem jO (a : Nat) (h : a < 9223372036854775808) : wr (a : Int) = (a : Int):=YG (by omega)
theorem qa (a : Nat) (h : a < 9223372036854775808) : IntKind.u64.wrap (a : Int) = (a : Int):=by
 simp only [IntKind.wrap,IntKind.bits,IntKind.signed]
 simp
 omega

def YL (m deg : Nat) : Nat → Nat → Nat
 | 0,a=>a
 | k + 1,a=>YL m deg k (if a.testBit (deg + k) then a ^^^ (m <<< k) else a)
theorem Kw {m k n : Nat} (h : m < 2 ^ n) : m <<< k < 2 ^ (n + k):=by
 rw [Nat.shiftLeft_eq,Nat.pow_add]
 exact Nat.mul_lt_mul_of_pos_right h (Nat.two_pow_pos _)
theorem AZ {a n : Nat} (h : a < 2 ^ (n + 1)) (hb : a.testBit n = false) : a < 2 ^ n:=by
 apply Nat.lt_pow_two_of_testBit
 intro i hi
 rcases Nat.eq_or_lt_of_le hi with rfl | hi
 ·exact hb
 ·exact Nat.testBit_lt_two_pow (Nat.lt_of_lt_of_le h (Nat.pow_le_pow_right (by omega) hi))
theorem kb {m d : Nat} (h1 : 2 ^ d ≤ m) (h2 : m < 2 ^ (d + 1)) : m.testBit d = true:=by
 rw [Nat.testBit,Nat.shiftRight_eq_div_pow]
 have : m / 2 ^ d = 1:=by
  apply Nat.div_eq_of_lt_le
  ·simpa using h1
  ·rw [Nat.pow_succ] at h2; omega
 rw [this]; rfl
theorem Za1 {m d k a : Nat} (h1 : 2 ^ d ≤ m) (h2 : m < 2 ^ (d + 1)) (ha : a < 2 ^ (d + (k + 1))) (hb : a.testBit (d + k) = true) : a ^^^ (m <<< k) < 2 ^ (d + k):=by
 have hm : m <<< k < 2 ^ (d + (k + 1)):=by have:=Kw (k:=k) h2; rwa [show d + 1 + k = d + (k + 1) by omega] at this
 refine AZ (Nat.xor_lt_two_pow (by rwa [show d + k + 1 = d + (k + 1) by omega]) (by rwa [show d + k + 1 = d + (k + 1) by omega])) ?_
 rw [Nat.testBit_xor,hb,Nat.testBit_shiftLeft]
 simp [kb h1 h2]
theorem J9 {m d : Nat} (h1 : 2 ^ d ≤ m) (h2 : m < 2 ^ (d + 1)) : ∀ (k a : Nat),a < 2 ^ (d + k) → YL m d k a < 2 ^ d
 | 0,a,h=>by simpa [YL] using h
 | k + 1,a,h=>by
  unfold YL
  cases hb : a.testBit (d + k) with
  | true=>simp only [if_true]; exact J9 h1 h2 k _ (Za1 h1 h2 h hb)
  | false=>simp only [Bool.false_eq_true,if_false]; exact J9 h1 h2 k a (AZ h hb)
theorem Qp (m d : Nat) : ∀ (k a b : Nat),YL m d k (a ^^^ b) = YL m d k a ^^^ YL m d k b
 | 0,_,_=>rfl
 | k + 1,a,b=>by
  simp only [YL]
  rw [Nat.testBit_xor]
  cases a.testBit (d + k) <;> cases b.testBit (d + k) <;> simp only [Bool.xor_false,Bool.false_xor,Bool.xor_self,Bool.xor_true,Bool.not_false,Bool.not_true,Bool.false_eq_true,if_true,if_false]
  ·exact Qp m d k a b
  ·rw [Nat.xor_assoc]; exact Qp m d k a _
  ·rw [← Qp m d k]; congr 1; rw [Nat.xor_assoc,Nat.xor_comm b,← Nat.xor_assoc]
  ·rw [← Qp m d k]; congr 1
   rw [Nat.xor_assoc,← Nat.xor_assoc (m <<< k),Nat.xor_comm (m <<< k) b,Nat.xor_assoc,Nat.xor_self,Nat.xor_zero]
theorem U5 {m d : Nat} : ∀ (k a : Nat),a < 2 ^ d → YL m d k a = a
 | 0,_,_=>rfl
 | k + 1,a,h=>by
  unfold YL
  rw [Nat.testBit_lt_two_pow (Nat.lt_of_lt_of_le h (Nat.pow_le_pow_right (by omega) (by omega)))]
  simp only [Bool.false_eq_true,if_false]
  exact U5 k a h
theorem zc {m d k a : Nat} (h : a < 2 ^ (d + k)) : YL m d (k + 1) a = YL m d k a:=by
 conv=>lhs; unfold YL
 rw [Nat.testBit_lt_two_pow h]; rfl
theorem QE (m d : Nat) : ∀ (k x : Nat),YL m d (k + 1) (x <<< 1) = (if ((YL m d k x) <<< 1).testBit d then ((YL m d k x) <<< 1) ^^^ m else (YL m d k x) <<< 1)
 | 0,x=>by simp [YL]
 | k + 1,x=>by
  conv=>lhs; unfold YL
  conv=>rhs; unfold YL
  have e : (x <<< 1).testBit (d + (k + 1)) = x.testBit (d + k):=by
   rw [Nat.testBit_shiftLeft]
   have : d + (k + 1) ≥ 1:=by omega
   simp only [this,decide_true,Bool.true_and]
   congr 1
  rw [e]
  cases x.testBit (d + k) with
  | false=>simp only [Bool.false_eq_true,if_false]; exact QE m d k x
  | true =>
   simp only [if_true]
   have e2 : x <<< 1 ^^^ m <<< (k + 1) = (x ^^^ m <<< k) <<< 1:=by
    rw [Nat.shiftLeft_xor_distrib,← Nat.shiftLeft_add]
   rw [e2]
   exact QE m d k _

def lenN (n : Nat) : Nat:=if n = 0 then 0 else n.log2 + 1
theorem v_rest (a m d : Nat) (hd : d ≤ 15) (ha : a < 2 ^ 16) (hm : m < 2 ^ 20) : TI (a : Int) (m : Int) (d : Int) = some ((YL m d (16 - d) a : Nat) : Int):=by
 have key : ∀ (k a : Nat),d + k ≤ 16 → a < 2 ^ 40 → ZB (U6 (m : Int) (d : Int)) ((a : Int),((d + k : Nat) : Int) - 1) = some ((YL m d k a : Nat) : Int):=by
  intro k
  induction k with
  | zero =>
   intro a _ _
   rw [Wg (t:=(a : Int))]
   ·rfl
   ·unfold U6
    have : ¬ (((d + 0 : Nat) : Int) - 1 ≥ (d : Int)):=by omega
    simp only [this,decide_false,Bool.false_eq_true,if_false]
  | succ k ih =>
   intro a hk ha
   have e0 : ((d + (k + 1) : Nat) : Int) - 1 = ((d + k : Nat) : Int):=by omega
   have hsh : m <<< k < 2 ^ (20 + k):=Kw hm
   have hsh2 : m <<< k < 2 ^ 40:=Nat.lt_of_lt_of_le hsh (Nat.pow_le_pow_right (by omega) (by omega))
   have hst : U6 (m : Int) (d : Int) ((a : Int),((d + (k + 1) : Nat) : Int) - 1) = some (.nx (((if a.testBit (d + k) then a ^^^ (m <<< k) else a : Nat) : Int),((d + k : Nat) : Int) - 1)):=by
    rw [e0]
    unfold U6
    have c1 : ((d + k : Nat) : Int) ≥ (d : Int):=by omega
    have c2 : Xm ((d + k : Nat) : Int) = some ():=by unfold Xm; rw [if_pos (by omega)]
    have c3 : wr (((d + k : Nat) : Int) - (d : Int)) = ((k : Nat) : Int):=by rw [show ((d + k : Nat) : Int) - (d : Int) = ((k : Nat) : Int) by omega,jO _ (by omega)]
    have c4 : Xm ((k : Nat) : Int) = some ():=by unfold Xm; rw [if_pos (by omega)]
    have c5 : wr (((d + k : Nat) : Int) - 1) = ((d + k : Nat) : Int) - 1:=YG (by omega)
    simp only [c1,decide_true,if_true,c2,c3,c4,c5,Option.bind_some]
    have c6 : Qn (Tk (a : Int) ((d + k : Nat) : Int)) 1 = (((a >>> (d + k)) &&& 1 : Nat) : Int):=by
     rw [qK a (d + k) (by omega)]
     exact Zah _ 1 (Nat.lt_of_le_of_lt (Nat.shiftRight_le _ _) (by omega)) (by omega)
    rw [c6,yQ m k (by omega) (by omega),Kx a _ (by omega) (by omega)]
    cases hb : a.testBit (d + k) with
    | true =>
     have:=(zR a (d + k)).2 hb
     rw [this]; rfl
    | false =>
     have : ¬ ((a >>> (d + k)) &&& 1 = 1):=fun h=>by rw [(zR a (d + k)).1 h] at hb; cases hb
     have h2 : (((((a >>> (d + k)) &&& 1 : Nat) : Int)) == 1) = false:=by
      rw [beq_eq_false_iff_ne]; omega
     rw [h2]; rfl
   rw [Wu hst,ih _ (by omega) ?_]
   ·conv=>rhs; unfold YL
   ·split
    ·exact Nat.xor_lt_two_pow ha hsh2
    ·exact ha
 unfold TI
 have:=key (16 - d) a (by omega) (by omega)
 rw [show ((d + (16 - d) : Nat) : Int) - 1 = 15 by omega] at this
 rw [this]; rfl

def Hg : Nat → Nat → Nat → Nat
 | 0,_,_=>0
 | n + 1,a,b=>(if b % 2 = 1 then a else 0) ^^^ Hg n (a <<< 1) (b / 2)
theorem HL : ∀ (n a : Nat),Hg n a 0 = 0
 | 0,_=>rfl
 | n + 1,a=>by simp [Hg,HL n]
theorem jL : ∀ (n a b p : Nat),a < 2 ^ p → Hg n a b < 2 ^ (p + n)
 | 0,_,_,_,_=>by simp [Hg]; exact Nat.two_pow_pos _
 | n + 1,a,b,p,h=>by
  unfold Hg
  have h1 : a <<< 1 < 2 ^ (p + 1):=Kw h
  have h2:=jL n (a <<< 1) (b / 2) (p + 1) h1
  rw [show p + 1 + n = p + (n + 1) by omega] at h2
  refine Nat.xor_lt_two_pow ?_ h2
  have h3 : 2 ^ p ≤ 2 ^ (p + (n + 1)):=Nat.pow_le_pow_right (by omega) (by omega)
  have h4:=Nat.two_pow_pos (p + (n + 1))
  split <;> omega
def prC : Nat → Nat → Nat → Nat
 | 0,_,_=>0
 | i + 1,a,b=>prC i a b ^^^ (if b.testBit i then a <<< i else 0)
theorem yB : ∀ (n a b : Nat),prC (n + 1) a b = (if b % 2 = 1 then a else 0) ^^^ prC n (a <<< 1) (b / 2)
 | 0,a,b=>by
  simp only [prC,Nat.zero_xor,Nat.xor_zero,Nat.shiftLeft_zero]
  have : b.testBit 0 = decide (b % 2 = 1):=by simp [Nat.testBit_zero]
  rw [this]; simp
 | n + 1,a,b=>by
  conv=>lhs; unfold prC
  rw [yB n a b]
  conv=>rhs; unfold prC
  rw [← Nat.xor_assoc]
  congr 1
  rw [Nat.testBit_succ,← Nat.shiftLeft_add,Nat.add_comm 1 n]
theorem Zaj : ∀ (n a b : Nat),prC n a b = Hg n a b
 | 0,_,_=>rfl
 | n + 1,a,b=>by rw [yB,Zaj n]; rfl
theorem jl (a b : Nat) (h : a < 256) : ∀ i,i ≤ 8 → prC i a b < 2 ^ 16
 | 0,_=>by simp [prC]
 | i + 1,hi=>by
  unfold prC
  have h1 : a <<< i < 2 ^ (8 + i):=Kw h
  have h2 : 2 ^ (8 + i) ≤ 2 ^ 16:=Nat.pow_le_pow_right (by omega) (by omega)
  refine Nat.xor_lt_two_pow (jl a b h i (by omega)) ?_
  split
  ·omega
  ·omega
def ZW (m : Nat) (a b : UInt8) : UInt8:=Zy ((YL m 8 8 (Hg 8 a.toNat b.toNat) : Nat) : Int)
theorem Ts (m : Nat) (hm : m < 512) (a b : UInt8) : Z0 (m : Int) a b = some (ZW m a b):=by
 have ha : a.toNat < 256:=a.toNat_lt
 have hb : b.toNat < 256:=b.toNat_lt
 have h:=ZY (f:=Xv a b) (fun i : Nat=>(((prC i a.toNat b.toNat : Nat) : Int),(i : Int))) 0 8 (Nat.zero_le _) (t:=((prC 8 a.toNat b.toNat : Nat) : Int)) (fun i _ hi=>by
  unfold Xv
  have c1 : ((i : Int) < 8):=by omega
  have c2 : Xm (i : Int) = some ():=by unfold Xm; rw [if_pos (by omega)]
  have c3 : prC i a.toNat b.toNat < 2 ^ 16:=jl _ _ ha i (by omega)
  have c4 : a.toNat <<< i < 2 ^ (8 + i):=Kw ha
  have c5 : 2 ^ (8 + i) ≤ 2 ^ 16:=Nat.pow_le_pow_right (by omega) (by omega)
  have c6 : (((Ao b (i : Int)) &&& 1) == 1) = b.toNat.testBit i:=by
   have e1 : (Ao b (i : Int)).toNat = b.toNat >>> i:=by
    unfold Ao Zy
    rw [show min ((i : Int)).toNat 8 = i by omega,Int.fdiv_eq_ediv_of_nonneg _ (by exact_mod_cast Nat.zero_le _)]
    have : ((b.toNat : Int) / 2 ^ i) = ((b.toNat >>> i : Nat) : Int):=by rw [Nat.shiftRight_eq_div_pow]; simp
    rw [this]
    have h3 : b.toNat >>> i ≤ b.toNat:=Nat.shiftRight_le _ _
    generalize b.toNat >>> i = q at h3 ⊢
    have h4 : (((q : Nat) : Int) % 256).toNat = q:=by omega
    rw [h4]
    simp
    omega
   rw [Bool.eq_iff_iff,beq_iff_eq,← zR,← UInt8.toNat_inj,UInt8.toNat_and,e1]
   simp
  simp only [c1,decide_true,if_true,c2,Option.bind_some,c6,XB (show i < 9223372036854775807 by omega)]
  rw [yQ _ i (by omega) (by omega),Kx _ _ (by omega) (by omega)]
  cases hbit : b.toNat.testBit i with
  | true=>simp [prC,hbit]
  | false=>simp [prC,hbit]) (by unfold Xv; simp)
 have h2 : ZB (Xv a b) (0,0) = _:=h
 unfold Z0
 rw [h2]
 simp only [Option.bind_some]
 have h3:=v_rest (prC 8 a.toNat b.toNat) m 8 (by omega) (jl _ _ ha 8 (by omega)) (by omega)
 have h4 : TI ((prC 8 a.toNat b.toNat : Nat) : Int) (m : Int) 8 = _:=h3
 rw [h4,Zaj]
 rfl
theorem Jm (m : Nat) (hm : m < 512) (hm2 : 256 ≤ m) (a b : UInt8) : YS (m : Int) a b = some (ZW m a b):=by
 have ha : a.toNat < 256:=a.toNat_lt
 have hb : b.toNat < 256:=b.toNat_lt
 have h1 : 2 ^ 8 ≤ m:=hm2
 have h2 : m < 2 ^ (8 + 1):=hm
 have hR : ∀ i,i ≤ 8 → YL m 8 8 (a.toNat <<< i) < 256:=fun i hi=>J9 h1 h2 8 _ (by
  have:=Kw (k:=i) (show a.toNat < 2 ^ 8 from ha)
  exact Nat.lt_of_lt_of_le this (Nat.pow_le_pow_right (by omega) (by omega)))
 have hdbl : ∀ i,i ≤ 7 → YL m 8 8 (a.toNat <<< (i + 1)) = if 256 ≤ (YL m 8 8 (a.toNat <<< i)) * 2 then (YL m 8 8 (a.toNat <<< i)) * 2 ^^^ m else (YL m 8 8 (a.toNat <<< i)) * 2:=by
  intro i hi
  have hx : a.toNat <<< i < 2 ^ (8 + 7):=Nat.lt_of_lt_of_le (Kw (show a.toNat < 2 ^ 8 from ha)) (Nat.pow_le_pow_right (by omega) (by omega))
  have e : a.toNat <<< (i + 1) = (a.toNat <<< i) <<< 1:=by rw [← Nat.shiftLeft_add]
  rw [e,QE m 8 7,← zc hx]
  have hlt:=hR i (by omega)
  generalize YL m 8 8 (a.toNat <<< i) = y at hlt ⊢
  have e2 : y <<< 1 = y * 2:=by rw [Nat.shiftLeft_eq]
  rw [e2]
  have e3 : (y * 2).testBit 8 = decide (256 ≤ y * 2):=by
   by_cases hy : 256 ≤ y * 2
   ·rw [kb (d:=8) hy (by omega)]; simp [hy]
   ·rw [Nat.testBit_lt_two_pow (by omega : y * 2 < 2 ^ 8)]; simp [hy]
  rw [e3]
  by_cases hy : 256 ≤ y * 2 <;> simp [hy]
 have key : ∀ (n i o r : Nat),i + n ≤ 8 → r < 2 ^ n → o < 256 → ZB (Xg (m : Int)) ((o : Int),((YL m 8 8 (a.toNat <<< i) : Nat) : Int),(r : Int)) = some ((o ^^^ YL m 8 8 (Hg n (a.toNat <<< i) r) : Nat) : Int):=by
  intro n
  induction n with
  | zero =>
   intro i o r _ hr ho
   have : r = 0:=by simpa using hr
   subst this
   rw [Wg (t:=(o : Int))]
   ·rw [HL,U5 8 0 (by omega),Nat.xor_zero]
   ·unfold Xg; simp
  | succ n ih =>
   intro i o r hi hr ho
   by_cases h0 : r = 0
   ·subst h0
    rw [Wg (t:=(o : Int))]
    ·rw [HL,U5 8 0 (by omega),Nat.xor_zero]
    ·unfold Xg; simp
   ·have hy:=hR i (by omega)
    have hst : Xg (m : Int) ((o : Int),((YL m 8 8 (a.toNat <<< i) : Nat) : Int),(r : Int)) = some (.nx (((o ^^^ YL m 8 8 (if r % 2 = 1 then a.toNat <<< i else 0) : Nat) : Int),((YL m 8 8 (a.toNat <<< (i + 1)) : Nat) : Int),((r / 2 : Nat) : Int))):=by
     rw [hdbl i (by omega)]
     unfold Xg
     have c1 : (r : Int) > 0:=by omega
     have hr2 : r < 512:=Nat.lt_of_lt_of_le hr (Nat.le_trans (Nat.pow_le_pow_right (by omega) (by omega : n + 1 ≤ 9)) (by omega))
     simp only [c1,decide_true,if_true,Zae,qb]
     have e1 : wr (((YL m 8 8 (a.toNat <<< i) : Nat) : Int) * 2) = (((YL m 8 8 (a.toNat <<< i)) * 2 : Nat) : Int):=by rw [YG (by omega)]; omega
     have e2 : wr ((r / 2 : Nat) : Int) = ((r / 2 : Nat) : Int):=jO _ (by omega)
     rw [e1,e2,Kx _ _ (by omega) (by omega),Kx _ _ (by omega) (by omega)]
     have e3 : ((((r % 2 : Nat) : Int)) == 1) = decide (r % 2 = 1):=by
      rw [Bool.eq_iff_iff,beq_iff_eq,decide_eq_true_eq]; omega
     rw [e3]
     have e4 : decide ((((YL m 8 8 (a.toNat <<< i)) * 2 : Nat) : Int) ≥ 256) = decide (256 ≤ (YL m 8 8 (a.toNat <<< i)) * 2):=by rw [decide_eq_decide]; omega
     rw [e4]
     have e5 : YL m 8 8 0 = 0:=U5 8 0 (by omega)
     by_cases c2 : r % 2 = 1 <;> by_cases c3 : 256 ≤ (YL m 8 8 (a.toNat <<< i)) * 2 <;> simp only [c2,c3,decide_true,decide_false,Bool.false_eq_true,if_true,if_false,Option.bind_some,e5,Nat.xor_zero]
    rw [Wu hst,ih (i + 1) _ (r / 2) (by omega) (by rw [Nat.pow_succ] at hr; omega) ?_]
    ·conv=>rhs; unfold Hg
     rw [Qp,Nat.xor_assoc,Nat.shiftLeft_add]
    ·refine Nat.xor_lt_two_pow (n:=8) ho ?_
     split
     ·exact hR i (by omega)
     ·rw [U5 8 0 (by omega)]; omega
 have:=key 8 0 0 b.toNat (by omega) hb (by omega)
 rw [Nat.shiftLeft_zero,U5 8 a.toNat ha,Nat.zero_xor] at this
 have h3 : ZB (Xg (m : Int)) (0,bI a,bI b) = _:=this
 unfold YS
 rw [h3]
 rfl

def Bh (m : Nat) : Nat → UInt8 → Nat → UInt8 → UInt8
 | 0,_,_,o=>o
 | f + 1,a,k,o=>if k = 0 then o else Bh m f (ZW m a a) (k / 2) (if k % 2 = 1 then ZW m o a else o)
theorem yq (m : Nat) (L : UInt8 × Int × UInt8 → Option (Fl (UInt8 × Int × UInt8) UInt8)) (T : UInt8 → UInt8 → Option UInt8) (hT : ∀ a b,T a b = some (ZW m a b))
  (hL : ∀ s,L s = if (decide (s.2.1 > 0)) = true then (((if ((Int.tmod s.2.1 2) == 1) = true then ((T s.2.2 s.1).bind fun r=>some r) else (some s.2.2) : Option UInt8).bind fun j12=>(T s.1 s.1).bind fun r20=>some (r20,j12) : Option (UInt8 × UInt8)).bind fun j9=>some (Fl.nx (j9.1,wr (Int.tdiv s.2.1 2),j9.2))) else (some (Fl.ex s.2.2))) :
  ∀ (f k : Nat) (a o : UInt8),k < 2 ^ f → f ≤ 62 → ZB L (a,(k : Int),o) = some (Bh m f a k o):=by
 intro f
 induction f with
 | zero =>
  intro k a o hk _
  have : k = 0:=by simpa using hk
  subst this
  exact Wg (by rw [hL]; simp [Bh])
 | succ f ih =>
  intro k a o hk hf
  by_cases h0 : k = 0
  ·subst h0
   exact Wg (by rw [hL]; simp [Bh])
  ·have hlt : k < 9223372036854775808:=Nat.lt_of_lt_of_le hk (Nat.pow_le_pow_right (by omega : 0 < 2) (by omega : f + 1 ≤ 63))
   have hst : L (a,(k : Int),o) = some (.nx (ZW m a a,((k / 2 : Nat) : Int),if k % 2 = 1 then ZW m o a else o)):=by
    rw [hL]
    have c1 : (k : Int) > 0:=by omega
    have e3 : ((((k % 2 : Nat) : Int)) == 1) = decide (k % 2 = 1):=by
     rw [Bool.eq_iff_iff,beq_iff_eq,decide_eq_true_eq]; omega
    simp only [c1,decide_true,if_true,Zae,qb,hT,e3,Option.bind_some,jO (k / 2) (by omega)]
    by_cases c2 : k % 2 = 1 <;> simp [c2]
   rw [Wu hst,ih (k / 2) _ _ (by rw [Nat.pow_succ] at hk; omega) (by omega)]
   conv=>rhs; unfold Bh
   rw [if_neg h0]
theorem Ay (m : Nat) (hm : m < 512) (a : UInt8) (k f : Nat) (hk : k < 2 ^ f) (hf : f ≤ 62) : XN (m : Int) a (k : Int) = some (Bh m f a k 1):=by
 unfold XN
 rw [yq m (Vw (m : Int)) _ (Ts m hm) (fun s=>by unfold Vw; rfl) f k a 1 hk hf]; rfl
theorem jx (m : Nat) (hm : m < 512) (hm2 : 256 ≤ m) (a : UInt8) (k f : Nat) (hk : k < 2 ^ f) (hf : f ≤ 62) : W4 (m : Int) a (k : Int) = some (Bh m f a k 1):=by
 unfold W4
 rw [yq m (U1 (m : Int)) _ (Jm m hm hm2) (fun s=>by unfold U1; rfl) f k a 1 hk hf]; rfl
def Qu (m : Nat) (a : UInt8) : UInt8:=Bh m 8 a 254 1
theorem Kg (m : Nat) (hm : m < 512) (a : UInt8) : Yj (m : Int) a = some (Qu m a):=by
 unfold Yj
 have:=Ay m hm a 254 8 (by omega) (by omega)
 have h2 : XN (m : Int) a 254 = _:=this
 rw [h2]; rfl
theorem Zab (m : Nat) (hm : m < 512) (hm2 : 256 ≤ m) (a : UInt8) : Vs (m : Int) a = some (Qu m a):=by
 unfold Vs
 have:=jx m hm hm2 a 254 8 (by omega) (by omega)
 have h2 : W4 (m : Int) a 254 = _:=this
 rw [h2]; rfl

def redB (m d : Nat) : Bool:=YL d (lenN d - 1) (16 - (lenN d - 1)) m == 0
def Hj (m : Int) : Bool:=decide (256 ≤ m ∧ m ≤ 511) && !((List.range' 2 30).any (redB m.toNat))
theorem yx {m : Int} (h : Hj m = true) : ∃ n : Nat,m = n ∧ 256 ≤ n ∧ n < 512:=by
 unfold Hj at h
 simp only [Bool.and_eq_true,decide_eq_true_eq] at h
 exact ⟨m.toNat,by omega,by omega,by omega⟩
def qh (l : List UInt8) : Bool:=decide l.Nodup
def dbl (m y : Nat) : Nat:=if (y <<< 1).testBit 8 then (y <<< 1) ^^^ m else y <<< 1
theorem yc (a b c d : Nat) : (a ^^^ b) ^^^ (c ^^^ d) = (a ^^^ c) ^^^ (b ^^^ d):=by
 rw [Nat.xor_assoc,Nat.xor_assoc,← Nat.xor_assoc b,← Nat.xor_assoc c,Nat.xor_comm b c]
theorem jR (m x y : Nat) : dbl m (x ^^^ y) = dbl m x ^^^ dbl m y:=by
 unfold dbl
 rw [Nat.shiftLeft_xor_distrib,Nat.testBit_xor]
 cases (x <<< 1).testBit 8 <;> cases (y <<< 1).testBit 8 <;> simp only [Bool.xor_false,Bool.false_xor,Bool.xor_self,Bool.xor_true,Bool.not_false,Bool.not_true,Bool.false_eq_true,if_true,if_false]
 ·rw [Nat.xor_assoc]
 ·rw [Nat.xor_assoc,Nat.xor_assoc,Nat.xor_comm m]
 ·rw [yc,Nat.xor_self,Nat.xor_zero]
theorem BH (m : Nat) : dbl m 0 = 0:=by simp [dbl]
def opP (m : Nat) : Nat → Nat → Nat → Nat
 | 0,_,_=>0
 | n + 1,b,x=>(if b % 2 = 1 then x else 0) ^^^ opP m n (b / 2) (dbl m x)
theorem yM (m n b x : Nat) : opP m (n + 1) b x = (if b % 2 = 1 then x else 0) ^^^ opP m n (b / 2) (dbl m x):=rfl
theorem zp (m : Nat) : ∀ (n b x y : Nat),opP m n b (x ^^^ y) = opP m n b x ^^^ opP m n b y
 | 0,_,_,_=>by simp [opP]
 | n + 1,b,x,y=>by
  unfold opP
  rw [jR,zp m n,yc]
  congr 1
  split <;> simp
theorem Hd (m : Nat) : ∀ (n b : Nat),opP m n b 0 = 0
 | 0,_=>rfl
 | n + 1,b=>by unfold opP; rw [BH,Hd m n]; simp
theorem jN (m : Nat) : ∀ (n b x : Nat),opP m n b (dbl m x) = dbl m (opP m n b x)
 | 0,_,_=>(BH m).symm
 | n + 1,b,x=>by
  unfold opP
  rw [jN m n,jR]
  congr 1
  split
  ·rfl
  ·exact (BH m).symm
theorem yr (m : Nat) : ∀ (n b k c x : Nat),opP m n b (opP m k c x) = opP m k c (opP m n b x)
 | 0,_,k,c,_=>(Hd m k c).symm
 | n + 1,b,k,c,x=>by
  rw [yM,yM,← jN,yr m n,zp]
  congr 1
  split
  ·rfl
  ·exact (Hd m k c).symm
theorem kH (a : Nat) : (if a % 2 = 1 then 1 else 0) ^^^ (a / 2) <<< 1 = a:=by
 rw [Nat.shiftLeft_eq]
 have h : (if a % 2 = 1 then 1 else 0) = a % 2:=by split <;> omega
 rw [h]
 apply Nat.eq_of_testBit_eq
 intro i
 rw [Nat.testBit_xor]
 cases i with
 | zero =>
  simp [Nat.testBit_zero]
 | succ i =>
  rw [Nat.testBit_succ,Nat.testBit_succ,Nat.testBit_succ]
  have h1 : a % 2 / 2 = 0:=by omega
  have h2 : a / 2 * 2 ^ 1 / 2 = a / 2:=by omega
  rw [h1,h2]; simp
theorem Zbh (m i : Nat) (hi : i < 7) : dbl m (1 <<< i) = 1 <<< (i + 1):=by
 unfold dbl
 rw [← Nat.shiftLeft_add]
 have : (1 <<< (i + 1)).testBit 8 = false:=by
  apply Nat.testBit_lt_two_pow
  rw [Nat.shiftLeft_eq,Nat.one_mul]
  exact Nat.pow_lt_pow_right (by omega) (by omega)
 rw [this]; rfl
theorem z7 (m : Nat) : ∀ (n i a : Nat), n + i ≤ 8 → a < 2 ^ n → opP m n a (1 <<< i) = a <<< i
  | 0, i, a, _, ha => by
    have : a = 0 := by simpa using ha
    subst this; simp [opP]
  | n + 1, i, a, hn, ha => by
    have e : a <<< i = (if a % 2 = 1 then 1 <<< i else 0) ^^^ (a / 2) <<< (i + 1) := by
      conv => lhs; rw [← kH a]
      rw [Nat.shiftLeft_xor_distrib, ← Nat.shiftLeft_add, Nat.add_comm 1 i]
      congr 1
      split <;> simp
    unfold opP
    rw [e]
    congr 1
    rcases Nat.eq_zero_or_pos n with rfl | hp
    · have : a / 2 = 0 := by have : a < 2 := by simpa using ha
                             omega
      rw [this]; simp [opP]
    · rw [Zbh m i (by omega)]
      exact z7 m n (i + 1) (a / 2) (by omega) (by rw [Nat.pow_succ] at ha; omega)

theorem kW (m x : Nat) (hx : x < 2 ^ 15) : YL m 8 8 (x <<< 1) = dbl m (YL m 8 8 x):=by
 rw [QE m 8 7,← zc (d:=8) (k:=7) hx]; rfl
theorem Zap (m : Nat) : ∀ (n i a b : Nat),i + n ≤ 8 → a < 2 ^ 8 → YL m 8 8 (Hg n (a <<< i) b) = opP m n b (YL m 8 8 (a <<< i))
 | 0,_,_,_,_,_=>by simp [Hg,opP,U5 8 0]
 | n + 1,i,a,b,hn,ha=>by
  unfold Hg opP
  rw [Qp]
  have hx : a <<< i < 2 ^ 15:=Nat.lt_of_lt_of_le (Kw ha) (Nat.pow_le_pow_right (by omega) (by omega))
  rw [← kW m _ hx,← Nat.shiftLeft_add,Zap m n (i + 1) a (b / 2) (by omega) ha]
  congr 1
  split
  ·rfl
  ·exact U5 8 0 (by omega)
theorem Qo (m : Nat) (h1 : 256 ≤ m) (h2 : m < 512) (a b : UInt8) : (ZW m a b).toNat = opP m 8 b.toNat a.toNat:=by
 have ha : a.toNat < 2 ^ 8:=a.toNat_lt
 have hr : YL m 8 8 (Hg 8 a.toNat b.toNat) < 256:=J9 (d:=8) h1 h2 8 _ (jL 8 a.toNat b.toNat 8 ha)
 have e:=Zap m 8 0 a.toNat b.toNat (by omega) ha
 rw [Nat.shiftLeft_zero,U5 8 _ ha] at e
 unfold ZW Zy
 rw [e] at hr ⊢
 generalize opP m 8 b.toNat a.toNat = q at hr ⊢
 have : (((q : Nat) : Int) % 256).toNat = q:=by omega
 rw [this]
 simp
 omega
section
variable {m : Nat} (h1 : 256 ≤ m) (h2 : m < 512)
include h1 h2
theorem Kb (a b : UInt8) : ZW m a b = ZW m b a:=by
 apply UInt8.toNat_inj.1
 rw [Qo m h1 h2,Qo m h1 h2]
 have ea:=z7 m 8 0 a.toNat (by omega) a.toNat_lt
 have eb:=z7 m 8 0 b.toNat (by omega) b.toNat_lt
 simp only [Nat.shiftLeft_zero] at ea eb
 rw [← ea,yr,eb,ea]
theorem kj (a b c : UInt8) : ZW m (a ^^^ b) c = ZW m a c ^^^ ZW m b c:=by
 apply UInt8.toNat_inj.1
 rw [UInt8.toNat_xor,Qo m h1 h2,Qo m h1 h2,Qo m h1 h2,UInt8.toNat_xor,zp]
theorem y4 (a b c : UInt8) : ZW m a (b ^^^ c) = ZW m a b ^^^ ZW m a c:=by
 rw [Kb h1 h2,kj h1 h2,Kb h1 h2 b,Kb h1 h2 c]
theorem Jb (a : UInt8) : ZW m 0 a = 0:=by
 apply UInt8.toNat_inj.1
 rw [Qo m h1 h2]
 exact Hd m 8 _
end
def vf {α : Type} (n : Nat) (f : Nat → α) : Vector α n:=Vector.ofFn fun i=>f i.1
theorem Q1 {α : Type} {n i : Nat} (f : Nat → α) (h : i < n) : (vf n f)[i] = f i:=by simp [vf]
theorem Hh {α : Type} {n i : Nat} (f : Nat → α) (h : i < n) : (vf n f)[i]? = some (f i):=by rw [Vector.getElem?_eq_getElem h,Q1 f h]
theorem ZP {α : Type} {n i : Nat} (f : Nat → α) (h : i < n) : ZH (vf n f) (i : Int) = some (f i):=by rw [Va,Hh f h]
theorem Y8 {α : Type} {n : Nat} {f g : Nat → α} (h : ∀ i,i < n → f i = g i) : vf n f = vf n g:=by
 apply TT
 intro i hi
 rw [Q1 f hi,Q1 g hi,h i hi]
theorem TW {α : Type} {n : Nat} (f : Nat → α) (k : Nat) (x : α) : (vf n f).setIfInBounds k x = vf n (fun i=>if i = k then x else f i):=by
 apply TT
 intro i hi
 rw [Vector.getElem_setIfInBounds,Q1 _ hi,Q1 _ hi]
 by_cases h : k = i
 ·subst h; simp
 ·rw [if_neg h,if_neg (fun e=>h e.symm)]
theorem TG {α : Type} (n : Nat) (x : α) : Vector.replicate n x = vf n (fun _=>x):=by
 apply TT
 intro i hi
 rw [Q1 _ hi]; simp
theorem ki {α : Type} [Inhabited α] {n : Nat} (v : Vector α n) : v = vf n (fun i=>v[i]?.getD default):=by
 apply TT
 intro i hi
 rw [Q1 _ hi,Vector.getElem?_eq_getElem hi]; rfl
abbrev Mat:=Vector (Vector UInt8 4) 4
def mf (f : Nat → Nat → UInt8) : Mat:=vf 4 fun i=>vf 4 (f i)
theorem W2 {f g : Nat → Nat → UInt8} (h : ∀ i,i < 4 → ∀ j,j < 4 → f i j = g i j) : mf f = mf g:=Y8 fun i hi=>Y8 fun j hj=>h i hi j hj
theorem Tc {i : Nat} (f : Nat → Nat → UInt8) (h : i < 4) : ZH (mf f) (i : Int) = some (vf 4 (f i)):=ZP _ h
theorem Jh (f : Nat → Nat → UInt8) (k : Nat) (g : Nat → UInt8) : (mf f).setIfInBounds k (vf 4 g) = mf (fun i j=>if i = k then g j else f i j):=by
 unfold mf
 rw [TW]
 apply Y8
 intro i hi
 by_cases h : i = k
 ·simp [h]
 ·simp [h]
theorem zI : Vector.replicate 4 (Vector.replicate 4 (0 : UInt8)) = mf (fun _ _=>0):=by rw [TG 4 (0 : UInt8),TG]; rfl
theorem lt4 {i : Nat} (h : i < 4) : decide ((i : Int) < 4) = true:=by simp; omega
theorem lt4' {i : Nat} (h : ¬ i < 4) : decide ((i : Int) < 4) = false:=by simp; omega
theorem wr4 {i : Nat} (h : i < 1000) : wr ((i : Int) + 1) = ((i + 1 : Nat) : Int):=XB (by omega)

def JJ (i j : Nat) : UInt8:=if i = j then 1 else 0
theorem kE (L : Mat × Int → Option (Fl (Mat × Int) Mat))
  (hL : ∀ s8,L s8 = if (decide (s8.2 < 4)) = true then ((ZH s8.1 s8.2).bind fun (x14 : (Vector UInt8 4))=>(ZH x14 s8.2).bind fun (x17 : UInt8)=>some (Fl.nx ((s8.1.setIfInBounds (s8.2).toNat (x14.setIfInBounds (s8.2).toNat 1)),wr (s8.2 + 1)))) else (some (Fl.ex s8.1))) :
  ZB L (Vector.replicate 4 (Vector.replicate 4 (0 : UInt8)),0) = some (mf JJ):=by
 have:=ZY (f:=L) (fun i : Nat=>(mf fun r c=>if r < i then JJ r c else 0,(i : Int))) 0 4 (by omega) (t:=mf JJ) (fun i _ hi=>by
  rw [hL]
  simp only [lt4 hi,if_true,Tc _ hi,ZP _ hi,Option.bind_some,Int.toNat_natCast,TW,Jh,wr4 (show i < 1000 by omega)]
  congr 3
  apply W2
  intro r hr c hc
  by_cases h1 : r = i
  ·subst h1; simp [JJ,eq_comm]
  ·simp only [h1,if_false]
   by_cases h2 : r < i
   ·rw [if_pos h2,if_pos (by omega)]
   ·rw [if_neg h2,if_neg (by omega)]) (by
  rw [hL]
  simp only [lt4' (show ¬ 4 < 4 by omega),Bool.false_eq_true,if_false]
  exact congrArg (fun z=>some (Fl.ex z)) (W2 fun r hr c hc=>by rw [if_pos hr]))
 rw [zI]
 simpa using this
theorem J5 : Vq = some (mf JJ):=by
 unfold Vq
 rw [kE TD fun s=>rfl]; rfl

abbrev MF:=Nat → Nat → UInt8
def KW (f : MF) (k : Nat) : Nat:=((List.range' k (4 - k)).find? fun i=>!(f i k == 0)).getD 4
def qd (f : MF) (i k : Nat) : MF:=fun r c=>if r = k then f i c else if r = i then f k c else f r c
def zL (m : Nat) (f : MF) (k : Nat) (by_ : UInt8) : MF:=fun r c=>if r = k then ZW m (f k c) by_ else f r c
def UD (m : Nat) (f g : MF) (k : Nat) : MF:=fun r c=>if r = k then g r c else g r c ^^^ ZW m (f r k) (g k c)
structure Red where
 a : MF
 b : MF
 det : UInt8
def J7 (m : Nat) (s : Red) (k : Nat) : Option Red :=
 let i:=KW s.a k
 if i = 4 then none else
  let f:=qd s.a i k
  let g:=qd s.b i k
  let q:=Qu m (f k k)
  let f2:=zL m f k q
  let g2:=zL m g k q
  some ⟨UD m f2 f2 k,UD m f2 g2 k,ZW m s.det (f k k)⟩
def Hc (m : Nat) : Nat → Nat → Red → Option Red
 | 0,_,s=>some s
 | n + 1,k,s=>(J7 m s k).bind (Hc m n (k + 1))
def Bu (m : Nat) (a : MF) : UInt8 × Mat:=match Hc m 4 0 ⟨a,JJ,1⟩ with
 | some s=>(s.det,mf s.b)
 | none=>(0,mf fun _ _=>0)
theorem jw (L : Int → Option (Fl Int Int)) (f : MF) (k : Nat) (hk : k < 4)
  (hL : ∀ s,L s = (if (decide (s < 4)) = true then ((ZH (mf f) s).bind fun (x30 : (Vector UInt8 4))=>(ZH x30 (k : Int)).bind fun (x33 : UInt8)=>some (x33 == 0)) else (some false) : Option (Bool)).bind fun (j25 : Bool)=>if j25 = true then (some (Fl.nx (wr (s + 1)))) else (some (Fl.ex s))) :
  ZB L (k : Int) = some ((KW f k : Nat) : Int):=by
 have:=QP (f:=L) (fun i : Nat=>(i : Int)) (fun i=>!(f i k == 0)) (fun i=>(i : Int)) (e:=(4 : Int)) 4 (4 - k) k (by omega) (fun i _ hi=>by
  rw [hL]
  simp only [lt4 hi,if_true,Tc _ hi,ZP _ hk,Option.bind_some]
  cases h : (f i k == 0)
  ·simp
  ·simp [wr4 (show i < 1000 by omega)]) (by rw [hL]; simp)
 rw [this]
 unfold KW
 cases (List.range' k (4 - k)).find? fun i=>!(f i k == 0) <;> rfl
theorem qD {f : MF} {k : Nat} (h : KW f k ≠ 4) : KW f k < 4:=by
 unfold KW at h ⊢
 cases hf : (List.range' k (4 - k)).find? fun i=>!(f i k == 0) with
 | none=>rw [hf] at h; exact absurd rfl h
 | some i =>
  have:=List.mem_range'_1.1 (List.mem_of_find?_eq_some hf)
  simp only [Option.getD_some]
  omega
theorem A7 (L : Mat × Mat × Int → Option (Fl (Mat × Mat × Int) (Mat × Mat))) (f g : MF) (k : Nat) (hk : k < 4) (p q : Nat → UInt8)
  (hL : ∀ c,c < 4 → ∀ a b : MF,(∀ r,r ≠ k → a r = f r) → (∀ r,r ≠ k → b r = g r) → a k c = f k c → b k c = g k c → L (mf a,mf b,(c : Int)) = some (Fl.nx ((mf a).setIfInBounds k ((vf 4 (a k)).setIfInBounds c (p c)),(mf b).setIfInBounds k ((vf 4 (b k)).setIfInBounds c (q c)),wr ((c : Int) + 1))))
  (he : ∀ a b : Mat,L (a,b,4) = some (Fl.ex (a,b))) :
  ZB L (mf f,mf g,0) = some (mf (fun r c=>if r = k then p c else f r c),mf (fun r c=>if r = k then q c else g r c)):=by
 have k1 : (mf fun r c=>if r = k then (if c < 4 then p c else f k c) else f r c) = mf fun r c=>if r = k then p c else f r c:=W2 fun r _ c hc=>by rw [if_pos hc]
 have k2 : (mf fun r c=>if r = k then (if c < 4 then q c else g k c) else g r c) = mf fun r c=>if r = k then q c else g r c:=W2 fun r _ c hc=>by rw [if_pos hc]
 have:=ZY (f:=L) (fun i : Nat=>(mf fun r c=>if r = k then (if c < i then p c else f k c) else f r c,mf fun r c=>if r = k then (if c < i then q c else g k c) else g r c,(i : Int))) 0 4 (by omega)
  (t:=(mf (fun r c=>if r = k then p c else f r c),mf (fun r c=>if r = k then q c else g r c))) (fun i _ hi=>by
  rw [hL i hi _ _ (fun r hr=>by funext c; rw [if_neg hr]) (fun r hr=>by funext c; rw [if_neg hr]) (by simp) (by simp)]
  simp only [TW,Jh,wr4 (show i < 1000 by omega)]
  congr 3
  ·apply W2
   intro r hr c hc
   by_cases h : r = k
   ·simp only [h,if_true]
    by_cases h2 : c = i
    ·subst h2; simp
    ·by_cases h3 : c < i
     ·rw [if_neg h2,if_pos h3,if_pos (by omega)]
     ·rw [if_neg h2,if_neg h3,if_neg (by omega)]
   ·simp only [h,if_false]
  ·congr 1
   apply W2
   intro r hr c hc
   by_cases h : r = k
   ·simp only [h,if_true]
    by_cases h2 : c = i
    ·subst h2; simp
    ·by_cases h3 : c < i
     ·rw [if_neg h2,if_pos h3,if_pos (by omega)]
     ·rw [if_neg h2,if_neg h3,if_neg (by omega)]
   ·simp only [h,if_false]) (by
  simp only [k1,k2]
  exact he _ _)
 have e1 : mf (fun r c=>if r = k then (if c < 0 then p c else f k c) else f r c) = mf f:=W2 fun r hr c hc=>by
  by_cases h : r = k
  ·subst h; simp
  ·simp [h]
 have e2 : mf (fun r c=>if r = k then (if c < 0 then q c else g k c) else g r c) = mf g:=W2 fun r hr c hc=>by
  by_cases h : r = k
  ·subst h; simp
  ·simp [h]
 simp only [e1,e2] at this
 exact this
theorem yZ {S : Type} (m : Nat) (L : S → Option (Fl S (Fl (Mat × UInt8) (UInt8 × Mat)))) (pk : Red → Nat → S)
  (hstep : ∀ k,k < 4 → ∀ s,L (pk s k) = some (match J7 m s k with | none=>.ex (.ex (0,mf fun _ _=>0)) | some s'=>.nx (pk s' (k + 1))))
  (hend : ∀ s,L (pk s 4) = some (.ex (.nx (mf s.b,s.det)))) : ∀ (n k : Nat) (s : Red),k + n = 4 → ZB L (pk s k) = some (match Hc m n k s with | some s'=>.nx (mf s'.b,s'.det) | none=>.ex (0,mf fun _ _=>0))
 | 0,k,s,h=>by
  have : k = 4:=by omega
  subst this
  rw [Wg (hend s)]; rfl
 | n + 1,k,s,h=>by
  have h1:=hstep k (by omega) s
  unfold Hc
  cases hr : J7 m s k with
  | none=>rw [hr] at h1; rw [Wg h1]; rfl
  | some s'=>rw [hr] at h1; rw [Wu h1]; exact yZ m L pk hstep hend n (k + 1) s' (by omega)
theorem Za3 {i k : Nat} : (((i : Int)) != ((k : Nat) : Int)) = decide (i ≠ k):=by
 by_cases h : i = k
 ·subst h; simp
 ·have : (i : Int) ≠ (k : Int):=by omega
  simp [h,this]
theorem kT (m : Nat) (L : Mat × Mat × Int → Option (Fl (Mat × Mat × Int) (Mat × Mat))) (f g : MF) (k : Nat)
  (hL : ∀ i,i < 4 → ∀ a b : MF,(a i = f i) → (b i = g i) → (a k = f k) → (b k = g k) → L (mf a,mf b,(i : Int)) = some (Fl.nx (mf (fun r c=>if r = i then UD m f f k r c else a r c),mf (fun r c=>if r = i then UD m f g k r c else b r c),wr ((i : Int) + 1))))
  (he : ∀ a b : Mat,L (a,b,4) = some (Fl.ex (a,b))) : ZB L (mf f,mf g,0) = some (mf (UD m f f k),mf (UD m f g k)):=by
 have ek : ∀ h : MF,UD m f h k k = h k:=fun h=>by funext c; simp [UD]
 have k1 : (mf fun r c=>if r < 4 then UD m f f k r c else f r c) = mf (UD m f f k):=W2 fun r hr c _=>by rw [if_pos hr]
 have k2 : (mf fun r c=>if r < 4 then UD m f g k r c else g r c) = mf (UD m f g k):=W2 fun r hr c _=>by rw [if_pos hr]
 have:=ZY (f:=L) (fun i : Nat=>(mf fun r c=>if r < i then UD m f f k r c else f r c,mf fun r c=>if r < i then UD m f g k r c else g r c,(i : Int))) 0 4 (by omega)
  (t:=(mf (UD m f f k),mf (UD m f g k))) (fun i _ hi=>by
  rw [hL i hi _ _ (by funext c; simp) (by funext c; simp) (by funext c; by_cases h : k < i <;> simp [h,ek]) (by funext c; by_cases h : k < i <;> simp [h,ek])]
  rw [wr4 (show i < 1000 by omega)]
  have e : ∀ (x y : MF),(mf fun r c=>if r = i then x r c else if r < i then x r c else y r c) = mf fun r c=>if r < i + 1 then x r c else y r c:=fun x y=>W2 fun r _ c _=>by
   by_cases h1 : r = i
   ·subst h1; simp
   ·by_cases h2 : r < i
    ·rw [if_neg h1,if_pos h2,if_pos (by omega)]
    ·rw [if_neg h1,if_neg h2,if_neg (by omega)]
  rw [e,e]) (by
  simp only [k1,k2]
  exact he _ _)
 simpa using this

theorem Zag (f : MF) {i k : Nat} : ((mf f).setIfInBounds i (vf 4 (f k))).setIfInBounds k (vf 4 (f i)) = mf (qd f i k):=by
 rw [Jh,Jh]; rfl
section
variable (m : Nat) (hm : m < 512) (hm2 : 256 ≤ m)
include hm
theorem js (A B : Mat) (det : UInt8) (q : UInt8) (f g : MF) (k : Nat) (hk : k < 4) : ZB (XY (m : Int) (A,B,(k : Int),det) q) (mf f,mf g,0) = some (mf (zL m f k q),mf (zL m g k q)):=by
 refine A7 _ f g k hk (fun c=>ZW m (f k c) q) (fun c=>ZW m (g k c) q) (fun c hc a b _ _ ha hb=>?_) (fun a b=>?_)
 ·unfold XY
  simp only [lt4 hc,if_true,Tc _ hk,ZP _ hc,Option.bind_some,Ts m hm,ha,hb,Int.toNat_natCast]
 ·unfold XY; simp
theorem qA (A B : Mat) (det : UInt8) (s1 : Mat × Mat × Int) (x : UInt8) (f g : MF) (k i : Nat) (hk : k < 4) (hi : i < 4) (hik : i ≠ k) (hs : s1.2.2 = (i : Int)) :
  ZB (XT (m : Int) (A,B,(k : Int),det) s1 x) (mf f,mf g,0) = some (mf (fun r c=>if r = i then f i c ^^^ ZW m x (f k c) else f r c),mf (fun r c=>if r = i then g i c ^^^ ZW m x (g k c) else g r c)):=by
 refine A7 _ f g i hi (fun c=>f i c ^^^ ZW m x (f k c)) (fun c=>g i c ^^^ ZW m x (g k c)) (fun c hc a b ha' hb' ha hb=>?_) (fun a b=>?_)
 ·unfold XT
  have e1:=ha' k (Ne.symm hik)
  have e2:=hb' k (Ne.symm hik)
  simp only [hs,lt4 hc,if_true,Tc _ hk,Tc _ hi,ZP _ hc,Option.bind_some,Ts m hm,ha,hb,e1,e2,Int.toNat_natCast]
 ·unfold XT; simp
include hm2
theorem kN (A B : Mat) (det : UInt8) (f g : MF) (k : Nat) (hk : k < 4) : ZB (X2 (m : Int) (A,B,(k : Int),det)) (mf f,mf g,0) = some (mf (UD m f f k),mf (UD m f g k)):=by
 refine kT m _ f g k (fun i hi a b hai hbi hak hbk=>?_) (fun a b=>by unfold X2; simp)
 unfold X2
 have hfi : a i k = f i k:=by rw [hai]
 simp only [lt4 hi,if_true,Tc _ hi,ZP _ hk,Option.bind_some,Za3,hfi]
 by_cases h : i = k
 ·subst h
  simp only [ne_eq,not_true_eq_false,decide_false,Bool.false_eq_true,if_false,Option.bind_some]
  congr 3
  ·exact W2 fun r _ c _=>by
    by_cases h : r = i
    ·subst h; simp [UD,hai]
    ·simp [h]
  ·congr 1
   exact W2 fun r _ c _=>by
    by_cases h : r = i
    ·subst h; simp [UD,hbi]
    ·simp [h]
 ·have hd : decide (i ≠ k) = true:=by simpa using h
  simp only [hd,if_true,Option.bind_some]
  by_cases h0 : f i k = 0
  ·simp only [h0,bne_self_eq_false,Bool.false_eq_true,if_false,Option.bind_some]
   congr 3
   ·exact W2 fun r _ c _=>by
     by_cases h2 : r = i
     ·subst h2; simp [UD,hai,h,h0,Jb hm2 hm]
     ·simp [h2]
   ·congr 1
    exact W2 fun r _ c _=>by
     by_cases h2 : r = i
     ·subst h2; simp [UD,hbi,h,h0,Jb hm2 hm]
     ·simp [h2]
  ·have hb0 : (f i k != 0) = true:=by simpa using h0
   simp only [hb0,if_true,Option.bind_some]
   rw [qA m hm A B det _ _ a b k i hk hi h rfl]
   simp only [Option.bind_some]
   congr 3
   ·exact W2 fun r _ c _=>by
     by_cases h2 : r = i
     ·subst h2; simp [UD,hai,hak,h]
     ·simp [h2]
   ·congr 1
    exact W2 fun r _ c _=>by
     by_cases h2 : r = i
     ·subst h2; simp [UD,hbi,hbk,h]
     ·simp [h2]
theorem kQ (k : Nat) (hk : k < 4) (s : Red) : YN (m : Int) (mf s.a,mf s.b,(k : Int),s.det) = some (match J7 m s k with | none=>.ex (.ex (0,mf fun _ _=>0)) | some s'=>.nx (mf s'.a,mf s'.b,((k + 1 : Nat) : Int),s'.det)):=by
 unfold YN
 have hp:=jw (UH (mf s.a,mf s.b,(k : Int),s.det)) s.a k hk (fun x=>rfl)
 simp only [lt4 hk,if_true,hp,Option.bind_some]
 unfold J7
 by_cases h4 : KW s.a k = 4
 ·have : ((4 : Nat) : Int) = 4:=rfl
  simp only [h4,this,beq_self_eq_true,if_true,zI]
 ·have hi:=qD h4
  have h5 : (((KW s.a k : Nat) : Int) == 4) = false:=by
   have : ((KW s.a k : Nat) : Int) ≠ 4:=by omega
   simpa using this
  generalize hpi : KW s.a k = i at *
  simp only [h4,h5,Bool.false_eq_true,if_false]
  have x1 : ZH ((mf s.a).setIfInBounds i (vf 4 (s.a k))) (k : Int) = some (vf 4 (fun c=>if k = i then s.a k c else s.a k c)):=by rw [Jh]; exact Tc _ hk
  have x2 : ZH ((mf s.b).setIfInBounds i (vf 4 (s.b k))) (k : Int) = some (vf 4 (fun c=>if k = i then s.b k c else s.b k c)):=by rw [Jh]; exact Tc _ hk
  simp only [Tc _ hk,Tc _ hi,Option.bind_some,Int.toNat_natCast,x1,x2,Zag,ZP _ hk,Ts m hm,Kg m hm,js m hm _ _ _ _ _ _ k hk,kN m hm hm2 _ _ _ _ _ k hk,wr4 (show k < 1000 by omega)]
theorem B5 (f : MF) : Xt (m : Int) (mf f) = some (Bu m f):=by
 unfold Xt
 have h:=yZ m (YN (m : Int)) (fun s k=>(mf s.a,mf s.b,(k : Int),s.det)) (kQ m hm hm2) (fun s=>by unfold YN; simp) 4 0 ⟨f,JJ,1⟩ rfl
 have h2 : ZB (YN (m : Int)) (mf f,mf JJ,0,1) = _:=h
 rw [J5,Option.bind_some,h2]
 unfold Bu
 cases Hc m 4 0 ⟨f,JJ,1⟩ <;> rfl
end
theorem zg {n i : Nat} (v : Vector UInt8 n) (h : i < n) : ZH v (i : Int) = some (v.toList.getD i 0):=by
 rw [Va,Vector.getElem?_eq_getElem h]
 simp [List.getD_eq_getElem?_getD,h]
theorem yG (x : UInt8) : (bI x).toNat = x.toNat:=rfl
def Qi (p : Vector UInt8 16) : Bool:=p.toList.all (fun x=>decide (x < 16)) && qh p.toList
def H7 (a : Mat) : MF:=fun i j=>(a[i]?.getD default)[j]?.getD default
theorem By (a : Mat) : a = mf (H7 a):=calc a = vf 4 (fun i=>a[i]?.getD default):=ki a
  _ = _:=Y8 fun i _=>ki _
def detC (m : Nat) (a : Mat) : UInt8:=(Bu m (H7 a)).1
def invM (m : Nat) (a : Mat) : Mat:=(Bu m (H7 a)).2
def YJ (c : GCipher) : Bool:=Hj c.Field && qh c.Box.toList && Qi c.Places && decide (1 ≤ c.Rounds ∧ c.Rounds ≤ 20) && (detC c.Field.toNat c.Mix != 0)
theorem qG (m : Nat) (hm : m < 512) (hm2 : 256 ≤ m) (a : Mat) : Xt (m : Int) a = some (detC m a,invM m a):=by
 have:=B5 m hm hm2 (H7 a)
 rw [← By] at this
 exact this
theorem JX {c : GCipher} (h : YJ c = true) : ∃ m : Nat,c.Field = m ∧ 256 ≤ m ∧ m < 512:=by
 unfold YJ at h
 simp only [Bool.and_eq_true] at h
 exact yx h.1.1.1.1
theorem WI {n : Nat} (L : Vector UInt8 n × Int → Option (Fl (Vector UInt8 n × Int) (Vector UInt8 n))) (f h : Nat → UInt8) (hn : n < 9223372036854775807) (m : Nat) (hm : m ≤ n) (h0 : ∀ j,j < m → h j = f j)
  (hL : ∀ i,m ≤ i → i < n → ∀ a : Nat → UInt8,(∀ j,j < i → a j = h j) → (∀ j,i ≤ j → a j = f j) → L (vf n a,(i : Int)) = some (.nx ((vf n a).setIfInBounds i (h i),wr ((i : Int) + 1))))
  (he : ∀ v,L (v,(n : Int)) = some (.ex v)) : ZB L (vf n f,(m : Int)) = some (vf n h):=by
 have k1 : (vf n fun j=>if j < n then h j else f j) = vf n h:=Y8 fun j hj=>by rw [if_pos hj]
 have k0 : (vf n fun j=>if j < m then h j else f j) = vf n f:=Y8 fun j hj=>by
  by_cases h1 : j < m
  ·rw [if_pos h1,h0 j h1]
  ·rw [if_neg h1]
 have:=ZY (f:=L) (fun i : Nat=>(vf n fun j=>if j < i then h j else f j,(i : Int))) m n hm (t:=vf n h) (fun i hmi hi=>by
  rw [hL i hmi hi _ (fun j hj=>by rw [if_pos hj]) (fun j hj=>by rw [if_neg (by omega)]),TW,XB (show i < 9223372036854775807 by omega)]
  refine congrArg (fun z=>some (Fl.nx (z,((i + 1 : Nat) : Int)))) (Y8 fun j hj=>?_)
  by_cases h1 : j = i
  ·subst h1; simp
  ·by_cases h2 : j < i
   ·rw [if_neg h1,if_pos h2,if_pos (by omega)]
   ·rw [if_neg h1,if_neg h2,if_neg (by omega)]) (by
  simp only [k1]
  exact he _)
 simp only [k0] at this
 exact this
def A5 (b : Vector UInt8 256) (x : UInt8) : UInt8:=b[x.toNat]'(UInt8.toNat_lt x)
theorem Kc (b : Vector UInt8 256) (x : UInt8) : ZH b (bI x) = some (A5 b x):=by
 have : ZH b ((x.toNat : Nat) : Int) = _:=Va b x.toNat
 rw [Vector.getElem?_eq_getElem (UInt8.toNat_lt x)] at this
 exact this
abbrev Blk:=Vector UInt8 16
def bf (v : Blk) (i : Nat) : UInt8:=v[i]?.getD default
theorem vf_bf (v : Blk) : v = vf 16 (bf v):=ki v
theorem JH {i : Nat} (h : i < 16) : decide ((i : Int) < 16) = true:=by simp; omega
def Hb (f g : Nat → UInt8) : Nat → UInt8:=fun i=>f i ^^^ g i
theorem Hf (f g : Nat → UInt8) : Xi (vf 16 f) (vf 16 g) = some (vf 16 (Hb f g)):=by
 unfold Xi
 have:=WI (VH (vf 16 g)) f (Hb f g) (by omega) 0 (by omega) (fun j hj=>by omega) (fun i _ hi a _ ha=>by
  unfold VH
  simp only [JH hi,if_true,ZP _ hi,Option.bind_some,Int.toNat_natCast,ha i (Nat.le_refl _),Hb]) (fun v=>by unfold VH; simp)
 have h2 : ZB (VH (vf 16 g)) (vf 16 f,0) = _:=this
 rw [h2]; rfl
theorem TH (f g : Nat → UInt8) : Yw (vf 16 f) (vf 16 g) = some (vf 16 (Hb f g)):=by
 unfold Yw
 have:=WI (Wd (vf 16 g)) f (Hb f g) (by omega) 0 (by omega) (fun j hj=>by omega) (fun i _ hi a _ ha=>by
  unfold Wd
  simp only [JH hi,if_true,ZP _ hi,Option.bind_some,Int.toNat_natCast,ha i (Nat.le_refl _),Hb]) (fun v=>by unfold Wd; simp)
 have h2 : ZB (Wd (vf 16 g)) (vf 16 f,0) = _:=this
 rw [h2]; rfl
def BP (b : Vector UInt8 256) (f : Nat → UInt8) : Nat → UInt8:=fun i=>A5 b (f i)
theorem je (b : Vector UInt8 256) (f : Nat → UInt8) : Ul b (vf 16 f) = some (vf 16 (BP b f)):=by
 unfold Ul
 have:=WI (WH b) f (BP b f) (by omega) 0 (by omega) (fun j hj=>by omega) (fun i _ hi a _ ha=>by
  unfold WH
  simp only [JH hi,if_true,ZP _ hi,Option.bind_some,Int.toNat_natCast,ha i (Nat.le_refl _),Kc,BP]) (fun v=>by unfold WH; simp)
 have h2 : ZB (WH b) (vf 16 f,0) = _:=this
 rw [h2]; rfl
def KY (p : Blk) (f : Nat → UInt8) : Nat → UInt8:=fun i=>f (bf p i).toNat
theorem HG {p : Blk} (h : Qi p = true) {i : Nat} (hi : i < 16) : (bf p i).toNat < 16:=by
 unfold Qi at h
 simp only [Bool.and_eq_true,List.all_eq_true,decide_eq_true_eq] at h
 have e : bf p i = p[i]:=by unfold bf; rw [Vector.getElem?_eq_getElem hi]; rfl
 have:=h.1 p[i] (by simp)
 rw [UInt8.lt_iff_toNat_lt] at this
 rw [e]; exact this
theorem JU (p : Blk) {i : Nat} (h : i < 16) : ZH p (i : Int) = some (bf p i):=by
 rw [Va]; unfold bf; rw [Vector.getElem?_eq_getElem h]; rfl
theorem ys (f : Nat → UInt8) {x : UInt8} (h : x.toNat < 16) : ZH (vf 16 f) (bI x) = some (f x.toNat):=ZP f h
theorem kX (p : Blk) (hp : Qi p = true) (f : Nat → UInt8) : UP p (vf 16 f) = some (vf 16 (KY p f)):=by
 unfold UP
 have:=WI (W5 p (vf 16 f)) (fun _=>0) (KY p f) (by omega) 0 (by omega) (fun j hj=>by omega) (fun i _ hi a _ ha=>by
  unfold W5
  simp only [JH hi,if_true,ZP _ hi,JU _ hi,Option.bind_some,Int.toNat_natCast,ys f (HG hp hi),KY]) (fun v=>by unfold W5; simp)
 have h2 : ZB (W5 p (vf 16 f)) (vf 16 (fun _=>0),0) = _:=this
 rw [TG 16 (0 : UInt8),h2]; rfl
theorem v_move (p : Blk) (hp : Qi p = true) (f : Nat → UInt8) : WX p (vf 16 f) = some (vf 16 (KY p f)):=by
 unfold WX
 have:=WI (Xu p (vf 16 f)) (fun _=>0) (KY p f) (by omega) 0 (by omega) (fun j hj=>by omega) (fun i _ hi a _ ha=>by
  unfold Xu
  simp only [JH hi,if_true,ZP _ hi,JU _ hi,Option.bind_some,Int.toNat_natCast,ys f (HG hp hi),KY]) (fun v=>by unfold Xu; simp)
 have h2 : ZB (Xu p (vf 16 f)) (vf 16 (fun _=>0),0) = _:=this
 rw [TG 16 (0 : UInt8),h2]; rfl

def QQ (b : Vector UInt8 256) (f : Nat → UInt8) (r : Int) : Nat → UInt8
 | 0=>f 0 ^^^ A5 b (f 15 ^^^ Zy r)
 | i + 1=>f (i + 1) ^^^ A5 b (QQ b f r i)
theorem kJ (b : Vector UInt8 256) (f : Nat → UInt8) (r : Int) : UK b (vf 16 f) r = some (vf 16 (QQ b f r)) := by
  unfold UK
  have := WI (W8 b r) f (QQ b f r) (by omega) 0 (by omega) (fun j hj => by omega) (fun i _ hi a hb ha => by
    unfold W8
    cases i with
    | zero =>
      have e1 : Int.tmod (wr (((0 : Nat) : Int) + 15)) 16 = ((15 : Nat) : Int) := by decide
      simp only [e1, JH hi, if_true, ZP a (show 15 < 16 by omega), Option.bind_some]
      have e2 : (((0 : Nat) : Int) == 0) = true := rfl
      simp only [e2, if_true, Option.bind_some, Kc, ZP a hi, Int.toNat_natCast, ha 0 (by omega), ha 15 (by omega), QQ]
    | succ i =>
      have e1 : Int.tmod (wr (((i + 1 : Nat) : Int) + 15)) 16 = ((i : Nat) : Int) := by
        rw [YG (by omega)]
        have : (((i + 1 : Nat) : Int) + 15) = ((i + 16 : Nat) : Int) := by omega
        rw [this]
        have : Int.tmod ((i + 16 : Nat) : Int) 16 = (((i + 16) % 16 : Nat) : Int) := rfl
        rw [this]
        omega
      have e2 : (((i + 1 : Nat) : Int) == 0) = false := by have : ((i + 1 : Nat) : Int) ≠ 0 := by omega
                                                           simpa using this
      simp only [e1, e2, JH hi, if_true, ZP a (show i < 16 by omega), Option.bind_some, Bool.false_eq_true, if_false, Kc, ZP a hi, Int.toNat_natCast, ha (i + 1) (Nat.le_refl _), hb i (by omega), QQ]) (fun v => by unfold W8; simp)
  have h2 : ZB (W8 b r) (vf 16 f, 0) = _ := this
  rw [h2]; rfl
theorem kZ (e : Ref Gengine) (f : Nat → UInt8) (r : Int) : XI e (vf 16 f) r = some (vf 16 (QQ e.v.box f r)):=by
 unfold XI
 have x0 : ZH (vf 16 f) (0 : Int) = some (f 0):=ZP f (show 0 < 16 by omega)
 have x15 : ZH (vf 16 f) (15 : Int) = some (f 15):=ZP f (show 15 < 16 by omega)
 have z : (0 : Int).toNat = 0:=rfl
 simp only [x0,x15,Option.bind_some,Kc,z,TW]
 have:=WI (YT e) (fun i=>if i = 0 then f 0 ^^^ A5 e.v.box (f 15 ^^^ Zy r) else f i) (QQ e.v.box f r) (by omega) 1 (by omega) (fun j hj=>by
  have : j = 0:=by omega
  subst this; simp [QQ]) (fun i h1 hi a hb ha=>by
  unfold YT
  obtain ⟨i,rfl⟩ : ∃ k,i = k + 1:=⟨i - 1,by omega⟩
  have e1 : wr (((i + 1 : Nat) : Int) - 1) = ((i : Nat) : Int):=by rw [YG (by omega)]; omega
  simp only [e1,JH hi,if_true,ZP a (show i < 16 by omega),ZP a hi,Option.bind_some,Kc,Int.toNat_natCast,ha (i + 1) (Nat.le_refl _),hb i (by omega),QQ]
  simp) (fun v=>by unfold YT; simp)
 have h2 : ZB (YT e) (vf 16 (fun i=>if i = 0 then f 0 ^^^ A5 e.v.box (f 15 ^^^ Zy r) else f i),1) = _:=this
 rw [h2]; rfl
def zU (b : Vector UInt8 256) (k : Nat → UInt8) : Nat → Nat → UInt8
 | 0=>k
 | r + 1=>QQ b (zU b k r) ((r + 1 : Nat) : Int)
def Uu (b : Vector UInt8 256) (k : Nat → UInt8) (n : Nat) : List Blk:=(List.range (n + 1)).map fun r=>vf 16 (zU b k r)
theorem A6 (b : Vector UInt8 256) (k : Nat → UInt8) (n : Nat) : Uu b k (n + 1) = Uu b k n ++ [vf 16 (QQ b (zU b k n) ((n + 1 : Nat) : Int))]:=by
 unfold Uu
 rw [List.range_succ,List.map_append]; rfl
theorem Ku (b : Vector UInt8 256) (k : Nat → UInt8) (n : Nat) : (Uu b k n).length = n + 1:=by simp [Uu]
theorem He (b : Vector UInt8 256) (k : Nat → UInt8) {n r : Nat} (h : r ≤ n) : idx (Uu b k n) (r : Int) = some (vf 16 (zU b k r)):=by
 rw [YB]; unfold Uu; rw [List.getElem?_map,List.getElem?_range (by omega)]; rfl
theorem kY (c : GCipher) (k : Nat → UInt8) (n : Nat) (hn : n ≤ 1000) : UX c (vf 16 k) (n : Int) = some (Uu c.Box k n):=by
 unfold UX
 have:=ZY (f:=W9 c (n : Int)) (fun i : Nat=>(vf 16 (zU c.Box k (i - 1)),Uu c.Box k (i - 1),(i : Int))) 1 (n + 1) (by omega) (t:=Uu c.Box k n) (fun i h1 hi=>by
  unfold W9
  obtain ⟨i,rfl⟩ : ∃ q,i = q + 1:=⟨i - 1,by omega⟩
  have e1 : decide (((i + 1 : Nat) : Int) ≤ (n : Int)) = true:=by simp; omega
  have e2 : app 16 (Uu c.Box k i) [vf 16 (QQ c.Box (zU c.Box k i) ((i + 1 : Nat) : Int))] = _:=XK (by rw [Ku]; simp; omega)
  simp only [Nat.add_sub_cancel,e1,if_true,kJ,Option.bind_some,e2,XB (show i + 1 < 9223372036854775807 by omega),A6]
  rfl) (by
  unfold W9
  have e1 : decide (((n + 1 : Nat) : Int) ≤ (n : Int)) = false:=by simp; omega
  simp only [e1,Bool.false_eq_true,if_false,Nat.add_sub_cancel])
 have h2 : ZB (W9 c (n : Int)) (vf 16 k,[vf 16 k],1) = _:=this
 rw [h2]; rfl
theorem v_keys (e : Ref Gengine) (k : Nat → UInt8) (n : Nat) (hn : n ≤ 1000) : WV e (vf 16 k) (n : Int) = some (Uu e.v.box k n):=by
 unfold WV
 have:=ZY (f:=Xq e (n : Int)) (fun i : Nat=>(vf 16 (zU e.v.box k (i - 1)),Uu e.v.box k (i - 1),(i : Int))) 1 (n + 1) (by omega) (t:=Uu e.v.box k n) (fun i h1 hi=>by
  unfold Xq
  obtain ⟨i,rfl⟩ : ∃ q,i = q + 1:=⟨i - 1,by omega⟩
  have e1 : decide (((i + 1 : Nat) : Int) ≤ (n : Int)) = true:=by simp; omega
  have e2 : app 16 (Uu e.v.box k i) [vf 16 (QQ e.v.box (zU e.v.box k i) ((i + 1 : Nat) : Int))] = _:=XK (by rw [Ku]; simp; omega)
  simp only [Nat.add_sub_cancel,e1,if_true,kZ,Option.bind_some,e2,XB (show i + 1 < 9223372036854775807 by omega),A6]
  rfl) (by
  unfold Xq
  have e1 : decide (((n + 1 : Nat) : Int) ≤ (n : Int)) = false:=by simp; omega
  simp only [e1,Bool.false_eq_true,if_false,Nat.add_sub_cancel])
 have h2 : ZB (Xq e (n : Int)) (vf 16 k,[vf 16 k],1) = _:=this
 rw [h2]; rfl

def rowF (m : Nat) (a : MF) (f : Nat → UInt8) (c r : Nat) : UInt8:=((ZW m (a r 0) (f c) ^^^ ZW m (a r 1) (f (c + 1))) ^^^ ZW m (a r 2) (f (c + 2))) ^^^ ZW m (a r 3) (f (c + 3))
def UE (m : Nat) (a : MF) (f : Nat → UInt8) : Nat → UInt8:=fun i=>rowF m a f (i / 4 * 4) (i % 4)
theorem set_set (f : Nat → UInt8) (k : Nat) (x y : UInt8) : (fun i=>if i = k then y else if i = k then x else f i) = fun i=>if i = k then y else f i:=by
 funext i; by_cases h : i = k <;> simp [h]
theorem wr_at {c r : Nat} (hc : c < 4) (hr : r < 4) : wr (wr (4 * (c : Int)) + (r : Int)) = ((c * 4 + r : Nat) : Int):=by
 rw [YG (x:=4 * (c : Int)) (by omega),YG (by omega)]; omega
theorem Zas (m : Nat) (hm : m < 512) (hm2 : 256 ≤ m) (a : MF) (f g : Nat → UInt8) (c r : Nat) (hc : c < 4) (hr : r < 4) (s1 s2 : Blk × Int) (h1 : s1.2 = (c : Int)) (h2 : s2.2 = (r : Int)) (hg : g (c * 4 + r) = 0) :
  ZB (XX (m : Int) (mf a) (vf 16 f) s1 s2) (vf 16 g,0) = some (vf 16 fun i=>if i = c * 4 + r then rowF m a f (c * 4) r else g i):=by
 have hcr : c * 4 + r < 16:=by omega
 have step : ∀ (j : Nat) (h : Nat → UInt8),j < 4 → XX (m : Int) (mf a) (vf 16 f) s1 s2 (vf 16 h,(j : Int)) = some (.nx (vf 16 (fun i=>if i = c * 4 + r then h (c * 4 + r) ^^^ ZW m (a r j) (f (c * 4 + j)) else h i),((j + 1 : Nat) : Int))):=fun j h hj=>by
  unfold XX
  simp only [h1,h2,lt4 hj,if_true,wr_at hc hr,wr_at hc hj,ZP _ hcr,Tc _ hr,ZP _ hj,ZP f (show c * 4 + j < 16 by omega),Option.bind_some,Jm m hm hm2,Int.toNat_natCast,TW,wr4 (show j < 1000 by omega)]
 have e0:=step 0 g (by omega)
 have e1:=step 1 (fun i=>if i = c * 4 + r then g (c * 4 + r) ^^^ ZW m (a r 0) (f (c * 4 + 0)) else g i) (by omega)
 have e2:=step 2 (fun i=>if i = c * 4 + r then (g (c * 4 + r) ^^^ ZW m (a r 0) (f (c * 4 + 0))) ^^^ ZW m (a r 1) (f (c * 4 + 1)) else g i) (by omega)
 have e3:=step 3 (fun i=>if i = c * 4 + r then ((g (c * 4 + r) ^^^ ZW m (a r 0) (f (c * 4 + 0))) ^^^ ZW m (a r 1) (f (c * 4 + 1))) ^^^ ZW m (a r 2) (f (c * 4 + 2)) else g i) (by omega)
 have e4 : ∀ v : Blk,XX (m : Int) (mf a) (vf 16 f) s1 s2 (v,((4 : Nat) : Int)) = some (.ex v):=fun v=>by unfold XX; simp
 simp only [if_true,set_set] at e1 e2 e3
 have e0' : XX (m : Int) (mf a) (vf 16 f) s1 s2 (vf 16 g,0) = _:=e0
 rw [Wu e0',Wu e1,Wu e2,Wu e3,Wg (e4 _)]
 refine congrArg some (Y8 fun i _=>?_)
 by_cases h : i = c * 4 + r
 ·simp [h,hg,rowF]
 ·simp [h]
theorem qz (m : Nat) (hm : m < 512) (hm2 : 256 ≤ m) (a : MF) (f : Nat → UInt8) : Tq (m : Int) (mf a) (vf 16 f) = some (vf 16 (UE m a f)):=by
 unfold Tq
 -- after c columns and r rows of the next
 have inner : ∀ c : Nat,c < 4 → ∀ s1 : Blk × Int,s1.2 = (c : Int) → ZB (VN (m : Int) (mf a) (vf 16 f) s1) (vf 16 (fun i=>if i < c * 4 then UE m a f i else 0),0) = some (vf 16 fun i=>if i < (c + 1) * 4 then UE m a f i else 0):=fun c hc s1 h1=>by
  have k1 : (vf 16 fun i=>if i < c * 4 + 4 then UE m a f i else 0) = vf 16 fun i=>if i < (c + 1) * 4 then UE m a f i else 0:=by rw [show c * 4 + 4 = (c + 1) * 4 by omega]
  have:=ZY (f:=VN (m : Int) (mf a) (vf 16 f) s1) (fun r : Nat=>(vf 16 fun i=>if i < c * 4 + r then UE m a f i else 0,(r : Int))) 0 4 (by omega) (t:=vf 16 fun i=>if i < (c + 1) * 4 then UE m a f i else 0) (fun r _ hr=>by
   unfold VN
   have h2:=Zas m hm hm2 a f (fun i=>if i < c * 4 + r then UE m a f i else 0) c r hc hr s1 (vf 16 fun i=>if i < c * 4 + r then UE m a f i else 0,(r : Int)) h1 rfl (by simp)
   simp only [lt4 hr,if_true,h2,Option.bind_some,wr4 (show r < 1000 by omega)]
   refine congrArg (fun z=>some (Fl.nx (z,((r + 1 : Nat) : Int)))) (Y8 fun i _=>?_)
   by_cases h : i = c * 4 + r
   ·subst h
    have q1 : (c * 4 + r) / 4 = c:=by omega
    have q2 : (c * 4 + r) % 4 = r:=by omega
    rw [if_pos rfl,if_pos (by omega)]
    unfold UE; rw [q1,q2]
   ·by_cases h3 : i < c * 4 + r
    ·rw [if_neg h,if_pos h3,if_pos (by omega)]
    ·rw [if_neg h,if_neg h3,if_neg (by omega)]) (by
   unfold VN
   simp only [k1]
   simp)
  exact this
 have:=ZY (f:=VM (m : Int) (mf a) (vf 16 f)) (fun c : Nat=>(vf 16 fun i=>if i < c * 4 then UE m a f i else 0,(c : Int))) 0 4 (by omega) (t:=vf 16 (UE m a f)) (fun c _ hc=>by
  unfold VM
  have h2:=inner c hc (vf 16 fun i=>if i < c * 4 then UE m a f i else 0,(c : Int)) rfl
  simp only [lt4 hc,if_true,h2,Option.bind_some,wr4 (show c < 1000 by omega)]) (by
  unfold VM
  have : (vf 16 fun i=>if i < 4 * 4 then UE m a f i else 0) = vf 16 (UE m a f):=Y8 fun i hi=>by rw [if_pos (by omega)]
  simp only [this]
  simp)
 have e0 : (vf 16 fun i=>if i < 0 * 4 then UE m a f i else 0) = vf 16 fun _=>(0 : UInt8):=Y8 fun i _=>by rw [if_neg (by omega)]
 simp only [e0] at this
 have h2 : ZB (VM (m : Int) (mf a) (vf 16 f)) (vf 16 fun _=>(0 : UInt8),0) = _:=this
 rw [TG 16 (0 : UInt8),h2]; rfl

abbrev Tab:=Vector (Vector (Vector UInt8 256) 4) 4
def Bn (m : Nat) (a : MF) : Tab:=vf 4 fun i=>vf 4 fun j=>vf 256 fun x=>ZW m (a i j) (UInt8.ofNat x)
theorem Zac (m : Nat) (a : MF) (i j : Nat) (x : UInt8) : ZH (vf 256 fun x=>ZW m (a i j) (UInt8.ofNat x)) (bI x) = some (ZW m (a i j) x):=by
 rw [show bI x = ((x.toNat : Nat) : Int) from rfl,ZP _ (UInt8.toNat_lt x)]
 simp
theorem v_mix (m : Nat) (a : MF) (f : Nat → UInt8) : VJ ⟨Bn m a⟩ (vf 16 f) = some (vf 16 (UE m a f)):=by
 unfold VJ
 have i0 : ∀ (v : Vector (Vector UInt8 256) 4),ZH v (0 : Int) = v[0]?:=fun v=>Va v 0
 have i1 : ∀ (v : Vector (Vector UInt8 256) 4),ZH v (1 : Int) = v[1]?:=fun v=>Va v 1
 have i2 : ∀ (v : Vector (Vector UInt8 256) 4),ZH v (2 : Int) = v[2]?:=fun v=>Va v 2
 have i3 : ∀ (v : Vector (Vector UInt8 256) 4),ZH v (3 : Int) = v[3]?:=fun v=>Va v 3
 have inner : ∀ c : Nat,c < 4 → ∀ s1 : Blk × Int,s1.2 = ((c * 4 : Nat) : Int) → ZB (X9 ⟨Bn m a⟩ s1 (f (c * 4),f (c * 4 + 1),f (c * 4 + 2),f (c * 4 + 3))) (vf 16 (fun i=>if i < c * 4 then UE m a f i else f i),0) = some (vf 16 fun i=>if i < (c + 1) * 4 then UE m a f i else f i):=fun c hc s1 h1=>by
  have k1 : (vf 16 fun i=>if i < c * 4 + 4 then UE m a f i else f i) = vf 16 fun i=>if i < (c + 1) * 4 then UE m a f i else f i:=by rw [show c * 4 + 4 = (c + 1) * 4 by omega]
  have:=ZY (f:=X9 ⟨Bn m a⟩ s1 (f (c * 4),f (c * 4 + 1),f (c * 4 + 2),f (c * 4 + 3))) (fun r : Nat=>(vf 16 fun i=>if i < c * 4 + r then UE m a f i else f i,(r : Int))) 0 4 (by omega) (t:=vf 16 fun i=>if i < (c + 1) * 4 then UE m a f i else f i) (fun r _ hr=>by
   unfold X9
   have e1 : wr (s1.2 + (r : Int)) = ((c * 4 + r : Nat) : Int):=by rw [h1,YG (by omega)]; omega
   have et : ZH (Bn m a) (r : Int) = some (vf 4 fun j=>vf 256 fun x=>ZW m (a r j) (UInt8.ofNat x)):=ZP _ hr
   simp only [lt4 hr,if_true,et,i0,i1,i2,i3,Hh _ (show 0 < 4 by omega),Hh _ (show 1 < 4 by omega),Hh _ (show 2 < 4 by omega),Hh _ (show 3 < 4 by omega),Zac,e1,ZP _ (show c * 4 + r < 16 by omega),Option.bind_some,Int.toNat_natCast,TW,wr4 (show r < 1000 by omega)]
   refine congrArg (fun z=>some (Fl.nx (z,((r + 1 : Nat) : Int)))) (Y8 fun i _=>?_)
   by_cases h : i = c * 4 + r
   ·subst h
    have q1 : (c * 4 + r) / 4 = c:=by omega
    have q2 : (c * 4 + r) % 4 = r:=by omega
    rw [if_pos rfl,if_pos (by omega)]
    unfold UE; rw [q1,q2]; rfl
   ·by_cases h3 : i < c * 4 + r
    ·rw [if_neg h,if_pos h3,if_pos (by omega)]
    ·rw [if_neg h,if_neg h3,if_neg (by omega)]) (by
   unfold X9
   simp only [k1]
   simp)
  exact this
 have:=ZY (f:=X7 ⟨Bn m a⟩) (fun c : Nat=>(vf 16 fun i=>if i < c * 4 then UE m a f i else f i,((c * 4 : Nat) : Int))) 0 4 (by omega) (t:=vf 16 (UE m a f)) (fun c _ hc=>by
  unfold X7
  have hd : decide (((c * 4 : Nat) : Int) < ((vf 16 fun i=>if i < c * 4 then UE m a f i else f i).toList.length : Int)) = true:=by rw [Vector.length_toList]; simp; omega
  have x0:=ZP (n:=16) (fun i=>if i < c * 4 then UE m a f i else f i) (show c * 4 < 16 by omega)
  have x1:=ZP (n:=16) (fun i=>if i < c * 4 then UE m a f i else f i) (show c * 4 + 1 < 16 by omega)
  have x2:=ZP (n:=16) (fun i=>if i < c * 4 then UE m a f i else f i) (show c * 4 + 2 < 16 by omega)
  have x3:=ZP (n:=16) (fun i=>if i < c * 4 then UE m a f i else f i) (show c * 4 + 3 < 16 by omega)
  have w1 : wr (((c * 4 : Nat) : Int) + 1) = ((c * 4 + 1 : Nat) : Int):=by rw [YG (by omega)]; omega
  have w2 : wr (((c * 4 : Nat) : Int) + 2) = ((c * 4 + 2 : Nat) : Int):=by rw [YG (by omega)]; omega
  have w3 : wr (((c * 4 : Nat) : Int) + 3) = ((c * 4 + 3 : Nat) : Int):=by rw [YG (by omega)]; omega
  have w4 : wr (((c * 4 : Nat) : Int) + 4) = (((c + 1) * 4 : Nat) : Int):=by rw [YG (by omega)]; omega
  rw [if_neg (by omega)] at x0 x1 x2 x3
  have h2:=inner c hc (vf 16 fun i=>if i < c * 4 then UE m a f i else f i,((c * 4 : Nat) : Int)) rfl
  simp only [hd,if_true,x0,w1,x1,w2,x2,w3,x3,Option.bind_some,h2,w4]) (by
  unfold X7
  have : (vf 16 fun i=>if i < 4 * 4 then UE m a f i else f i) = vf 16 (UE m a f):=Y8 fun i hi=>by rw [if_pos (by omega)]
  simp only [this]
  simp)
 have e0 : (vf 16 fun i=>if i < 0 * 4 then UE m a f i else f i) = vf 16 f:=Y8 fun i _=>by rw [if_neg (by omega)]
 simp only [e0] at this
 have h2 : ZB (X7 ⟨Bn m a⟩) (vf 16 f,0) = _:=this
 rw [h2]; rfl

def tb (g : Nat → Nat → Nat → UInt8) : Tab:=vf 4 fun i=>vf 4 fun j=>vf 256 (g i j)
theorem HA {g h : Nat → Nat → Nat → UInt8} (e : ∀ i,i < 4 → ∀ j,j < 4 → ∀ x,x < 256 → g i j x = h i j x) : tb g = tb h :=
 Y8 fun i hi=>Y8 fun j hj=>Y8 fun x hx=>e i hi j hj x hx
theorem Zau (g : Nat → Nat → Nat → UInt8) {i : Nat} (hi : i < 4) : ZH (tb g) (i : Int) = some (vf 4 fun j=>vf 256 (g i j)):=ZP _ hi
theorem k7 (g : Nat → Nat → Nat → UInt8) (i : Nat) {j : Nat} (hj : j < 4) : ZH (vf 4 fun j=>vf 256 (g i j)) (j : Int) = some (vf 256 (g i j)):=ZP _ hj
theorem tb_set (g : Nat → Nat → Nat → UInt8) (i j : Nat) (h : Nat → UInt8) : (tb g).setIfInBounds i ((vf 4 fun j=>vf 256 (g i j)).setIfInBounds j (vf 256 h)) = tb (fun i' j'=>if i' = i ∧ j' = j then h else g i' j'):=by
 unfold tb
 rw [TW,TW]
 refine Y8 fun i' _=>?_
 by_cases h1 : i' = i
 ·subst h1
  rw [if_pos rfl]
  refine Y8 fun j' _=>?_
  by_cases h2 : j' = j
  ·subst h2; simp
  ·simp [h2]
 ·rw [if_neg h1]
  refine Y8 fun j' _=>?_
  simp [h1]
theorem Zbf (a b : Nat) (ha : a < 9223372036854775808) (hb : b < 9223372036854775808) : orI (a : Int) (b : Int) = ((a ||| b : Nat) : Int):=by
 unfold orI
 rw [BitVec.toNat_or,HQ a ha,HQ b hb]
 have : a ||| b < 2 ^ 63:=Nat.or_lt_two_pow ha hb
 exact YG (by omega)
theorem V1 (n : Nat) : Zy (n : Int) = UInt8.ofNat n:=by
 unfold Zy
 have : ((n : Int) % 256).toNat = n % 256:=by omega
 rw [this]
 apply UInt8.toNat_inj.1
 simp
theorem Zbs (g : Nat → Nat → Nat → UInt8) (i j : Nat) (h : Nat → UInt8) : (tb g).setIfInBounds i (vf 4 fun j'=>if j' = j then vf 256 h else vf 256 (g i j')) = tb (fun i' j'=>if i' = i ∧ j' = j then h else g i' j'):=by
 have:=tb_set g i j h
 rw [TW] at this
 exact this
theorem qW {p low : Nat} (h : low < 2 ^ p) : 2 ^ p ||| low = 2 ^ p + low:=by
 have:=Nat.two_pow_add_eq_or_of_lt h 1
 simpa using this.symm
theorem qC {p low : Nat} (hp : p < 8) (h : low < 2 ^ p) : UInt8.ofNat (2 ^ p + low) = UInt8.ofNat (2 ^ p) ^^^ UInt8.ofNat low:=by
 apply UInt8.toNat_inj.1
 have h7 : 2 ^ p ≤ 2 ^ 7:=Nat.pow_le_pow_right (by omega) (by omega)
 rw [UInt8.toNat_xor]
 simp only [UInt8.toNat_ofNat']
 rw [Nat.mod_eq_of_lt (by omega),Nat.mod_eq_of_lt (by omega),Nat.mod_eq_of_lt (by omega)]
 rw [← qW h]
 apply Nat.eq_of_testBit_eq
 intro i
 rw [Nat.testBit_or,Nat.testBit_xor,Nat.testBit_two_pow]
 by_cases hi : p = i
 ·subst hi
  rw [Nat.testBit_lt_two_pow h]; simp
 ·simp [hi]
section
variable (m : Nat) (hm : m < 512) (hm2 : 256 ≤ m) (a : MF)
include hm hm2
def KF (m : Nat) (a : MF) (i j n : Nat) (g : Nat → Nat → Nat → UInt8) : Nat → Nat → Nat → UInt8:=fun i' j'=>if i' = i ∧ j' = j then (fun x=>if x < n then ZW m (a i j) (UInt8.ofNat x) else 0) else g i' j'
theorem qq (i j p : Nat) (hi : i < 4) (hj : j < 4) (hp : p < 8) (g : Nat → Nat → Nat → UInt8) (s0 s1 s2 : Tab × Int) (h0 : s0.2 = (i : Int)) (h1 : s1.2 = (j : Int)) (h2 : s2.2 = ((2 ^ p : Nat) : Int)) :
  ZB (WG s0 s1 s2 (ZW m (a i j) (UInt8.ofNat (2 ^ p)))) (tb (KF m a i j (2 ^ p) g),0) = some (tb (KF m a i j (2 ^ (p + 1)) g)):=by
 have h7 : 2 ^ p ≤ 2 ^ 7:=Nat.pow_le_pow_right (by omega) (by omega)
 have k1 : 2 ^ p + 2 ^ p = 2 ^ (p + 1):=by rw [Nat.pow_succ]; omega
 have:=ZY (f:=WG s0 s1 s2 (ZW m (a i j) (UInt8.ofNat (2 ^ p)))) (fun low : Nat=>(tb (KF m a i j (2 ^ p + low) g),(low : Int))) 0 (2 ^ p) (Nat.zero_le _) (t:=tb (KF m a i j (2 ^ (p + 1)) g)) (fun low _ hl=>by
  unfold WG
  have hd : decide ((low : Int) < ((2 ^ p : Nat) : Int)) = true:=by simp only [decide_eq_true_eq]; omega
  have ho : orI ((2 ^ p : Nat) : Int) (low : Int) = ((2 ^ p + low : Nat) : Int):=by rw [Zbf _ _ (by omega) (by omega),qW hl]
  have eg : KF m a i j (2 ^ p + low) g i j = fun x=>if x < 2 ^ p + low then ZW m (a i j) (UInt8.ofNat x) else 0:=by simp [KF]
  simp only [h0,h1,h2,hd,if_true,Zau _ hi,k7 _ i hj,eg,ZP _ (show low < 256 by omega),ho,ZP _ (show 2 ^ p + low < 256 by omega),Option.bind_some,Int.toNat_natCast,TW,XB (show low < 9223372036854775807 by omega)]
  rw [if_pos (show low < 2 ^ p + low from Nat.lt_add_of_pos_left (Nat.two_pow_pos p)),← y4 hm2 hm,← qC hp hl]
  have:=Zbs (KF m a i j (2 ^ p + low) g) i j (fun x=>if x = 2 ^ p + low then ZW m (a i j) (UInt8.ofNat (2 ^ p + low)) else if x < 2 ^ p + low then ZW m (a i j) (UInt8.ofNat x) else 0)
  rw [this]
  refine congrArg (fun z=>some (Fl.nx (z,((low + 1 : Nat) : Int)))) (HA fun i' _ j' _ x _=>?_)
  unfold KF
  by_cases h : i' = i ∧ j' = j
  ·simp only [h,and_self,if_true]
   by_cases hx : x = 2 ^ p + low
   ·subst hx; simp
   ·by_cases hx2 : x < 2 ^ p + low
    ·rw [if_neg hx,if_pos hx2,if_pos (by omega)]
    ·rw [if_neg hx,if_neg hx2,if_neg (by omega)]
  ·simp only [h,if_false]) (by
  unfold WG
  simp only [h2,k1]
  simp)
 exact this
theorem Zaa (i j : Nat) (hi : i < 4) (hj : j < 4) (g : Nat → Nat → Nat → UInt8) (s0 s1 : Tab × Int) (h0 : s0.2 = (i : Int)) (h1 : s1.2 = (j : Int)) :
  ZB (WL (m : Int) s0 s1 (a i j)) (tb (KF m a i j 1 g),1) = some (tb (KF m a i j 256 g)):=by
 have:=ZY (f:=WL (m : Int) s0 s1 (a i j)) (fun p : Nat=>(tb (KF m a i j (2 ^ p) g),((2 ^ p : Nat) : Int))) 0 8 (by omega) (t:=tb (KF m a i j 256 g)) (fun p _ hp=>by
  unfold WL
  have h7 : 2 ^ p ≤ 2 ^ 7:=Nat.pow_le_pow_right (by omega) (by omega)
  have hd : decide (((2 ^ p : Nat) : Int) < 256) = true:=by simp only [decide_eq_true_eq]; omega
  have hb : Zy ((2 ^ p : Nat) : Int) = UInt8.ofNat (2 ^ p):=by rw [V1]
  have hw : wr (((2 ^ p : Nat) : Int) * 2) = ((2 ^ (p + 1) : Nat) : Int):=by
   rw [Nat.pow_succ]
   generalize 2 ^ p = q at h7 ⊢
   rw [YG (by omega)]; omega
  have h3:=qq m hm hm2 a i j p hi hj hp g s0 s1 (tb (KF m a i j (2 ^ p) g),((2 ^ p : Nat) : Int)) h0 h1 rfl
  simp only [hd,if_true,hb,Ts m hm,Option.bind_some,h3,hw]) (by unfold WL; simp)
 exact this
theorem BJ (A : Mat) (hA : A = mf a) : Vc (m : Int) A = some ⟨Bn m a⟩:=by
 subst hA
 unfold Vc
 let G : Nat → Nat → Nat → Nat → Nat → UInt8:=fun r c i j x=>if i < r ∨ (i = r ∧ j < c) then ZW m (a i j) (UInt8.ofNat x) else 0
 have hGt : ∀ r c i j x,(i < r ∨ (i = r ∧ j < c)) → G r c i j x = ZW m (a i j) (UInt8.ofNat x):=fun r c i j x h=>if_pos h
 have hGf : ∀ r c i j x,¬ (i < r ∨ (i = r ∧ j < c)) → G r c i j x = 0:=fun r c i j x h=>if_neg h
 have hGe : ∀ r c r' c' i j x,((i < r ∨ (i = r ∧ j < c)) ↔ (i < r' ∨ (i = r' ∧ j < c'))) → G r c i j x = G r' c' i j x:=fun r c r' c' i j x h=>by show (if _ then _ else _) = (if _ then _ else _); simp only [h]
 have z0 : ∀ i j,ZW m (a i j) (UInt8.ofNat 0) = 0:=fun i j=>by rw [Kb hm2 hm]; exact Jb hm2 hm _
 have col : ∀ r : Nat,r < 4 → ∀ s0 : Tab × Int,s0.2 = (r : Int) → ZB (WA (m : Int) s0 (vf 4 (a r))) (tb (G r 0),0) = some (tb (G (r + 1) 0)):=fun r hr s0 h0=>by
  have k1 : tb (G r 4) = tb (G (r + 1) 0):=HA fun i hi j hj x _=>by
   exact hGe _ _ _ _ _ _ _ (by omega)
  have:=ZY (f:=WA (m : Int) s0 (vf 4 (a r))) (fun c : Nat=>(tb (G r c),(c : Int))) 0 4 (by omega) (t:=tb (G (r + 1) 0)) (fun c _ hc=>by
   unfold WA
   have e1 : tb (G r c) = tb (KF m a r c 1 (G r c)):=HA fun i _ j _ x _=>by
    unfold KF
    by_cases h : i = r ∧ j = c
    ·obtain ⟨rfl,rfl⟩:=h
     simp only [and_self,if_true]
     rw [hGf _ _ _ _ _ (by omega)]
     by_cases hx : x < 1
     ·have : x = 0:=by omega
      subst this; rw [if_pos hx,z0]
     ·rw [if_neg hx]
    ·simp only [h,if_false]
   have e2 : tb (KF m a r c 256 (G r c)) = tb (G r (c + 1)):=HA fun i _ j _ x hx=>by
    unfold KF
    by_cases h : i = r ∧ j = c
    ·obtain ⟨rfl,rfl⟩:=h
     simp only [and_self,if_true,hx]
     rw [hGt _ _ _ _ _ (by omega)]
    ·simp only [h,if_false]
     exact hGe _ _ _ _ _ _ _ (by omega)
   have h3:=Zaa m hm hm2 a r c hr hc (G r c) s0 (tb (G r c),(c : Int)) h0 rfl
   rw [← e1,e2] at h3
   simp only [lt4 hc,if_true,ZP _ hc,h3,Option.bind_some,wr4 (show c < 1000 by omega)]) (by
   unfold WA
   simp only [k1]
   simp)
  exact this
 have kz : tb (G 0 0) = Vector.replicate 4 (Vector.replicate 4 (Vector.replicate 256 (0 : UInt8))):=by
  rw [TG 256 (0 : UInt8),TG 4,TG 4]
  exact HA fun i _ j _ x _=>by
   exact hGf _ _ _ _ _ (by omega)
 have k4 : tb (G 4 0) = Bn m a:=HA fun i hi j _ x _=>by
  exact hGt _ _ _ _ _ (by omega)
 have:=ZY (f:=WB (m : Int) (mf a)) (fun r : Nat=>(tb (G r 0),(r : Int))) 0 4 (by omega) (t:=Bn m a) (fun r _ hr=>by
  unfold WB
  have h3:=col r hr (tb (G r 0),(r : Int)) rfl
  simp only [lt4 hr,if_true,Tc _ hr,h3,Option.bind_some,wr4 (show r < 1000 by omega)]) (by
  unfold WB
  simp only [k4]
  simp)
 have h2 : ZB (WB (m : Int) (mf a)) (tb (G 0 0),0) = _:=this
 rw [← kz,h2]; rfl
end

def B2 (n : Nat) (p : Vector UInt8 n) : Nat → Vector UInt8 n
 | 0=>Vector.replicate n 0
 | i + 1=>(B2 n p i).setIfInBounds (p.toList.getD i 0).toNat (Zy (i : Int))
theorem AO (p : Vector UInt8 256) : WW p = some (B2 256 p 256):=by
 unfold WW
 have:=ZY (f:=Xw p) (fun i : Nat=>(B2 256 p i,(i : Int))) 0 256 (by omega) (t:=B2 256 p 256) (fun i _ hi=>by
  unfold Xw
  have hd : decide ((i : Int) < 256) = true:=by simp; omega
  simp only [hd,if_true,zg p hi,Kc,Option.bind_some,yG,XB (show i < 9223372036854775807 by omega)]
  rfl) (by unfold Xw; simp)
 have h2 : ZB (Xw p) (Vector.replicate 256 0,0) = _:=this
 rw [h2]; rfl
theorem Za9 (p : Blk) {i : Nat} (h : i < 16) : p.toList.getD i 0 = bf p i:=by
 have h1:=zg p h
 rw [JU p h] at h1
 exact (Option.some.inj h1).symm
theorem Hq (p : Blk) (hp : Qi p = true) : XF p = some (B2 16 p 16):=by
 unfold XF
 have:=ZY (f:=YU p) (fun i : Nat=>(B2 16 p i,(i : Int))) 0 16 (by omega) (t:=B2 16 p 16) (fun i _ hi=>by
  unfold YU
  have hlt:=HG hp hi
  have hv : ZH (B2 16 p i) (bI (bf p i)) = some (bf (B2 16 p i) (bf p i).toNat):=JU _ hlt
  simp only [JH hi,if_true,JU p hi,hv,Option.bind_some,yG,XB (show i < 9223372036854775807 by omega)]
  rw [← Za9 p hi]
  rfl) (by unfold YU; simp)
 have h2 : ZB (YU p) (Vector.replicate 16 0,0) = _:=this
 rw [h2]; rfl

def Y4 (c : GCipher) : Gengine:=⟨c.Box,B2 256 c.Box 256,c.Places,B2 16 c.Places 16,⟨Bn c.Field.toNat (H7 c.Mix)⟩,⟨Bn c.Field.toNat (H7 (invM c.Field.toNat c.Mix))⟩,c.Rounds⟩
theorem QL {c : GCipher} (h : YJ c = true) : Qi c.Places = true:=by
 unfold YJ at h
 simp only [Bool.and_eq_true] at h
 exact h.1.1.2
theorem KZ {c : GCipher} (h : YJ c = true) : 1 ≤ c.Rounds ∧ c.Rounds ≤ 20:=by
 unfold YJ at h
 simp only [Bool.and_eq_true,decide_eq_true_eq] at h
 exact h.1.2
theorem yH (c : GCipher) (h : YJ c = true) : VX c = some ⟨Y4 c⟩:=by
 obtain ⟨m,hm,h1,h2⟩:=JX h
 have e : c.Field.toNat = m:=by omega
 unfold VX Y4
 rw [e]
 simp only [hm,qG m h2 h1,Option.bind_some,AO,Hq _ (QL h),BJ m h2 h1 (H7 c.Mix) c.Mix (By _),BJ m h2 h1 (H7 (invM m c.Mix)) (invM m c.Mix) (By _)]

def B9 (c : GCipher) (n r : Nat) (k f : Nat → UInt8) : Nat → UInt8 :=
 Hb (if r < n then UE c.Field.toNat (H7 c.Mix) (KY c.Places (BP c.Box f)) else KY c.Places (BP c.Box f)) k
def Ht (c : GCipher) (k f : Nat → UInt8) (n : Nat) : Nat → Nat → UInt8
 | 0=>Hb f k
 | r + 1=>B9 c n (r + 1) (zU c.Box k (r + 1)) (Ht c k f n r)
def zW (c : GCipher) (k f : Nat → UInt8) (n : Nat) : Nat → UInt8:=Ht c k f n n
theorem Az (c : GCipher) (h : YJ c = true) (k f : Nat → UInt8) (n : Nat) (hn : n ≤ 1000) : Y9 c (vf 16 k) (vf 16 f) (n : Int) = some (vf 16 (zW c k f n)):=by
 obtain ⟨m,hm,h1,h2⟩:=JX h
 have e : c.Field.toNat = m:=by omega
 have hp:=QL h
 unfold Y9
 have i0 : idx (Uu c.Box k n) (0 : Int) = some (vf 16 k):=He c.Box k (Nat.zero_le n)
 simp only [kY c k n hn,Option.bind_some,i0,Hf]
 have:=ZY (f:=Xr c (n : Int) (Uu c.Box k n)) (fun i : Nat=>(vf 16 (Ht c k f n (i - 1)),(i : Int))) 1 (n + 1) (by omega) (t:=vf 16 (zW c k f n)) (fun i hi1 hi=>by
  unfold Xr
  obtain ⟨r,rfl⟩ : ∃ q,i = q + 1:=⟨i - 1,by omega⟩
  have e1 : decide (((r + 1 : Nat) : Int) ≤ (n : Int)) = true:=by simp only [decide_eq_true_eq]; omega
  have Y5:=qz m h2 h1 (H7 c.Mix) (KY c.Places (BP c.Box (Ht c k f n r)))
  rw [← By] at Y5
  simp only [Nat.add_sub_cancel,e1,if_true,je,Option.bind_some,kX c.Places hp,hm,Y5,He c.Box k (show r + 1 ≤ n by omega),XB (show r + 1 < 9223372036854775807 by omega)]
  by_cases hr : r + 1 < n
  ·have e2 : decide (((r + 1 : Nat) : Int) < (n : Int)) = true:=by simp only [decide_eq_true_eq]; omega
   simp only [e2,if_true,Option.bind_some,Hf,Ht,B9,hr,e]
  ·have e2 : decide (((r + 1 : Nat) : Int) < (n : Int)) = false:=by simp only [decide_eq_false_iff_not]; omega
   simp only [e2,Bool.false_eq_true,if_false,Option.bind_some,Hf,Ht,B9,hr]) (by
  unfold Xr
  have e1 : decide (((n + 1 : Nat) : Int) ≤ (n : Int)) = false:=by simp only [decide_eq_false_iff_not]; omega
  simp only [e1,Bool.false_eq_true,if_false,Nat.add_sub_cancel,zW])
 have h3 : ZB (Xr c (n : Int) (Uu c.Box k n)) (vf 16 (Hb f k),1) = _:=this
 rw [h3]; rfl
theorem jB (e : Ref Gengine) (s : Blk × Int) (f : Nat → UInt8) (hs : s.1 = vf 16 f) : ZB (Yn e s) (vf 16 f,0) = some (vf 16 (BP e.v.box f)):=by
 have:=WI (Yn e s) f (BP e.v.box f) (by omega) 0 (by omega) (fun j hj=>by omega) (fun i _ hi a _ ha=>by
  unfold Yn
  simp only [hs,JH hi,if_true,ZP _ hi,Option.bind_some,Int.toNat_natCast,Kc,BP]) (fun v=>by unfold Yn; simp)
 exact this
theorem BR (c : GCipher) (h : YJ c = true) (k f : Nat → UInt8) (n : Nat) (hn : n ≤ 1000) : YP ⟨Y4 c⟩ (Uu c.Box k n) (vf 16 f) = some (vf 16 (zW c k f n)):=by
 have hp:=QL h
 unfold YP
 have i0 : idx (Uu c.Box k n) (0 : Int) = some (vf 16 k):=He c.Box k (Nat.zero_le n)
 simp only [Option.bind_some,i0,TH]
 have:=ZY (f:=Yp ⟨Y4 c⟩ (Uu c.Box k n)) (fun i : Nat=>(vf 16 (Ht c k f n (i - 1)),(i : Int))) 1 (n + 1) (by omega) (t:=vf 16 (zW c k f n)) (fun i hi1 hi=>by
  unfold Yp
  obtain ⟨r,rfl⟩ : ∃ q,i = q + 1:=⟨i - 1,by omega⟩
  have e1 : decide (((r + 1 : Nat) : Int) < ((Uu c.Box k n).length : Int)) = true:=by rw [Ku]; simp only [decide_eq_true_eq]; omega
  have e3 : wr (((Uu c.Box k n).length : Int) - 1) = (n : Int):=by rw [Ku,YG (by omega)]; omega
  have hb:=jB ⟨Y4 c⟩ (vf 16 (Ht c k f n r),((r + 1 : Nat) : Int)) (Ht c k f n r) rfl
  have hmv:=v_move c.Places hp (BP c.Box (Ht c k f n r))
  have Y5:=v_mix c.Field.toNat (H7 c.Mix) (KY c.Places (BP c.Box (Ht c k f n r)))
  have hsl : ∀ g : Nat → UInt8,slc (vf 16 g).toList (0 : Int) (16 : Int) = some (vf 16 g).toList:=fun g=>by
   have:=zO (l:=(vf 16 g).toList) (i:=0) (j:=16) (by omega) (by simp)
   simp only [List.drop_zero] at this
   rw [List.take_of_length_le (by simp)] at this
   exact this
  have q1 : (Y4 c).box = c.Box:=rfl
  have q2 : (Y4 c).places = c.Places:=rfl
  have q3 : (Y4 c).mixer = ⟨Bn c.Field.toNat (H7 c.Mix)⟩:=rfl
  simp only [q1] at hb
  simp only [Nat.add_sub_cancel,e1,if_true,hb,Option.bind_some,q2,q3,hmv,e3,hsl,Y5,He c.Box k (show r + 1 ≤ n by omega),XB (show r + 1 < 9223372036854775807 by omega)]
  by_cases hr : r + 1 < n
  ·have e2 : decide (((r + 1 : Nat) : Int) < (n : Int)) = true:=by simp only [decide_eq_true_eq]; omega
   simp only [e2,if_true,Option.bind_some,TH,Ht,B9,hr]
  ·have e2 : decide (((r + 1 : Nat) : Int) < (n : Int)) = false:=by simp only [decide_eq_false_iff_not]; omega
   simp only [e2,Bool.false_eq_true,if_false,Option.bind_some,TH,Ht,B9,hr]) (by
  unfold Yp
  have e1 : decide (((n + 1 : Nat) : Int) < ((Uu c.Box k n).length : Int)) = false:=by rw [Ku]; simp only [decide_eq_false_iff_not]; omega
  simp only [e1,Bool.false_eq_true,if_false,Nat.add_sub_cancel,zW])
 have h3 : ZB (Yp ⟨Y4 c⟩ (Uu c.Box k n)) (vf 16 (Hb f k),1) = _:=this
 rw [h3]; rfl
theorem JS (c : GCipher) (h : YJ c = true) (k f : Nat → UInt8) : YA ⟨Y4 c⟩ (vf 16 k) (vf 16 f) = some (vf 16 (zW c k f c.Rounds.toNat)):=by
 have hr:=KZ h
 obtain ⟨n,hn⟩ : ∃ n : Nat,c.Rounds = n:=⟨c.Rounds.toNat,by omega⟩
 have e1 : (Y4 c).rounds = (n : Int):=hn
 have e2 : (Y4 c).box = c.Box:=rfl
 have hk:=v_keys ⟨Y4 c⟩ k n (by omega)
 rw [e2] at hk
 unfold YA
 simp only [e1,hk,Option.bind_some,BR c h k f n (by omega),hn,Int.toNat_natCast]
theorem Hl (c : GCipher) (h : YJ c = true) (k f : Nat → UInt8) : Y9 c (vf 16 k) (vf 16 f) c.Rounds = some (vf 16 (zW c k f c.Rounds.toNat)):=by
 have hr:=KZ h
 obtain ⟨n,hn⟩ : ∃ n : Nat,c.Rounds = n:=⟨c.Rounds.toNat,by omega⟩
 rw [hn]
 exact Az c h k f n (by omega)
theorem kS (x : Nat) : UInt8.ofNat (x % 256) = UInt8.ofNat x:=by
 apply UInt8.toNat_inj.1; simp
def tab (n : Nat) (f : Nat → UInt8) : List UInt8:=(List.range n).map f
@[simp] theorem tab_len (n : Nat) (f : Nat → UInt8) : (tab n f).length = n:=by simp [tab]
theorem qv {α : Type} (by_ : Nat) (z : α) (n : Nat) (h : n * by_ ≤ 140737488355328) (hby : 0 < by_) :
  ((if (decide ((n : Int) < 0)) = true then (none) else (some ()) : Option (Unit)).bind fun (_ : Unit)=>(if (decide ((wr ((n : Int) - (wr (0 - 0)))) > 0)) = true then ((mkS by_ z (wr ((n : Int) - (wr (0 - 0))))).bind fun (l14 : List α)=>(slc l14 (0 : Int) (0 : Int)).bind fun (l16 : List α)=>some l16) else (some ([])) : Option (List α)).bind fun (j6 : List α)=>some j6) = some []:=by
 have hn : n ≤ 140737488355328:=Nat.le_trans (Nat.le_mul_of_pos_right _ hby) h
 have e0 : wr (0 - 0) = 0:=by decide
 have e1 : wr ((n : Int) - (wr (0 - 0))) = (n : Int):=by rw [e0,YG (by omega)]; omega
 have e2 : ¬ ((n : Int) < 0):=by omega
 rw [e1]
 simp only [e2,decide_false,Bool.false_eq_true,if_false,Option.bind_some]
 by_cases h3 : (n : Int) > 0
 ·have hm : mkS by_ z (n : Int) = some (List.replicate n z):=by
   have h4 : ((n * by_ : Nat) : Int) ≤ 140737488355328:=by omega
   rw [Int.natCast_mul] at h4
   unfold mkS
   rw [if_pos ⟨by omega,h4⟩,Int.toNat_natCast]
  have hs : slc (List.replicate n z) (0 : Int) (0 : Int) = some []:=by
   have:=zO (l:=List.replicate n z) (i:=0) (j:=0) (Nat.le_refl _) (Nat.zero_le _)
   simpa using this
  simp [h3,hm,hs]
 ·have h4 : decide ((n : Int) > 0) = false:=by simp only [decide_eq_false_iff_not]; exact h3
  simp only [h4,Bool.false_eq_true,if_false,Option.bind_some]
theorem z5 {α : Type} (by_ : Nat) (p0 : List (List α)) (L0 : Int × Int → Option (Fl (Int × Int) Int)) (L1 : Int × List α → Option (Fl (Int × List α) (List α)))
  (h0 : ∀ s,L0 s = if (decide (s.1 < (p0.length : Int))) = true then (((idx p0 s.1).bind fun (x : List α)=>(if (decide ((wr (s.2 + (x.length : Int))) < 0)) = true then (none) else (some ()) : Option (Unit)).bind fun (_ : Unit)=>some (wr (s.2 + (x.length : Int))) : Option (Int)).bind fun (j : Int)=>some (Fl.nx (wr (s.1 + 1),j))) else (some (Fl.ex s.2)))
  (h1 : ∀ s,L1 s = if (decide (s.1 < (p0.length : Int))) = true then ((idx p0 s.1).bind fun (x : List α)=>(app by_ s.2 x).bind fun (_ : List α)=>some (Fl.nx (wr (s.1 + 1),(s.2 ++ x)))) else (some (Fl.ex s.2)))
  (hl : p0.flatten.length * by_ ≤ 140737488355328) (hby : 0 < by_) (hn : p0.length < 9223372036854775807) :
  ZB L0 (0,0) = some (p0.flatten.length : Int) ∧ ZB L1 (0,[]) = some p0.flatten:=by
 have hlen : p0.flatten.length ≤ 140737488355328:=Nat.le_trans (Nat.le_mul_of_pos_right _ hby) hl
 have hstep : ∀ i (hi : i < p0.length),(p0.take (i + 1)).flatten = (p0.take i).flatten ++ p0[i]:=fun i hi=>by
  rw [List.take_succ_eq_append_getElem hi,List.flatten_append]; simp
 have hle : ∀ i,(p0.take i).flatten.length ≤ p0.flatten.length:=fun i=>by
  have : p0.flatten = (p0.take i).flatten ++ (p0.drop i).flatten:=by rw [← List.flatten_append,List.take_append_drop]
  rw [this,List.length_append]; omega
 constructor
 ·have:=ZY (f:=L0) (fun i : Nat=>((i : Int),((p0.take i).flatten.length : Int))) 0 p0.length (Nat.zero_le _) (t:=(p0.flatten.length : Int)) (fun i _ hi=>by
   have hs:=congrArg List.length (hstep i hi)
   rw [List.length_append] at hs
   have h3:=hle (i + 1)
   have e1 : wr (((p0.take i).flatten.length : Int) + (p0[i].length : Int)) = ((p0.take (i + 1)).flatten.length : Int):=by rw [YG (by omega)]; omega
   have e2 : ¬ (((p0.take (i + 1)).flatten.length : Int) < 0):=by omega
   rw [h0]
   simp only [Int.ofNat_lt,hi,decide_true,if_true,YB,List.getElem?_eq_getElem hi,Option.bind_some,e1,e2,decide_false,Bool.false_eq_true,if_false,XB (show i < 9223372036854775807 by omega)]) (by
   rw [h0]; simp)
  exact this
 ·have:=ZY (f:=L1) (fun i : Nat=>((i : Int),(p0.take i).flatten)) 0 p0.length (Nat.zero_le _) (t:=p0.flatten) (fun i _ hi=>by
   have hs:=congrArg List.length (hstep i hi)
   rw [List.length_append] at hs
   have h3:=hle (i + 1)
   have hap : app by_ (p0.take i).flatten p0[i] = some ((p0.take i).flatten ++ p0[i]):=XK (by
    have : ((p0.take i).flatten.length + p0[i].length) * by_ ≤ p0.flatten.length * by_:=Nat.mul_le_mul_right _ (by omega)
    omega)
   rw [h1]
   simp only [Int.ofNat_lt,hi,decide_true,if_true,YB,List.getElem?_eq_getElem hi,Option.bind_some,hap,XB (show i < 9223372036854775807 by omega),hstep i hi]) (by
   rw [h1]; simp)
  exact this
def K6 (k : Nat) (b : UInt8) : UInt8:=shlB b (k : Int) ||| Ao b ((8 - k : Nat) : Int)
theorem v_rot1 (b : UInt8) : Yf b 1 = some (K6 1 b):=by
 have e1 : wru (BitVec.ofInt 64 (IntKind.u64.wrap 1) &&& BitVec.ofInt 64 7).toNat = 1:=by decide +kernel
 have e2 : IntKind.u64.wrap (8 - 1) = 7:=by decide +kernel
 have e3 : Xm 1 = some ():=rfl
 have e4 : Xm 7 = some ():=rfl
 unfold Yf
 simp only [e1,e2,e3,e4,Option.bind_some]
 rfl
theorem v_rot4 (b : UInt8) : Yf b 4 = some (K6 4 b):=by
 have e1 : wru (BitVec.ofInt 64 (IntKind.u64.wrap 4) &&& BitVec.ofInt 64 7).toNat = 4:=by decide +kernel
 have e2 : IntKind.u64.wrap (8 - 4) = 4:=by decide +kernel
 have e3 : Xm 4 = some ():=rfl
 unfold Yf
 simp only [e1,e2,e3,Option.bind_some]
 rfl
def BQ (k : Nat) (b : UInt8) : UInt8:=Zy (Qn (orI (AN (bI b) (k : Int)) (Tk (AN (bI b) (k : Int)) 8)) 255)
theorem B8 {p : UInt8 → Bool} (h : ((List.range 256).all fun n=>p (UInt8.ofNat n)) = true) (b : UInt8) : p b = true:=by
 have:=List.all_eq_true.1 h b.toNat (by simpa using UInt8.toNat_lt b)
 simpa using this
theorem turn0 (b : UInt8) : BQ 0 b = b:=by
 have:=B8 (p:=fun b=>BQ 0 b == b) (by decide +kernel) b
 simpa using this
theorem turn1 (b : UInt8) : BQ 1 b = K6 1 b:=by
 have:=B8 (p:=fun b=>BQ 1 b == K6 1 b) (by decide +kernel) b
 simpa using this
theorem turn4 (b : UInt8) : BQ 4 b = K6 4 b:=by
 have:=B8 (p:=fun b=>BQ 4 b == K6 4 b) (by decide +kernel) b
 simpa using this
theorem jf (b : UInt8) (k : Nat) (h : k < 64) : X3 b (k : Int) = some (BQ k b):=by
 have e1 : IntKind.u64.wrap (k : Int) = (k : Int):=qa k (by omega)
 unfold X3
 rw [e1]
 have e2 : Xm (k : Int) = some ():=by unfold Xm; rw [if_pos (by omega)]
 rw [e2]; rfl
def Aa (x : UInt8) : UInt8:=((Qu 285 x ^^^ K6 1 (Qu 285 x)) ^^^ K6 4 (Qu 285 x)) ^^^ 90
def Vv (n : Int) : GCipher:=⟨285,vf 256 fun x=>Aa (UInt8.ofNat x),mf fun i j=>Qu 285 (UInt8.ofNat (i ^^^ (4 + j))),vf 16 fun i=>UInt8.ofNat ((13 * i + 4) % 16),n⟩
theorem z2 {i : Nat} (h : i < 256) : decide ((i : Int) < 256) = true:=by simp; omega
theorem Bx (L : Vector UInt8 256 × Int → Option (Fl (Vector UInt8 256 × Int) (Vector UInt8 256))) (h : Nat → UInt8) (hL : ∀ i : Nat,i < 256 → ∀ a : Nat → UInt8,L (vf 256 a,(i : Int)) = some (.nx ((vf 256 a).setIfInBounds i (h i),wr ((i : Int) + 1))))
  (he : ∀ v,L (v,256) = some (.ex v)) : ZB L (Vector.replicate 256 0,0) = some (vf 256 h):=by
 rw [TG]
 exact WI L (fun _=>0) h (by omega) 0 (by omega) (fun j hj=>by omega) (fun i _ hi a _ _=>hL i hi a) he
theorem yf (E : UInt8 → Option UInt8) (hE : ∀ a,E a = some (Qu 285 a)) (L1 : Mat × Int → Mat × Int → Option (Fl (Mat × Int) Mat)) (L0 : Mat × Int → Option (Fl (Mat × Int) Mat))
  (h1 : ∀ s t,L1 s t = if (decide (t.2 < 4)) = true then ((E (Zy (Hw s.2 (wr (4 + t.2))))).bind fun r=>(ZH t.1 s.2).bind fun x=>(ZH x t.2).bind fun _=>some (Fl.nx ((t.1.setIfInBounds (s.2).toNat (x.setIfInBounds (t.2).toNat r)),wr (t.2 + 1)))) else (some (Fl.ex t.1)))
  (h0 : ∀ s,L0 s = if (decide (s.2 < 4)) = true then ((ZB (L1 s) (s.1,0) : Option Mat).bind fun j=>some (Fl.nx (j,wr (s.2 + 1)))) else (some (Fl.ex s.1))) :
  ZB L0 (Vector.replicate 4 (Vector.replicate 4 (0 : UInt8)),0) = some (mf fun i j=>Qu 285 (UInt8.ofNat (i ^^^ (4 + j)))):=by
 have inner : ∀ (i : Nat) (hi : i < 4) (g : MF),ZB (L1 (mf g,(i : Int))) (mf g,0) = some (mf fun r c=>if r = i then Qu 285 (UInt8.ofNat (i ^^^ (4 + c))) else g r c):=by
  intro i hi g
  have:=ZY (f:=L1 (mf g,(i : Int))) (fun j : Nat=>(mf fun r c=>if r = i ∧ c < j then Qu 285 (UInt8.ofNat (i ^^^ (4 + c))) else g r c,(j : Int))) 0 4 (by omega) (t:=mf fun r c=>if r = i then Qu 285 (UInt8.ofNat (i ^^^ (4 + c))) else g r c) (fun j _ hj=>by
   have e1 : wr (4 + (j : Int)) = ((4 + j : Nat) : Int):=by rw [YG (by omega)]; omega
   rw [h1]
   simp only [lt4 hj,if_true,e1,Kx i (4 + j) (by omega) (by omega),V1,hE,Option.bind_some,Tc _ hi,ZP _ hj,Int.toNat_natCast,TW,Jh,wr4 (show j < 1000 by omega)]
   refine congrArg (fun z=>some (Fl.nx (z,((j + 1 : Nat) : Int)))) (W2 fun r _ c _=>?_)
   by_cases hr : r = i
   ·subst hr
    by_cases hc : c = j
    ·subst hc; simp
    ·by_cases hc2 : c < j
     ·simp [hc,hc2,show c < j + 1 by omega]
     ·simp [hc,hc2,show ¬ c < j + 1 by omega]
   ·simp [hr]) (by
   rw [h1]
   simp only [show decide (((4 : Nat) : Int) < 4) = false from rfl,Bool.false_eq_true,if_false]
   refine congrArg (fun z=>some (Fl.ex z)) (W2 fun r _ c hc=>?_)
   by_cases hr : r = i <;> simp [hr,hc])
  have e0 : (mf fun r c=>if r = i ∧ c < 0 then Qu 285 (UInt8.ofNat (i ^^^ (4 + c))) else g r c) = mf g:=W2 fun r _ c _=>by simp
  simp only [e0] at this
  exact this
 have:=ZY (f:=L0) (fun i : Nat=>(mf fun r c=>if r < i then Qu 285 (UInt8.ofNat (r ^^^ (4 + c))) else 0,(i : Int))) 0 4 (by omega) (t:=mf fun i j=>Qu 285 (UInt8.ofNat (i ^^^ (4 + j)))) (fun i _ hi=>by
  rw [h0]
  simp only [lt4 hi,if_true,inner i hi,Option.bind_some,wr4 (show i < 1000 by omega)]
  refine congrArg (fun z=>some (Fl.nx (z,((i + 1 : Nat) : Int)))) (W2 fun r _ c _=>?_)
  by_cases hr : r = i
  ·subst hr; simp
  ·by_cases hc2 : r < i
   ·simp [hr,hc2,show r < i + 1 by omega]
   ·simp [hr,hc2,show ¬ r < i + 1 by omega]) (by
  rw [h0]
  simp only [show decide (((4 : Nat) : Int) < 4) = false from rfl,Bool.false_eq_true,if_false]
  exact congrArg (fun z=>some (Fl.ex z)) (W2 fun r hr c hc=>by simp [hr]))
 have e0 : (mf fun r c=>if r < 0 then Qu 285 (UInt8.ofNat (r ^^^ (4 + c))) else 0) = mf fun _ _=>0:=W2 fun r _ c _=>by simp
 simp only [e0] at this
 rw [zI]
 exact this
theorem Ai (L : Blk × Int → Option (Fl (Blk × Int) Blk))
  (hL : ∀ s,L s = if (decide (s.2 < 16)) = true then ((ZH s.1 s.2).bind fun _=>some (Fl.nx ((s.1.setIfInBounds (s.2).toNat (Zy (Int.tmod (wr ((wr (13 * s.2)) + 4)) 16))),wr (s.2 + 1)))) else (some (Fl.ex s.1))) :
  ZB L (Vector.replicate 16 0,0) = some (vf 16 fun i=>UInt8.ofNat ((13 * i + 4) % 16)):=by
 rw [TG]
 exact WI L (fun _=>0) (fun i=>UInt8.ofNat ((13 * i + 4) % 16)) (by omega) 0 (by omega) (fun j hj=>by omega) (fun i _ hi a _ _=>by
  have e1 : wr (13 * (i : Int)) = 13 * (i : Int):=YG (by omega)
  have e2 : wr (13 * (i : Int) + 4) = ((13 * i + 4 : Nat) : Int):=by rw [YG (by omega)]; omega
  have e3 : Int.tmod ((13 * i + 4 : Nat) : Int) 16 = (((13 * i + 4) % 16 : Nat) : Int):=by rw [Int.tmod_eq_emod_of_nonneg (by omega)]; omega
  rw [hL]
  simp only [JH hi,if_true,ZP _ hi,Option.bind_some,e1,e2,e3,V1,Int.toNat_natCast]) (fun v=>by rw [hL]; simp)
theorem AB (n : Int) : WQ n = some (Vv n):=by
 have hinv : ∀ a,Yj 285 a = some (Qu 285 a):=fun a=>Kg 285 (by omega) a
 have h1:=Bx Wn (fun x=>Aa (UInt8.ofNat x)) (fun i hi a=>by
  unfold Wn
  simp only [z2 hi,if_true,V1,hinv,v_rot1,v_rot4,Option.bind_some,ZP _ hi,Int.toNat_natCast]
  rfl) (fun v=>by unfold Wn; simp)
 have h2:=yf (Yj 285) hinv Vy VC (fun s t=>by unfold Vy; rfl) (fun s=>by unfold VC; rfl)
 have h3:=Ai VA (fun s=>by unfold VA; rfl)
 unfold WQ Vv
 simp only [h1,h2,h3,Option.bind_some]
theorem qs (L : UInt8 × UInt8 × Int → Option (Fl (UInt8 × UInt8 × Int) UInt8)) (T : UInt8 → UInt8 → Option UInt8) (hT : ∀ a b,T a b = some (ZW 285 a b))
  (hL : ∀ s,L s = if (decide (s.2.2 > 0)) = true then (((if ((Int.tmod s.2.2 2) == 1) = true then ((T s.1 s.2.1).bind fun r=>some r) else (some s.1) : Option UInt8).bind fun j24=>(T s.2.1 s.2.1).bind fun r32=>some (j24,r32) : Option (UInt8 × UInt8)).bind fun j21=>some (Fl.nx (j21.1,j21.2,wr (Int.tdiv s.2.2 2)))) else (some (Fl.ex s.1))) :
  ∀ (f k : Nat) (a o : UInt8),k < 2 ^ f → f ≤ 62 → ZB L (o,a,(k : Int)) = some (Bh 285 f a k o):=by
 intro f
 induction f with
 | zero =>
  intro k a o hk _
  have : k = 0:=by simpa using hk
  subst this
  exact Wg (by rw [hL]; simp [Bh])
 | succ f ih =>
  intro k a o hk hf
  by_cases h0 : k = 0
  ·subst h0
   exact Wg (by rw [hL]; simp [Bh])
  ·have hlt : k < 9223372036854775808:=Nat.lt_of_lt_of_le hk (Nat.pow_le_pow_right (by omega : 0 < 2) (by omega : f + 1 ≤ 63))
   have hst : L (o,a,(k : Int)) = some (.nx (if k % 2 = 1 then ZW 285 o a else o,ZW 285 a a,((k / 2 : Nat) : Int))):=by
    rw [hL]
    have c1 : (k : Int) > 0:=by omega
    have e3 : ((((k % 2 : Nat) : Int)) == 1) = decide (k % 2 = 1):=by
     rw [Bool.eq_iff_iff,beq_iff_eq,decide_eq_true_eq]; omega
    simp only [c1,decide_true,if_true,Zae,qb,hT,e3,Option.bind_some,jO (k / 2) (by omega)]
    by_cases c2 : k % 2 = 1 <;> simp [c2]
   rw [Wu hst,ih (k / 2) _ _ (by rw [Nat.pow_succ] at hk; omega) (by omega)]
   conv=>rhs; unfold Bh
   rw [if_neg h0]
theorem jJ : Um 285 254 = some (vf 256 fun x=>Qu 285 (UInt8.ofNat x)):=by
 have hp:=qs (VO 285) (YS 285) (Jm 285 (by omega) (by omega)) (fun s=>by unfold VO; rfl)
 have hp2 : ∀ a,ZB (VO 285) (1,a,254) = some (Qu 285 a):=fun a=>hp 8 254 a 1 (by omega) (by omega)
 have h1:=Bx (VQ 285 254) (fun x=>Qu 285 (UInt8.ofNat x)) (fun i hi a=>by
  unfold VQ
  simp only [z2 hi,if_true,V1,hp2,Option.bind_some,ZP _ hi,Int.toNat_natCast]) (fun v=>by unfold VQ; simp)
 unfold Um
 simp only [h1,Option.bind_some]
def rots (x : UInt8) : UInt8:=((90 ^^^ x) ^^^ K6 1 x) ^^^ K6 4 x
theorem B0 : Wr ([0,1,4] : List Int) 90 = some (vf 256 fun x=>rots (UInt8.ofNat x)):=by
 have t0 : ∀ b,X3 b 0 = some b:=fun b=>by have:=jf b 0 (by omega); rw [turn0] at this; exact this
 have t1 : ∀ b,X3 b 1 = some (K6 1 b):=fun b=>by have:=jf b 1 (by omega); rw [turn1] at this; exact this
 have t4 : ∀ b,X3 b 4 = some (K6 4 b):=fun b=>by have:=jf b 4 (by omega); rw [turn4] at this; exact this
 have w1 : wr 1 = 1:=by decide
 have w2 : wr 2 = 2:=by decide
 have w3 : wr 3 = 3:=by decide
 have hin : ∀ (s : Vector UInt8 256 × Int),ZB (Ya [0,1,4] s) (90,0) = some (rots (Zy s.2)):=by
  intro s
  rw [Wu (f:=Ya [0,1,4] s) (s:=(90,0)) (s':=(90 ^^^ Zy s.2,1)) (by unfold Ya; simp [t0,w1,idx])]
  rw [Wu (f:=Ya [0,1,4] s) (s':=((90 ^^^ Zy s.2) ^^^ K6 1 (Zy s.2),2)) (by unfold Ya; simp [t1,w2,idx])]
  rw [Wu (f:=Ya [0,1,4] s) (s':=(((90 ^^^ Zy s.2) ^^^ K6 1 (Zy s.2)) ^^^ K6 4 (Zy s.2),3)) (by unfold Ya; simp [t4,w3,idx])]
  exact Wg (by unfold Ya; simp; rfl)
 have h1:=Bx (XW [0,1,4] 90) (fun x=>rots (UInt8.ofNat x)) (fun i hi a=>by
  unfold XW
  simp only [z2 hi,if_true,hin,V1,Option.bind_some,ZP _ hi,Int.toNat_natCast]) (fun v=>by unfold XW; simp)
 unfold Wr
 simp only [h1,Option.bind_some]
theorem kP (f g : Nat → UInt8) : UT (vf 256 f) (vf 256 g) = some (vf 256 fun x=>g (f x).toNat):=by
 have hv : ∀ x : UInt8,ZH (vf 256 g) (bI x) = some (g x.toNat):=fun x=>ZP g (UInt8.toNat_lt x)
 have h1:=Bx (Uh (vf 256 f) (vf 256 g)) (fun x=>g (f x).toNat) (fun i hi a=>by
  unfold Uh
  simp only [z2 hi,if_true,Option.bind_some,ZP _ hi,hv,Int.toNat_natCast]) (fun v=>by unfold Uh; simp)
 unfold UT
 simp only [h1,Option.bind_some]
theorem jA (x : UInt8) : rots (UInt8.ofNat (Qu 285 x).toNat) = Aa x:=by
 rw [UInt8.ofNat_toNat]
 unfold rots Aa
 ac_rfl
theorem jd (n : Int) : Ud n = some (Vv n):=by
 have hinv : ∀ a,Vs 285 a = some (Qu 285 a):=fun a=>Zab 285 (by omega) (by omega) a
 have h2:=yf (Vs 285) hinv U0 U4 (fun s t=>by unfold U0; rfl) (fun s=>by unfold U4; rfl)
 have h3:=Ai U2 (fun s=>by unfold U2; rfl)
 unfold Ud Vv
 simp only [jJ,B0,kP,jA,h2,h3,Option.bind_some]

theorem BE {α : Type} (n : Nat) (f : Nat → α) : (vf n f).toList = (List.range n).map f:=by
 apply List.ext_getElem
 ·simp
 ·intro i h1 h2
  simp at h1
  rw [Vector.getElem_toList,Q1 f h1]; simp
theorem kU : qh ((List.range 256).map fun x=>Aa (UInt8.ofNat x)) = true:=by decide +kernel
theorem yF : Qi (vf 16 fun i=>UInt8.ofNat ((13 * i + 4) % 16)) = true:=by
 unfold Qi
 rw [BE]
 decide +kernel
theorem z9 : Hj 285 = true:=by decide +kernel
theorem kl : (detC 285 (mf fun i j=>Qu 285 (UInt8.ofNat (i ^^^ (4 + j)))) != 0) = true:=by decide +kernel
theorem yU (n : Int) (h : 1 ≤ n ∧ n ≤ 20) : YJ (Vv n) = true:=by
 unfold YJ Vv
 simp only [BE,kU,yF,z9,Bool.true_and,h,decide_true,Bool.and_true,and_self]
 exact kl
theorem J0 (p0 : List (List UInt8)) (hl : p0.flatten.length ≤ 140737488355328) (hn : p0.length < 9223372036854775807) : Z1 p0 = some p0.flatten:=by
 obtain ⟨a1,a2⟩:=z5 1 p0 (Xo p0) (Xj p0) (fun s=>by unfold Xo; rfl) (fun s=>by unfold Xj; rfl) (by omega) (by omega) hn
 have hg : YH (p0.flatten.length : Int) = some []:=by
  unfold YH
  exact qv 1 _ _ (by omega) (by omega)
 unfold Z1
 simp only [a1,a2,hg,Option.bind_some]
theorem Ks (l : List UInt8) (h : l.length ≤ 140737488355328) : Yl l = some l:=by
 unfold Yl
 rw [XK (by simp; omega)]; rfl
theorem HI (l : List UInt8) (h : l.length ≤ 140737488355328) : WP l = some l:=by
 unfold WP
 rw [XK (by simp; omega)]; rfl
theorem Aw {l : List UInt8} {n : Nat} (h : n ≤ l.length) : Qy n l = some (vf n fun j=>l.getD j 0):=by
 unfold Qy
 rw [dif_pos h]
 refine congrArg some (TT fun i hi=>?_)
 rw [Q1 _ hi,List.getD_eq_getElem?_getD,List.getElem?_eq_getElem (by omega)]
 simp
theorem yN {l : List UInt8} {i j : Nat} (h : i ≤ j) (h2 : j ≤ l.length) : ∃ r,slc l (i : Int) (j : Int) = some r ∧ r.length = j - i ∧ ∀ k,k < j - i → r.getD k 0 = l.getD (i + k) 0:=by
 refine ⟨_,zO h h2,by simp; omega,fun k hk=>?_⟩
 rw [List.getD_eq_getElem?_getD,List.getD_eq_getElem?_getD,List.getElem?_drop,List.getElem?_take,if_pos (by omega)]

def beL (n : Int) : Nat → List UInt8
 | 0=>[]
 | k + 1=>Zy (Tk n ((8 * k : Nat) : Int)) :: beL n k
theorem Q8 (n : Int) : ∀ k,(beL n k).length = k
 | 0=>rfl
 | k + 1=>by rw [beL,List.length_cons,Q8 n k]
theorem jP (n : Int) (L : List UInt8 × Int → Option (Fl (List UInt8 × Int) (List UInt8))) (K : Nat)
  (hL : ∀ (k : Nat) (acc : List UInt8),k < K → acc.length ≤ 100000000 → L (acc,(k : Int)) = some (.nx (acc ++ [Zy (Tk n ((8 * k : Nat) : Int))],(k : Int) - 1))) (he : ∀ acc,L (acc,-1) = some (.ex acc)) :
  ∀ (k : Nat) (acc : List UInt8),k ≤ K → acc.length + k ≤ 100000000 → ZB L (acc,(k : Int) - 1) = some (acc ++ beL n k):=by
 intro k
 induction k with
 | zero=>intro acc _ _; rw [show ((0 : Nat) : Int) - 1 = -1 from rfl,Wg (he acc)]; simp [beL]
 | succ k ih =>
  intro acc hk hl
  have e : ((k + 1 : Nat) : Int) - 1 = (k : Int):=by omega
  rw [e,Wu (hL k acc (by omega) (by omega)),ih _ (by omega) (by simp; omega)]
  simp [beL]
theorem HX (n : Int) (m : Nat) (hm : m ≤ 100) : Xc n (m : Int) = some (beL n m):=by
 have h:=jP n (Vk n) 100 (fun k acc hk hl=>by
  unfold Vk
  have e1 : wr (8 * (k : Int)) = ((8 * k : Nat) : Int):=by rw [YG (by omega)]; omega
  have e2 : Xm ((8 * k : Nat) : Int) = some ():=by unfold Xm; rw [if_pos (by omega)]
  have e3 : wr ((k : Int) - 1) = (k : Int) - 1:=YG (by omega)
  have e4 : decide ((k : Int) ≥ 0) = true:=by simp
  simp only [e1,e2,e3,e4,if_true,Option.bind_some]
  rw [XK (by simp; omega)]; rfl) (fun acc=>by unfold Vk; simp) m [] hm (by simp; omega)
 have e : wr ((m : Int) - 1) = (m : Int) - 1:=YG (by omega)
 unfold Xc
 rw [e,h]; rfl
theorem qt (x : Int) : Zy (Qn x 255) = Zy x:=by
 have h1 : (BitVec.ofInt 64 255) = (255 : BitVec 64):=rfl
 have h2 : (BitVec.ofInt 64 x &&& BitVec.ofInt 64 255).toNat = (x % 256).toNat:=by
  rw [BitVec.toNat_and,h1,show (255 : BitVec 64).toNat = 2 ^ 8 - 1 from rfl,Nat.and_two_pow_sub_one_eq_mod,BitVec.toNat_ofInt]
  omega
 unfold Qn Zy
 rw [h2,YG (by omega)]
 congr 1
 omega
theorem ko (n : Int) : UQ n = some (beL n 4):=by
 have e0 : Tk n 0 = n:=by unfold Tk; simp
 unfold UQ
 simp only [qt]
 have : beL n 4 = [Zy (Tk n 24),Zy (Tk n 16),Zy (Tk n 8),Zy (Tk n 0)]:=rfl
 rw [this,e0]

def VR (n : Nat) : Nat:=(24 - n % 16) % 16
def KD (d : List UInt8) : List UInt8:=((d ++ [128]) ++ List.replicate (VR (d.length + 1)) 0) ++ beL (d.length : Int) 8
theorem yy (d : List UInt8) : ∃ n,(KD d).length = 16 * n ∧ n ≤ d.length + 2:=by
 have : (KD d).length = d.length + 1 + VR (d.length + 1) + 8:=by simp [KD,Q8]; omega
 refine ⟨(d.length + 1 + VR (d.length + 1) + 8) / 16,?_,?_⟩
 ·rw [this]; unfold VR; omega
 ·unfold VR; omega
theorem yv (L : List UInt8 → Option (Fl (List UInt8) (List UInt8))) (hL : ∀ s,L s = if ((Int.tmod (s.length : Int) 16) != 8) = true then ((app 1 s ([0] : List UInt8)).bind fun (_ : List UInt8)=>some (Fl.nx (s ++ ([0] : List UInt8)))) else (some (Fl.ex s)))
  (l : List UInt8) (hl : l.length ≤ 100000000) : ZB L l = some (l ++ List.replicate (VR l.length) 0):=by
 have ht : ∀ n : Nat,Int.tmod (n : Int) 16 = ((n % 16 : Nat) : Int):=fun n=>by rw [Int.tmod_eq_emod_of_nonneg (by omega)]; omega
 have:=ZY (f:=L) (fun i : Nat=>l ++ List.replicate i 0) 0 (VR l.length) (Nat.zero_le _) (t:=l ++ List.replicate (VR l.length) 0) (fun i _ hi=>by
  rw [hL,ht]
  have hz : VR l.length < 16:=by unfold VR; omega
  have e : ((((l ++ List.replicate i 0).length % 16 : Nat) : Int) != 8) = true:=by
   simp only [List.length_append,List.length_replicate,bne_iff_ne,ne_eq]
   unfold VR at hi; omega
  rw [e,if_pos rfl,XK (by simp; omega)]
  simp [List.replicate_succ']) (by
  rw [hL,ht]
  have e : ((((l ++ List.replicate (VR l.length) 0).length % 16 : Nat) : Int) != 8) = false:=by
   simp only [List.length_append,List.length_replicate,bne_eq_false_iff_eq]
   unfold VR; omega
  rw [e]; rfl)
 simpa using this
theorem zM (d : List UInt8) (h : d.length ≤ 10000000) : Vp d = some (KD d):=by
 have h1:=yv Ua (fun s=>by unfold Ua; rfl) (d ++ [128]) (by simp; omega)
 have h2:=HX (d.length : Int) 8 (by omega)
 have h3 : Xc (d.length : Int) 8 = some (beL (d.length : Int) 8):=h2
 have hz : VR (d.length + 1) < 16:=by unfold VR; omega
 have e : (d ++ [128]).length = d.length + 1:=by simp
 rw [e] at h1
 unfold Vp KD
 rw [Ks d (by omega),Option.bind_some,XK (by simp; omega),Option.bind_some,h1,Option.bind_some,h3,Option.bind_some,XK (by simp [Q8]; omega)]
 rfl
theorem qB (d : List UInt8) (h : d.length ≤ 10000000) : Tp d = some (KD d):=by
 have h1:=yv TS (fun s=>by unfold TS; rfl) (d ++ [128]) (by simp; omega)
 have hz : VR (d.length + 1) < 16:=by unfold VR; omega
 have e : (d ++ [128]).length = d.length + 1:=by simp
 rw [e] at h1
 have h2:=jP (d.length : Int) (VT d) 100 (fun k acc hk hl=>by
  unfold VT
  have e1 : wr (8 * (k : Int)) = ((8 * k : Nat) : Int):=by rw [YG (by omega)]; omega
  have e5 : IntKind.u64.wrap ((8 * k : Nat) : Int) = ((8 * k : Nat) : Int):=qa _ (by omega)
  have e2 : Xm ((8 * k : Nat) : Int) = some ():=by unfold Xm; rw [if_pos (by omega)]
  have e3 : wr ((k : Int) - 1) = (k : Int) - 1:=YG (by omega)
  have e4 : decide ((k : Int) ≥ 0) = true:=by simp
  simp only [e1,e5,e2,e3,e4,if_true,Option.bind_some,qt]
  rw [XK (by simp; omega)]; rfl) (fun acc=>by unfold VT; simp) 8 ((d ++ [128]) ++ List.replicate (VR (d.length + 1)) 0) (by omega) (by simp; omega)
 have h3 : ZB (VT d) ((d ++ [128]) ++ List.replicate (VR (d.length + 1)) 0,7) = some (((d ++ [128]) ++ List.replicate (VR (d.length + 1)) 0) ++ beL (d.length : Int) 8):=h2
 unfold Tp KD
 rw [HI d (by omega),Option.bind_some,XK (by simp; omega),Option.bind_some,h1,Option.bind_some,h3]
 rfl

def jY (l : List UInt8) (i : Nat) : Blk:=vf 16 fun j=>l.getD (16 * i + j) 0
def X6 (l : List UInt8) (n : Nat) : List Blk:=(List.range n).map (jY l)
theorem QF (l : List UInt8) (n : Nat) : (X6 l n).length = n:=by simp [X6]
theorem JL (l : List UInt8) (n : Nat) : X6 l (n + 1) = X6 l n ++ [jY l n]:=by simp [X6,List.range_succ]
theorem jc (l : List UInt8) (n : Nat) (hl : l.length = 16 * n) (hn : n ≤ 100000000) : Ug l = some (X6 l n):=by
 have:=ZY (f:=WD l) (fun i : Nat=>(X6 l i,((16 * i : Nat) : Int))) 0 n (Nat.zero_le _) (t:=X6 l n) (fun i _ hi=>by
  unfold WD
  have e1 : wr (((16 * i : Nat) : Int) + 16) = ((16 * (i + 1) : Nat) : Int):=by rw [YG (by omega)]; omega
  have e2 : decide (((16 * i : Nat) : Int) < (l.length : Int)) = true:=by simp; omega
  obtain ⟨r,r1,r2,r3⟩:=yN (l:=l) (i:=16 * i) (j:=16 * (i + 1)) (by omega) (by omega)
  have e3 : Qy 16 r = some (jY l i):=by
   rw [Aw (by omega)]
   exact congrArg some (Y8 fun j hj=>r3 j (by omega))
  simp only [e1,e2,if_true,r1,e3,Option.bind_some]
  rw [XK (by rw [QF]; simp; omega),JL]; rfl) (by
  unfold WD
  have e2 : decide (((16 * n : Nat) : Int) < (l.length : Int)) = false:=by simp; omega
  simp only [e2,Bool.false_eq_true,if_false])
 have h2 : ZB (WD l) ([],0) = _:=this
 unfold Ug
 rw [h2]; rfl
theorem yW (l : List UInt8) (n : Nat) (hl : l.length = 16 * n) (hn : n ≤ 100000000) : VF l = some (X6 l n):=by
 have:=ZY (f:=X8 l) (fun i : Nat=>(X6 l i,((16 * i : Nat) : Int))) 0 n (Nat.zero_le _) (t:=X6 l n) (fun i _ hi=>by
  unfold X8
  have e1 : wr (((16 * i : Nat) : Int) + 16) = ((16 * (i + 1) : Nat) : Int):=by rw [YG (by omega)]; omega
  have e2 : decide (((16 * (i + 1) : Nat) : Int) ≤ (l.length : Int)) = true:=by simp; omega
  have h3:=WI (Wf l (X6 l i,((16 * i : Nat) : Int))) (fun _=>0) (fun j=>l.getD (16 * i + j) 0) (by omega) 0 (by omega) (fun j hj=>by omega) (fun j _ hj a _ _=>by
   unfold Wf
   have e4 : wr (((16 * i : Nat) : Int) + (j : Int)) = ((16 * i + j : Nat) : Int):=by rw [YG (by omega)]; omega
   have e5 : 16 * i + j < l.length:=by omega
   simp only [JH hj,if_true,e4,YB,List.getElem?_eq_getElem e5,ZP _ hj,Option.bind_some,Int.toNat_natCast,List.getD_eq_getElem?_getD,Option.getD_some]) (fun v=>by unfold Wf; simp)
  have h4 : ZB (Wf l (X6 l i,((16 * i : Nat) : Int))) (Vector.replicate 16 0,0) = some (jY l i):=by rw [TG]; exact h3
  simp only [e1,e2,if_true,h4,Option.bind_some]
  rw [XK (by rw [QF]; simp; omega),JL]; rfl) (by
  unfold X8
  have e1 : wr (((16 * n : Nat) : Int) + 16) = ((16 * (n + 1) : Nat) : Int):=by rw [YG (by omega)]; omega
  have e2 : decide (((16 * (n + 1) : Nat) : Int) ≤ (l.length : Int)) = false:=by simp; omega
  simp only [e1,e2,Bool.false_eq_true,if_false])
 have h2 : ZB (X8 l) ([],0) = _:=this
 unfold VF
 rw [h2]; rfl

abbrev Dig:=Vector UInt8 32
def df (v : Dig) (i : Nat) : UInt8:=v[i]?.getD default
theorem Zan (v : Dig) : v = vf 32 (df v):=ki v
def Q6 : Dig:=vf 32 fun i=>UInt8.ofNat (17 * i)
theorem lt32 {i : Nat} (h : i < 32) : decide ((i : Int) < 32) = true:=by simp; omega
theorem Za2 : XS = some Q6:=by
 have h:=WI YZ (fun _=>0) (fun i=>UInt8.ofNat (17 * i)) (by omega) 0 (by omega) (fun j hj=>by omega) (fun i _ hi a _ _=>by
  unfold YZ
  have e1 : wr (17 * (i : Int)) = ((17 * i : Nat) : Int):=by rw [YG (by omega)]; omega
  simp only [lt32 hi,if_true,ZP _ hi,Option.bind_some,e1,V1,Int.toNat_natCast]) (fun v=>by unfold YZ; simp)
 have h2 : ZB YZ (Vector.replicate 32 0,0) = some Q6:=by rw [TG]; exact h
 unfold XS
 rw [h2]; rfl
theorem jD : Ut = some Q6:=by
 have h:=WI WC (fun _=>0) (fun i=>UInt8.ofNat (17 * i)) (by omega) 0 (by omega) (fun j hj=>by omega) (fun i _ hi a _ _=>by
  unfold WC
  have e1 : wr (17 * (i : Int)) = ((17 * i : Nat) : Int):=by rw [YG (by omega)]; omega
  have e2 : Int.tmod ((17 * i : Nat) : Int) 256 = ((17 * i % 256 : Nat) : Int):=by rw [Int.tmod_eq_emod_of_nonneg (by omega)]; omega
  simp only [lt32 hi,if_true,ZP _ hi,Option.bind_some,e1,e2,V1,kS,Int.toNat_natCast]) (fun v=>by unfold WC; simp)
 have h2 : ZB WC (Vector.replicate 32 0,0) = some Q6:=by rw [TG]; exact h
 unfold Ut
 rw [h2]; rfl
def hiF (s : Nat → UInt8) : Nat → UInt8:=fun i=>s (16 + i)
def zi (f g : Nat → UInt8) : Nat → UInt8:=fun i=>if i < 16 then f i else g (i - 16)
def jV (c : GCipher) (k a : Nat → UInt8) : Nat → UInt8:=Hb (zW c k a c.Rounds.toNat) a
def absC (c : GCipher) (s m : Nat → UInt8) : Nat → UInt8 :=
 zi (jV c (hiF s) (Hb s m)) (jV c (jV c (hiF s) (Hb s m)) (Hb (hiF s) m))
theorem yD (s : Nat → UInt8) : VE (vf 32 s) = some (vf 16 s,vf 16 (hiF s)):=by
 have:=ZY (f:=We (vf 32 s)) (fun i : Nat=>(vf 16 (fun j=>if j < i then hiF s j else 0),vf 16 (fun j=>if j < i then s j else 0),(i : Int))) 0 16 (by omega) (t:=(vf 16 (hiF s),vf 16 s)) (fun i _ hi=>by
  unfold We
  have e1 : wr (16 + (i : Int)) = ((16 + i : Nat) : Int):=by rw [YG (by omega)]; omega
  simp only [JH hi,if_true,e1,ZP _ (show i < 32 by omega),ZP _ (show 16 + i < 32 by omega),ZP _ hi,Option.bind_some,Int.toNat_natCast,TW,XB (show i < 9223372036854775807 by omega)]
  have e : ∀ f : Nat → UInt8,(vf 16 fun j=>if j = i then f i else if j < i then f j else 0) = vf 16 fun j=>if j < i + 1 then f j else 0:=fun f=>Y8 fun j _=>by
   by_cases h1 : j = i
   ·subst h1; simp
   ·by_cases h2 : j < i
    ·rw [if_neg h1,if_pos h2,if_pos (by omega)]
    ·rw [if_neg h1,if_neg h2,if_neg (by omega)]
  have ea:=e (hiF s)
  have eb:=e s
  rw [eb]
  have ea' : (vf 16 fun j=>if j = i then s (16 + i) else if j < i then hiF s j else 0) = vf 16 fun j=>if j < i + 1 then hiF s j else 0:=ea
  rw [ea']) (by
  unfold We
  simp only [show decide (((16 : Nat) : Int) < 16) = false from rfl,Bool.false_eq_true,if_false]
  refine congrArg (fun z=>some (Fl.ex z)) (congr (congrArg Prod.mk (Y8 fun j hj=>by rw [if_pos hj])) (Y8 fun j hj=>by rw [if_pos hj])))
 have h2 : ZB (We (vf 32 s)) (vf 16 (fun _=>0),vf 16 (fun _=>0),0) = some (vf 16 (hiF s),vf 16 s):=by
  have e0 : ∀ f : Nat → UInt8,(vf 16 fun j=>if j < 0 then f j else 0) = vf 16 fun _=>0:=fun f=>Y8 fun j _=>by simp
  simp only [e0] at this
  exact this
 unfold VE
 rw [TG,h2]; rfl
theorem yP (c : GCipher) (h : YJ c = true) (s m : Nat → UInt8) : Wz c (vf 32 s) (vf 16 m) = some (vf 32 (absC c s m)):=by
 have hj : ∀ f g : Nat → UInt8,ZB (Wb (vf 16 f) (vf 16 g)) (Vector.replicate 32 0,0) = some (vf 32 (zi f g)):=by
  intro f g
  have:=ZY (f:=Wb (vf 16 f) (vf 16 g)) (fun i : Nat=>(vf 32 (fun j=>if j < i then f j else if 16 ≤ j ∧ j < 16 + i then g (j - 16) else 0),(i : Int))) 0 16 (by omega) (t:=vf 32 (zi f g)) (fun i _ hi=>by
   unfold Wb
   have e1 : wr (16 + (i : Int)) = ((16 + i : Nat) : Int):=by rw [YG (by omega)]; omega
   simp only [JH hi,if_true,e1,ZP _ (show i < 32 by omega),ZP _ (show 16 + i < 32 by omega),ZP _ hi,Option.bind_some,Int.toNat_natCast,TW,XB (show i < 9223372036854775807 by omega)]
   refine congrArg (fun z=>some (Fl.nx (z,((i + 1 : Nat) : Int)))) (Y8 fun j hj=>?_)
   by_cases h1 : j = 16 + i
   ·subst h1
    rw [if_pos rfl,if_neg (by omega),if_pos (by omega)]
    congr 1; omega
   ·rw [if_neg h1]
    by_cases h2 : j = i
    ·subst h2; rw [if_pos rfl,if_pos (by omega)]
    ·rw [if_neg h2]
     by_cases h3 : j < i
     ·rw [if_pos h3,if_pos (by omega)]
     ·rw [if_neg h3,if_neg (show ¬ j < i + 1 by omega)]
      by_cases h4 : 16 ≤ j ∧ j < 16 + i
      ·rw [if_pos h4,if_pos (by omega)]
      ·rw [if_neg h4,if_neg (by omega)]) (by
   unfold Wb
   simp only [show decide (((16 : Nat) : Int) < 16) = false from rfl,Bool.false_eq_true,if_false]
   refine congrArg (fun z=>some (Fl.ex z)) (Y8 fun j hj=>?_)
   unfold zi
   by_cases h3 : j < 16
   ·rw [if_pos h3,if_pos h3]
   ·rw [if_neg h3,if_neg h3,if_pos (by omega)])
  have e0 : (vf 32 fun j=>if j < 0 then f j else if 16 ≤ j ∧ j < 16 + 0 then g (j - 16) else 0) = vf 32 fun _=>0:=Y8 fun j _=>by rw [if_neg (by omega),if_neg (by omega)]
  simp only [e0] at this
  rw [TG]
  exact this
 unfold Wz
 simp only [yD,Option.bind_some,Hf,Hl c h,hj]
 rfl
theorem qO (c : GCipher) (h : YJ c = true) (s m : Nat → UInt8) : Xf ⟨Y4 c⟩ (vf 32 s) (vf 16 m) = some (vf 32 (absC c s m)):=by
 have g1 : ∀ {n : Nat} (f : Nat → UInt8) (k : Nat),k < n → (vf n f).toList.getD k 0 = f k:=fun f k hk=>by
  rw [BE,List.getD_eq_getElem?_getD,List.getElem?_map,List.getElem?_range hk]; rfl
 have hl : ∀ {n : Nat} (f : Nat → UInt8),(vf n f).toList.length = n:=fun f=>by simp
 have cut : ∀ {n : Nat} (f : Nat → UInt8) (i j : Nat),i ≤ j → j ≤ n → ∃ r,slc (vf n f).toList (i : Int) (j : Int) = some r ∧ r.length = j - i ∧ Qy (j - i) r = some (vf (j - i) fun k=>f (i + k)) ∧ ∀ k,k < j - i → r.getD k 0 = f (i + k):=by
  intro n f i j hij hjn
  obtain ⟨r,r1,r2,r3⟩:=yN (l:=(vf n f).toList) (i:=i) (j:=j) hij (by rw [hl]; exact hjn)
  have r4 : ∀ k,k < j - i → r.getD k 0 = f (i + k):=fun k hk=>by rw [r3 k hk,g1 f (i + k) (by omega)]
  refine ⟨r,r1,r2,?_,r4⟩
  rw [Aw (by omega)]
  exact congrArg some (Y8 r4)
 obtain ⟨l,l1,l2,l3,l4⟩:=cut (n:=32) s 0 16 (by omega) (by omega)
 obtain ⟨l',l1',l2',l3',l4'⟩:=cut (n:=32) s 16 32 (by omega) (by omega)
 have a1 : slc (vf 32 s).toList (0 : Int) (16 : Int) = some l:=l1
 have a2 : slc (vf 32 s).toList (16 : Int) (32 : Int) = some l':=l1'
 have a3 : Qy 16 l = some (vf 16 s):=by
  have : Qy 16 l = some (vf 16 fun k=>s (0 + k)):=l3
  rw [this]; exact congrArg some (Y8 fun k _=>by rw [Nat.zero_add])
 have a4 : Qy 16 l' = some (vf 16 (hiF s)):=l3'
 have join : ∀ f g : Nat → UInt8,((slc (vf 16 f).toList (0 : Int) (16 : Int)).bind fun (l56 : (List UInt8))=>(slc (vf 16 g).toList (0 : Int) (16 : Int)).bind fun (l59 : (List UInt8))=>(Z1 ([l56,l59] : (List (List UInt8)))).bind fun (r64 : (List UInt8))=>(Qy 32 r64).bind fun (x67 : (Vector UInt8 32))=>some x67 : Option ((Vector UInt8 32))) = some (vf 32 (zi f g)):=by
  intro f g
  obtain ⟨p,p1,p2,_,p4⟩:=cut (n:=16) f 0 16 (by omega) (by omega)
  obtain ⟨q,q1,q2,_,q4⟩:=cut (n:=16) g 0 16 (by omega) (by omega)
  have b1 : slc (vf 16 f).toList (0 : Int) (16 : Int) = some p:=p1
  have b2 : slc (vf 16 g).toList (0 : Int) (16 : Int) = some q:=q1
  have b3 : Z1 [p,q] = some (p ++ q):=by
   have:=J0 [p,q] (by simp; omega) (by simp)
   simpa using this
  rw [b1,Option.bind_some,b2,Option.bind_some,b3,Option.bind_some,Aw (by simp; omega),Option.bind_some]
  refine congrArg some (Y8 fun k hk=>?_)
  unfold zi
  rw [List.getD_eq_getElem?_getD]
  by_cases h1 : k < 16
  ·rw [if_pos h1,List.getElem?_append_left (by omega),← List.getD_eq_getElem?_getD,p4 k (by omega),Nat.zero_add]
  ·rw [if_neg h1,List.getElem?_append_right (by omega),← List.getD_eq_getElem?_getD,q4 (k - p.length) (by omega),Nat.zero_add,show p.length = 16 from p2]
 have in1 : ∀ k a : Nat → UInt8,((YA ⟨Y4 c⟩ (vf 16 k) (vf 16 a)).bind fun (r34 : (Vector UInt8 16))=>(Yw r34 (vf 16 a)).bind fun (r36 : (Vector UInt8 16))=>some r36 : Option (Vector UInt8 16)) = some (vf 16 (jV c k a)):=fun k a=>by
  rw [JS c h,Option.bind_some,TH,Option.bind_some]; rfl
 unfold Xf
 rw [a1,Option.bind_some,a3,Option.bind_some,a2,Option.bind_some,a4,Option.bind_some,TH,Option.bind_some,in1,Option.bind_some,TH,Option.bind_some,in1,Option.bind_some,join,Option.bind_some]
 rfl

def absV (c : GCipher) (s : Dig) (m : Blk) : Dig:=vf 32 (absC c (df s) (bf m))
theorem ka (c : GCipher) (h : YJ c = true) (s : Dig) (m : Blk) : Xf ⟨Y4 c⟩ s m = some (absV c s m) ∧ Wz c s m = some (absV c s m):=by
 have h1:=qO c h (df s) (bf m)
 have h2:=yP c h (df s) (bf m)
 rw [← Zan,← vf_bf] at h1 h2
 exact ⟨h1,h2⟩
def Jt (c : GCipher) (d : List UInt8) : Dig:=(X6 (KD d) ((KD d).length / 16)).foldl (absV c) Q6
theorem yT (c : GCipher) (h : YJ c = true) (ps : List (List UInt8)) (hl : ps.flatten.length ≤ 10000000) (hn : ps.length < 9223372036854775807) : Xb ⟨Y4 c⟩ ps = some (Jt c ps.flatten):=by
 obtain ⟨n,n1,n2⟩:=yy ps.flatten
 have e : (KD ps.flatten).length / 16 = n:=by omega
 have h1:=QU (f:=YX ⟨Y4 c⟩ (X6 (KD ps.flatten) n)) (X6 (KD ps.flatten) n) (fun (b : Dig) i=>(b,i)) (absV c) Q6 (t:=Jt c ps.flatten) (by rw [QF]; omega) (fun i hi=>by
  unfold YX
  simp only [Int.ofNat_lt,hi,decide_true,if_true,YB,List.getElem?_eq_getElem hi,Option.bind_some,(ka c h _ _).1]) (by
  unfold YX Jt
  rw [e]; simp)
 unfold Xb
 rw [Za2,Option.bind_some,J0 ps (by omega) hn,Option.bind_some,zM _ hl,Option.bind_some,jc _ n n1 (by omega),Option.bind_some]
 have h2 : ZB (YX ⟨Y4 c⟩ (X6 (KD ps.flatten) n)) (Q6,0) = _:=h1
 rw [h2]; rfl
theorem jQ (c : GCipher) (h : YJ c = true) (d : List UInt8) (hl : d.length ≤ 10000000) : Uc c d = some (Jt c d):=by
 obtain ⟨n,n1,n2⟩:=yy d
 have e : (KD d).length / 16 = n:=by omega
 have h1:=QU (f:=Ux c (X6 (KD d) n)) (X6 (KD d) n) (fun (b : Dig) i=>(b,i)) (absV c) Q6 (t:=Jt c d) (by rw [QF]; omega) (fun i hi=>by
  unfold Ux
  simp only [Int.ofNat_lt,hi,decide_true,if_true,YB,List.getElem?_eq_getElem hi,Option.bind_some,(ka c h _ _).2]) (by
  unfold Ux Jt
  rw [e]; simp)
 unfold Uc
 rw [qB _ hl,Option.bind_some,yW _ n n1 (by omega),Option.bind_some,jD,Option.bind_some]
 have h2 : ZB (Ux c (X6 (KD d) n)) (Q6,0) = _:=h1
 rw [h2]; rfl
theorem Au (d : Dig) : Vf d = some d.toList:=by
 have h:=Av (f:=VG d) (List.range 32) (fun i=>df d i) (t:=d.toList) (by simp) (fun i hi=>by
  have hi' : i < 32:=by simpa using hi
  unfold VG
  have hv : ZH d (i : Int) = some (df d i):=by
   have:=ZP (df d) hi'
   rwa [← Zan] at this
  simp only [lt32 hi',if_true,hv,Option.bind_some]
  rw [XK (by simp; omega)]
  simp) (by
  unfold VG
  have e : (List.range 32).map (fun i=>df d i) = d.toList:=by
   conv=>rhs; rw [Zan d]
   rw [BE]
  simp only [List.length_range,show decide (((32 : Nat) : Int) < 32) = false from rfl,Bool.false_eq_true,if_false,e])
 unfold Vf
 rw [h]; rfl
def KJ (d : Dig) (e : GEvent) : List UInt8:=((d.toList ++ [Zy e.Kind]) ++ beL e.Number 4) ++ e.Tag.toList
theorem yk (d : Dig) (e : GEvent) : (KJ d e).length = 69:=by simp [KJ,Q8]
def HS (c : GCipher) (d : Dig) (e : GEvent) : Dig:=Jt c (KJ d e)
def Aj (c : GCipher) (l : List GEvent) : Dig:=l.foldl (HS c) (Jt c (List.replicate 32 0))
theorem y8 : YJ (Vv 4) = true:=yU 4 (by omega)
theorem H0 : WF = some (Vv 4):=by
 unfold WF
 rw [jd]; rfl
theorem Za5 (n : Int) (h : 1 ≤ n ∧ n ≤ 20) : TV n = some ⟨Y4 (Vv n)⟩:=by
 unfold TV
 rw [AB,Option.bind_some,yH _ (yU n h)]; rfl
theorem Ax : WS = some ⟨Y4 (Vv 4)⟩:=by
 unfold WS
 rw [Za5 4 (by omega)]; rfl
theorem Zbk (d : Dig) : slc d.toList (0 : Int) (32 : Int) = some d.toList:=by
 have h1 : slc d.toList ((0 : Nat) : Int) ((32 : Nat) : Int) = _:=zO (Nat.zero_le _) (by simp)
 have h2 : slc d.toList (0 : Int) (32 : Int) = _:=h1
 rw [h2,List.drop_zero,List.take_of_length_le (by simp)]
theorem AC (c : GCipher) (h : YJ c = true) (l : List GEvent) (hl : l.length < 9223372036854775807) : WY ⟨Y4 c⟩ l = some (Aj c l):=by
 have hm : mkS 1 (0 : UInt8) 32 = some (List.replicate 32 0):=by unfold mkS; rw [if_pos (by omega)]; rfl
 have h0:=yT c h [List.replicate 32 0] (by simp) (by simp)
 have e0 : ([List.replicate 32 0] : List (List UInt8)).flatten = List.replicate 32 0:=by simp
 rw [e0] at h0
 have h1:=QU (f:=Xs ⟨Y4 c⟩ l) l (fun (b : Dig) i=>(b,i)) (HS c) (Jt c (List.replicate 32 0)) (t:=Aj c l) hl (fun i hi=>by
  unfold Xs
  have hb : Xc l[i].Number 4 = some (beL l[i].Number 4):=HX _ 4 (by omega)
  have hd:=yT c h [((l.take i).foldl (HS c) (Jt c (List.replicate 32 0))).toList,[Zy l[i].Kind],beL l[i].Number 4,l[i].Tag.toList] (by simp [Q8]) (by simp)
  have ed : ([((l.take i).foldl (HS c) (Jt c (List.replicate 32 0))).toList,[Zy l[i].Kind],beL l[i].Number 4,l[i].Tag.toList] : List (List UInt8)).flatten = KJ ((l.take i).foldl (HS c) (Jt c (List.replicate 32 0))) l[i]:=by simp [KJ]
  rw [ed] at hd
  simp only [Int.ofNat_lt,hi,decide_true,if_true,YB,List.getElem?_eq_getElem hi,Option.bind_some,Zbk,hb,hd]
  rfl) (by unfold Xs Aj; simp)
 unfold WY
 rw [hm,Option.bind_some,h0,Option.bind_some]
 have h2 : ZB (Xs ⟨Y4 c⟩ l) (Jt c (List.replicate 32 0),0) = _:=h1
 rw [h2]; rfl
theorem km (d : Dig) (e : GEvent) : UN d e = some (HS (Vv 4) d e):=by
 have h1:=jQ (Vv 4) y8 (KJ d e) (by rw [yk]; omega)
 unfold UN
 rw [Au,Option.bind_some,XK (by simp),Option.bind_some,Option.bind_some,ko,Option.bind_some,XK (by simp [Q8]),Option.bind_some,H0,Option.bind_some,Au,Option.bind_some,XK (by simp [Q8]),Option.bind_some]
 have h2 : Uc (Vv 4) (((d.toList ++ [Zy e.Kind]) ++ beL e.Number 4) ++ e.Tag.toList) = some (HS (Vv 4) d e):=h1
 rw [h2]; rfl
theorem kx (l : List GEvent) (hl : l.length < 9223372036854775807) : UY l = some (Aj (Vv 4) l):=by
 have hm : mkS 1 (0 : UInt8) 32 = some (List.replicate 32 0):=by unfold mkS; rw [if_pos (by omega)]; rfl
 have h1:=QU (f:=Ve l) l (fun (b : Dig) i=>(b,i)) (HS (Vv 4)) (Jt (Vv 4) (List.replicate 32 0)) (t:=Aj (Vv 4) l) hl (fun i hi=>by
  unfold Ve
  simp only [Int.ofNat_lt,hi,decide_true,if_true,YB,List.getElem?_eq_getElem hi,Option.bind_some,km]) (by unfold Ve Aj; simp)
 unfold UY
 rw [H0,Option.bind_some,hm,Option.bind_some,jQ _ y8 _ (by simp),Option.bind_some]
 have h2 : ZB (Ve l) (Jt (Vv 4) (List.replicate 32 0),0) = _:=h1
 rw [h2]; rfl
theorem zK (l : List GEvent) (h : Wt.ln l) : B3 Xk Vh l (l.map fun _=>34).sum :=
 KO Xk Vh YR WZ (fun _=>34) (fun _ _=>rfl) (fun _ _=>rfl) l (W3 h) (fun l' i k hi _ _ h0 hk=>by
  refine ⟨_,K4 l' i k hi h0 (by omega),fun m hm=>?_⟩
  have hi':=(List.getElem?_eq_some_iff.1 hm).1
  have e1:=AI (k:=k) h0 (by omega)
  have e2 : wr (k + 2) = k + 2:=YG (by omega)
  unfold WZ
  have h1:=Hi (n:=32) (fun x : GEvent=>x.Tag) m i i rfl (Ub m (k,(i : Int))) (fun s=>by unfold Ub; rfl) hm (k + 2) (by omega) (by omega) rfl
  rw [show k + 2 + ((32 : Nat) : Int) = k + 34 by omega] at h1
  simp only [Int.ofNat_lt,hi',decide_true,if_true,YB,hm,Option.bind_some,bne_self_eq_false,Bool.false_eq_true,if_false,e1,e2,show k + 1 + 1 = k + 2 by omega,h1,Fl.el]
  rfl) (fun l' k=>by unfold YR; simp) (fun m k=>by unfold WZ; simp)
theorem AG (l : List GRecord) (h : Wt.ln l) : B3 Y7 WN l (l.map XD).sum :=
 KO Y7 WN YF Wm XD (fun _ _=>rfl) (fun _ _=>rfl) l (W3 h) (fun l' i k hi hx _ h0 hk=>by
  have hk':=hk
  unfold XD at hk'
  have hln : Wt.ln l'[i]:=zN h hx
  obtain ⟨la,a1,a2⟩:=HW l'[i].Label hln.1 (k + 18) (by omega) (by omega)
  obtain ⟨bo,b1,b2⟩:=HW l'[i].Body hln.2 (k + 18 + ((l'[i].Label.map fun _=>1).sum : Nat)) (by omega) (by omega)
  refine ⟨_,KB l' i k hi h0 hk a1 b1,fun m hm=>?_⟩
  have hi':=(List.getElem?_eq_some_iff.1 hm).1
  have e1:=AI (k:=k) h0 (by omega)
  have e2 : wr (k + 2) = k + 2:=YG (by omega)
  have h1:=Hi (n:=16) (fun x : GRecord=>x.Nonce) m i i rfl (Vx m (k,(i : Int))) (fun s=>by unfold Vx; rfl) hm (k + 2) (by omega) (by omega) rfl
  have h2:=Hi (n:=32) (fun x : GRecord=>x.Tag) m i i rfl (VD m (k,(i : Int))) (fun s=>by unfold VD; rfl) hm (k + 18 + ((l'[i].Label.map fun _=>1).sum : Nat) + ((l'[i].Body.map fun _=>1).sum : Nat)) (by omega) (by omega) rfl
  rw [show k + 2 + ((16 : Nat) : Int) = k + 18 by omega] at h1
  have c1 : ¬ (k + 18 + ((l'[i].Label.map fun _=>1).sum : Nat) < 0):=by omega
  have c2 : ¬ (k + 18 + ((l'[i].Label.map fun _=>1).sum : Nat) + ((l'[i].Body.map fun _=>1).sum : Nat) < 0):=by omega
  unfold Wm
  simp only [Int.ofNat_lt,hi',decide_true,if_true,YB,hm,Option.bind_some,bne_self_eq_false,Bool.false_eq_true,if_false,e1,e2,show k + 1 + 1 = k + 2 by omega,h1,Fl.el,a2,b2,c1,c2,decide_false,h2]
  refine congrArg (fun z=>some (Fl.nx (z,wr ((i : Int) + 1)))) ?_
  unfold XD; omega) (fun l' k=>by unfold YF; simp) (fun m k=>by unfold Wm; simp)
theorem yX (x : GVault) (h : Wt.ln x) (k : Int) (h0 : 0 ≤ k) (hk : k + (Te x : Nat) ≤ 4611686018427387904) :
  ∃ x',Xe x k = some (x',k + (Te x : Nat)) ∧ ∀ n hd,WJ ⟨x'.Keys,n,x'.Records,x'.Events,hd⟩ k = some (k + (Te x : Nat)):=by
 unfold Te at hk
 obtain ⟨a,a1,a2⟩:=zF x.Keys h.1 k h0 (by omega)
 obtain ⟨b,b1,b2⟩:=AG x.Records h.2.1 _ (by omega : (0 : Int) ≤ k + ((x.Keys.map fun _=>16).sum : Nat)) (by omega)
 obtain ⟨c,c1,c2⟩:=zK x.Events h.2.2 _ (by omega : (0 : Int) ≤ k + ((x.Keys.map fun _=>16).sum : Nat) + ((x.Records.map XD).sum : Nat)) (by omega)
 refine ⟨⟨a,x.Next,b,c,x.Head⟩,?_,fun n hd=>?_⟩
 ·unfold Xe Te
  simp only [a1,b1,c1,Option.bind_some]
  refine congrArg (fun z=>some (_,z)) ?_
  omega
 ·have d1 : ¬ (k + ((x.Keys.map fun _=>16).sum : Nat) < 0):=by omega
  have d2 : ¬ (k + ((x.Keys.map fun _=>16).sum : Nat) + ((x.Records.map XD).sum : Nat) < 0):=by omega
  have d3 : ¬ (k + ((x.Keys.map fun _=>16).sum : Nat) + ((x.Records.map XD).sum : Nat) + ((x.Events.map fun _=>34).sum : Nat) < 0):=by omega
  unfold WJ Te
  simp only [a2,b2,c2,d1,d2,d3,decide_false,Bool.false_eq_true,if_false,Option.bind_some]
  refine congrArg some ?_
  omega

def Tm (v : GVault) (n : Int) : Int:=match v.Records.findIdx? (fun r=>r.Number == n) with | some i=>(i : Int) | none=>-1
theorem Za0 (v : GVault) (n : Int) (h : v.Records.length < 9223372036854775807) : WU v n = some (Tm v n):=by
 unfold WU Z8
 rw [zA v.Records _ (fun r=>r.Number == n) _ (fun s=>by unfold Yy; rfl) h (fun x _=>rfl)]
 rfl
theorem jF (v : GVault) (n : Int) (h : v.Records.length < 9223372036854775807) : Ue v n = some (Tm v n):=by
 unfold Ue
 have:=zA v.Records (fun r=>some (r.Number == n)) (fun r=>r.Number == n) (U7 v n) (fun s=>by
  unfold U7
  simp only [Option.bind_some]) h (fun x _=>rfl)
 exact this
theorem qo {v : GVault} {n : Int} (h : ¬ Tm v n < 0) : ∃ i : Nat,Tm v n = i ∧ ∃ hi : i < v.Records.length,v.Records[i].Number = n:=by
 unfold Tm at h ⊢
 cases hf : v.Records.findIdx? (fun r=>r.Number == n) with
 | none=>rw [hf] at h; simp at h
 | some i =>
  obtain ⟨hi,hq,_⟩:=List.findIdx?_eq_some_iff_getElem.1 hf
  exact ⟨i,rfl,hi,by simpa using hq⟩
def Zam (v : GVault) (n : Int) : Int × Int:=if XJ v then (if Tm v n < 0 then (0,4) else (Tm v n,0)) else (0,1)
theorem AM (v : GVault) (hb : Wt.ln v) (n : Int) : WM v n = some (Zam v n):=by
 unfold WM Zam
 rw [Ae v hb,Option.bind_some]
 cases hv : XJ v with
 | false=>rfl
 | true =>
  have hs:=T3 hv
  simp only [Bool.not_true,Bool.false_eq_true,if_false,if_true]
  rw [Za0 v n (by omega),Option.bind_some]
  by_cases h : Tm v n < 0 <;> simp [h]
theorem kw {v : GVault} (h : XJ v = true) {r : GRecord} (hr : r ∈ v.Records) : 0 ≤ r.Version ∧ r.Version ≤ (v.Keys.length : Int) - 1 ∧ r.Label.length ≤ 32 ∧ r.Body.length ≤ 200:=by
 unfold XJ at h
 simp only [Bool.and_eq_true,Bool.not_eq_true',List.any_eq_false,List.mem_range'_1] at h
 obtain ⟨i,hi,rfl⟩:=List.mem_iff_getElem.1 hr
 have:=h.1.2 i (by omega)
 unfold Hv BV at this
 rw [List.getElem?_eq_getElem hi] at this
 simp only [Bool.or_eq_true,Bool.not_eq_true',decide_eq_true_eq,decide_eq_false_iff_not,not_or,Classical.not_not] at this
 omega

def jU (v : GVault) (n : Int) : GRecord:=v.Records.getD (Tm v n).toNat ⟨0,0,default,[],[],default⟩
theorem z6 (l : List Blk) (h : l.length ≤ 1000000) : Z5 l = some l:=by
 unfold Z5
 rw [XK (by simp; omega)]; rfl
theorem zS (l : List GEvent) (h : l.length ≤ 1000000) : Z4 l = some l:=by
 unfold Z4
 rw [XK (by simp; omega)]; rfl
theorem yw (l : List GRecord) : l.map (fun r=>(⟨r.Number,r.Version,r.Nonce,r.Label,r.Body,r.Tag⟩ : GRecord)) = l:=by
 induction l with
 | nil=>rfl
 | cons r l ih=>rw [List.map_cons,ih]
def zy (v : GVault) : Prop:=v.Keys.length ≤ 1000 ∧ v.Events.length ≤ 1000 ∧ v.Records.length ≤ 1000 ∧ ∀ r ∈ v.Records,r.Label.length ≤ 1000000 ∧ r.Body.length ≤ 1000000
theorem Za8 (v : GVault) (h : zy v) : WO v = some v:=by
 obtain ⟨h1,h2,h3,h4⟩:=h
 have hl:=Av (f:=Ws v) v.Records (fun r=>(⟨r.Number,r.Version,r.Nonce,r.Label,r.Body,r.Tag⟩ : GRecord)) (t:=v.Records) (by omega) (fun i hi=>by
  obtain ⟨a1,a2⟩:=h4 _ (List.getElem_mem hi)
  unfold Ws
  simp only [Int.ofNat_lt,hi,decide_true,if_true,YB,List.getElem?_eq_getElem hi,Option.bind_some,Ks _ (show v.Records[i].Label.length ≤ 140737488355328 by omega),Ks _ (show v.Records[i].Body.length ≤ 140737488355328 by omega)]
  rw [XK (by simp; omega)]; rfl) (by
  unfold Ws
  rw [yw]; simp)
 unfold WO
 rw [z6 _ (by omega),Option.bind_some,zS _ (by omega),Option.bind_some,hl]; rfl
theorem qS (v : GVault) (h : zy v) : Tu v = some v:=by
 obtain ⟨h1,h2,h3,h4⟩:=h
 have hl:=Av (f:=UU v) v.Records (fun r=>(⟨r.Number,r.Version,r.Nonce,r.Label,r.Body,r.Tag⟩ : GRecord)) (t:=v.Records) (by omega) (fun i hi=>by
  obtain ⟨a1,a2⟩:=h4 _ (List.getElem_mem hi)
  unfold UU
  simp only [Int.ofNat_lt,hi,decide_true,if_true,YB,List.getElem?_eq_getElem hi,Option.bind_some,HI _ (show v.Records[i].Label.length ≤ 140737488355328 by omega),HI _ (show v.Records[i].Body.length ≤ 140737488355328 by omega)]
  rw [XK (by simp; omega)]; rfl) (by
  unfold UU
  rw [yw]; simp)
 unfold Tu
 rw [XK (by simp; omega),Option.bind_some,XK (by simp; omega),Option.bind_some,hl]; rfl
theorem zn {v : GVault} (h : XJ v = true) (hb : ∀ r ∈ v.Records,r.Label.length ≤ 1000000 ∧ r.Body.length ≤ 1000000) : zy v:=by
 obtain ⟨h1,h2,h3,h4,h5,h6⟩:=T3 h
 exact ⟨by omega,by omega,by omega,hb⟩
def JD (v : GVault) (e : GEvent) : GVault:=⟨v.Keys,v.Next,v.Records,v.Events ++ [e],Aj (Vv 4) (v.Events ++ [e])⟩
theorem Zbm (v : GVault) (e : GEvent) (h : v.Events.length ≤ 1000) : Wq ⟨Y4 (Vv 4)⟩ v e = some (JD v e):=by
 unfold Wq
 rw [XK (by simp; omega),Option.bind_some,AC _ y8 _ (by simp; omega)]; rfl
theorem kO (v : GVault) (k n : Int) (t : Dig) (h : v.Events.length ≤ 1000) : UL v k n t = some (JD v ⟨k,n,t⟩):=by
 unfold UL
 rw [XK (by simp; omega),Option.bind_some,kx _ (by simp; omega)]; rfl
def JW : GVault:=⟨[],0,[],[],Vector.replicate 32 0⟩
theorem z8 {v : GVault} (hv : XJ v = true) : zy v:=zn hv fun r hr=>by
 obtain ⟨_,_,h1,h2⟩:=kw hv hr
 omega
theorem Zav {α : Type} [Dat α] [Wt α] (l : List α) (x : α) : Wt.wt (l ++ [x]) = Wt.wt l + (Wt.wt x + 1):=by
 rw [T1,T1,List.map_append,List.sum_append,List.length_append,List.map_cons,List.map_nil,List.sum_cons,List.sum_nil,List.length_singleton]; omega
theorem ql (v : GVault) (e : GEvent) : Wt.wt (JD v e) = Wt.wt v + 1:=by
 unfold JD
 rw [Kp,Kp]
 have e0 : Wt.wt e = 0:=rfl
 have:=Zav v.Events e
 simp only [this,e0]; omega
theorem qJ {v : GVault} (e : GEvent) (h : Wt.ln v) (he : v.Events.length ≤ 1000) : Wt.ln (JD v e):=⟨h.1,h.2.1,⟨by simp [JD]; omega,fun _ _=>trivial⟩⟩
theorem qY : Wt.wt JW = 0:=rfl
theorem BT : Wt.ln JW:=⟨⟨by simp [JW],fun _ _=>trivial⟩,⟨by simp [JW],fun x hx=>by simp [JW] at hx⟩,⟨by simp [JW],fun _ _=>trivial⟩⟩
theorem kf (v : GVault) : ((v.Events.length : Int) == 60) = (v.Events.length == 60):=by rw [Bool.eq_iff_iff,beq_iff_eq,beq_iff_eq]; omega
theorem yt {v : GVault} {n : Int} (h : ¬ Tm v n < 0) : ∃ i : Nat,Tm v n = i ∧ i < v.Records.length ∧ v.Records[i]? = some (jU v n) ∧ (jU v n).Number = n:=by
 obtain ⟨i,h1,h2,h3⟩:=qo h
 refine ⟨i,h1,h2,?_,?_⟩
 ·unfold jU
  rw [h1,Int.toNat_natCast,List.getD_eq_getElem?_getD,List.getElem?_eq_getElem h2]; rfl
 ·unfold jU
  rw [h1,Int.toNat_natCast,List.getD_eq_getElem?_getD,List.getElem?_eq_getElem h2]; exact h3
def Jo (v : GVault) (i : Nat) : GVault:=⟨v.Keys,v.Next,v.Records.take i ++ v.Records.drop (i + 1),v.Events,v.Head⟩
def Kq (v : GVault) (n : Int) : GVault × Int :=
 if XJ v then (if Tm v n < 0 then (JW,4) else if v.Events.length == 60 then (JW,3) else (JD (Jo v (Tm v n).toNat) ⟨2,n,Vector.replicate 32 0⟩,0)) else (JW,1)
theorem qP {α : Type} {l : List α} {i : Nat} (h : i < l.length) : delF l (i : Int) ((i : Int) + 1) = some (l.take i ++ l.drop (i + 1)):=by
 unfold delF
 rw [if_pos (by omega)]
 have : ((i : Int) + 1).toNat = i + 1:=by omega
 rw [this,Int.toNat_natCast]
theorem Zbj {α : Type} {l : List α} {i : Nat} (h : i ≤ l.length) : slc l (0 : Int) (i : Int) = some (l.take i):=by
 unfold slc; rw [if_pos (by omega)]; simp
theorem Zar {α : Type} {l : List α} {i : Nat} (h : i ≤ l.length) : slc l (i : Int) (l.length : Int) = some (l.drop i):=by
 unfold slc; rw [if_pos (by omega)]; simp
theorem qw {α : Type} {l : List α} {i : Nat} (h : i < l.length) : slc l ((i : Int) + 1) (l.length : Int) = some (l.drop (i + 1)):=Zar (i:=i + 1) h
theorem JZ (v : GVault) (hb : Wt.ln v) (n : Int) : Wa v n = some (Kq v n):=by
 unfold Wa Kq
 rw [AM v hb,Option.bind_some]
 unfold Zam
 cases hv : XJ v with
 | false=>rfl
 | true =>
  obtain ⟨h1,h2,h3,h4,h5,h6⟩:=T3 hv
  simp only [if_true]
  by_cases hp : Tm v n < 0
  ·simp only [if_pos hp]; rfl
  ·simp only [if_neg hp]
   obtain ⟨i,p1,p2,p3,p4⟩:=yt hp
   simp only [bne_self_eq_false,Bool.false_eq_true,if_false,kf]
   cases (v.Events.length == 60) with
   | true=>rfl
   | false =>
    simp only [Bool.false_eq_true,if_false]
    rw [Za8 v (z8 hv),Option.bind_some,p1,YG (by omega),Ax]
    unfold YI
    rw [qP p2]
    simp only [Option.bind_some,Int.toNat_natCast]
    have hn:=Zbm (Jo v i) ⟨2,n,Vector.replicate 32 0⟩ (show v.Events.length ≤ 1000 by omega)
    unfold Jo at hn
    rw [hn]
    rfl
theorem JK (v : GVault) (hb : Wt.ln v) (n : Int) : Vm v n = some (Kq v n):=by
 unfold Vm Kq
 rw [Zbd v hb,Option.bind_some]
 cases hv : XJ v with
 | false=>rfl
 | true =>
  obtain ⟨h1,h2,h3,h4,h5,h6⟩:=T3 hv
  simp only [Bool.not_true,Bool.false_eq_true,if_false,if_true]
  rw [jF v n (by omega),Option.bind_some]
  by_cases hp : Tm v n < 0
  ·simp only [if_pos hp,hp,decide_true,if_true]; rfl
  ·simp only [if_neg hp,hp,decide_false,Bool.false_eq_true,if_false,kf]
   obtain ⟨i,p1,p2,p3,p4⟩:=yt hp
   cases (v.Events.length == 60) with
   | true=>rfl
   | false =>
    simp only [Bool.false_eq_true,if_false]
    have hnn : Xm ((i : Int) + 1 - i) = some ():=by unfold Xm; rw [if_pos (by omega)]
    rw [qS v (z8 hv),Option.bind_some,p1,YG (by omega),hnn,Option.bind_some,Zbj (by omega),qw p2]
    have hl1 : (v.Records.take i).length ≤ 1000:=by simp; omega
    have hl2 : (v.Records.drop (i + 1)).length ≤ 1000:=by simp; omega
    simp only [Option.bind_some]
    rw [XK (by simp; omega),Option.bind_some,XK (by simp; omega)]
    simp only [Option.bind_some,Int.toNat_natCast,List.nil_append]
    have hn:=kO (Jo v i) 2 n (Vector.replicate 32 0) (show v.Events.length ≤ 1000 by omega)
    unfold Jo at hn
    rw [hn]
    rfl
theorem wt_cut (l : List GRecord) (i : Nat) : Wt.wt (l.take i ++ l.drop (i + 1)) ≤ Wt.wt l:=by
 rw [T1,T1]
 have h : ((l.take i ++ l.drop (i + 1)).map Wt.wt).sum ≤ (l.map Wt.wt).sum ∧ (l.take i ++ l.drop (i + 1)).length ≤ l.length:=by
  induction l generalizing i with
  | nil=>simp
  | cons x l ih =>
   cases i with
   | zero=>simp
   | succ i=>have:=ih i; simp only [List.take_succ_cons,List.drop_succ_cons,List.cons_append,List.map_cons,List.sum_cons,List.length_cons]; omega
 omega
theorem qr (v : GVault) (n : Int) (hw : Wt.wt v ≤ 1048576) : Wt.wt (Kq v n).1 ≤ 1049000:=by
 have hz:=qY
 unfold Kq
 split
 ·split
  ·simp only [hz]; omega
  ·split
   ·simp only [hz]; omega
   ·simp only [ql]
    unfold Jo
    rw [Kp] at hw ⊢
    have h1:=wt_cut v.Records (Tm v n).toNat
    simp only
    omega
 ·simp only [hz]; omega
theorem qI (v : GVault) (n : Int) (hl : Wt.ln v) : Wt.ln (Kq v n).1:=by
 unfold Kq
 cases hv : XJ v with
 | false=>exact BT
 | true =>
  obtain ⟨h1,h2,h3,h4,h5,h6⟩:=T3 hv
  simp only [if_true]
  split
  ·exact BT
  ·split
   ·exact BT
   ·refine qJ _ ⟨hl.1,⟨by simp [Jo]; omega,fun x hx=>?_⟩,hl.2.2⟩ (by show v.Events.length ≤ 1000; omega)
    refine hl.2.1.2 x ?_
    rcases List.mem_append.1 hx with hx | hx
    ·exact List.mem_of_mem_take hx
    ·exact List.mem_of_mem_drop hx
theorem Ki (v : GVault) (n : Int) (h : Dat.bd v) (_ : Dat.bd n) : XR v n = some true:=by
 unfold XR
 refine Za6 (ku v (Wt.bdln v h)) (by omega) (by omega) fun r _ _ hw=>?_
 have hw : Wt.wt v ≤ 1048576:=by omega
 have hl:=Wt.wtln v hw
 have hz:=qr v n hw
 have hln:=qI v n hl
 have hle:=Af v
 have hle2:=Af (Kq v n).1
 obtain ⟨x',m1⟩:=yj v hl 1 (by omega) (by omega)
 obtain ⟨y',m2,m3⟩:=yX (Kq v n).1 hln 1 (by omega) (by omega)
 have e1 : ¬ ((1 : Int) + (Te v : Nat) < 0):=by omega
 have e2 : ¬ ((1 : Int) + (Te (Kq v n).1 : Nat) < 0):=by omega
 simp [kL v hw,JK v hl,JZ v hl,zl v hl,zl _ hln,m1,m2,m3,e1,e2]
end Go.Proofs.YtpibglnacohdkaaGreat
