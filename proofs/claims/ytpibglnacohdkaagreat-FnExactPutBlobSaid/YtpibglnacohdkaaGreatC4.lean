/- Plain laws, no program in sight. -/
import Derived.Test.YtpibglnacohdkaaGreatC3
set_option linter.unusedVariables false
set_option linter.unusedSimpArgs false
set_option maxRecDepth 20000
set_option maxHeartbeats 400000
namespace Go.Proofs.YtpibglnacohdkaaGreat
open Go
open Flat (enc)
theorem Hy {α : Type} {l : List α} {i : Nat} (h : i < l.length) : idx l (i : Int) = some l[i]:=by
 unfold idx
 rw [if_pos (by omega)]
 simp
theorem Xh {i : Nat} (h : i < 9223372036854775807) : wr ((i : Int) + 1) = ((i + 1 : Nat) : Int):=by
 rw [YS (by omega)]; rfl

section
variable {S T : Type} {f : S → Option (Fl S T)}
theorem qq (g : Nat → S) (m n : Nat) (hmn : m ≤ n) (h : ∀ i, m ≤ i → i < n → f (g i) = some (.nx (g (i + 1)))) : ZA f (g m) = ZA f (g n) := by
  induction n with
  | zero => have : m = 0 := by omega
            subst this; rfl
  | succ n ih =>
    rcases Nat.lt_or_ge m (n + 1) with h1 | h1
    · rw [ih (by omega) (fun i h2 h3 => h i h2 (by omega)), XP (h n (by omega) (by omega))]
    · have : m = n + 1 := by omega
      subst this; rfl
theorem Z0 (g : Nat → S) (m n : Nat) (hmn : m ≤ n) {t : T} (h : ∀ i,m ≤ i → i < n → f (g i) = some (.nx (g (i + 1)))) (he : f (g n) = some (.ex t)) : ZA f (g m) = some t:=by
 rw [qq g m n hmn h,Xe he]
theorem JP (g : Nat → S) (p : Nat → Bool) (t : Nat → T) {e : T} (n : Nat) : ∀ (k m : Nat),m + k = n → (∀ i,m ≤ i → i < n → f (g i) = some (if p i then .ex (t i) else .nx (g (i + 1)))) → f (g n) = some (.ex e) →
  ZA f (g m) = some (((List.range' m k).find? p).elim e t)
 | 0,m,hk,_,he=>by
  have : m = n:=by omega
  subst this
  rw [Xe he]; rfl
 | k + 1,m,hk,h,he=>by
  have h1:=h m (Nat.le_refl _) (by omega)
  rw [List.range'_succ,List.find?_cons]
  cases hp : p m with
  | true=>rw [hp] at h1; rw [Xe h1]; rfl
  | false =>
   rw [hp] at h1
   rw [XP h1,JP g p t n k (m + 1) (by omega) (fun i h2 h3=>h i (by omega) h3) he]
end

theorem zd {T : Type} {f : Int → Option (Fl Int (Fl Unit T))} (p : Nat → Bool) {t : T} {n m : Nat} (hm : m ≤ n)
  (h : ∀ i,m ≤ i → i < n → f (i : Int) = some (if p i then .ex (.ex t) else .nx ((i + 1 : Nat) : Int))) (he : f (n : Int) = some (.ex (.nx ()))) :
  ZA f (m : Int) = some (if (List.range' m (n - m)).any p then .ex t else .nx ()):=by
 rw [JP (fun i : Nat=>(i : Int)) p (fun _=>.ex t) n (n - m) m (by omega) h he]
 cases hf : (List.range' m (n - m)).find? p with
 | none =>
  have : (List.range' m (n - m)).any p = false:=by
   rw [List.any_eq_false]
   rw [List.find?_eq_none] at hf
   exact hf
  rw [this]; rfl
 | some i =>
  have : (List.range' m (n - m)).any p = true:=by
   rw [List.any_eq_true]
   exact ⟨i,List.mem_of_find?_eq_some hf,List.find?_some hf⟩
  rw [this]; rfl
class Wt (α : Type) [Dat α] where
 wt : α → Nat
 ln : α → Prop
 bdln : ∀ x,Dat.bd x → ln x
 wtln : ∀ x,wt x ≤ 1048576 → ln x
instance : Wt Int:=⟨fun _=>0,fun _=>True,fun _ _=>trivial,fun _ _=>trivial⟩
instance : Wt UInt8:=⟨fun _=>0,fun _=>True,fun _ _=>trivial,fun _ _=>trivial⟩
instance : Wt Bool:=⟨fun _=>0,fun _=>True,fun _ _=>trivial,fun _ _=>trivial⟩
instance : Wt Str:=⟨fun s=>s.l.length,fun s=>s.l.length ≤ 9223372036854775807,fun _ h=>h,fun _ h=>by omega⟩
instance {n : Nat} : Wt (Vector UInt8 n):=⟨fun _=>0,fun _=>True,fun _ _=>trivial,fun _ _=>trivial⟩
instance {n m : Nat} : Wt (Vector (Vector UInt8 m) n):=⟨fun _=>0,fun _=>True,fun _ _=>trivial,fun _ _=>trivial⟩
theorem je {α : Type} {f : α → Nat} {l : List α} {x : α} (h : x ∈ l) : f x ≤ (l.map f).sum:=by
 induction l with
 | nil=>cases h
 | cons y l ih =>
  rw [List.map_cons,List.sum_cons]
  rcases List.mem_cons.1 h with rfl | h
  ·omega
  ·have:=ih h; omega
instance {α : Type} [Dat α] [Wt α] : Wt (List α):=⟨fun l=>l.length + (l.map Wt.wt).sum,fun l=>l.length ≤ 9223372036854775807 ∧ ∀ x ∈ l,Wt.ln x,fun _ h=>⟨h.1,fun x hx=>Wt.bdln x (h.2 x hx)⟩,
 fun l h=>⟨by omega,fun x hx=>Wt.wtln x (by have:=je (f:=Wt.wt) hx; omega)⟩⟩
instance {α β : Type} [Dat α] [Dat β] [Wt α] [Wt β] : Wt (α × β):=⟨fun x=>Wt.wt x.1 + Wt.wt x.2,fun x=>Wt.ln x.1 ∧ Wt.ln x.2,fun x h=>⟨Wt.bdln x.1 h.1,Wt.bdln x.2 h.2⟩,fun x h=>⟨Wt.wtln x.1 (by omega),Wt.wtln x.2 (by omega)⟩⟩
theorem TO {α : Type} [Dat α] [Wt α] (l : List α) : Wt.wt l = l.length + (l.map Wt.wt).sum:=rfl
theorem wt_mem {α : Type} [Dat α] [Wt α] {l : List α} {x : α} (h : x ∈ l) : Wt.wt x ≤ (l.map Wt.wt).sum:=je h
theorem kV {α : Type} [Dat α] [Wt α] {l : List α} {x : α} (h : x ∈ l) : Wt.wt x ≤ Wt.wt l:=by
 have:=wt_mem h; rw [TO]; omega
theorem Bo {α : Type} [Dat α] [Wt α] (l : List α) : l.length ≤ Wt.wt l:=by rw [TO]; omega
theorem UJ {α : Type} [Dat α] [Wt α] {l : List α} (h : Wt.ln l) : l.length ≤ 9223372036854775807:=h.1
theorem AN {α : Type} [Dat α] [Wt α] {l : List α} {x : α} (h : Wt.ln l) (hx : x ∈ l) : Wt.ln x:=h.2 x hx

theorem Ke {α β : Type} (p0 : List α) (c : α → Option β) (g : α → β) (by_ : Nat) (z : β) (L : List β × Int → Option (Fl (List β × Int) (List β)))
  (hL : ∀ s,L s = if (decide (s.2 < (p0.length : Int))) = true then ((idx p0 s.2).bind fun x=>(c x).bind fun r=>(idx s.1 s.2).bind fun _=>some (Fl.nx ((s.1.set (s.2).toNat r),wr (s.2 + 1)))) else (some (Fl.ex s.1)))
  (hc : ∀ x ∈ p0,c x = some (g x)) (hl : p0.length * by_ ≤ 140737488355328) (hl' : p0.length < 9223372036854775807) :
  ((mkS by_ z (p0.length : Int)).bind fun l1=>(ZA L (l1,0) : Option (List β)).bind fun j=>some j) = some (p0.map g):=by
 have hm : mkS by_ z (p0.length : Int) = some (List.replicate p0.length z):=by
  have h3 : ((p0.length * by_ : Nat) : Int) ≤ ((140737488355328 : Nat) : Int):=Int.ofNat_le.2 hl
  rw [Int.natCast_mul] at h3
  unfold mkS
  rw [if_pos ⟨by omega,h3⟩,Int.toNat_natCast]
 rw [hm]
 simp only [Option.bind_some]
 have hrun:=Z0 (f:=L) (fun i : Nat=>((p0.take i).map g ++ List.replicate (p0.length - i) z,(i : Int))) 0 p0.length (Nat.zero_le _) (t:=p0.map g) (fun i _ hi=>by
  rw [hL]
  simp only [Int.ofNat_lt,hi,decide_true,if_true,Hy hi,Option.bind_some,hc _ (List.getElem_mem hi)]
  rw [Hy (by simp; omega)]
  simp only [Option.bind_some,Xh (show i < 9223372036854775807 by omega),Int.toNat_natCast]
  congr 3
  rw [List.set_append_right _ _ (by simp; omega)]
  have e1 : p0.length - i = (p0.length - (i + 1)) + 1:=by omega
  have e2 : i - ((p0.take i).map g).length = 0:=by simp; omega
  rw [e1,List.replicate_succ,e2,List.set_cons_zero]
  rw [List.take_succ_eq_append_getElem hi,List.map_append,List.append_assoc]
  rfl) (by
  rw [hL]
  simp)
 simp at hrun
 simp [hrun]

theorem Hz {α : Type} (p0 : List α) (ne : α → α → Option Bool) (L : Int → Option (Fl Int (Fl Unit Bool)))
  (hL : ∀ s,L s = if (decide (s < (p0.length : Int))) = true then (((idx p0 s).bind fun x=>(idx p0 s).bind fun y=>ne x y : Option Bool).bind fun j=>if j = true then (some (Fl.ex (Fl.ex false))) else (some (Fl.nx (wr (s + 1))))) else (some (Fl.ex (Fl.nx ()))))
  (hn : ∀ x ∈ p0,ne x x = some false) (hl : p0.length ≤ 9223372036854775807) :
  (if ((p0.length : Int) != (p0.length : Int)) = true then (some false) else ((ZA L 0 : Option (Fl Unit Bool)).bind fun j2=>j2.el (fun _=>some true) (fun r=>some r))) = some true:=by
 have:=Z0 (f:=L) (fun i : Nat=>(i : Int)) 0 p0.length (Nat.zero_le _) (t:=.nx ()) (fun i _ hi=>by
  rw [hL]
  simp only [Int.ofNat_lt,hi,decide_true,if_true,Hy hi,Option.bind_some,hn _ (List.getElem_mem hi)]
  simp [Xh (show i < 9223372036854775807 by omega)]) (by
  rw [hL]; simp)
 have h2 : ZA L 0 = some (.nx ()):=this
 simp [h2,Fl.el]

def Tu {α : Type} [Dat α] [Wt α] (f : α → Int → Option Int) (x : α) : Prop:=∀ left : Int,0 ≤ left → left ≤ 1048576 → ∃ r,f x left = some r ∧ r ≤ 1048576 ∧ (0 ≤ r → r + Wt.wt x ≤ left)
theorem Kz {α : Type} [Dat α] [Wt α] {l : List α} (h0 : ∀ x : α,Wt.wt x = 0) (f : List α → Int → Option Int)
  (hf : ∀ left,f l left = if (decide ((wr (left - (l.length : Int))) < 0)) = true then (some (-1)) else (some (wr (left - (l.length : Int))))) (hl : l.length ≤ 9223372036854775807) : Tu f l:=by
 intro left h1 h2
 have hs : (l.map Wt.wt).sum = 0:=by
  clear hf hl
  induction l with
  | nil=>rfl
  | cons x l ih=>rw [List.map_cons,List.sum_cons,h0,ih]
 have hw : Wt.wt l = l.length:=by rw [TO,hs]; rfl
 rw [hf,YS (by omega),hw]
 by_cases h : left - (l.length : Int) < 0
 ·exact ⟨-1,by simp [h],by omega,by omega⟩
 ·exact ⟨left - l.length,by simp [h],by omega,by omega⟩
theorem yc {α : Type} [Dat α] [Wt α] {p0 : List α} (f : List α → Int → Option Int) (c : α → Int → Option Int) (L : Int × Int → Option (Fl (Int × Int) (Fl Int Int)))
  (hL : ∀ s,L s = if (decide (s.2 < (p0.length : Int))) = true then ((idx p0 s.2).bind fun x=>(c x s.1).bind fun r=>if (decide (r < 0)) = true then (some (Fl.ex (Fl.ex (-1)))) else (some (Fl.nx (r,wr (s.2 + 1))))) else (some (Fl.ex (Fl.nx s.1))))
  (hf : ∀ left,f p0 left = if (decide ((wr (left - (p0.length : Int))) < 0)) = true then (some (-1)) else ((ZA L (wr (left - (p0.length : Int)),0) : Option (Fl Int Int)).bind fun j2=>j2.el (fun s=>some s) (fun r=>some r)))
  (hl : p0.length ≤ 9223372036854775807) (hc : ∀ x ∈ p0,Tu c x) : Tu f p0:=by
 intro left h1 h2
 rw [hf,YS (by omega)]
 by_cases h : left - (p0.length : Int) < 0
 ·exact ⟨-1,by simp [h],by omega,by omega⟩
 simp only [h,decide_false,Bool.false_eq_true,if_false]
 have key : ∀ (k m : Nat) (a : Int),m + k = p0.length → 0 ≤ a → a ≤ 1048576 → ∃ o : Fl Int Int,ZA L (a,(m : Int)) = some o ∧ ((o = .ex (-1)) ∨ ∃ r,o = .nx r ∧ 0 ≤ r ∧ r + (((p0.drop m).map Wt.wt).sum : Nat) ≤ a):=by
  intro k
  induction k with
  | zero =>
   intro m a hm h0 h3
   have : m = p0.length:=by omega
   subst this
   refine ⟨.nx a,?_,.inr ⟨a,rfl,h0,?_⟩⟩
   ·rw [Xe (t:=.nx a)]; rw [hL]; simp
   ·simp
  | succ k ih =>
   intro m a hm h0 h3
   have hi : m < p0.length:=by omega
   obtain ⟨r,e1,e2,e3⟩:=hc _ (List.getElem_mem hi) a h0 h3
   have hst : L (a,(m : Int)) = (if (decide (r < 0)) = true then (some (Fl.ex (Fl.ex (-1)))) else (some (Fl.nx (r,((m + 1 : Nat) : Int))))):=by
    rw [hL]
    simp only [Int.ofNat_lt,hi,decide_true,if_true,Hy hi,Option.bind_some,e1,Xh (show m < 9223372036854775807 by omega)]
   by_cases hr : r < 0
   ·simp only [hr,decide_true,if_true] at hst
    exact ⟨_,Xe hst,.inl rfl⟩
   ·simp only [hr,decide_false,Bool.false_eq_true,if_false] at hst
    obtain ⟨o,k1,k2⟩:=ih (m + 1) r (by omega) (by omega) e2
    refine ⟨o,by rw [XP hst]; exact k1,k2.imp id ?_⟩
    rintro ⟨q,rfl,q1,q2⟩
    refine ⟨q,rfl,q1,?_⟩
    have e3:=e3 (by omega)
    rw [List.drop_eq_getElem_cons hi,List.map_cons,List.sum_cons]
    omega
 obtain ⟨o,k1,k2⟩:=key p0.length 0 (left - p0.length) (by omega) (by omega) (by omega)
 have k1' : ZA L (left - (p0.length : Int),0) = some o:=k1
 rw [k1']
 rcases k2 with rfl | ⟨r,rfl,q1,q2⟩
 ·exact ⟨-1,rfl,by omega,by omega⟩
 ·refine ⟨r,rfl,by omega,fun _=>?_⟩
  rw [List.drop_zero] at q2
  rw [TO]; omega
@[simp] theorem Yg {α : Type} (l : List α) (i : Nat) : idx l (i : Int) = l[i]?:=by unfold idx; simp
@[simp] theorem idx_zero {α : Type} (l : List α) : idx l (0 : Int) = l[0]?:=Yg l 0
theorem za {T : Type} {f : Int → Option (Fl Int (Fl Unit T))} (n : Nat) (p : Nat → Bool) (t : T) (hn : n < 9223372036854775807)
  (h : ∀ i,i < n → f (i : Int) = some (if p i then .ex (.ex t) else .nx (wr ((i : Int) + 1)))) (he : f (n : Int) = some (.ex (.nx ()))) (m : Nat) (hm : m ≤ n) :
  ZA f (m : Int) = some (if (List.range' m (n - m)).any p then .ex t else .nx ()) :=
 zd p hm (fun i _ hi=>by rw [h i hi,Xh (by omega)]) he
theorem js {T : Type} {f : Int → Option (Fl Int (Fl Unit T))} (n : Nat) (p : Nat → Bool) (t : T) (hn : n < 9223372036854775807) (m : Nat) (hm : m ≤ n)
  (h : ∀ i,m ≤ i → i < n → f (i : Int) = some (if p i then .ex (.ex t) else .nx (wr ((i : Int) + 1)))) (he : f (n : Int) = some (.ex (.nx ()))) :
  ZA f (m : Int) = some (if (List.range' m (n - m)).any p then .ex t else .nx ()) :=
 zd p hm (fun i hmi hi=>by rw [h i hmi hi,Xh (by omega)]) he
theorem Jl {α β S T : Type} {f : S → Option (Fl S T)} (l : List α) (pack : β → Int → S) (g : β → α → β) (b0 : β) {t : T} (hn : l.length < 9223372036854775807)
  (h : ∀ i (hi : i < l.length),f (pack ((l.take i).foldl g b0) (i : Int)) = some (.nx (pack (g ((l.take i).foldl g b0) l[i]) (wr ((i : Int) + 1))))) (he : f (pack (l.foldl g b0) (l.length : Int)) = some (.ex t)) :
  ZA f (pack b0 0) = some t:=by
 have:=Z0 (f:=f) (fun i : Nat=>pack ((l.take i).foldl g b0) (i : Int)) 0 l.length (Nat.zero_le _) (t:=t) (fun i _ hi=>by
  rw [h i hi,Xh (by omega)]
  congr 3
  rw [List.take_succ_eq_append_getElem hi,List.foldl_append]; rfl) (by rw [List.take_length]; exact he)
 simpa using this
theorem BI {α β : Type} (g : α → β) (l : List α) (acc : List β) : l.foldl (fun b x=>b ++ [g x]) acc = acc ++ l.map g:=by
 induction l generalizing acc with
 | nil=>simp
 | cons x l ih=>simp [ih]
theorem zn {α β T : Type} {f : List β × Int → Option (Fl (List β × Int) T)} (l : List α) (g : α → β) {t : T} (hn : l.length < 9223372036854775807)
  (h : ∀ i (hi : i < l.length),f ((l.take i).map g,(i : Int)) = some (.nx ((l.take i).map g ++ [g l[i]],wr ((i : Int) + 1)))) (he : f (l.map g,(l.length : Int)) = some (.ex t)) :
  ZA f ([],0) = some t:=by
 have e : ∀ m : List α,m.foldl (fun b x=>b ++ [g x]) [] = m.map g:=fun m=>by rw [BI]; rfl
 exact Jl (f:=f) l (fun b i=>(b,i)) (fun b x=>b ++ [g x]) [] hn (fun i hi=>by simp only [e]; exact h i hi) (by simp only [e]; exact he)
theorem XD {α : Type} {by_ : Nat} {l m : List α} (h : (l.length + m.length) * by_ ≤ 140737488355328) : app by_ l m = some (l ++ m):=by unfold app; rw [if_pos h]
theorem AG {α : Type} {l : List α} {i j : Nat} (h : i ≤ j) (h2 : j ≤ l.length) : slc l (i : Int) (j : Int) = some ((l.take j).drop i):=by
 unfold slc; rw [if_pos (by omega)]; simp

theorem Tm {α : Type} {n : Nat} {v w : Vector α n} (h : ∀ i (hi : i < n),v[i] = w[i]) : v = w:=Vector.ext h
@[simp] theorem Wq {α : Type} {n : Nat} (v : Vector α n) (i : Nat) : ZI v (i : Int) = v[i]?:=by unfold ZI; simp
theorem kr {n : Nat} (p0 : Vector UInt8 n) (L : Vector UInt8 n × Int → Option (Fl (Vector UInt8 n × Int) (Vector UInt8 n)))
  (hL : ∀ s,L s = if decide (s.2 < (n : Int)) = true then ((ZI p0 s.2).bind fun x=>(ZI s.1 s.2).bind fun _=>some (Fl.nx (s.1.setIfInBounds (s.2).toNat x,wr (s.2 + 1)))) else (some (Fl.ex s.1))) (hn : n < 9223372036854775807) (z : Vector UInt8 n) :
  ZA L (z,0) = some p0:=by
 have:=Z0 (f:=L) (fun i : Nat=>(Vector.ofFn fun j : Fin n=>if j.1 < i then p0[j] else z[j],(i : Int))) 0 n (Nat.zero_le _) (t:=p0) (fun i _ hi=>by
  rw [hL]
  simp only [Int.ofNat_lt,hi,decide_true,if_true,Wq,Vector.getElem?_eq_getElem hi,Option.bind_some,Int.toNat_natCast,Xh (show i < 9223372036854775807 by omega)]
  congr 3
  apply Tm
  intro j hj
  rw [Vector.getElem_setIfInBounds]
  simp only [Vector.getElem_ofFn,Fin.getElem_fin]
  by_cases h : i = j
  ·subst h; simp
  ·by_cases h2 : j < i
   ·simp [h,h2,show j < i + 1 by omega]
   ·simp [h,h2,show ¬ j < i + 1 by omega]) (by
  rw [hL]
  simp only [Int.ofNat_lt,Nat.lt_irrefl,decide_false,Bool.false_eq_true,if_false]
  congr 2
  apply Tm
  intro j hj
  simp [hj])
 have h0 : (Vector.ofFn fun j : Fin n=>if j.1 < 0 then p0[j] else z[j]) = z:=by
  apply Tm
  intro j hj
  simp
 rw [h0] at this
 exact this
theorem eq_arr {n : Nat} (p0 : Vector UInt8 n) (L : Int → Option (Fl Int (Fl Unit Bool)))
  (hL : ∀ s,L s = if decide (s < (n : Int)) = true then (((ZI p0 s).bind fun x=>(ZI p0 s).bind fun y=>some (x != y) : Option Bool).bind fun j=>if j = true then (some (Fl.ex (Fl.ex false))) else (some (Fl.nx (wr (s + 1))))) else (some (Fl.ex (Fl.nx ())))) (hn : n < 9223372036854775807) :
  ((ZA L 0 : Option (Fl Unit Bool)).bind fun j5=>j5.el (fun _=>some true) (fun r=>some r)) = some true:=by
 have:=Z0 (f:=L) (fun i : Nat=>(i : Int)) 0 n (Nat.zero_le _) (t:=.nx ()) (fun i _ hi=>by
  rw [hL]
  simp only [Int.ofNat_lt,hi,decide_true,if_true,Wq,Vector.getElem?_eq_getElem hi,Option.bind_some]
  simp [Xh (show i < 9223372036854775807 by omega)]) (by rw [hL]; simp)
 have h2 : ZA L 0 = some (.nx ()):=this
 rw [h2]; rfl

def JV (n : Nat) (k : Int) : Vector UInt8 n:=Vector.ofFn fun j=>ZG (k + j)
theorem wr_k {k : Int} (h : 0 ≤ k) (h2 : k < 9223372036854775807) : wr (k + 1) = k + 1:=YS (by omega)
theorem zo {α : Type} {n : Nat} (get : α → Vector UInt8 n) (put : α → Vector UInt8 n → α) (i : Nat) (I : Int) (hI : I = i) (L : List α × Int × Int → Option (Fl (List α × Int × Int) (List α × Int)))
  (hL : ∀ s,L s = if decide (s.2.2 < (n : Int)) = true then ((idx s.1 I).bind fun x=>(ZI (get x) s.2.2).bind fun _=>some (Fl.nx (s.1.set (I).toNat (put x ((get x).setIfInBounds (s.2.2).toNat (ZG s.2.1))),wr (s.2.1 + 1),wr (s.2.2 + 1)))) else (some (Fl.ex (s.1,s.2.1))))
  (hgp : ∀ x v,get (put x v) = v) (hpp : ∀ x v w,put (put x v) w = put x w) (hpg : ∀ x,put x (get x) = x) (hn : n < 9223372036854775807)
  (l : List α) (hi : i < l.length) (k : Int) (h0 : 0 ≤ k) (hk : k + n ≤ 4611686018427387904) : ZA L (l,k,0) = some (l.set i (put l[i] (JV n k)),k + n):=by
 subst hI
 have:=Z0 (f:=L) (fun j : Nat=>(l.set i (put l[i] (Vector.ofFn fun q : Fin n=>if q.1 < j then ZG (k + q) else (get l[i])[q])),k + j,(j : Int))) 0 n (Nat.zero_le _) (t:=(l.set i (put l[i] (JV n k)),k + n)) (fun j _ hj=>by
  rw [hL]
  have hi' : i < (l.set i (put l[i] (Vector.ofFn fun q : Fin n=>if q.1 < j then ZG (k + q) else (get l[i])[q]))).length:=by simpa using hi
  simp only [Int.ofNat_lt,hj,decide_true,if_true,Yg,Wq,List.getElem?_eq_getElem hi',Vector.getElem?_eq_getElem hj,Option.bind_some,Int.toNat_natCast,Xh (show j < 9223372036854775807 by omega),List.getElem_set_self,hgp,hpp,List.set_set]
  rw [wr_k (by omega) (by omega)]
  congr 3
  ·congr 2
   apply Tm
   intro q hq
   rw [Vector.getElem_setIfInBounds]
   simp only [Vector.getElem_ofFn,Fin.getElem_fin]
   by_cases h : j = q
   ·subst h; simp
   ·by_cases h2 : q < j
    ·simp [h,h2,show q < j + 1 by omega]
    ·simp [h,h2,show ¬ q < j + 1 by omega]
  ·congr 1
   omega) (by
  rw [hL]
  simp only [Int.ofNat_lt,Nat.lt_irrefl,decide_false,Bool.false_eq_true,if_false]
  have e : (Vector.ofFn fun q : Fin n=>if q.1 < n then ZG (k + q) else (get l[i])[q]) = JV n k:=by
   unfold JV
   apply Tm
   intro j hj
   simp [hj]
  rw [e])
 have h0' : (Vector.ofFn fun q : Fin n=>if q.1 < 0 then ZG (k + q) else (get l[i])[q]) = get l[i]:=by
  apply Tm
  intro j hj
  simp
 rw [h0',hpg,List.set_getElem_self] at this
 simpa using this
theorem ku {α : Type} {n : Nat} (get : α → Vector UInt8 n) (l : List α) (i : Nat) (I : Int) (hI : I = i) (L : Int × Int → Option (Fl (Int × Int) (Fl Int Int)))
  (hL : ∀ s,L s = if decide (s.2 < (n : Int)) = true then ((idx l I).bind fun x=>(ZI (get x) s.2).bind fun b=>if (b != (ZG s.1)) = true then (some (Fl.ex (Fl.ex (-1)))) else (some (Fl.nx (wr (s.1 + 1),wr (s.2 + 1))))) else (some (Fl.ex (Fl.nx s.1))))
  {x : α} (hx : l[i]? = some x) (k : Int) (h0 : 0 ≤ k) (hk : k + n ≤ 4611686018427387904) (hg : get x = JV n k) : ZA L (k,0) = some (.nx (k + n)):=by
 subst hI
 have:=Z0 (f:=L) (fun j : Nat=>(k + j,(j : Int))) 0 n (Nat.zero_le _) (t:=.nx (k + n)) (fun j _ hj=>by
  rw [hL]
  simp only [Int.ofNat_lt,hj,decide_true,if_true,Yg,Wq,hx,Vector.getElem?_eq_getElem hj,Option.bind_some,Xh (show j < 9223372036854775807 by omega)]
  rw [wr_k (by omega) (by omega)]
  have : (get x)[j] = ZG (k + j):=by simp [hg,JV]
  rw [this]
  simp only [bne_self_eq_false,Bool.false_eq_true,if_false]
  congr 3
  omega) (by rw [hL]; simp)
 simpa using this
def HU {α : Type} (Fm : α → Int → Option (α × Int)) (Fh : α → Int → Option Int) (x : α) (n : Nat) : Prop :=
 ∀ k : Int,0 ≤ k → k + n ≤ 4611686018427387904 → ∃ x',Fm x k = some (x',k + n) ∧ Fh x' k = some (k + n)
theorem Kc {α : Type} (Fm : List α → Int → Option (List α × Int)) (Fh : List α → Int → Option Int) (Lm : List α × Int × Int → Option (Fl (List α × Int × Int) (List α × Int))) (Lh : List α → Int × Int → Option (Fl (Int × Int) (Fl Int Int))) (mk : α → Nat)
  (hFm : ∀ l k,Fm l k = (ZA Lm (l,k,0) : Option (List α × Int)).bind fun j1=>some (j1.1,j1.2)) (hFh : ∀ l k,Fh l k = (ZA (Lh l) (k,0) : Option (Fl Int Int)).bind fun j1=>j1.el (fun s=>some s) (fun r=>some r))
  (l : List α) (hl : l.length ≤ 9223372036854775807)
  (hm : ∀ (l' : List α) (i : Nat) (k : Int) (hi : i < l'.length),l'[i] ∈ l → i < 9223372036854775807 → 0 ≤ k → k + mk l'[i] ≤ 4611686018427387904 → ∃ x',Lm (l',k,(i : Int)) = some (.nx (l'.set i x',k + mk l'[i],wr ((i : Int) + 1))) ∧
   ∀ (m : List α),m[i]? = some x' → Lh m (k,(i : Int)) = some (.nx (k + mk l'[i],wr ((i : Int) + 1))))
  (hme : ∀ (l' : List α) k,Lm (l',k,(l'.length : Int)) = some (.ex (l',k))) (hhe : ∀ (m : List α) k,Lh m (k,(m.length : Int)) = some (.ex (.nx k))) : HU Fm Fh l (l.map mk).sum:=by
 have aux : ∀ (n i : Nat) (l' : List α) (k : Int),i + n = l'.length → l'.length = l.length → l'.drop i = l.drop i → 0 ≤ k → k + (((l.drop i).map mk).sum : Nat) ≤ 4611686018427387904 →
   ∃ l'',ZA Lm (l',k,(i : Int)) = some (l'',k + (((l.drop i).map mk).sum : Nat)) ∧ l''.length = l'.length ∧ (∀ j,j < i → l''[j]? = l'[j]?) ∧ ZA (Lh l'') (k,(i : Int)) = some (.nx (k + (((l.drop i).map mk).sum : Nat))):=by
  intro n
  induction n with
  | zero =>
   intro i l' k hi hll hd h0 hk
   have hi : i = l'.length:=by omega
   subst hi
   have e : l.drop l'.length = []:=by rw [hll]; simp
   rw [e]
   refine ⟨l',?_,rfl,fun _ _=>rfl,?_⟩
   ·rw [Xe (hme l' k)]; simp
   ·rw [Xe (hhe l' k)]; simp
  | succ n ih =>
   intro i l' k hi hll hd h0 hk
   have hil : i < l'.length:=by omega
   have hil2 : i < l.length:=by omega
   have e1 : l'[i] = l[i]:=by
    have h1:=List.drop_eq_getElem_cons hil
    have h2:=List.drop_eq_getElem_cons hil2
    rw [h1,h2] at hd
    exact (List.cons.inj hd).1
   have e2 : l.drop i = l[i] :: l.drop (i + 1):=List.drop_eq_getElem_cons hil2
   rw [e2,List.map_cons,List.sum_cons] at hk ⊢
   obtain ⟨x',h1,h2⟩:=hm l' i k hil (by rw [e1]; exact List.getElem_mem hil2) (by omega) h0 (by rw [e1]; omega)
   rw [e1] at h1 h2
   rw [Xh (by omega)] at h1 h2
   obtain ⟨l'',k1,k2,k3,k4⟩:=ih (i + 1) (l'.set i x') (k + mk l[i]) (by simp; omega) (by simpa using hll) (by
    rw [List.drop_set_of_lt (by omega)]
    have h1:=List.drop_eq_getElem_cons hil
    rw [h1,e2] at hd
    exact (List.cons.inj hd).2) (by omega) (by omega)
   refine ⟨l'',?_,by simpa using k2,fun j hj=>?_,?_⟩
   ·rw [XP h1,k1]; congr 2; omega
   ·rw [k3 j (by omega),List.getElem?_set_ne (by omega)]
   ·rw [XP (h2 l'' (by rw [k3 i (by omega)]; simp [hil])),k4]; congr 2; omega
 intro k h0 hk
 obtain ⟨l'',k1,k2,k3,k4⟩:=aux l.length 0 l k (by omega) rfl rfl h0 (by simpa using hk)
 simp only [List.drop_zero] at k1 k4
 refine ⟨l'',?_,?_⟩
 ·rw [hFm]
  have : ZA Lm (l,k,0) = _:=k1
  rw [this]; rfl
 ·rw [hFh]
  have : ZA (Lh l'') (k,0) = _:=k4
  rw [this]; rfl
theorem JA {α : Type} [Dat α] [Wt α] (mk : α → Nat) (c : Nat) (h : ∀ x,mk x ≤ c * (1 + Wt.wt x)) (l : List α) : (l.map mk).sum ≤ c * Wt.wt l:=by
 rw [TO]
 induction l with
 | nil=>simp
 | cons x l ih =>
  have:=h x
  simp only [List.map_cons,List.sum_cons,List.length_cons]
  have e : c * (l.length + 1 + (Wt.wt x + (l.map Wt.wt).sum)) = c * (1 + Wt.wt x) + c * (l.length + (l.map Wt.wt).sum):=by
   rw [← Nat.mul_add]; congr 1; omega
  omega
theorem HK (l : List UInt8) : Wt.wt l = l.length:=by
 rw [TO]
 have : (l.map Wt.wt).sum = 0:=by
  induction l with
  | nil=>rfl
  | cons x l ih=>rw [List.map_cons,List.sum_cons,ih]; rfl
 omega
theorem yX (l : List Int) : Wt.wt l = l.length:=by
 rw [TO]
 have : (l.map Wt.wt).sum = 0:=by
  induction l with
  | nil=>rfl
  | cons x l ih=>rw [List.map_cons,List.sum_cons,ih]; rfl
 omega
theorem B5 (l : List UInt8) (h : Wt.wt l ≤ 1048576) : YZ l = some l:=by
 have:=Bo l
 unfold YZ
 have:=Ke l (fun x=>some x) id 1 0 (UU l) (fun s=>by unfold UU; rfl) (fun _ _=>rfl) (by omega) (by omega)
 simpa using this
theorem BN (l : List UInt8) (h : Wt.ln l) : WN l l = some true:=by
 unfold WN
 exact Hz l (fun x y=>some (x != y)) (UT l l) (fun s=>by unfold UT; rfl) (fun x _=>by simp) (UJ h)
theorem jy (l : List UInt8) (h : Wt.ln l) : Tu WJ l :=
 Kz (fun _=>rfl) WJ (fun left=>by unfold WJ; rfl) (UJ h)
theorem zW (l : List UInt8) (h : Wt.ln l) : HU Xc Vo l (l.map fun _=>1).sum :=
 Kc Xc Vo YV Va (fun _=>1) (fun _ _=>rfl) (fun _ _=>rfl) l (UJ h) (fun l' i k hi _ _ h0 hk=>by
  have e:=wr_k (k:=k) h0 (by omega)
  refine ⟨ZG k,?_,fun m hm=>?_⟩
  ·unfold YV
   simp only [Int.ofNat_lt,hi,decide_true,if_true,Yg,List.getElem?_eq_getElem hi,Option.bind_some,Int.toNat_natCast,e]; rfl
  ·have hi':=(List.getElem?_eq_some_iff.1 hm).1
   unfold Va
   simp only [Int.ofNat_lt,hi',decide_true,if_true,Yg,hm,Option.bind_some,bne_self_eq_false,Bool.false_eq_true,if_false,e]; rfl) (fun l' k=>by unfold YV; simp) (fun m k=>by unfold Va; simp)
theorem yF (l : List Int) (h : Wt.ln l) : VL l l = some true:=by
 unfold VL
 exact Hz l (fun x y=>some (x != y)) (UC l l) (fun s=>by unfold UC; rfl) (fun x _=>by simp) (UJ h)
theorem AZ (l : List Int) (h : Wt.ln l) : HU Xm W2 l (l.map fun _=>1).sum :=
 Kc Xm W2 YJ WH (fun _=>1) (fun _ _=>rfl) (fun _ _=>rfl) l (UJ h) (fun l' i k hi _ _ h0 hk=>by
  have e:=wr_k (k:=k) h0 (by omega)
  refine ⟨k,?_,fun m hm=>?_⟩
  ·unfold YJ
   simp only [Int.ofNat_lt,hi,decide_true,if_true,Yg,List.getElem?_eq_getElem hi,Option.bind_some,Int.toNat_natCast,e]; rfl
  ·have hi':=(List.getElem?_eq_some_iff.1 hm).1
   unfold WH
   simp only [Int.ofNat_lt,hi',decide_true,if_true,Yg,hm,Option.bind_some,bne_self_eq_false,Bool.false_eq_true,if_false,e]; rfl) (fun l' k=>by unfold YJ; simp) (fun m k=>by unfold WH; simp)
theorem yB (l : List (List UInt8)) (h : Wt.wt l ≤ 1048576) : VT l = some l:=by
 have:=Bo l
 unfold VT
 have:=Ke l YZ id 24 [] (UB l) (fun s=>by unfold UB; rfl) (fun x hx=>B5 x (Nat.le_trans (kV hx) h)) (by omega) (by omega)
 simpa using this
theorem yq (l : List (List UInt8)) (h : Wt.ln l) : VI l l = some true:=by
 unfold VI
 exact Hz l (fun x y=>(WN x y).bind fun r=>some (!r)) (UG l l) (fun s=>by unfold UG; rfl) (fun x hx=>by simp [BN x (AN h hx)]) (UJ h)
theorem yL (l : List (List UInt8)) (h : Wt.ln l) : Tu Wf l :=
 yc Wf WJ (Uy l) (fun s=>by unfold Uy; rfl) (fun left=>by unfold Wf; rfl) (UJ h) (fun x hx=>jy x (AN h hx))
theorem yu (x : Vector UInt8 32) : WY x = some x:=by
 unfold WY
 rw [kr x (Uv x) (fun s=>by unfold Uv; rfl) (by omega)]; rfl
theorem HL (x : Vector UInt8 32) : Y2 x x = some true:=by
 unfold Y2
 exact eq_arr x (Ux x x) (fun s=>by unfold Ux; rfl) (by omega)
theorem Bf {α β : Type} [Dat α] [Wt α] [Dat β] [Wt β] {f : α → Int → Option Int} {g : β → Int → Option Int} {x : α} {y : β} (hf : Tu f x) (hg : Tu g y) (left : Int) (h1 : 0 ≤ left) (h2 : left ≤ 1048576) :
  ∃ r,((f x left).bind fun r=>if decide (r < 0) = true then some (-1) else g y r) = some r ∧ r ≤ 1048576 ∧ (0 ≤ r → r + (Wt.wt x + Wt.wt y : Nat) ≤ left):=by
 obtain ⟨r,e1,e2,e3⟩:=hf left h1 h2
 rw [e1]
 by_cases hr : r < 0
 ·exact ⟨-1,by simp [hr],by omega,by omega⟩
 ·have e3:=e3 (by omega)
  obtain ⟨q,k1,k2,k3⟩:=hg r (by omega) e2
  refine ⟨q,by simp [hr,k1],k2,fun hq=>?_⟩
  have:=k3 hq
  omega
theorem jB {f : Option Int} {left w : Int} (h : ∃ r,f = some r ∧ r ≤ 1048576 ∧ (0 ≤ r → r + w ≤ left)) : ∃ r,(f.bind fun r=>if decide (r < 0) = true then some (-1) else some r) = some r ∧ r ≤ 1048576 ∧ (0 ≤ r → r + w ≤ left):=by
 obtain ⟨r,e1,e2,e3⟩:=h
 by_cases hr : r < 0
 ·exact ⟨-1,by simp [e1,hr],by omega,by omega⟩
 ·exact ⟨r,by simp [e1,hr],e2,e3⟩
def Jy {α : Type} (Fm : α → Int → Option (α × Int)) (x : α) (n : Nat) : Prop :=
 ∀ k : Int,0 ≤ k → k + n ≤ 4611686018427387904 → ∃ x',Fm x k = some (x',k + n)
theorem HC {α : Type} (Fm : List α → Int → Option (List α × Int)) (Lm : List α × Int × Int → Option (Fl (List α × Int × Int) (List α × Int))) (mk : α → Nat)
  (hFm : ∀ l k,Fm l k = (ZA Lm (l,k,0) : Option (List α × Int)).bind fun j1=>some (j1.1,j1.2)) (l : List α) (hl : l.length ≤ 9223372036854775807)
  (hm : ∀ (l' : List α) (i : Nat) (k : Int) (hi : i < l'.length),l'[i] ∈ l → i < 9223372036854775807 → 0 ≤ k → k + mk l'[i] ≤ 4611686018427387904 → ∃ x',Lm (l',k,(i : Int)) = some (.nx (l'.set i x',k + mk l'[i],wr ((i : Int) + 1))))
  (hme : ∀ (l' : List α) k,Lm (l',k,(l'.length : Int)) = some (.ex (l',k))) : Jy Fm l (l.map mk).sum:=by
 intro k h0 hk
 have aux : ∀ (n i : Nat) (l' : List α) (k : Int),i + n = l'.length → l'.length = l.length → l'.drop i = l.drop i → 0 ≤ k → k + (((l.drop i).map mk).sum : Nat) ≤ 4611686018427387904 →
   ∃ l'',ZA Lm (l',k,(i : Int)) = some (l'',k + (((l.drop i).map mk).sum : Nat)):=by
  intro n
  induction n with
  | zero =>
   intro i l' k hi hll hd h0 hk
   have hi : i = l'.length:=by omega
   subst hi
   have e : l.drop l'.length = []:=by rw [hll]; simp
   rw [e]
   exact ⟨l',by rw [Xe (hme l' k)]; simp⟩
  | succ n ih =>
   intro i l' k hi hll hd h0 hk
   have hil : i < l'.length:=by omega
   have hil2 : i < l.length:=by omega
   have h1:=List.drop_eq_getElem_cons hil
   have e2 : l.drop i = l[i] :: l.drop (i + 1):=List.drop_eq_getElem_cons hil2
   rw [h1,e2] at hd
   have e1:=(List.cons.inj hd).1
   rw [e2,List.map_cons,List.sum_cons] at hk ⊢
   obtain ⟨x',h1⟩:=hm l' i k hil (by rw [e1]; exact List.getElem_mem hil2) (by omega) h0 (by rw [e1]; omega)
   rw [e1,Xh (by omega)] at h1
   obtain ⟨l'',k1⟩:=ih (i + 1) (l'.set i x') (k + mk l[i]) (by simp; omega) (by simpa using hll) (by
    rw [List.drop_set_of_lt (by omega)]
    exact (List.cons.inj hd).2) (by omega) (by omega)
   exact ⟨l'',by rw [XP h1,k1]; congr 2; omega⟩
 obtain ⟨l'',k1⟩:=aux l.length 0 l k (by omega) rfl rfl h0 (by simpa using hk)
 simp only [List.drop_zero] at k1
 refine ⟨l'',?_⟩
 rw [hFm]
 have : ZA Lm (l,k,0) = _:=k1
 rw [this]; rfl
theorem J4 (l : List UInt8) (h : Wt.ln l) : Jy Xc l (l.map fun _=>1).sum :=
 HC Xc YV (fun _=>1) (fun _ _=>rfl) l (UJ h) (fun l' i k hi _ _ h0 hk=>by
  have e:=wr_k (k:=k) h0 (by omega)
  refine ⟨ZG k,?_⟩
  unfold YV
  simp only [Int.ofNat_lt,hi,decide_true,if_true,Yg,List.getElem?_eq_getElem hi,Option.bind_some,Int.toNat_natCast,e]; rfl) (fun l' k=>by unfold YV; simp)
theorem y7 (l : List UInt8) : (l.map fun _=>1).sum = l.length:=by
 induction l with
 | nil=>rfl
 | cons x l ih=>rw [List.map_cons,List.sum_cons,ih,List.length_cons]; omega
theorem jz (n a b : Int) : Uf n a b = some (decide (a ≤ n ∧ n ≤ b)):=by
 unfold Uf
 by_cases h1 : a ≤ n <;> by_cases h2 : n ≤ b <;> simp [h1,h2]
theorem qe {α : Type} [Dat α] [Wt α] {f : α → Int → Option Int} {x : α} {left : Int} {G : Int → Option Bool} (hf : Tu f x) (h1 : 0 ≤ left) (h2 : left ≤ 1048576) (hG : ∀ r,0 ≤ r → r ≤ 1048576 → r + (Wt.wt x : Nat) ≤ left → G r = some true) :
  ((f x left).bind fun r=>if decide (r < 0) = true then some true else G r) = some true:=by
 obtain ⟨r,e1,e2,e3⟩:=hf left h1 h2
 rw [e1]
 by_cases hr : r < 0
 ·simp [hr]
 ·have:=hG r (by omega) e2 (e3 (by omega))
  simp [hr,this]
theorem Jn (a : Nat) (h : a < 9223372036854775808) : (BitVec.ofInt 64 (a : Int)).toNat = a:=by
 rw [BitVec.toNat_ofInt]
 omega
theorem Q6 (a b : Nat) (ha : a < 9223372036854775808) (hb : b < 9223372036854775808) : JD (a : Int) (b : Int) = ((a ^^^ b : Nat) : Int):=by
 unfold JD
 rw [BitVec.toNat_xor,Jn a ha,Jn b hb]
 have : a ^^^ b < 2 ^ 63:=Nat.xor_lt_two_pow ha hb
 exact YS (by omega)
theorem kk (a b : Nat) (ha : a < 9223372036854775808) (hb : b < 9223372036854775808) : Hj (a : Int) (b : Int) = ((a &&& b : Nat) : Int):=by
 unfold Hj
 rw [BitVec.toNat_and,Jn a ha,Jn b hb]
 have : a &&& b < 2 ^ 63:=Nat.and_lt_two_pow _ hb
 exact YS (by omega)
theorem zg (a i : Nat) (hi : i ≤ 63) (h : a <<< i < 9223372036854775808) : BD (a : Int) (i : Int) = ((a <<< i : Nat) : Int):=by
 unfold BD
 rw [show min ((i : Int)).toNat 64 = i by omega]
 have : ((a : Int) * 2 ^ i) = ((a <<< i : Nat) : Int):=by rw [Nat.shiftLeft_eq]; simp
 rw [this]
 generalize a <<< i = x at h ⊢
 exact YS (by omega)
theorem zy (a i : Nat) (hi : i ≤ 63) : TJ (a : Int) (i : Int) = ((a >>> i : Nat) : Int):=by
 unfold TJ
 rw [show min ((i : Int)).toNat 64 = i by omega,Nat.shiftRight_eq_div_pow,Int.fdiv_eq_ediv_of_nonneg _ (by exact_mod_cast Nat.zero_le _)]
 simp
theorem AD (a i : Nat) : ((a >>> i) &&& 1 = 1) ↔ a.testBit i = true:=by
 rw [Nat.testBit,Nat.and_comm]
 have h:=Nat.and_one_is_mod (a >>> i)
 rw [Nat.and_comm] at h
 rw [h]
 rcases Nat.mod_two_eq_zero_or_one (a >>> i) with h | h <;> simp [h]
theorem ky (a : Nat) : Int.tmod (a : Int) 2 = ((a % 2 : Nat) : Int):=by
 rw [Int.tmod_eq_emod_of_nonneg (by omega)]; simp
theorem kG (a : Nat) : Int.tdiv (a : Int) 2 = ((a / 2 : Nat) : Int):=by
 rw [Int.tdiv_eq_ediv_of_nonneg (by omega)]; simp
theorem zC (a : Nat) (h : a < 9223372036854775808) : wr (a : Int) = (a : Int):=YS (by omega)
theorem yM (a : Nat) (h : a < 9223372036854775808) : IntKind.u64.wrap (a : Int) = (a : Int):=by
 simp only [IntKind.wrap,IntKind.bits,IntKind.signed]
 simp
 omega

def YL (m deg : Nat) : Nat → Nat → Nat
 | 0,a=>a
 | k + 1,a=>YL m deg k (if a.testBit (deg + k) then a ^^^ (m <<< k) else a)
theorem Q5 {m k n : Nat} (h : m < 2 ^ n) : m <<< k < 2 ^ (n + k):=by
 rw [Nat.shiftLeft_eq,Nat.pow_add]
 exact Nat.mul_lt_mul_of_pos_right h (Nat.two_pow_pos _)
theorem Ak {a n : Nat} (h : a < 2 ^ (n + 1)) (hb : a.testBit n = false) : a < 2 ^ n:=by
 apply Nat.lt_pow_two_of_testBit
 intro i hi
 rcases Nat.eq_or_lt_of_le hi with rfl | hi
 ·exact hb
 ·exact Nat.testBit_lt_two_pow (Nat.lt_of_lt_of_le h (Nat.pow_le_pow_right (by omega) hi))
theorem y5 {m d : Nat} (h1 : 2 ^ d ≤ m) (h2 : m < 2 ^ (d + 1)) : m.testBit d = true:=by
 rw [Nat.testBit,Nat.shiftRight_eq_div_pow]
 have : m / 2 ^ d = 1:=by
  apply Nat.div_eq_of_lt_le
  ·simpa using h1
  ·rw [Nat.pow_succ] at h2; omega
 rw [this]; rfl
theorem kR {m d k a : Nat} (h1 : 2 ^ d ≤ m) (h2 : m < 2 ^ (d + 1)) (ha : a < 2 ^ (d + (k + 1))) (hb : a.testBit (d + k) = true) : a ^^^ (m <<< k) < 2 ^ (d + k):=by
 have hm : m <<< k < 2 ^ (d + (k + 1)):=by have:=Q5 (k:=k) h2; rwa [show d + 1 + k = d + (k + 1) by omega] at this
 refine Ak (Nat.xor_lt_two_pow (by rwa [show d + k + 1 = d + (k + 1) by omega]) (by rwa [show d + k + 1 = d + (k + 1) by omega])) ?_
 rw [Nat.testBit_xor,hb,Nat.testBit_shiftLeft]
 simp [y5 h1 h2]
theorem Je {m d : Nat} (h1 : 2 ^ d ≤ m) (h2 : m < 2 ^ (d + 1)) : ∀ (k a : Nat),a < 2 ^ (d + k) → YL m d k a < 2 ^ d
 | 0,a,h=>by simpa [YL] using h
 | k + 1,a,h=>by
  unfold YL
  cases hb : a.testBit (d + k) with
  | true=>simp only [if_true]; exact Je h1 h2 k _ (kR h1 h2 h hb)
  | false=>simp only [Bool.false_eq_true,if_false]; exact Je h1 h2 k a (Ak h hb)
theorem TW (m d : Nat) : ∀ (k a b : Nat),YL m d k (a ^^^ b) = YL m d k a ^^^ YL m d k b
 | 0,_,_=>rfl
 | k + 1,a,b=>by
  simp only [YL]
  rw [Nat.testBit_xor]
  cases a.testBit (d + k) <;> cases b.testBit (d + k) <;> simp only [Bool.xor_false,Bool.false_xor,Bool.xor_self,Bool.xor_true,Bool.not_false,Bool.not_true,Bool.false_eq_true,if_true,if_false]
  ·exact TW m d k a b
  ·rw [Nat.xor_assoc]; exact TW m d k a _
  ·rw [← TW m d k]; congr 1; rw [Nat.xor_assoc,Nat.xor_comm b,← Nat.xor_assoc]
  ·rw [← TW m d k]; congr 1
   rw [Nat.xor_assoc,← Nat.xor_assoc (m <<< k),Nat.xor_comm (m <<< k) b,Nat.xor_assoc,Nat.xor_self,Nat.xor_zero]
theorem UD {m d : Nat} : ∀ (k a : Nat),a < 2 ^ d → YL m d k a = a
 | 0,_,_=>rfl
 | k + 1,a,h=>by
  unfold YL
  rw [Nat.testBit_lt_two_pow (Nat.lt_of_lt_of_le h (Nat.pow_le_pow_right (by omega) (by omega)))]
  simp only [Bool.false_eq_true,if_false]
  exact UD k a h
theorem Ab {m d k a : Nat} (h : a < 2 ^ (d + k)) : YL m d (k + 1) a = YL m d k a:=by
 conv=>lhs; unfold YL
 rw [Nat.testBit_lt_two_pow h]; rfl
theorem Qb (m d : Nat) : ∀ (k x : Nat),YL m d (k + 1) (x <<< 1) = (if ((YL m d k x) <<< 1).testBit d then ((YL m d k x) <<< 1) ^^^ m else (YL m d k x) <<< 1)
 | 0,x=>by simp [YL]
 | k + 1,x=>by
  conv=>lhs; unfold YL
  conv=>rhs; unfold YL
  have e : (x <<< 1).testBit (d + (k + 1)) = x.testBit (d + k):=by
   rw [Nat.testBit_shiftLeft]
   have : d + (k + 1) ≥ 1:=by omega
   simp only [this,decide_true,Bool.true_and]
   congr 1
  rw [e]
  cases x.testBit (d + k) with
  | false=>simp only [Bool.false_eq_true,if_false]; exact Qb m d k x
  | true =>
   simp only [if_true]
   have e2 : x <<< 1 ^^^ m <<< (k + 1) = (x ^^^ m <<< k) <<< 1:=by
    rw [Nat.shiftLeft_xor_distrib,← Nat.shiftLeft_add]
   rw [e2]
   exact Qb m d k _

def lenN (n : Nat) : Nat:=if n = 0 then 0 else n.log2 + 1
theorem v_rest (a m d : Nat) (hd : d ≤ 15) (ha : a < 2 ^ 16) (hm : m < 2 ^ 20) : U4 (a : Int) (m : Int) (d : Int) = some ((YL m d (16 - d) a : Nat) : Int):=by
 have key : ∀ (k a : Nat),d + k ≤ 16 → a < 2 ^ 40 → ZA (Uw (m : Int) (d : Int)) ((a : Int),((d + k : Nat) : Int) - 1) = some ((YL m d k a : Nat) : Int):=by
  intro k
  induction k with
  | zero =>
   intro a _ _
   rw [Xe (t:=(a : Int))]
   ·rfl
   ·unfold Uw
    have : ¬ (((d + 0 : Nat) : Int) - 1 ≥ (d : Int)):=by omega
    simp only [this,decide_false,Bool.false_eq_true,if_false]
  | succ k ih =>
   intro a hk ha
   have e0 : ((d + (k + 1) : Nat) : Int) - 1 = ((d + k : Nat) : Int):=by omega
   have hsh : m <<< k < 2 ^ (20 + k):=Q5 hm
   have hsh2 : m <<< k < 2 ^ 40:=Nat.lt_of_lt_of_le hsh (Nat.pow_le_pow_right (by omega) (by omega))
   have hst : Uw (m : Int) (d : Int) ((a : Int),((d + (k + 1) : Nat) : Int) - 1) = some (.nx (((if a.testBit (d + k) then a ^^^ (m <<< k) else a : Nat) : Int),((d + k : Nat) : Int) - 1)):=by
    rw [e0]
    unfold Uw
    have c1 : ((d + k : Nat) : Int) ≥ (d : Int):=by omega
    have c2 : XW ((d + k : Nat) : Int) = some ():=by unfold XW; rw [if_pos (by omega)]
    have c3 : wr (((d + k : Nat) : Int) - (d : Int)) = ((k : Nat) : Int):=by rw [show ((d + k : Nat) : Int) - (d : Int) = ((k : Nat) : Int) by omega,zC _ (by omega)]
    have c4 : XW ((k : Nat) : Int) = some ():=by unfold XW; rw [if_pos (by omega)]
    have c5 : wr (((d + k : Nat) : Int) - 1) = ((d + k : Nat) : Int) - 1:=YS (by omega)
    simp only [c1,decide_true,if_true,c2,c3,c4,c5,Option.bind_some]
    have c6 : Hj (TJ (a : Int) ((d + k : Nat) : Int)) 1 = (((a >>> (d + k)) &&& 1 : Nat) : Int):=by
     rw [zy a (d + k) (by omega)]
     exact kk _ 1 (Nat.lt_of_le_of_lt (Nat.shiftRight_le _ _) (by omega)) (by omega)
    rw [c6,zg m k (by omega) (by omega),Q6 a _ (by omega) (by omega)]
    cases hb : a.testBit (d + k) with
    | true =>
     have:=(AD a (d + k)).2 hb
     rw [this]; rfl
    | false =>
     have : ¬ ((a >>> (d + k)) &&& 1 = 1):=fun h=>by rw [(AD a (d + k)).1 h] at hb; cases hb
     have h2 : (((((a >>> (d + k)) &&& 1 : Nat) : Int)) == 1) = false:=by
      rw [beq_eq_false_iff_ne]; omega
     rw [h2]; rfl
   rw [XP hst,ih _ (by omega) ?_]
   ·conv=>rhs; unfold YL
   ·split
    ·exact Nat.xor_lt_two_pow ha hsh2
    ·exact ha
 unfold U4
 have:=key (16 - d) a (by omega) (by omega)
 rw [show ((d + (16 - d) : Nat) : Int) - 1 = 15 by omega] at this
 rw [this]; rfl

def K5 : Nat → Nat → Nat → Nat
 | 0,_,_=>0
 | n + 1,a,b=>(if b % 2 = 1 then a else 0) ^^^ K5 n (a <<< 1) (b / 2)
theorem JI : ∀ (n a : Nat),K5 n a 0 = 0
 | 0,_=>rfl
 | n + 1,a=>by simp [K5,JI n]
theorem jf : ∀ (n a b p : Nat),a < 2 ^ p → K5 n a b < 2 ^ (p + n)
 | 0,_,_,_,_=>by simp [K5]; exact Nat.two_pow_pos _
 | n + 1,a,b,p,h=>by
  unfold K5
  have h1 : a <<< 1 < 2 ^ (p + 1):=Q5 h
  have h2:=jf n (a <<< 1) (b / 2) (p + 1) h1
  rw [show p + 1 + n = p + (n + 1) by omega] at h2
  refine Nat.xor_lt_two_pow ?_ h2
  have h3 : 2 ^ p ≤ 2 ^ (p + (n + 1)):=Nat.pow_le_pow_right (by omega) (by omega)
  have h4:=Nat.two_pow_pos (p + (n + 1))
  split <;> omega
def prC : Nat → Nat → Nat → Nat
 | 0,_,_=>0
 | i + 1,a,b=>prC i a b ^^^ (if b.testBit i then a <<< i else 0)
theorem zk : ∀ (n a b : Nat),prC (n + 1) a b = (if b % 2 = 1 then a else 0) ^^^ prC n (a <<< 1) (b / 2)
 | 0,a,b=>by
  simp only [prC,Nat.zero_xor,Nat.xor_zero,Nat.shiftLeft_zero]
  have : b.testBit 0 = decide (b % 2 = 1):=by simp [Nat.testBit_zero]
  rw [this]; simp
 | n + 1,a,b=>by
  conv=>lhs; unfold prC
  rw [zk n a b]
  conv=>rhs; unfold prC
  rw [← Nat.xor_assoc]
  congr 1
  rw [Nat.testBit_succ,← Nat.shiftLeft_add,Nat.add_comm 1 n]
theorem km : ∀ (n a b : Nat),prC n a b = K5 n a b
 | 0,_,_=>rfl
 | n + 1,a,b=>by rw [zk,km n]; rfl
theorem yn (a b : Nat) (h : a < 256) : ∀ i,i ≤ 8 → prC i a b < 2 ^ 16
 | 0,_=>by simp [prC]
 | i + 1,hi=>by
  unfold prC
  have h1 : a <<< i < 2 ^ (8 + i):=Q5 h
  have h2 : 2 ^ (8 + i) ≤ 2 ^ 16:=Nat.pow_le_pow_right (by omega) (by omega)
  refine Nat.xor_lt_two_pow (yn a b h i (by omega)) ?_
  split
  ·omega
  ·omega
def Z1 (m : Nat) (a b : UInt8) : UInt8:=ZG ((YL m 8 8 (K5 8 a.toNat b.toNat) : Nat) : Int)
theorem UN (m : Nat) (hm : m < 512) (a b : UInt8) : Z3 (m : Int) a b = some (Z1 m a b):=by
 have ha : a.toNat < 256:=a.toNat_lt
 have hb : b.toNat < 256:=b.toNat_lt
 have h:=Z0 (f:=Xw a b) (fun i : Nat=>(((prC i a.toNat b.toNat : Nat) : Int),(i : Int))) 0 8 (Nat.zero_le _) (t:=((prC 8 a.toNat b.toNat : Nat) : Int)) (fun i _ hi=>by
  unfold Xw
  have c1 : ((i : Int) < 8):=by omega
  have c2 : XW (i : Int) = some ():=by unfold XW; rw [if_pos (by omega)]
  have c3 : prC i a.toNat b.toNat < 2 ^ 16:=yn _ _ ha i (by omega)
  have c4 : a.toNat <<< i < 2 ^ (8 + i):=Q5 ha
  have c5 : 2 ^ (8 + i) ≤ 2 ^ 16:=Nat.pow_le_pow_right (by omega) (by omega)
  have c6 : (((HR b (i : Int)) &&& 1) == 1) = b.toNat.testBit i:=by
   have e1 : (HR b (i : Int)).toNat = b.toNat >>> i:=by
    unfold HR ZG
    rw [show min ((i : Int)).toNat 8 = i by omega,Int.fdiv_eq_ediv_of_nonneg _ (by exact_mod_cast Nat.zero_le _)]
    have : ((b.toNat : Int) / 2 ^ i) = ((b.toNat >>> i : Nat) : Int):=by rw [Nat.shiftRight_eq_div_pow]; simp
    rw [this]
    have h3 : b.toNat >>> i ≤ b.toNat:=Nat.shiftRight_le _ _
    generalize b.toNat >>> i = q at h3 ⊢
    have h4 : (((q : Nat) : Int) % 256).toNat = q:=by omega
    rw [h4]
    simp
    omega
   rw [Bool.eq_iff_iff,beq_iff_eq,← AD,← UInt8.toNat_inj,UInt8.toNat_and,e1]
   simp
  simp only [c1,decide_true,if_true,c2,Option.bind_some,c6,Xh (show i < 9223372036854775807 by omega)]
  rw [zg _ i (by omega) (by omega),Q6 _ _ (by omega) (by omega)]
  cases hbit : b.toNat.testBit i with
  | true=>simp [prC,hbit]
  | false=>simp [prC,hbit]) (by unfold Xw; simp)
 have h2 : ZA (Xw a b) (0,0) = _:=h
 unfold Z3
 rw [h2]
 simp only [Option.bind_some]
 have h3:=v_rest (prC 8 a.toNat b.toNat) m 8 (by omega) (yn _ _ ha 8 (by omega)) (by omega)
 have h4 : U4 ((prC 8 a.toNat b.toNat : Nat) : Int) (m : Int) 8 = _:=h3
 rw [h4,km]
 rfl
theorem KL (m : Nat) (hm : m < 512) (hm2 : 256 ≤ m) (a b : UInt8) : YM (m : Int) a b = some (Z1 m a b):=by
 have ha : a.toNat < 256:=a.toNat_lt
 have hb : b.toNat < 256:=b.toNat_lt
 have h1 : 2 ^ 8 ≤ m:=hm2
 have h2 : m < 2 ^ (8 + 1):=hm
 have hR : ∀ i,i ≤ 8 → YL m 8 8 (a.toNat <<< i) < 256:=fun i hi=>Je h1 h2 8 _ (by
  have:=Q5 (k:=i) (show a.toNat < 2 ^ 8 from ha)
  exact Nat.lt_of_lt_of_le this (Nat.pow_le_pow_right (by omega) (by omega)))
 have hdbl : ∀ i,i ≤ 7 → YL m 8 8 (a.toNat <<< (i + 1)) = if 256 ≤ (YL m 8 8 (a.toNat <<< i)) * 2 then (YL m 8 8 (a.toNat <<< i)) * 2 ^^^ m else (YL m 8 8 (a.toNat <<< i)) * 2:=by
  intro i hi
  have hx : a.toNat <<< i < 2 ^ (8 + 7):=Nat.lt_of_lt_of_le (Q5 (show a.toNat < 2 ^ 8 from ha)) (Nat.pow_le_pow_right (by omega) (by omega))
  have e : a.toNat <<< (i + 1) = (a.toNat <<< i) <<< 1:=by rw [← Nat.shiftLeft_add]
  rw [e,Qb m 8 7,← Ab hx]
  have hlt:=hR i (by omega)
  generalize YL m 8 8 (a.toNat <<< i) = y at hlt ⊢
  have e2 : y <<< 1 = y * 2:=by rw [Nat.shiftLeft_eq]
  rw [e2]
  have e3 : (y * 2).testBit 8 = decide (256 ≤ y * 2):=by
   by_cases hy : 256 ≤ y * 2
   ·rw [y5 (d:=8) hy (by omega)]; simp [hy]
   ·rw [Nat.testBit_lt_two_pow (by omega : y * 2 < 2 ^ 8)]; simp [hy]
  rw [e3]
  by_cases hy : 256 ≤ y * 2 <;> simp [hy]
 have key : ∀ (n i o r : Nat),i + n ≤ 8 → r < 2 ^ n → o < 256 → ZA (Xb (m : Int)) ((o : Int),((YL m 8 8 (a.toNat <<< i) : Nat) : Int),(r : Int)) = some ((o ^^^ YL m 8 8 (K5 n (a.toNat <<< i) r) : Nat) : Int):=by
  intro n
  induction n with
  | zero =>
   intro i o r _ hr ho
   have : r = 0:=by simpa using hr
   subst this
   rw [Xe (t:=(o : Int))]
   ·rw [JI,UD 8 0 (by omega),Nat.xor_zero]
   ·unfold Xb; simp
  | succ n ih =>
   intro i o r hi hr ho
   by_cases h0 : r = 0
   ·subst h0
    rw [Xe (t:=(o : Int))]
    ·rw [JI,UD 8 0 (by omega),Nat.xor_zero]
    ·unfold Xb; simp
   ·have hy:=hR i (by omega)
    have hst : Xb (m : Int) ((o : Int),((YL m 8 8 (a.toNat <<< i) : Nat) : Int),(r : Int)) = some (.nx (((o ^^^ YL m 8 8 (if r % 2 = 1 then a.toNat <<< i else 0) : Nat) : Int),((YL m 8 8 (a.toNat <<< (i + 1)) : Nat) : Int),((r / 2 : Nat) : Int))):=by
     rw [hdbl i (by omega)]
     unfold Xb
     have c1 : (r : Int) > 0:=by omega
     have hr2 : r < 512:=Nat.lt_of_lt_of_le hr (Nat.le_trans (Nat.pow_le_pow_right (by omega) (by omega : n + 1 ≤ 9)) (by omega))
     simp only [c1,decide_true,if_true,ky,kG]
     have e1 : wr (((YL m 8 8 (a.toNat <<< i) : Nat) : Int) * 2) = (((YL m 8 8 (a.toNat <<< i)) * 2 : Nat) : Int):=by rw [YS (by omega)]; omega
     have e2 : wr ((r / 2 : Nat) : Int) = ((r / 2 : Nat) : Int):=zC _ (by omega)
     rw [e1,e2,Q6 _ _ (by omega) (by omega),Q6 _ _ (by omega) (by omega)]
     have e3 : ((((r % 2 : Nat) : Int)) == 1) = decide (r % 2 = 1):=by
      rw [Bool.eq_iff_iff,beq_iff_eq,decide_eq_true_eq]; omega
     rw [e3]
     have e4 : decide ((((YL m 8 8 (a.toNat <<< i)) * 2 : Nat) : Int) ≥ 256) = decide (256 ≤ (YL m 8 8 (a.toNat <<< i)) * 2):=by rw [decide_eq_decide]; omega
     rw [e4]
     have e5 : YL m 8 8 0 = 0:=UD 8 0 (by omega)
     by_cases c2 : r % 2 = 1 <;> by_cases c3 : 256 ≤ (YL m 8 8 (a.toNat <<< i)) * 2 <;> simp only [c2,c3,decide_true,decide_false,Bool.false_eq_true,if_true,if_false,Option.bind_some,e5,Nat.xor_zero]
    rw [XP hst,ih (i + 1) _ (r / 2) (by omega) (by rw [Nat.pow_succ] at hr; omega) ?_]
    ·conv=>rhs; unfold K5
     rw [TW,Nat.xor_assoc,Nat.shiftLeft_add]
    ·refine Nat.xor_lt_two_pow (n:=8) ho ?_
     split
     ·exact hR i (by omega)
     ·rw [UD 8 0 (by omega)]; omega
 have:=key 8 0 0 b.toNat (by omega) hb (by omega)
 rw [Nat.shiftLeft_zero,UD 8 a.toNat ha,Nat.zero_xor] at this
 have h3 : ZA (Xb (m : Int)) (0,bI a,bI b) = _:=this
 unfold YM
 rw [h3]
 rfl

def J6 (m : Nat) : Nat → UInt8 → Nat → UInt8 → UInt8
 | 0,_,_,o=>o
 | f + 1,a,k,o=>if k = 0 then o else J6 m f (Z1 m a a) (k / 2) (if k % 2 = 1 then Z1 m o a else o)
theorem zl (m : Nat) (L : UInt8 × Int × UInt8 → Option (Fl (UInt8 × Int × UInt8) UInt8)) (T : UInt8 → UInt8 → Option UInt8) (hT : ∀ a b,T a b = some (Z1 m a b))
  (hL : ∀ s,L s = if (decide (s.2.1 > 0)) = true then (((if ((Int.tmod s.2.1 2) == 1) = true then ((T s.2.2 s.1).bind fun r=>some r) else (some s.2.2) : Option UInt8).bind fun j12=>(T s.1 s.1).bind fun r20=>some (r20,j12) : Option (UInt8 × UInt8)).bind fun j9=>some (Fl.nx (j9.1,wr (Int.tdiv s.2.1 2),j9.2))) else (some (Fl.ex s.2.2))) :
  ∀ (f k : Nat) (a o : UInt8),k < 2 ^ f → f ≤ 62 → ZA L (a,(k : Int),o) = some (J6 m f a k o):=by
 intro f
 induction f with
 | zero =>
  intro k a o hk _
  have : k = 0:=by simpa using hk
  subst this
  exact Xe (by rw [hL]; simp [J6])
 | succ f ih =>
  intro k a o hk hf
  by_cases h0 : k = 0
  ·subst h0
   exact Xe (by rw [hL]; simp [J6])
  ·have hlt : k < 9223372036854775808:=Nat.lt_of_lt_of_le hk (Nat.pow_le_pow_right (by omega : 0 < 2) (by omega : f + 1 ≤ 63))
   have hst : L (a,(k : Int),o) = some (.nx (Z1 m a a,((k / 2 : Nat) : Int),if k % 2 = 1 then Z1 m o a else o)):=by
    rw [hL]
    have c1 : (k : Int) > 0:=by omega
    have e3 : ((((k % 2 : Nat) : Int)) == 1) = decide (k % 2 = 1):=by
     rw [Bool.eq_iff_iff,beq_iff_eq,decide_eq_true_eq]; omega
    simp only [c1,decide_true,if_true,ky,kG,hT,e3,Option.bind_some,zC (k / 2) (by omega)]
    by_cases c2 : k % 2 = 1 <;> simp [c2]
   rw [XP hst,ih (k / 2) _ _ (by rw [Nat.pow_succ] at hk; omega) (by omega)]
   conv=>rhs; unfold J6
   rw [if_neg h0]
theorem BJ (m : Nat) (hm : m < 512) (a : UInt8) (k f : Nat) (hk : k < 2 ^ f) (hf : f ≤ 62) : XK (m : Int) a (k : Int) = some (J6 m f a k 1):=by
 unfold XK
 rw [zl m (Vj (m : Int)) _ (UN m hm) (fun s=>by unfold Vj; rfl) f k a 1 hk hf]; rfl
theorem yk (m : Nat) (hm : m < 512) (hm2 : 256 ≤ m) (a : UInt8) (k f : Nat) (hk : k < 2 ^ f) (hf : f ≤ 62) : WW (m : Int) a (k : Int) = some (J6 m f a k 1):=by
 unfold WW
 rw [zl m (UF (m : Int)) _ (KL m hm hm2) (fun s=>by unfold UF; rfl) f k a 1 hk hf]; rfl
def T6 (m : Nat) (a : UInt8) : UInt8:=J6 m 8 a 254 1
theorem QM (m : Nat) (hm : m < 512) (a : UInt8) : Yh (m : Int) a = some (T6 m a):=by
 unfold Yh
 have:=BJ m hm a 254 8 (by omega) (by omega)
 have h2 : XK (m : Int) a 254 = _:=this
 rw [h2]; rfl
theorem jP (m : Nat) (hm : m < 512) (hm2 : 256 ≤ m) (a : UInt8) : Vb (m : Int) a = some (T6 m a):=by
 unfold Vb
 have:=yk m hm hm2 a 254 8 (by omega) (by omega)
 have h2 : WW (m : Int) a 254 = _:=this
 rw [h2]; rfl

def redB (m d : Nat) : Bool:=YL d (lenN d - 1) (16 - (lenN d - 1)) m == 0
def KV (m : Int) : Bool:=decide (256 ≤ m ∧ m ≤ 511) && !((List.range' 2 30).any (redB m.toNat))
theorem zD {m : Int} (h : KV m = true) : ∃ n : Nat,m = n ∧ 256 ≤ n ∧ n < 512:=by
 unfold KV at h
 simp only [Bool.and_eq_true,decide_eq_true_eq] at h
 exact ⟨m.toNat,by omega,by omega,by omega⟩
def kp (l : List UInt8) : Bool:=decide l.Nodup
def dbl (m y : Nat) : Nat:=if (y <<< 1).testBit 8 then (y <<< 1) ^^^ m else y <<< 1
theorem zq (a b c d : Nat) : (a ^^^ b) ^^^ (c ^^^ d) = (a ^^^ c) ^^^ (b ^^^ d):=by
 rw [Nat.xor_assoc,Nat.xor_assoc,← Nat.xor_assoc b,← Nat.xor_assoc c,Nat.xor_comm b c]
theorem yZ (m x y : Nat) : dbl m (x ^^^ y) = dbl m x ^^^ dbl m y:=by
 unfold dbl
 rw [Nat.shiftLeft_xor_distrib,Nat.testBit_xor]
 cases (x <<< 1).testBit 8 <;> cases (y <<< 1).testBit 8 <;> simp only [Bool.xor_false,Bool.false_xor,Bool.xor_self,Bool.xor_true,Bool.not_false,Bool.not_true,Bool.false_eq_true,if_true,if_false]
 ·rw [Nat.xor_assoc]
 ·rw [Nat.xor_assoc,Nat.xor_assoc,Nat.xor_comm m]
 ·rw [zq,Nat.xor_self,Nat.xor_zero]
theorem Bc (m : Nat) : dbl m 0 = 0:=by simp [dbl]
def opP (m : Nat) : Nat → Nat → Nat → Nat
 | 0,_,_=>0
 | n + 1,b,x=>(if b % 2 = 1 then x else 0) ^^^ opP m n (b / 2) (dbl m x)
theorem z9 (m n b x : Nat) : opP m (n + 1) b x = (if b % 2 = 1 then x else 0) ^^^ opP m n (b / 2) (dbl m x):=rfl
theorem A1 (m : Nat) : ∀ (n b x y : Nat),opP m n b (x ^^^ y) = opP m n b x ^^^ opP m n b y
 | 0,_,_,_=>by simp [opP]
 | n + 1,b,x,y=>by
  unfold opP
  rw [yZ,A1 m n,zq]
  congr 1
  split <;> simp
theorem KS (m : Nat) : ∀ (n b : Nat),opP m n b 0 = 0
 | 0,_=>rfl
 | n + 1,b=>by unfold opP; rw [Bc,KS m n]; simp
theorem yU (m : Nat) : ∀ (n b x : Nat),opP m n b (dbl m x) = dbl m (opP m n b x)
 | 0,_,_=>(Bc m).symm
 | n + 1,b,x=>by
  unfold opP
  rw [yU m n,yZ]
  congr 1
  split
  ·rfl
  ·exact (Bc m).symm
theorem zJ (m : Nat) : ∀ (n b k c x : Nat),opP m n b (opP m k c x) = opP m k c (opP m n b x)
 | 0,_,k,c,_=>(KS m k c).symm
 | n + 1,b,k,c,x=>by
  rw [z9,z9,← yU,zJ m n,A1]
  congr 1
  split
  ·rfl
  ·exact (KS m k c).symm
theorem jr (a : Nat) : (if a % 2 = 1 then 1 else 0) ^^^ (a / 2) <<< 1 = a:=by
 rw [Nat.shiftLeft_eq]
 have h : (if a % 2 = 1 then 1 else 0) = a % 2:=by split <;> omega
 rw [h]
 apply Nat.eq_of_testBit_eq
 intro i
 rw [Nat.testBit_xor]
 cases i with
 | zero =>
  simp [Nat.testBit_zero]
 | succ i =>
  rw [Nat.testBit_succ,Nat.testBit_succ,Nat.testBit_succ]
  have h1 : a % 2 / 2 = 0:=by omega
  have h2 : a / 2 * 2 ^ 1 / 2 = a / 2:=by omega
  rw [h1,h2]; simp
theorem qg (m i : Nat) (hi : i < 7) : dbl m (1 <<< i) = 1 <<< (i + 1):=by
 unfold dbl
 rw [← Nat.shiftLeft_add]
 have : (1 <<< (i + 1)).testBit 8 = false:=by
  apply Nat.testBit_lt_two_pow
  rw [Nat.shiftLeft_eq,Nat.one_mul]
  exact Nat.pow_lt_pow_right (by omega) (by omega)
 rw [this]; rfl
theorem AE (m : Nat) : ∀ (n i a : Nat), n + i ≤ 8 → a < 2 ^ n → opP m n a (1 <<< i) = a <<< i
  | 0, i, a, _, ha => by
    have : a = 0 := by simpa using ha
    subst this; simp [opP]
  | n + 1, i, a, hn, ha => by
    have e : a <<< i = (if a % 2 = 1 then 1 <<< i else 0) ^^^ (a / 2) <<< (i + 1) := by
      conv => lhs; rw [← jr a]
      rw [Nat.shiftLeft_xor_distrib, ← Nat.shiftLeft_add, Nat.add_comm 1 i]
      congr 1
      split <;> simp
    unfold opP
    rw [e]
    congr 1
    rcases Nat.eq_zero_or_pos n with rfl | hp
    · have : a / 2 = 0 := by have : a < 2 := by simpa using ha
                             omega
      rw [this]; simp [opP]
    · rw [qg m i (by omega)]
      exact AE m n (i + 1) (a / 2) (by omega) (by rw [Nat.pow_succ] at ha; omega)

theorem jj (m x : Nat) (hx : x < 2 ^ 15) : YL m 8 8 (x <<< 1) = dbl m (YL m 8 8 x):=by
 rw [Qb m 8 7,← Ab (d:=8) (k:=7) hx]; rfl
theorem kw (m : Nat) : ∀ (n i a b : Nat),i + n ≤ 8 → a < 2 ^ 8 → YL m 8 8 (K5 n (a <<< i) b) = opP m n b (YL m 8 8 (a <<< i))
 | 0,_,_,_,_,_=>by simp [K5,opP,UD 8 0]
 | n + 1,i,a,b,hn,ha=>by
  unfold K5 opP
  rw [TW]
  have hx : a <<< i < 2 ^ 15:=Nat.lt_of_lt_of_le (Q5 ha) (Nat.pow_le_pow_right (by omega) (by omega))
  rw [← jj m _ hx,← Nat.shiftLeft_add,kw m n (i + 1) a (b / 2) (by omega) ha]
  congr 1
  split
  ·rfl
  ·exact UD 8 0 (by omega)
theorem TV (m : Nat) (h1 : 256 ≤ m) (h2 : m < 512) (a b : UInt8) : (Z1 m a b).toNat = opP m 8 b.toNat a.toNat:=by
 have ha : a.toNat < 2 ^ 8:=a.toNat_lt
 have hr : YL m 8 8 (K5 8 a.toNat b.toNat) < 256:=Je (d:=8) h1 h2 8 _ (jf 8 a.toNat b.toNat 8 ha)
 have e:=kw m 8 0 a.toNat b.toNat (by omega) ha
 rw [Nat.shiftLeft_zero,UD 8 _ ha] at e
 unfold Z1 ZG
 rw [e] at hr ⊢
 generalize opP m 8 b.toNat a.toNat = q at hr ⊢
 have : (((q : Nat) : Int) % 256).toNat = q:=by omega
 rw [this]
 simp
 omega
section
variable {m : Nat} (h1 : 256 ≤ m) (h2 : m < 512)
include h1 h2
theorem QI (a b : UInt8) : Z1 m a b = Z1 m b a:=by
 apply UInt8.toNat_inj.1
 rw [TV m h1 h2,TV m h1 h2]
 have ea:=AE m 8 0 a.toNat (by omega) a.toNat_lt
 have eb:=AE m 8 0 b.toNat (by omega) b.toNat_lt
 simp only [Nat.shiftLeft_zero] at ea eb
 rw [← ea,zJ,eb,ea]
theorem jv (a b c : UInt8) : Z1 m (a ^^^ b) c = Z1 m a c ^^^ Z1 m b c:=by
 apply UInt8.toNat_inj.1
 rw [UInt8.toNat_xor,TV m h1 h2,TV m h1 h2,TV m h1 h2,UInt8.toNat_xor,A1]
theorem yG (a b c : UInt8) : Z1 m a (b ^^^ c) = Z1 m a b ^^^ Z1 m a c:=by
 rw [QI h1 h2,jv h1 h2,QI h1 h2 b,QI h1 h2 c]
theorem KD (a : UInt8) : Z1 m 0 a = 0:=by
 apply UInt8.toNat_inj.1
 rw [TV m h1 h2]
 exact KS m 8 _
end
def vf {α : Type} (n : Nat) (f : Nat → α) : Vector α n:=Vector.ofFn fun i=>f i.1
theorem QH {α : Type} {n i : Nat} (f : Nat → α) (h : i < n) : (vf n f)[i] = f i:=by simp [vf]
theorem Jh {α : Type} {n i : Nat} (f : Nat → α) (h : i < n) : (vf n f)[i]? = some (f i):=by rw [Vector.getElem?_eq_getElem h,QH f h]
theorem ZT {α : Type} {n i : Nat} (f : Nat → α) (h : i < n) : ZI (vf n f) (i : Int) = some (f i):=by rw [Wq,Jh f h]
theorem Y7 {α : Type} {n : Nat} {f g : Nat → α} (h : ∀ i,i < n → f i = g i) : vf n f = vf n g:=by
 apply Tm
 intro i hi
 rw [QH f hi,QH g hi,h i hi]
theorem Tf {α : Type} {n : Nat} (f : Nat → α) (k : Nat) (x : α) : (vf n f).setIfInBounds k x = vf n (fun i=>if i = k then x else f i):=by
 apply Tm
 intro i hi
 rw [Vector.getElem_setIfInBounds,QH _ hi,QH _ hi]
 by_cases h : k = i
 ·subst h; simp
 ·rw [if_neg h,if_neg (fun e=>h e.symm)]
theorem UZ {α : Type} (n : Nat) (x : α) : Vector.replicate n x = vf n (fun _=>x):=by
 apply Tm
 intro i hi
 rw [QH _ hi]; simp
theorem yW {α : Type} [Inhabited α] {n : Nat} (v : Vector α n) : v = vf n (fun i=>v[i]?.getD default):=by
 apply Tm
 intro i hi
 rw [QH _ hi,Vector.getElem?_eq_getElem hi]; rfl
abbrev Mat:=Vector (Vector UInt8 4) 4
def mf (f : Nat → Nat → UInt8) : Mat:=vf 4 fun i=>vf 4 (f i)
theorem WQ {f g : Nat → Nat → UInt8} (h : ∀ i,i < 4 → ∀ j,j < 4 → f i j = g i j) : mf f = mf g:=Y7 fun i hi=>Y7 fun j hj=>h i hi j hj
theorem UE {i : Nat} (f : Nat → Nat → UInt8) (h : i < 4) : ZI (mf f) (i : Int) = some (vf 4 (f i)):=ZT _ h
theorem Kw (f : Nat → Nat → UInt8) (k : Nat) (g : Nat → UInt8) : (mf f).setIfInBounds k (vf 4 g) = mf (fun i j=>if i = k then g j else f i j):=by
 unfold mf
 rw [Tf]
 apply Y7
 intro i hi
 by_cases h : i = k
 ·simp [h]
 ·simp [h]
theorem Am : Vector.replicate 4 (Vector.replicate 4 (0 : UInt8)) = mf (fun _ _=>0):=by rw [UZ 4 (0 : UInt8),UZ]; rfl
theorem lt4 {i : Nat} (h : i < 4) : decide ((i : Int) < 4) = true:=by simp; omega
theorem lt4' {i : Nat} (h : ¬ i < 4) : decide ((i : Int) < 4) = false:=by simp; omega
theorem wr4 {i : Nat} (h : i < 1000) : wr ((i : Int) + 1) = ((i + 1 : Nat) : Int):=Xh (by omega)

def KW (i j : Nat) : UInt8:=if i = j then 1 else 0
theorem jk (L : Mat × Int → Option (Fl (Mat × Int) Mat))
  (hL : ∀ s8,L s8 = if (decide (s8.2 < 4)) = true then ((ZI s8.1 s8.2).bind fun (x14 : (Vector UInt8 4))=>(ZI x14 s8.2).bind fun (x17 : UInt8)=>some (Fl.nx ((s8.1.setIfInBounds (s8.2).toNat (x14.setIfInBounds (s8.2).toNat 1)),wr (s8.2 + 1)))) else (some (Fl.ex s8.1))) :
  ZA L (Vector.replicate 4 (Vector.replicate 4 (0 : UInt8)),0) = some (mf KW):=by
 have:=Z0 (f:=L) (fun i : Nat=>(mf fun r c=>if r < i then KW r c else 0,(i : Int))) 0 4 (by omega) (t:=mf KW) (fun i _ hi=>by
  rw [hL]
  simp only [lt4 hi,if_true,UE _ hi,ZT _ hi,Option.bind_some,Int.toNat_natCast,Tf,Kw,wr4 (show i < 1000 by omega)]
  congr 3
  apply WQ
  intro r hr c hc
  by_cases h1 : r = i
  ·subst h1; simp [KW,eq_comm]
  ·simp only [h1,if_false]
   by_cases h2 : r < i
   ·rw [if_pos h2,if_pos (by omega)]
   ·rw [if_neg h2,if_neg (by omega)]) (by
  rw [hL]
  simp only [lt4' (show ¬ 4 < 4 by omega),Bool.false_eq_true,if_false]
  exact congrArg (fun z=>some (Fl.ex z)) (WQ fun r hr c hc=>by rw [if_pos hr]))
 rw [Am]
 simpa using this
theorem KP : W6 = some (mf KW):=by
 unfold W6
 rw [jk U1 fun s=>rfl]; rfl

abbrev MF:=Nat → Nat → UInt8
def Kl (f : MF) (k : Nat) : Nat:=((List.range' k (4 - k)).find? fun i=>!(f i k == 0)).getD 4
def kg (f : MF) (i k : Nat) : MF:=fun r c=>if r = k then f i c else if r = i then f k c else f r c
def AC (m : Nat) (f : MF) (k : Nat) (by_ : UInt8) : MF:=fun r c=>if r = k then Z1 m (f k c) by_ else f r c
def V4 (m : Nat) (f g : MF) (k : Nat) : MF:=fun r c=>if r = k then g r c else g r c ^^^ Z1 m (f r k) (g k c)
structure Red where
 a : MF
 b : MF
 det : UInt8
def Ji (m : Nat) (s : Red) (k : Nat) : Option Red :=
 let i:=Kl s.a k
 if i = 4 then none else
  let f:=kg s.a i k
  let g:=kg s.b i k
  let q:=T6 m (f k k)
  let f2:=AC m f k q
  let g2:=AC m g k q
  some ⟨V4 m f2 f2 k,V4 m f2 g2 k,Z1 m s.det (f k k)⟩
def K2 (m : Nat) : Nat → Nat → Red → Option Red
 | 0,_,s=>some s
 | n + 1,k,s=>(Ji m s k).bind (K2 m n (k + 1))
def Hu (m : Nat) (a : MF) : UInt8 × Mat:=match K2 m 4 0 ⟨a,KW,1⟩ with
 | some s=>(s.det,mf s.b)
 | none=>(0,mf fun _ _=>0)
theorem yA (L : Int → Option (Fl Int Int)) (f : MF) (k : Nat) (hk : k < 4)
  (hL : ∀ s,L s = (if (decide (s < 4)) = true then ((ZI (mf f) s).bind fun (x30 : (Vector UInt8 4))=>(ZI x30 (k : Int)).bind fun (x33 : UInt8)=>some (x33 == 0)) else (some false) : Option (Bool)).bind fun (j25 : Bool)=>if j25 = true then (some (Fl.nx (wr (s + 1)))) else (some (Fl.ex s))) :
  ZA L (k : Int) = some ((Kl f k : Nat) : Int):=by
 have:=JP (f:=L) (fun i : Nat=>(i : Int)) (fun i=>!(f i k == 0)) (fun i=>(i : Int)) (e:=(4 : Int)) 4 (4 - k) k (by omega) (fun i _ hi=>by
  rw [hL]
  simp only [lt4 hi,if_true,UE _ hi,ZT _ hk,Option.bind_some]
  cases h : (f i k == 0)
  ·simp
  ·simp [wr4 (show i < 1000 by omega)]) (by rw [hL]; simp)
 rw [this]
 unfold Kl
 cases (List.range' k (4 - k)).find? fun i=>!(f i k == 0) <;> rfl
theorem kM {f : MF} {k : Nat} (h : Kl f k ≠ 4) : Kl f k < 4:=by
 unfold Kl at h ⊢
 cases hf : (List.range' k (4 - k)).find? fun i=>!(f i k == 0) with
 | none=>rw [hf] at h; exact absurd rfl h
 | some i =>
  have:=List.mem_range'_1.1 (List.mem_of_find?_eq_some hf)
  simp only [Option.getD_some]
  omega
theorem BS (L : Mat × Mat × Int → Option (Fl (Mat × Mat × Int) (Mat × Mat))) (f g : MF) (k : Nat) (hk : k < 4) (p q : Nat → UInt8)
  (hL : ∀ c,c < 4 → ∀ a b : MF,(∀ r,r ≠ k → a r = f r) → (∀ r,r ≠ k → b r = g r) → a k c = f k c → b k c = g k c → L (mf a,mf b,(c : Int)) = some (Fl.nx ((mf a).setIfInBounds k ((vf 4 (a k)).setIfInBounds c (p c)),(mf b).setIfInBounds k ((vf 4 (b k)).setIfInBounds c (q c)),wr ((c : Int) + 1))))
  (he : ∀ a b : Mat,L (a,b,4) = some (Fl.ex (a,b))) :
  ZA L (mf f,mf g,0) = some (mf (fun r c=>if r = k then p c else f r c),mf (fun r c=>if r = k then q c else g r c)):=by
 have k1 : (mf fun r c=>if r = k then (if c < 4 then p c else f k c) else f r c) = mf fun r c=>if r = k then p c else f r c:=WQ fun r _ c hc=>by rw [if_pos hc]
 have k2 : (mf fun r c=>if r = k then (if c < 4 then q c else g k c) else g r c) = mf fun r c=>if r = k then q c else g r c:=WQ fun r _ c hc=>by rw [if_pos hc]
 have:=Z0 (f:=L) (fun i : Nat=>(mf fun r c=>if r = k then (if c < i then p c else f k c) else f r c,mf fun r c=>if r = k then (if c < i then q c else g k c) else g r c,(i : Int))) 0 4 (by omega)
  (t:=(mf (fun r c=>if r = k then p c else f r c),mf (fun r c=>if r = k then q c else g r c))) (fun i _ hi=>by
  rw [hL i hi _ _ (fun r hr=>by funext c; rw [if_neg hr]) (fun r hr=>by funext c; rw [if_neg hr]) (by simp) (by simp)]
  simp only [Tf,Kw,wr4 (show i < 1000 by omega)]
  congr 3
  ·apply WQ
   intro r hr c hc
   by_cases h : r = k
   ·simp only [h,if_true]
    by_cases h2 : c = i
    ·subst h2; simp
    ·by_cases h3 : c < i
     ·rw [if_neg h2,if_pos h3,if_pos (by omega)]
     ·rw [if_neg h2,if_neg h3,if_neg (by omega)]
   ·simp only [h,if_false]
  ·congr 1
   apply WQ
   intro r hr c hc
   by_cases h : r = k
   ·simp only [h,if_true]
    by_cases h2 : c = i
    ·subst h2; simp
    ·by_cases h3 : c < i
     ·rw [if_neg h2,if_pos h3,if_pos (by omega)]
     ·rw [if_neg h2,if_neg h3,if_neg (by omega)]
   ·simp only [h,if_false]) (by
  simp only [k1,k2]
  exact he _ _)
 have e1 : mf (fun r c=>if r = k then (if c < 0 then p c else f k c) else f r c) = mf f:=WQ fun r hr c hc=>by
  by_cases h : r = k
  ·subst h; simp
  ·simp [h]
 have e2 : mf (fun r c=>if r = k then (if c < 0 then q c else g k c) else g r c) = mf g:=WQ fun r hr c hc=>by
  by_cases h : r = k
  ·subst h; simp
  ·simp [h]
 simp only [e1,e2] at this
 exact this
theorem zB {S : Type} (m : Nat) (L : S → Option (Fl S (Fl (Mat × UInt8) (UInt8 × Mat)))) (pk : Red → Nat → S)
  (hstep : ∀ k,k < 4 → ∀ s,L (pk s k) = some (match Ji m s k with | none=>.ex (.ex (0,mf fun _ _=>0)) | some s'=>.nx (pk s' (k + 1))))
  (hend : ∀ s,L (pk s 4) = some (.ex (.nx (mf s.b,s.det)))) : ∀ (n k : Nat) (s : Red),k + n = 4 → ZA L (pk s k) = some (match K2 m n k s with | some s'=>.nx (mf s'.b,s'.det) | none=>.ex (0,mf fun _ _=>0))
 | 0,k,s,h=>by
  have : k = 4:=by omega
  subst this
  rw [Xe (hend s)]; rfl
 | n + 1,k,s,h=>by
  have h1:=hstep k (by omega) s
  unfold K2
  cases hr : Ji m s k with
  | none=>rw [hr] at h1; rw [Xe h1]; rfl
  | some s'=>rw [hr] at h1; rw [XP h1]; exact zB m L pk hstep hend n (k + 1) s' (by omega)
theorem qc {i k : Nat} : (((i : Int)) != ((k : Nat) : Int)) = decide (i ≠ k):=by
 by_cases h : i = k
 ·subst h; simp
 ·have : (i : Int) ≠ (k : Int):=by omega
  simp [h,this]
theorem jx (m : Nat) (L : Mat × Mat × Int → Option (Fl (Mat × Mat × Int) (Mat × Mat))) (f g : MF) (k : Nat)
  (hL : ∀ i,i < 4 → ∀ a b : MF,(a i = f i) → (b i = g i) → (a k = f k) → (b k = g k) → L (mf a,mf b,(i : Int)) = some (Fl.nx (mf (fun r c=>if r = i then V4 m f f k r c else a r c),mf (fun r c=>if r = i then V4 m f g k r c else b r c),wr ((i : Int) + 1))))
  (he : ∀ a b : Mat,L (a,b,4) = some (Fl.ex (a,b))) : ZA L (mf f,mf g,0) = some (mf (V4 m f f k),mf (V4 m f g k)):=by
 have ek : ∀ h : MF,V4 m f h k k = h k:=fun h=>by funext c; simp [V4]
 have k1 : (mf fun r c=>if r < 4 then V4 m f f k r c else f r c) = mf (V4 m f f k):=WQ fun r hr c _=>by rw [if_pos hr]
 have k2 : (mf fun r c=>if r < 4 then V4 m f g k r c else g r c) = mf (V4 m f g k):=WQ fun r hr c _=>by rw [if_pos hr]
 have:=Z0 (f:=L) (fun i : Nat=>(mf fun r c=>if r < i then V4 m f f k r c else f r c,mf fun r c=>if r < i then V4 m f g k r c else g r c,(i : Int))) 0 4 (by omega)
  (t:=(mf (V4 m f f k),mf (V4 m f g k))) (fun i _ hi=>by
  rw [hL i hi _ _ (by funext c; simp) (by funext c; simp) (by funext c; by_cases h : k < i <;> simp [h,ek]) (by funext c; by_cases h : k < i <;> simp [h,ek])]
  rw [wr4 (show i < 1000 by omega)]
  have e : ∀ (x y : MF),(mf fun r c=>if r = i then x r c else if r < i then x r c else y r c) = mf fun r c=>if r < i + 1 then x r c else y r c:=fun x y=>WQ fun r _ c _=>by
   by_cases h1 : r = i
   ·subst h1; simp
   ·by_cases h2 : r < i
    ·rw [if_neg h1,if_pos h2,if_pos (by omega)]
    ·rw [if_neg h1,if_neg h2,if_neg (by omega)]
  rw [e,e]) (by
  simp only [k1,k2]
  exact he _ _)
 simpa using this

theorem kf (f : MF) {i k : Nat} : ((mf f).setIfInBounds i (vf 4 (f k))).setIfInBounds k (vf 4 (f i)) = mf (kg f i k):=by
 rw [Kw,Kw]; rfl
section
variable (m : Nat) (hm : m < 512) (hm2 : 256 ≤ m)
include hm
theorem yy (A B : Mat) (det : UInt8) (q : UInt8) (f g : MF) (k : Nat) (hk : k < 4) : ZA (X1 (m : Int) (A,B,(k : Int),det) q) (mf f,mf g,0) = some (mf (AC m f k q),mf (AC m g k q)):=by
 refine BS _ f g k hk (fun c=>Z1 m (f k c) q) (fun c=>Z1 m (g k c) q) (fun c hc a b _ _ ha hb=>?_) (fun a b=>?_)
 ·unfold X1
  simp only [lt4 hc,if_true,UE _ hk,ZT _ hc,Option.bind_some,UN m hm,ha,hb,Int.toNat_natCast]
 ·unfold X1; simp
theorem kE (A B : Mat) (det : UInt8) (s1 : Mat × Mat × Int) (x : UInt8) (f g : MF) (k i : Nat) (hk : k < 4) (hi : i < 4) (hik : i ≠ k) (hs : s1.2.2 = (i : Int)) :
  ZA (XZ (m : Int) (A,B,(k : Int),det) s1 x) (mf f,mf g,0) = some (mf (fun r c=>if r = i then f i c ^^^ Z1 m x (f k c) else f r c),mf (fun r c=>if r = i then g i c ^^^ Z1 m x (g k c) else g r c)):=by
 refine BS _ f g i hi (fun c=>f i c ^^^ Z1 m x (f k c)) (fun c=>g i c ^^^ Z1 m x (g k c)) (fun c hc a b ha' hb' ha hb=>?_) (fun a b=>?_)
 ·unfold XZ
  have e1:=ha' k (Ne.symm hik)
  have e2:=hb' k (Ne.symm hik)
  simp only [hs,lt4 hc,if_true,UE _ hk,UE _ hi,ZT _ hc,Option.bind_some,UN m hm,ha,hb,e1,e2,Int.toNat_natCast]
 ·unfold XZ; simp
include hm2
theorem jn (A B : Mat) (det : UInt8) (f g : MF) (k : Nat) (hk : k < 4) : ZA (XT (m : Int) (A,B,(k : Int),det)) (mf f,mf g,0) = some (mf (V4 m f f k),mf (V4 m f g k)):=by
 refine jx m _ f g k (fun i hi a b hai hbi hak hbk=>?_) (fun a b=>by unfold XT; simp)
 unfold XT
 have hfi : a i k = f i k:=by rw [hai]
 simp only [lt4 hi,if_true,UE _ hi,ZT _ hk,Option.bind_some,qc,hfi]
 by_cases h : i = k
 ·subst h
  simp only [ne_eq,not_true_eq_false,decide_false,Bool.false_eq_true,if_false,Option.bind_some]
  congr 3
  ·exact WQ fun r _ c _=>by
    by_cases h : r = i
    ·subst h; simp [V4,hai]
    ·simp [h]
  ·congr 1
   exact WQ fun r _ c _=>by
    by_cases h : r = i
    ·subst h; simp [V4,hbi]
    ·simp [h]
 ·have hd : decide (i ≠ k) = true:=by simpa using h
  simp only [hd,if_true,Option.bind_some]
  by_cases h0 : f i k = 0
  ·simp only [h0,bne_self_eq_false,Bool.false_eq_true,if_false,Option.bind_some]
   congr 3
   ·exact WQ fun r _ c _=>by
     by_cases h2 : r = i
     ·subst h2; simp [V4,hai,h,h0,KD hm2 hm]
     ·simp [h2]
   ·congr 1
    exact WQ fun r _ c _=>by
     by_cases h2 : r = i
     ·subst h2; simp [V4,hbi,h,h0,KD hm2 hm]
     ·simp [h2]
  ·have hb0 : (f i k != 0) = true:=by simpa using h0
   simp only [hb0,if_true,Option.bind_some]
   rw [kE m hm A B det _ _ a b k i hk hi h rfl]
   simp only [Option.bind_some]
   congr 3
   ·exact WQ fun r _ c _=>by
     by_cases h2 : r = i
     ·subst h2; simp [V4,hai,hak,h]
     ·simp [h2]
   ·congr 1
    exact WQ fun r _ c _=>by
     by_cases h2 : r = i
     ·subst h2; simp [V4,hbi,hbk,h]
     ·simp [h2]
theorem jD (k : Nat) (hk : k < 4) (s : Red) : YG (m : Int) (mf s.a,mf s.b,(k : Int),s.det) = some (match Ji m s k with | none=>.ex (.ex (0,mf fun _ _=>0)) | some s'=>.nx (mf s'.a,mf s'.b,((k + 1 : Nat) : Int),s'.det)):=by
 unfold YG
 have hp:=yA (Uk (mf s.a,mf s.b,(k : Int),s.det)) s.a k hk (fun x=>rfl)
 simp only [lt4 hk,if_true,hp,Option.bind_some]
 unfold Ji
 by_cases h4 : Kl s.a k = 4
 ·have : ((4 : Nat) : Int) = 4:=rfl
  simp only [h4,this,beq_self_eq_true,if_true,Am]
 ·have hi:=kM h4
  have h5 : (((Kl s.a k : Nat) : Int) == 4) = false:=by
   have : ((Kl s.a k : Nat) : Int) ≠ 4:=by omega
   simpa using this
  generalize hpi : Kl s.a k = i at *
  simp only [h4,h5,Bool.false_eq_true,if_false]
  have x1 : ZI ((mf s.a).setIfInBounds i (vf 4 (s.a k))) (k : Int) = some (vf 4 (fun c=>if k = i then s.a k c else s.a k c)):=by rw [Kw]; exact UE _ hk
  have x2 : ZI ((mf s.b).setIfInBounds i (vf 4 (s.b k))) (k : Int) = some (vf 4 (fun c=>if k = i then s.b k c else s.b k c)):=by rw [Kw]; exact UE _ hk
  simp only [UE _ hk,UE _ hi,Option.bind_some,Int.toNat_natCast,x1,x2,kf,ZT _ hk,UN m hm,QM m hm,yy m hm _ _ _ _ _ _ k hk,jn m hm hm2 _ _ _ _ _ k hk,wr4 (show k < 1000 by omega)]
theorem Bg (f : MF) : Xv (m : Int) (mf f) = some (Hu m f):=by
 unfold Xv
 have h:=zB m (YG (m : Int)) (fun s k=>(mf s.a,mf s.b,(k : Int),s.det)) (jD m hm hm2) (fun s=>by unfold YG; simp) 4 0 ⟨f,KW,1⟩ rfl
 have h2 : ZA (YG (m : Int)) (mf f,mf KW,0,1) = _:=h
 rw [KP,Option.bind_some,h2]
 unfold Hu
 cases K2 m 4 0 ⟨f,KW,1⟩ <;> rfl
end
theorem Ah {n i : Nat} (v : Vector UInt8 n) (h : i < n) : ZI v (i : Int) = some (v.toList.getD i 0):=by
 rw [Wq,Vector.getElem?_eq_getElem h]
 simp [List.getD_eq_getElem?_getD,h]
theorem zZ (x : UInt8) : (bI x).toNat = x.toNat:=rfl
def TR (p : Vector UInt8 16) : Bool:=p.toList.all (fun x=>decide (x < 16)) && kp p.toList
def Hd (a : Mat) : MF:=fun i j=>(a[i]?.getD default)[j]?.getD default
theorem Hs (a : Mat) : a = mf (Hd a):=calc a = vf 4 (fun i=>a[i]?.getD default):=yW a
  _ = _:=Y7 fun i _=>yW _
def detC (m : Nat) (a : Mat) : UInt8:=(Hu m (Hd a)).1
def invM (m : Nat) (a : Mat) : Mat:=(Hu m (Hd a)).2
def YP (c : GCipher) : Bool:=KV c.Field && kp c.Box.toList && TR c.Places && decide (1 ≤ c.Rounds ∧ c.Rounds ≤ 20) && (detC c.Field.toNat c.Mix != 0)
theorem jT (m : Nat) (hm : m < 512) (hm2 : 256 ≤ m) (a : Mat) : Xv (m : Int) a = some (detC m a,invM m a):=by
 have:=Bg m hm hm2 (Hd a)
 rw [← Hs] at this
 exact this
theorem KM {c : GCipher} (h : YP c = true) : ∃ m : Nat,c.Field = m ∧ 256 ≤ m ∧ m < 512:=by
 unfold YP at h
 simp only [Bool.and_eq_true] at h
 exact zD h.1.1.1.1
theorem Wr {n : Nat} (L : Vector UInt8 n × Int → Option (Fl (Vector UInt8 n × Int) (Vector UInt8 n))) (f h : Nat → UInt8) (hn : n < 9223372036854775807) (m : Nat) (hm : m ≤ n) (h0 : ∀ j,j < m → h j = f j)
  (hL : ∀ i,m ≤ i → i < n → ∀ a : Nat → UInt8,(∀ j,j < i → a j = h j) → (∀ j,i ≤ j → a j = f j) → L (vf n a,(i : Int)) = some (.nx ((vf n a).setIfInBounds i (h i),wr ((i : Int) + 1))))
  (he : ∀ v,L (v,(n : Int)) = some (.ex v)) : ZA L (vf n f,(m : Int)) = some (vf n h):=by
 have k1 : (vf n fun j=>if j < n then h j else f j) = vf n h:=Y7 fun j hj=>by rw [if_pos hj]
 have k0 : (vf n fun j=>if j < m then h j else f j) = vf n f:=Y7 fun j hj=>by
  by_cases h1 : j < m
  ·rw [if_pos h1,h0 j h1]
  ·rw [if_neg h1]
 have:=Z0 (f:=L) (fun i : Nat=>(vf n fun j=>if j < i then h j else f j,(i : Int))) m n hm (t:=vf n h) (fun i hmi hi=>by
  rw [hL i hmi hi _ (fun j hj=>by rw [if_pos hj]) (fun j hj=>by rw [if_neg (by omega)]),Tf,Xh (show i < 9223372036854775807 by omega)]
  refine congrArg (fun z=>some (Fl.nx (z,((i + 1 : Nat) : Int)))) (Y7 fun j hj=>?_)
  by_cases h1 : j = i
  ·subst h1; simp
  ·by_cases h2 : j < i
   ·rw [if_neg h1,if_pos h2,if_pos (by omega)]
   ·rw [if_neg h1,if_neg h2,if_neg (by omega)]) (by
  simp only [k1]
  exact he _)
 simp only [k0] at this
 exact this
def B4 (b : Vector UInt8 256) (x : UInt8) : UInt8:=b[x.toNat]'(UInt8.toNat_lt x)
theorem QJ (b : Vector UInt8 256) (x : UInt8) : ZI b (bI x) = some (B4 b x):=by
 have : ZI b ((x.toNat : Nat) : Int) = _:=Wq b x.toNat
 rw [Vector.getElem?_eq_getElem (UInt8.toNat_lt x)] at this
 exact this
abbrev Blk:=Vector UInt8 16
def bf (v : Blk) (i : Nat) : UInt8:=v[i]?.getD default
theorem vf_bf (v : Blk) : v = vf 16 (bf v):=yW v
theorem Jf {i : Nat} (h : i < 16) : decide ((i : Int) < 16) = true:=by simp; omega
def K6 (f g : Nat → UInt8) : Nat → UInt8:=fun i=>f i ^^^ g i
theorem Jd (f g : Nat → UInt8) : Xj (vf 16 f) (vf 16 g) = some (vf 16 (K6 f g)):=by
 unfold Xj
 have:=Wr (VA (vf 16 g)) f (K6 f g) (by omega) 0 (by omega) (fun j hj=>by omega) (fun i _ hi a _ ha=>by
  unfold VA
  simp only [Jf hi,if_true,ZT _ hi,Option.bind_some,Int.toNat_natCast,ha i (Nat.le_refl _),K6]) (fun v=>by unfold VA; simp)
 have h2 : ZA (VA (vf 16 g)) (vf 16 f,0) = _:=this
 rw [h2]; rfl
theorem U3 (f g : Nat → UInt8) : Ys (vf 16 f) (vf 16 g) = some (vf 16 (K6 f g)):=by
 unfold Ys
 have:=Wr (X3 (vf 16 g)) f (K6 f g) (by omega) 0 (by omega) (fun j hj=>by omega) (fun i _ hi a _ ha=>by
  unfold X3
  simp only [Jf hi,if_true,ZT _ hi,Option.bind_some,Int.toNat_natCast,ha i (Nat.le_refl _),K6]) (fun v=>by unfold X3; simp)
 have h2 : ZA (X3 (vf 16 g)) (vf 16 f,0) = _:=this
 rw [h2]; rfl
def HI (b : Vector UInt8 256) (f : Nat → UInt8) : Nat → UInt8:=fun i=>B4 b (f i)
theorem ya (b : Vector UInt8 256) (f : Nat → UInt8) : VQ b (vf 16 f) = some (vf 16 (HI b f)):=by
 unfold VQ
 have:=Wr (Wz b) f (HI b f) (by omega) 0 (by omega) (fun j hj=>by omega) (fun i _ hi a _ ha=>by
  unfold Wz
  simp only [Jf hi,if_true,ZT _ hi,Option.bind_some,Int.toNat_natCast,ha i (Nat.le_refl _),QJ,HI]) (fun v=>by unfold Wz; simp)
 have h2 : ZA (Wz b) (vf 16 f,0) = _:=this
 rw [h2]; rfl
def Ko (p : Blk) (f : Nat → UInt8) : Nat → UInt8:=fun i=>f (bf p i).toNat
theorem JK {p : Blk} (h : TR p = true) {i : Nat} (hi : i < 16) : (bf p i).toNat < 16:=by
 unfold TR at h
 simp only [Bool.and_eq_true,List.all_eq_true,decide_eq_true_eq] at h
 have e : bf p i = p[i]:=by unfold bf; rw [Vector.getElem?_eq_getElem hi]; rfl
 have:=h.1 p[i] (by simp)
 rw [UInt8.lt_iff_toNat_lt] at this
 rw [e]; exact this
theorem KO (p : Blk) {i : Nat} (h : i < 16) : ZI p (i : Int) = some (bf p i):=by
 rw [Wq]; unfold bf; rw [Vector.getElem?_eq_getElem h]; rfl
theorem A5 (f : Nat → UInt8) {x : UInt8} (h : x.toNat < 16) : ZI (vf 16 f) (bI x) = some (f x.toNat):=ZT f h
theorem jA (p : Blk) (hp : TR p = true) (f : Nat → UInt8) : Uc p (vf 16 f) = some (vf 16 (Ko p f)):=by
 unfold Uc
 have:=Wr (WX p (vf 16 f)) (fun _=>0) (Ko p f) (by omega) 0 (by omega) (fun j hj=>by omega) (fun i _ hi a _ ha=>by
  unfold WX
  simp only [Jf hi,if_true,ZT _ hi,KO _ hi,Option.bind_some,Int.toNat_natCast,A5 f (JK hp hi),Ko]) (fun v=>by unfold WX; simp)
 have h2 : ZA (WX p (vf 16 f)) (vf 16 (fun _=>0),0) = _:=this
 rw [UZ 16 (0 : UInt8),h2]; rfl
theorem v_move (p : Blk) (hp : TR p = true) (f : Nat → UInt8) : WS p (vf 16 f) = some (vf 16 (Ko p f)):=by
 unfold WS
 have:=Wr (Xz p (vf 16 f)) (fun _=>0) (Ko p f) (by omega) 0 (by omega) (fun j hj=>by omega) (fun i _ hi a _ ha=>by
  unfold Xz
  simp only [Jf hi,if_true,ZT _ hi,KO _ hi,Option.bind_some,Int.toNat_natCast,A5 f (JK hp hi),Ko]) (fun v=>by unfold Xz; simp)
 have h2 : ZA (Xz p (vf 16 f)) (vf 16 (fun _=>0),0) = _:=this
 rw [UZ 16 (0 : UInt8),h2]; rfl

def Qx (b : Vector UInt8 256) (f : Nat → UInt8) (r : Int) : Nat → UInt8
 | 0=>f 0 ^^^ B4 b (f 15 ^^^ ZG r)
 | i + 1=>f (i + 1) ^^^ B4 b (Qx b f r i)
theorem jK (b : Vector UInt8 256) (f : Nat → UInt8) (r : Int) : Uq b (vf 16 f) r = some (vf 16 (Qx b f r)) := by
  unfold Uq
  have := Wr (W1 b r) f (Qx b f r) (by omega) 0 (by omega) (fun j hj => by omega) (fun i _ hi a hb ha => by
    unfold W1
    cases i with
    | zero =>
      have e1 : Int.tmod (wr (((0 : Nat) : Int) + 15)) 16 = ((15 : Nat) : Int) := by decide
      simp only [e1, Jf hi, if_true, ZT a (show 15 < 16 by omega), Option.bind_some]
      have e2 : (((0 : Nat) : Int) == 0) = true := rfl
      simp only [e2, if_true, Option.bind_some, QJ, ZT a hi, Int.toNat_natCast, ha 0 (by omega), ha 15 (by omega), Qx]
    | succ i =>
      have e1 : Int.tmod (wr (((i + 1 : Nat) : Int) + 15)) 16 = ((i : Nat) : Int) := by
        rw [YS (by omega)]
        have : (((i + 1 : Nat) : Int) + 15) = ((i + 16 : Nat) : Int) := by omega
        rw [this]
        have : Int.tmod ((i + 16 : Nat) : Int) 16 = (((i + 16) % 16 : Nat) : Int) := rfl
        rw [this]
        omega
      have e2 : (((i + 1 : Nat) : Int) == 0) = false := by have : ((i + 1 : Nat) : Int) ≠ 0 := by omega
                                                           simpa using this
      simp only [e1, e2, Jf hi, if_true, ZT a (show i < 16 by omega), Option.bind_some, Bool.false_eq_true, if_false, QJ, ZT a hi, Int.toNat_natCast, ha (i + 1) (Nat.le_refl _), hb i (by omega), Qx]) (fun v => by unfold W1; simp)
  have h2 : ZA (W1 b r) (vf 16 f, 0) = _ := this
  rw [h2]; rfl
theorem jo (e : Ref Gengine) (f : Nat → UInt8) (r : Int) : XJ e (vf 16 f) r = some (vf 16 (Qx e.v.box f r)):=by
 unfold XJ
 have x0 : ZI (vf 16 f) (0 : Int) = some (f 0):=ZT f (show 0 < 16 by omega)
 have x15 : ZI (vf 16 f) (15 : Int) = some (f 15):=ZT f (show 15 < 16 by omega)
 have z : (0 : Int).toNat = 0:=rfl
 simp only [x0,x15,Option.bind_some,QJ,z,Tf]
 have:=Wr (YR e) (fun i=>if i = 0 then f 0 ^^^ B4 e.v.box (f 15 ^^^ ZG r) else f i) (Qx e.v.box f r) (by omega) 1 (by omega) (fun j hj=>by
  have : j = 0:=by omega
  subst this; simp [Qx]) (fun i h1 hi a hb ha=>by
  unfold YR
  obtain ⟨i,rfl⟩ : ∃ k,i = k + 1:=⟨i - 1,by omega⟩
  have e1 : wr (((i + 1 : Nat) : Int) - 1) = ((i : Nat) : Int):=by rw [YS (by omega)]; omega
  simp only [e1,Jf hi,if_true,ZT a (show i < 16 by omega),ZT a hi,Option.bind_some,QJ,Int.toNat_natCast,ha (i + 1) (Nat.le_refl _),hb i (by omega),Qx]
  simp) (fun v=>by unfold YR; simp)
 have h2 : ZA (YR e) (vf 16 (fun i=>if i = 0 then f 0 ^^^ B4 e.v.box (f 15 ^^^ ZG r) else f i),1) = _:=this
 rw [h2]; rfl
def Ao (b : Vector UInt8 256) (k : Nat → UInt8) : Nat → Nat → UInt8
 | 0=>k
 | r + 1=>Qx b (Ao b k r) ((r + 1 : Nat) : Int)
def VM (b : Vector UInt8 256) (k : Nat → UInt8) (n : Nat) : List Blk:=(List.range (n + 1)).map fun r=>vf 16 (Ao b k r)
theorem BX (b : Vector UInt8 256) (k : Nat → UInt8) (n : Nat) : VM b k (n + 1) = VM b k n ++ [vf 16 (Qx b (Ao b k n) ((n + 1 : Nat) : Int))]:=by
 unfold VM
 rw [List.range_succ,List.map_append]; rfl
theorem QY (b : Vector UInt8 256) (k : Nat → UInt8) (n : Nat) : (VM b k n).length = n + 1:=by simp [VM]
theorem K3 (b : Vector UInt8 256) (k : Nat → UInt8) {n r : Nat} (h : r ≤ n) : idx (VM b k n) (r : Int) = some (vf 16 (Ao b k r)):=by
 rw [Yg]; unfold VM; rw [List.getElem?_map,List.getElem?_range (by omega)]; rfl
theorem jg (c : GCipher) (k : Nat → UInt8) (n : Nat) (hn : n ≤ 1000) : Um c (vf 16 k) (n : Int) = some (VM c.Box k n):=by
 unfold Um
 have:=Z0 (f:=WZ c (n : Int)) (fun i : Nat=>(vf 16 (Ao c.Box k (i - 1)),VM c.Box k (i - 1),(i : Int))) 1 (n + 1) (by omega) (t:=VM c.Box k n) (fun i h1 hi=>by
  unfold WZ
  obtain ⟨i,rfl⟩ : ∃ q,i = q + 1:=⟨i - 1,by omega⟩
  have e1 : decide (((i + 1 : Nat) : Int) ≤ (n : Int)) = true:=by simp; omega
  have e2 : app 16 (VM c.Box k i) [vf 16 (Qx c.Box (Ao c.Box k i) ((i + 1 : Nat) : Int))] = _:=XD (by rw [QY]; simp; omega)
  simp only [Nat.add_sub_cancel,e1,if_true,jK,Option.bind_some,e2,Xh (show i + 1 < 9223372036854775807 by omega),BX]
  rfl) (by
  unfold WZ
  have e1 : decide (((n + 1 : Nat) : Int) ≤ (n : Int)) = false:=by simp; omega
  simp only [e1,Bool.false_eq_true,if_false,Nat.add_sub_cancel])
 have h2 : ZA (WZ c (n : Int)) (vf 16 k,[vf 16 k],1) = _:=this
 rw [h2]; rfl
theorem v_keys (e : Ref Gengine) (k : Nat → UInt8) (n : Nat) (hn : n ≤ 1000) : WO e (vf 16 k) (n : Int) = some (VM e.v.box k n):=by
 unfold WO
 have:=Z0 (f:=Xt e (n : Int)) (fun i : Nat=>(vf 16 (Ao e.v.box k (i - 1)),VM e.v.box k (i - 1),(i : Int))) 1 (n + 1) (by omega) (t:=VM e.v.box k n) (fun i h1 hi=>by
  unfold Xt
  obtain ⟨i,rfl⟩ : ∃ q,i = q + 1:=⟨i - 1,by omega⟩
  have e1 : decide (((i + 1 : Nat) : Int) ≤ (n : Int)) = true:=by simp; omega
  have e2 : app 16 (VM e.v.box k i) [vf 16 (Qx e.v.box (Ao e.v.box k i) ((i + 1 : Nat) : Int))] = _:=XD (by rw [QY]; simp; omega)
  simp only [Nat.add_sub_cancel,e1,if_true,jo,Option.bind_some,e2,Xh (show i + 1 < 9223372036854775807 by omega),BX]
  rfl) (by
  unfold Xt
  have e1 : decide (((n + 1 : Nat) : Int) ≤ (n : Int)) = false:=by simp; omega
  simp only [e1,Bool.false_eq_true,if_false,Nat.add_sub_cancel])
 have h2 : ZA (Xt e (n : Int)) (vf 16 k,[vf 16 k],1) = _:=this
 rw [h2]; rfl

def rowF (m : Nat) (a : MF) (f : Nat → UInt8) (c r : Nat) : UInt8:=((Z1 m (a r 0) (f c) ^^^ Z1 m (a r 1) (f (c + 1))) ^^^ Z1 m (a r 2) (f (c + 2))) ^^^ Z1 m (a r 3) (f (c + 3))
def V9 (m : Nat) (a : MF) (f : Nat → UInt8) : Nat → UInt8:=fun i=>rowF m a f (i / 4 * 4) (i % 4)
theorem set_set (f : Nat → UInt8) (k : Nat) (x y : UInt8) : (fun i=>if i = k then y else if i = k then x else f i) = fun i=>if i = k then y else f i:=by
 funext i; by_cases h : i = k <;> simp [h]
theorem wr_at {c r : Nat} (hc : c < 4) (hr : r < 4) : wr (wr (4 * (c : Int)) + (r : Int)) = ((c * 4 + r : Nat) : Int):=by
 rw [YS (x:=4 * (c : Int)) (by omega),YS (by omega)]; omega
theorem kX (m : Nat) (hm : m < 512) (hm2 : 256 ≤ m) (a : MF) (f g : Nat → UInt8) (c r : Nat) (hc : c < 4) (hr : r < 4) (s1 s2 : Blk × Int) (h1 : s1.2 = (c : Int)) (h2 : s2.2 = (r : Int)) (hg : g (c * 4 + r) = 0) :
  ZA (XX (m : Int) (mf a) (vf 16 f) s1 s2) (vf 16 g,0) = some (vf 16 fun i=>if i = c * 4 + r then rowF m a f (c * 4) r else g i):=by
 have hcr : c * 4 + r < 16:=by omega
 have step : ∀ (j : Nat) (h : Nat → UInt8),j < 4 → XX (m : Int) (mf a) (vf 16 f) s1 s2 (vf 16 h,(j : Int)) = some (.nx (vf 16 (fun i=>if i = c * 4 + r then h (c * 4 + r) ^^^ Z1 m (a r j) (f (c * 4 + j)) else h i),((j + 1 : Nat) : Int))):=fun j h hj=>by
  unfold XX
  simp only [h1,h2,lt4 hj,if_true,wr_at hc hr,wr_at hc hj,ZT _ hcr,UE _ hr,ZT _ hj,ZT f (show c * 4 + j < 16 by omega),Option.bind_some,KL m hm hm2,Int.toNat_natCast,Tf,wr4 (show j < 1000 by omega)]
 have e0:=step 0 g (by omega)
 have e1:=step 1 (fun i=>if i = c * 4 + r then g (c * 4 + r) ^^^ Z1 m (a r 0) (f (c * 4 + 0)) else g i) (by omega)
 have e2:=step 2 (fun i=>if i = c * 4 + r then (g (c * 4 + r) ^^^ Z1 m (a r 0) (f (c * 4 + 0))) ^^^ Z1 m (a r 1) (f (c * 4 + 1)) else g i) (by omega)
 have e3:=step 3 (fun i=>if i = c * 4 + r then ((g (c * 4 + r) ^^^ Z1 m (a r 0) (f (c * 4 + 0))) ^^^ Z1 m (a r 1) (f (c * 4 + 1))) ^^^ Z1 m (a r 2) (f (c * 4 + 2)) else g i) (by omega)
 have e4 : ∀ v : Blk,XX (m : Int) (mf a) (vf 16 f) s1 s2 (v,((4 : Nat) : Int)) = some (.ex v):=fun v=>by unfold XX; simp
 simp only [if_true,set_set] at e1 e2 e3
 have e0' : XX (m : Int) (mf a) (vf 16 f) s1 s2 (vf 16 g,0) = _:=e0
 rw [XP e0',XP e1,XP e2,XP e3,Xe (e4 _)]
 refine congrArg some (Y7 fun i _=>?_)
 by_cases h : i = c * 4 + r
 ·simp [h,hg,rowF]
 ·simp [h]
theorem kh (m : Nat) (hm : m < 512) (hm2 : 256 ≤ m) (a : MF) (f : Nat → UInt8) : UO (m : Int) (mf a) (vf 16 f) = some (vf 16 (V9 m a f)):=by
 unfold UO
 -- after c columns and r rows of the next
 have inner : ∀ c : Nat,c < 4 → ∀ s1 : Blk × Int,s1.2 = (c : Int) → ZA (VB (m : Int) (mf a) (vf 16 f) s1) (vf 16 (fun i=>if i < c * 4 then V9 m a f i else 0),0) = some (vf 16 fun i=>if i < (c + 1) * 4 then V9 m a f i else 0):=fun c hc s1 h1=>by
  have k1 : (vf 16 fun i=>if i < c * 4 + 4 then V9 m a f i else 0) = vf 16 fun i=>if i < (c + 1) * 4 then V9 m a f i else 0:=by rw [show c * 4 + 4 = (c + 1) * 4 by omega]
  have:=Z0 (f:=VB (m : Int) (mf a) (vf 16 f) s1) (fun r : Nat=>(vf 16 fun i=>if i < c * 4 + r then V9 m a f i else 0,(r : Int))) 0 4 (by omega) (t:=vf 16 fun i=>if i < (c + 1) * 4 then V9 m a f i else 0) (fun r _ hr=>by
   unfold VB
   have h2:=kX m hm hm2 a f (fun i=>if i < c * 4 + r then V9 m a f i else 0) c r hc hr s1 (vf 16 fun i=>if i < c * 4 + r then V9 m a f i else 0,(r : Int)) h1 rfl (by simp)
   simp only [lt4 hr,if_true,h2,Option.bind_some,wr4 (show r < 1000 by omega)]
   refine congrArg (fun z=>some (Fl.nx (z,((r + 1 : Nat) : Int)))) (Y7 fun i _=>?_)
   by_cases h : i = c * 4 + r
   ·subst h
    have q1 : (c * 4 + r) / 4 = c:=by omega
    have q2 : (c * 4 + r) % 4 = r:=by omega
    rw [if_pos rfl,if_pos (by omega)]
    unfold V9; rw [q1,q2]
   ·by_cases h3 : i < c * 4 + r
    ·rw [if_neg h,if_pos h3,if_pos (by omega)]
    ·rw [if_neg h,if_neg h3,if_neg (by omega)]) (by
   unfold VB
   simp only [k1]
   simp)
  exact this
 have:=Z0 (f:=Vr (m : Int) (mf a) (vf 16 f)) (fun c : Nat=>(vf 16 fun i=>if i < c * 4 then V9 m a f i else 0,(c : Int))) 0 4 (by omega) (t:=vf 16 (V9 m a f)) (fun c _ hc=>by
  unfold Vr
  have h2:=inner c hc (vf 16 fun i=>if i < c * 4 then V9 m a f i else 0,(c : Int)) rfl
  simp only [lt4 hc,if_true,h2,Option.bind_some,wr4 (show c < 1000 by omega)]) (by
  unfold Vr
  have : (vf 16 fun i=>if i < 4 * 4 then V9 m a f i else 0) = vf 16 (V9 m a f):=Y7 fun i hi=>by rw [if_pos (by omega)]
  simp only [this]
  simp)
 have e0 : (vf 16 fun i=>if i < 0 * 4 then V9 m a f i else 0) = vf 16 fun _=>(0 : UInt8):=Y7 fun i _=>by rw [if_neg (by omega)]
 simp only [e0] at this
 have h2 : ZA (Vr (m : Int) (mf a) (vf 16 f)) (vf 16 fun _=>(0 : UInt8),0) = _:=this
 rw [UZ 16 (0 : UInt8),h2]; rfl

abbrev Tab:=Vector (Vector (Vector UInt8 256) 4) 4
def Hb (m : Nat) (a : MF) : Tab:=vf 4 fun i=>vf 4 fun j=>vf 256 fun x=>Z1 m (a i j) (UInt8.ofNat x)
theorem kx (m : Nat) (a : MF) (i j : Nat) (x : UInt8) : ZI (vf 256 fun x=>Z1 m (a i j) (UInt8.ofNat x)) (bI x) = some (Z1 m (a i j) x):=by
 rw [show bI x = ((x.toNat : Nat) : Int) from rfl,ZT _ (UInt8.toNat_lt x)]
 simp
theorem v_mix (m : Nat) (a : MF) (f : Nat → UInt8) : Vt ⟨Hb m a⟩ (vf 16 f) = some (vf 16 (V9 m a f)):=by
 unfold Vt
 have i0 : ∀ (v : Vector (Vector UInt8 256) 4),ZI v (0 : Int) = v[0]?:=fun v=>Wq v 0
 have i1 : ∀ (v : Vector (Vector UInt8 256) 4),ZI v (1 : Int) = v[1]?:=fun v=>Wq v 1
 have i2 : ∀ (v : Vector (Vector UInt8 256) 4),ZI v (2 : Int) = v[2]?:=fun v=>Wq v 2
 have i3 : ∀ (v : Vector (Vector UInt8 256) 4),ZI v (3 : Int) = v[3]?:=fun v=>Wq v 3
 have inner : ∀ c : Nat,c < 4 → ∀ s1 : Blk × Int,s1.2 = ((c * 4 : Nat) : Int) → ZA (X4 ⟨Hb m a⟩ s1 (f (c * 4),f (c * 4 + 1),f (c * 4 + 2),f (c * 4 + 3))) (vf 16 (fun i=>if i < c * 4 then V9 m a f i else f i),0) = some (vf 16 fun i=>if i < (c + 1) * 4 then V9 m a f i else f i):=fun c hc s1 h1=>by
  have k1 : (vf 16 fun i=>if i < c * 4 + 4 then V9 m a f i else f i) = vf 16 fun i=>if i < (c + 1) * 4 then V9 m a f i else f i:=by rw [show c * 4 + 4 = (c + 1) * 4 by omega]
  have:=Z0 (f:=X4 ⟨Hb m a⟩ s1 (f (c * 4),f (c * 4 + 1),f (c * 4 + 2),f (c * 4 + 3))) (fun r : Nat=>(vf 16 fun i=>if i < c * 4 + r then V9 m a f i else f i,(r : Int))) 0 4 (by omega) (t:=vf 16 fun i=>if i < (c + 1) * 4 then V9 m a f i else f i) (fun r _ hr=>by
   unfold X4
   have e1 : wr (s1.2 + (r : Int)) = ((c * 4 + r : Nat) : Int):=by rw [h1,YS (by omega)]; omega
   have et : ZI (Hb m a) (r : Int) = some (vf 4 fun j=>vf 256 fun x=>Z1 m (a r j) (UInt8.ofNat x)):=ZT _ hr
   simp only [lt4 hr,if_true,et,i0,i1,i2,i3,Jh _ (show 0 < 4 by omega),Jh _ (show 1 < 4 by omega),Jh _ (show 2 < 4 by omega),Jh _ (show 3 < 4 by omega),kx,e1,ZT _ (show c * 4 + r < 16 by omega),Option.bind_some,Int.toNat_natCast,Tf,wr4 (show r < 1000 by omega)]
   refine congrArg (fun z=>some (Fl.nx (z,((r + 1 : Nat) : Int)))) (Y7 fun i _=>?_)
   by_cases h : i = c * 4 + r
   ·subst h
    have q1 : (c * 4 + r) / 4 = c:=by omega
    have q2 : (c * 4 + r) % 4 = r:=by omega
    rw [if_pos rfl,if_pos (by omega)]
    unfold V9; rw [q1,q2]; rfl
   ·by_cases h3 : i < c * 4 + r
    ·rw [if_neg h,if_pos h3,if_pos (by omega)]
    ·rw [if_neg h,if_neg h3,if_neg (by omega)]) (by
   unfold X4
   simp only [k1]
   simp)
  exact this
 have:=Z0 (f:=X2 ⟨Hb m a⟩) (fun c : Nat=>(vf 16 fun i=>if i < c * 4 then V9 m a f i else f i,((c * 4 : Nat) : Int))) 0 4 (by omega) (t:=vf 16 (V9 m a f)) (fun c _ hc=>by
  unfold X2
  have hd : decide (((c * 4 : Nat) : Int) < ((vf 16 fun i=>if i < c * 4 then V9 m a f i else f i).toList.length : Int)) = true:=by rw [Vector.length_toList]; simp; omega
  have x0:=ZT (n:=16) (fun i=>if i < c * 4 then V9 m a f i else f i) (show c * 4 < 16 by omega)
  have x1:=ZT (n:=16) (fun i=>if i < c * 4 then V9 m a f i else f i) (show c * 4 + 1 < 16 by omega)
  have x2:=ZT (n:=16) (fun i=>if i < c * 4 then V9 m a f i else f i) (show c * 4 + 2 < 16 by omega)
  have x3:=ZT (n:=16) (fun i=>if i < c * 4 then V9 m a f i else f i) (show c * 4 + 3 < 16 by omega)
  have w1 : wr (((c * 4 : Nat) : Int) + 1) = ((c * 4 + 1 : Nat) : Int):=by rw [YS (by omega)]; omega
  have w2 : wr (((c * 4 : Nat) : Int) + 2) = ((c * 4 + 2 : Nat) : Int):=by rw [YS (by omega)]; omega
  have w3 : wr (((c * 4 : Nat) : Int) + 3) = ((c * 4 + 3 : Nat) : Int):=by rw [YS (by omega)]; omega
  have w4 : wr (((c * 4 : Nat) : Int) + 4) = (((c + 1) * 4 : Nat) : Int):=by rw [YS (by omega)]; omega
  rw [if_neg (by omega)] at x0 x1 x2 x3
  have h2:=inner c hc (vf 16 fun i=>if i < c * 4 then V9 m a f i else f i,((c * 4 : Nat) : Int)) rfl
  simp only [hd,if_true,x0,w1,x1,w2,x2,w3,x3,Option.bind_some,h2,w4]) (by
  unfold X2
  have : (vf 16 fun i=>if i < 4 * 4 then V9 m a f i else f i) = vf 16 (V9 m a f):=Y7 fun i hi=>by rw [if_pos (by omega)]
  simp only [this]
  simp)
 have e0 : (vf 16 fun i=>if i < 0 * 4 then V9 m a f i else f i) = vf 16 f:=Y7 fun i _=>by rw [if_neg (by omega)]
 simp only [e0] at this
 have h2 : ZA (X2 ⟨Hb m a⟩) (vf 16 f,0) = _:=this
 rw [h2]; rfl

def tb (g : Nat → Nat → Nat → UInt8) : Tab:=vf 4 fun i=>vf 4 fun j=>vf 256 (g i j)
theorem JE {g h : Nat → Nat → Nat → UInt8} (e : ∀ i,i < 4 → ∀ j,j < 4 → ∀ x,x < 256 → g i j x = h i j x) : tb g = tb h :=
 Y7 fun i hi=>Y7 fun j hj=>Y7 fun x hx=>e i hi j hj x hx
theorem kY (g : Nat → Nat → Nat → UInt8) {i : Nat} (hi : i < 4) : ZI (tb g) (i : Int) = some (vf 4 fun j=>vf 256 (g i j)):=ZT _ hi
theorem jN (g : Nat → Nat → Nat → UInt8) (i : Nat) {j : Nat} (hj : j < 4) : ZI (vf 4 fun j=>vf 256 (g i j)) (j : Int) = some (vf 256 (g i j)):=ZT _ hj
theorem tb_set (g : Nat → Nat → Nat → UInt8) (i j : Nat) (h : Nat → UInt8) : (tb g).setIfInBounds i ((vf 4 fun j=>vf 256 (g i j)).setIfInBounds j (vf 256 h)) = tb (fun i' j'=>if i' = i ∧ j' = j then h else g i' j'):=by
 unfold tb
 rw [Tf,Tf]
 refine Y7 fun i' _=>?_
 by_cases h1 : i' = i
 ·subst h1
  rw [if_pos rfl]
  refine Y7 fun j' _=>?_
  by_cases h2 : j' = j
  ·subst h2; simp
  ·simp [h2]
 ·rw [if_neg h1]
  refine Y7 fun j' _=>?_
  simp [h1]
theorem qs (a b : Nat) (ha : a < 9223372036854775808) (hb : b < 9223372036854775808) : orI (a : Int) (b : Int) = ((a ||| b : Nat) : Int):=by
 unfold orI
 rw [BitVec.toNat_or,Jn a ha,Jn b hb]
 have : a ||| b < 2 ^ 63:=Nat.or_lt_two_pow ha hb
 exact YS (by omega)
theorem VD (n : Nat) : ZG (n : Int) = UInt8.ofNat n:=by
 unfold ZG
 have : ((n : Int) % 256).toNat = n % 256:=by omega
 rw [this]
 apply UInt8.toNat_inj.1
 simp
theorem qf (g : Nat → Nat → Nat → UInt8) (i j : Nat) (h : Nat → UInt8) : (tb g).setIfInBounds i (vf 4 fun j'=>if j' = j then vf 256 h else vf 256 (g i j')) = tb (fun i' j'=>if i' = i ∧ j' = j then h else g i' j'):=by
 have:=tb_set g i j h
 rw [Tf] at this
 exact this
theorem kP {p low : Nat} (h : low < 2 ^ p) : 2 ^ p ||| low = 2 ^ p + low:=by
 have:=Nat.two_pow_add_eq_or_of_lt h 1
 simpa using this.symm
theorem kK {p low : Nat} (hp : p < 8) (h : low < 2 ^ p) : UInt8.ofNat (2 ^ p + low) = UInt8.ofNat (2 ^ p) ^^^ UInt8.ofNat low:=by
 apply UInt8.toNat_inj.1
 have h7 : 2 ^ p ≤ 2 ^ 7:=Nat.pow_le_pow_right (by omega) (by omega)
 rw [UInt8.toNat_xor]
 simp only [UInt8.toNat_ofNat']
 rw [Nat.mod_eq_of_lt (by omega),Nat.mod_eq_of_lt (by omega),Nat.mod_eq_of_lt (by omega)]
 rw [← kP h]
 apply Nat.eq_of_testBit_eq
 intro i
 rw [Nat.testBit_or,Nat.testBit_xor,Nat.testBit_two_pow]
 by_cases hi : p = i
 ·subst hi
  rw [Nat.testBit_lt_two_pow h]; simp
 ·simp [hi]
section
variable (m : Nat) (hm : m < 512) (hm2 : 256 ≤ m) (a : MF)
include hm hm2
def Q0 (m : Nat) (a : MF) (i j n : Nat) (g : Nat → Nat → Nat → UInt8) : Nat → Nat → Nat → UInt8:=fun i' j'=>if i' = i ∧ j' = j then (fun x=>if x < n then Z1 m (a i j) (UInt8.ofNat x) else 0) else g i' j'
theorem kL (i j p : Nat) (hi : i < 4) (hj : j < 4) (hp : p < 8) (g : Nat → Nat → Nat → UInt8) (s0 s1 s2 : Tab × Int) (h0 : s0.2 = (i : Int)) (h1 : s1.2 = (j : Int)) (h2 : s2.2 = ((2 ^ p : Nat) : Int)) :
  ZA (WD s0 s1 s2 (Z1 m (a i j) (UInt8.ofNat (2 ^ p)))) (tb (Q0 m a i j (2 ^ p) g),0) = some (tb (Q0 m a i j (2 ^ (p + 1)) g)):=by
 have h7 : 2 ^ p ≤ 2 ^ 7:=Nat.pow_le_pow_right (by omega) (by omega)
 have k1 : 2 ^ p + 2 ^ p = 2 ^ (p + 1):=by rw [Nat.pow_succ]; omega
 have:=Z0 (f:=WD s0 s1 s2 (Z1 m (a i j) (UInt8.ofNat (2 ^ p)))) (fun low : Nat=>(tb (Q0 m a i j (2 ^ p + low) g),(low : Int))) 0 (2 ^ p) (Nat.zero_le _) (t:=tb (Q0 m a i j (2 ^ (p + 1)) g)) (fun low _ hl=>by
  unfold WD
  have hd : decide ((low : Int) < ((2 ^ p : Nat) : Int)) = true:=by simp only [decide_eq_true_eq]; omega
  have ho : orI ((2 ^ p : Nat) : Int) (low : Int) = ((2 ^ p + low : Nat) : Int):=by rw [qs _ _ (by omega) (by omega),kP hl]
  have eg : Q0 m a i j (2 ^ p + low) g i j = fun x=>if x < 2 ^ p + low then Z1 m (a i j) (UInt8.ofNat x) else 0:=by simp [Q0]
  simp only [h0,h1,h2,hd,if_true,kY _ hi,jN _ i hj,eg,ZT _ (show low < 256 by omega),ho,ZT _ (show 2 ^ p + low < 256 by omega),Option.bind_some,Int.toNat_natCast,Tf,Xh (show low < 9223372036854775807 by omega)]
  rw [if_pos (show low < 2 ^ p + low from Nat.lt_add_of_pos_left (Nat.two_pow_pos p)),← yG hm2 hm,← kK hp hl]
  have:=qf (Q0 m a i j (2 ^ p + low) g) i j (fun x=>if x = 2 ^ p + low then Z1 m (a i j) (UInt8.ofNat (2 ^ p + low)) else if x < 2 ^ p + low then Z1 m (a i j) (UInt8.ofNat x) else 0)
  rw [this]
  refine congrArg (fun z=>some (Fl.nx (z,((low + 1 : Nat) : Int)))) (JE fun i' _ j' _ x _=>?_)
  unfold Q0
  by_cases h : i' = i ∧ j' = j
  ·simp only [h,and_self,if_true]
   by_cases hx : x = 2 ^ p + low
   ·subst hx; simp
   ·by_cases hx2 : x < 2 ^ p + low
    ·rw [if_neg hx,if_pos hx2,if_pos (by omega)]
    ·rw [if_neg hx,if_neg hx2,if_neg (by omega)]
  ·simp only [h,if_false]) (by
  unfold WD
  simp only [h2,k1]
  simp)
 exact this
theorem kH (i j : Nat) (hi : i < 4) (hj : j < 4) (g : Nat → Nat → Nat → UInt8) (s0 s1 : Tab × Int) (h0 : s0.2 = (i : Int)) (h1 : s1.2 = (j : Int)) :
  ZA (Wo (m : Int) s0 s1 (a i j)) (tb (Q0 m a i j 1 g),1) = some (tb (Q0 m a i j 256 g)):=by
 have:=Z0 (f:=Wo (m : Int) s0 s1 (a i j)) (fun p : Nat=>(tb (Q0 m a i j (2 ^ p) g),((2 ^ p : Nat) : Int))) 0 8 (by omega) (t:=tb (Q0 m a i j 256 g)) (fun p _ hp=>by
  unfold Wo
  have h7 : 2 ^ p ≤ 2 ^ 7:=Nat.pow_le_pow_right (by omega) (by omega)
  have hd : decide (((2 ^ p : Nat) : Int) < 256) = true:=by simp only [decide_eq_true_eq]; omega
  have hb : ZG ((2 ^ p : Nat) : Int) = UInt8.ofNat (2 ^ p):=by rw [VD]
  have hw : wr (((2 ^ p : Nat) : Int) * 2) = ((2 ^ (p + 1) : Nat) : Int):=by
   rw [Nat.pow_succ]
   generalize 2 ^ p = q at h7 ⊢
   rw [YS (by omega)]; omega
  have h3:=kL m hm hm2 a i j p hi hj hp g s0 s1 (tb (Q0 m a i j (2 ^ p) g),((2 ^ p : Nat) : Int)) h0 h1 rfl
  simp only [hd,if_true,hb,UN m hm,Option.bind_some,h3,hw]) (by unfold Wo; simp)
 exact this
theorem H4 (A : Mat) (hA : A = mf a) : W0 (m : Int) A = some ⟨Hb m a⟩:=by
 subst hA
 unfold W0
 let G : Nat → Nat → Nat → Nat → Nat → UInt8:=fun r c i j x=>if i < r ∨ (i = r ∧ j < c) then Z1 m (a i j) (UInt8.ofNat x) else 0
 have hGt : ∀ r c i j x,(i < r ∨ (i = r ∧ j < c)) → G r c i j x = Z1 m (a i j) (UInt8.ofNat x):=fun r c i j x h=>if_pos h
 have hGf : ∀ r c i j x,¬ (i < r ∨ (i = r ∧ j < c)) → G r c i j x = 0:=fun r c i j x h=>if_neg h
 have hGe : ∀ r c r' c' i j x,((i < r ∨ (i = r ∧ j < c)) ↔ (i < r' ∨ (i = r' ∧ j < c'))) → G r c i j x = G r' c' i j x:=fun r c r' c' i j x h=>by show (if _ then _ else _) = (if _ then _ else _); simp only [h]
 have z0 : ∀ i j,Z1 m (a i j) (UInt8.ofNat 0) = 0:=fun i j=>by rw [QI hm2 hm]; exact KD hm2 hm _
 have col : ∀ r : Nat,r < 4 → ∀ s0 : Tab × Int,s0.2 = (r : Int) → ZA (WA (m : Int) s0 (vf 4 (a r))) (tb (G r 0),0) = some (tb (G (r + 1) 0)):=fun r hr s0 h0=>by
  have k1 : tb (G r 4) = tb (G (r + 1) 0):=JE fun i hi j hj x _=>by
   exact hGe _ _ _ _ _ _ _ (by omega)
  have:=Z0 (f:=WA (m : Int) s0 (vf 4 (a r))) (fun c : Nat=>(tb (G r c),(c : Int))) 0 4 (by omega) (t:=tb (G (r + 1) 0)) (fun c _ hc=>by
   unfold WA
   have e1 : tb (G r c) = tb (Q0 m a r c 1 (G r c)):=JE fun i _ j _ x _=>by
    unfold Q0
    by_cases h : i = r ∧ j = c
    ·obtain ⟨rfl,rfl⟩:=h
     simp only [and_self,if_true]
     rw [hGf _ _ _ _ _ (by omega)]
     by_cases hx : x < 1
     ·have : x = 0:=by omega
      subst this; rw [if_pos hx,z0]
     ·rw [if_neg hx]
    ·simp only [h,if_false]
   have e2 : tb (Q0 m a r c 256 (G r c)) = tb (G r (c + 1)):=JE fun i _ j _ x hx=>by
    unfold Q0
    by_cases h : i = r ∧ j = c
    ·obtain ⟨rfl,rfl⟩:=h
     simp only [and_self,if_true,hx]
     rw [hGt _ _ _ _ _ (by omega)]
    ·simp only [h,if_false]
     exact hGe _ _ _ _ _ _ _ (by omega)
   have h3:=kH m hm hm2 a r c hr hc (G r c) s0 (tb (G r c),(c : Int)) h0 rfl
   rw [← e1,e2] at h3
   simp only [lt4 hc,if_true,ZT _ hc,h3,Option.bind_some,wr4 (show c < 1000 by omega)]) (by
   unfold WA
   simp only [k1]
   simp)
  exact this
 have kz : tb (G 0 0) = Vector.replicate 4 (Vector.replicate 4 (Vector.replicate 256 (0 : UInt8))):=by
  rw [UZ 256 (0 : UInt8),UZ 4,UZ 4]
  exact JE fun i _ j _ x _=>by
   exact hGf _ _ _ _ _ (by omega)
 have k4 : tb (G 4 0) = Hb m a:=JE fun i hi j _ x _=>by
  exact hGt _ _ _ _ _ (by omega)
 have:=Z0 (f:=Wp (m : Int) (mf a)) (fun r : Nat=>(tb (G r 0),(r : Int))) 0 4 (by omega) (t:=Hb m a) (fun r _ hr=>by
  unfold Wp
  have h3:=col r hr (tb (G r 0),(r : Int)) rfl
  simp only [lt4 hr,if_true,UE _ hr,h3,Option.bind_some,wr4 (show r < 1000 by omega)]) (by
  unfold Wp
  simp only [k4]
  simp)
 have h2 : ZA (Wp (m : Int) (mf a)) (tb (G 0 0),0) = _:=this
 rw [← kz,h2]; rfl
end

def HG (n : Nat) (p : Vector UInt8 n) : Nat → Vector UInt8 n
 | 0=>Vector.replicate n 0
 | i + 1=>(HG n p i).setIfInBounds (p.toList.getD i 0).toNat (ZG (i : Int))
theorem BL (p : Vector UInt8 256) : WT p = some (HG 256 p 256):=by
 unfold WT
 have:=Z0 (f:=Xy p) (fun i : Nat=>(HG 256 p i,(i : Int))) 0 256 (by omega) (t:=HG 256 p 256) (fun i _ hi=>by
  unfold Xy
  have hd : decide ((i : Int) < 256) = true:=by simp; omega
  simp only [hd,if_true,Ah p hi,QJ,Option.bind_some,zZ,Xh (show i < 9223372036854775807 by omega)]
  rfl) (by unfold Xy; simp)
 have h2 : ZA (Xy p) (Vector.replicate 256 0,0) = _:=this
 rw [h2]; rfl
theorem kU (p : Blk) {i : Nat} (h : i < 16) : p.toList.getD i 0 = bf p i:=by
 have h1:=Ah p h
 rw [KO p h] at h1
 exact (Option.some.inj h1).symm
theorem Jw (p : Blk) (hp : TR p = true) : XF p = some (HG 16 p 16):=by
 unfold XF
 have:=Z0 (f:=YQ p) (fun i : Nat=>(HG 16 p i,(i : Int))) 0 16 (by omega) (t:=HG 16 p 16) (fun i _ hi=>by
  unfold YQ
  have hlt:=JK hp hi
  have hv : ZI (HG 16 p i) (bI (bf p i)) = some (bf (HG 16 p i) (bf p i).toNat):=KO _ hlt
  simp only [Jf hi,if_true,KO p hi,hv,Option.bind_some,zZ,Xh (show i < 9223372036854775807 by omega)]
  rw [← kU p hi]
  rfl) (by unfold YQ; simp)
 have h2 : ZA (YQ p) (Vector.replicate 16 0,0) = _:=this
 rw [h2]; rfl

def Y3 (c : GCipher) : Gengine:=⟨c.Box,HG 256 c.Box 256,c.Places,HG 16 c.Places 16,⟨Hb c.Field.toNat (Hd c.Mix)⟩,⟨Hb c.Field.toNat (Hd (invM c.Field.toNat c.Mix))⟩,c.Rounds⟩
theorem Qh {c : GCipher} (h : YP c = true) : TR c.Places = true:=by
 unfold YP at h
 simp only [Bool.and_eq_true] at h
 exact h.1.1.2
theorem Kn {c : GCipher} (h : YP c = true) : 1 ≤ c.Rounds ∧ c.Rounds ≤ 20:=by
 unfold YP at h
 simp only [Bool.and_eq_true,decide_eq_true_eq] at h
 exact h.1.2
theorem zN (c : GCipher) (h : YP c = true) : Vn c = some ⟨Y3 c⟩:=by
 obtain ⟨m,hm,h1,h2⟩:=KM h
 have e : c.Field.toNat = m:=by omega
 unfold Vn Y3
 rw [e]
 simp only [hm,jT m h2 h1,Option.bind_some,BL,Jw _ (Qh h),H4 m h2 h1 (Hd c.Mix) c.Mix (Hs _),H4 m h2 h1 (Hd (invM m c.Mix)) (invM m c.Mix) (Hs _)]

def HP (c : GCipher) (n r : Nat) (k f : Nat → UInt8) : Nat → UInt8 :=
 K6 (if r < n then V9 c.Field.toNat (Hd c.Mix) (Ko c.Places (HI c.Box f)) else Ko c.Places (HI c.Box f)) k
def Ju (c : GCipher) (k f : Nat → UInt8) (n : Nat) : Nat → Nat → UInt8
 | 0=>K6 f k
 | r + 1=>HP c n (r + 1) (Ao c.Box k (r + 1)) (Ju c k f n r)
def A2 (c : GCipher) (k f : Nat → UInt8) (n : Nat) : Nat → UInt8:=Ju c k f n n
theorem BM (c : GCipher) (h : YP c = true) (k f : Nat → UInt8) (n : Nat) (hn : n ≤ 1000) : Y6 c (vf 16 k) (vf 16 f) (n : Int) = some (vf 16 (A2 c k f n)):=by
 obtain ⟨m,hm,h1,h2⟩:=KM h
 have e : c.Field.toNat = m:=by omega
 have hp:=Qh h
 unfold Y6
 have i0 : idx (VM c.Box k n) (0 : Int) = some (vf 16 k):=K3 c.Box k (Nat.zero_le n)
 simp only [jg c k n hn,Option.bind_some,i0,Jd]
 have:=Z0 (f:=Xs c (n : Int) (VM c.Box k n)) (fun i : Nat=>(vf 16 (Ju c k f n (i - 1)),(i : Int))) 1 (n + 1) (by omega) (t:=vf 16 (A2 c k f n)) (fun i hi1 hi=>by
  unfold Xs
  obtain ⟨r,rfl⟩ : ∃ q,i = q + 1:=⟨i - 1,by omega⟩
  have e1 : decide (((r + 1 : Nat) : Int) ≤ (n : Int)) = true:=by simp only [decide_eq_true_eq]; omega
  have Yu:=kh m h2 h1 (Hd c.Mix) (Ko c.Places (HI c.Box (Ju c k f n r)))
  rw [← Hs] at Yu
  simp only [Nat.add_sub_cancel,e1,if_true,ya,Option.bind_some,jA c.Places hp,hm,Yu,K3 c.Box k (show r + 1 ≤ n by omega),Xh (show r + 1 < 9223372036854775807 by omega)]
  by_cases hr : r + 1 < n
  ·have e2 : decide (((r + 1 : Nat) : Int) < (n : Int)) = true:=by simp only [decide_eq_true_eq]; omega
   simp only [e2,if_true,Option.bind_some,Jd,Ju,HP,hr,e]
  ·have e2 : decide (((r + 1 : Nat) : Int) < (n : Int)) = false:=by simp only [decide_eq_false_iff_not]; omega
   simp only [e2,Bool.false_eq_true,if_false,Option.bind_some,Jd,Ju,HP,hr]) (by
  unfold Xs
  have e1 : decide (((n + 1 : Nat) : Int) ≤ (n : Int)) = false:=by simp only [decide_eq_false_iff_not]; omega
  simp only [e1,Bool.false_eq_true,if_false,Nat.add_sub_cancel,A2])
 have h3 : ZA (Xs c (n : Int) (VM c.Box k n)) (vf 16 (K6 f k),1) = _:=this
 rw [h3]; rfl
theorem yC (e : Ref Gengine) (s : Blk × Int) (f : Nat → UInt8) (hs : s.1 = vf 16 f) : ZA (Yo e s) (vf 16 f,0) = some (vf 16 (HI e.v.box f)):=by
 have:=Wr (Yo e s) f (HI e.v.box f) (by omega) 0 (by omega) (fun j hj=>by omega) (fun i _ hi a _ ha=>by
  unfold Yo
  simp only [hs,Jf hi,if_true,ZT _ hi,Option.bind_some,Int.toNat_natCast,QJ,HI]) (fun v=>by unfold Yo; simp)
 exact this
theorem Bp (c : GCipher) (h : YP c = true) (k f : Nat → UInt8) (n : Nat) (hn : n ≤ 1000) : YK ⟨Y3 c⟩ (VM c.Box k n) (vf 16 f) = some (vf 16 (A2 c k f n)):=by
 have hp:=Qh h
 unfold YK
 have i0 : idx (VM c.Box k n) (0 : Int) = some (vf 16 k):=K3 c.Box k (Nat.zero_le n)
 simp only [Option.bind_some,i0,U3]
 have:=Z0 (f:=Yn ⟨Y3 c⟩ (VM c.Box k n)) (fun i : Nat=>(vf 16 (Ju c k f n (i - 1)),(i : Int))) 1 (n + 1) (by omega) (t:=vf 16 (A2 c k f n)) (fun i hi1 hi=>by
  unfold Yn
  obtain ⟨r,rfl⟩ : ∃ q,i = q + 1:=⟨i - 1,by omega⟩
  have e1 : decide (((r + 1 : Nat) : Int) < ((VM c.Box k n).length : Int)) = true:=by rw [QY]; simp only [decide_eq_true_eq]; omega
  have e3 : wr (((VM c.Box k n).length : Int) - 1) = (n : Int):=by rw [QY,YS (by omega)]; omega
  have hb:=yC ⟨Y3 c⟩ (vf 16 (Ju c k f n r),((r + 1 : Nat) : Int)) (Ju c k f n r) rfl
  have hmv:=v_move c.Places hp (HI c.Box (Ju c k f n r))
  have Yu:=v_mix c.Field.toNat (Hd c.Mix) (Ko c.Places (HI c.Box (Ju c k f n r)))
  have hsl : ∀ g : Nat → UInt8,slc (vf 16 g).toList (0 : Int) (16 : Int) = some (vf 16 g).toList:=fun g=>by
   have:=AG (l:=(vf 16 g).toList) (i:=0) (j:=16) (by omega) (by simp)
   simp only [List.drop_zero] at this
   rw [List.take_of_length_le (by simp)] at this
   exact this
  have q1 : (Y3 c).box = c.Box:=rfl
  have q2 : (Y3 c).places = c.Places:=rfl
  have q3 : (Y3 c).mixer = ⟨Hb c.Field.toNat (Hd c.Mix)⟩:=rfl
  simp only [q1] at hb
  simp only [Nat.add_sub_cancel,e1,if_true,hb,Option.bind_some,q2,q3,hmv,e3,hsl,Yu,K3 c.Box k (show r + 1 ≤ n by omega),Xh (show r + 1 < 9223372036854775807 by omega)]
  by_cases hr : r + 1 < n
  ·have e2 : decide (((r + 1 : Nat) : Int) < (n : Int)) = true:=by simp only [decide_eq_true_eq]; omega
   simp only [e2,if_true,Option.bind_some,U3,Ju,HP,hr]
  ·have e2 : decide (((r + 1 : Nat) : Int) < (n : Int)) = false:=by simp only [decide_eq_false_iff_not]; omega
   simp only [e2,Bool.false_eq_true,if_false,Option.bind_some,U3,Ju,HP,hr]) (by
  unfold Yn
  have e1 : decide (((n + 1 : Nat) : Int) < ((VM c.Box k n).length : Int)) = false:=by rw [QY]; simp only [decide_eq_false_iff_not]; omega
  simp only [e1,Bool.false_eq_true,if_false,Nat.add_sub_cancel,A2])
 have h3 : ZA (Yn ⟨Y3 c⟩ (VM c.Box k n)) (vf 16 (K6 f k),1) = _:=this
 rw [h3]; rfl
theorem K8 (c : GCipher) (h : YP c = true) (k f : Nat → UInt8) : Yw ⟨Y3 c⟩ (vf 16 k) (vf 16 f) = some (vf 16 (A2 c k f c.Rounds.toNat)):=by
 have hr:=Kn h
 obtain ⟨n,hn⟩ : ∃ n : Nat,c.Rounds = n:=⟨c.Rounds.toNat,by omega⟩
 have e1 : (Y3 c).rounds = (n : Int):=hn
 have e2 : (Y3 c).box = c.Box:=rfl
 have hk:=v_keys ⟨Y3 c⟩ k n (by omega)
 rw [e2] at hk
 unfold Yw
 simp only [e1,hk,Option.bind_some,Bp c h k f n (by omega),hn,Int.toNat_natCast]
theorem KU (c : GCipher) (h : YP c = true) (k f : Nat → UInt8) : Y6 c (vf 16 k) (vf 16 f) c.Rounds = some (vf 16 (A2 c k f c.Rounds.toNat)):=by
 have hr:=Kn h
 obtain ⟨n,hn⟩ : ∃ n : Nat,c.Rounds = n:=⟨c.Rounds.toNat,by omega⟩
 rw [hn]
 exact BM c h k f n (by omega)
theorem jF (x : Nat) : UInt8.ofNat (x % 256) = UInt8.ofNat x:=by
 apply UInt8.toNat_inj.1; simp
def tab (n : Nat) (f : Nat → UInt8) : List UInt8:=(List.range n).map f
@[simp] theorem tab_len (n : Nat) (f : Nat → UInt8) : (tab n f).length = n:=by simp [tab]
theorem kI {α : Type} (by_ : Nat) (z : α) (n : Nat) (h : n * by_ ≤ 140737488355328) (hby : 0 < by_) :
  ((if (decide ((n : Int) < 0)) = true then (none) else (some ()) : Option (Unit)).bind fun (_ : Unit)=>(if (decide ((wr ((n : Int) - (wr (0 - 0)))) > 0)) = true then ((mkS by_ z (wr ((n : Int) - (wr (0 - 0))))).bind fun (l14 : List α)=>(slc l14 (0 : Int) (0 : Int)).bind fun (l16 : List α)=>some l16) else (some ([])) : Option (List α)).bind fun (j6 : List α)=>some j6) = some []:=by
 have hn : n ≤ 140737488355328:=Nat.le_trans (Nat.le_mul_of_pos_right _ hby) h
 have e0 : wr (0 - 0) = 0:=by decide
 have e1 : wr ((n : Int) - (wr (0 - 0))) = (n : Int):=by rw [e0,YS (by omega)]; omega
 have e2 : ¬ ((n : Int) < 0):=by omega
 rw [e1]
 simp only [e2,decide_false,Bool.false_eq_true,if_false,Option.bind_some]
 by_cases h3 : (n : Int) > 0
 ·have hm : mkS by_ z (n : Int) = some (List.replicate n z):=by
   have h4 : ((n * by_ : Nat) : Int) ≤ 140737488355328:=by omega
   rw [Int.natCast_mul] at h4
   unfold mkS
   rw [if_pos ⟨by omega,h4⟩,Int.toNat_natCast]
  have hs : slc (List.replicate n z) (0 : Int) (0 : Int) = some []:=by
   have:=AG (l:=List.replicate n z) (i:=0) (j:=0) (Nat.le_refl _) (Nat.zero_le _)
   simpa using this
  simp [h3,hm,hs]
 ·have h4 : decide ((n : Int) > 0) = false:=by simp only [decide_eq_false_iff_not]; exact h3
  simp only [h4,Bool.false_eq_true,if_false,Option.bind_some]
theorem AB {α : Type} (by_ : Nat) (p0 : List (List α)) (L0 : Int × Int → Option (Fl (Int × Int) Int)) (L1 : Int × List α → Option (Fl (Int × List α) (List α)))
  (h0 : ∀ s,L0 s = if (decide (s.1 < (p0.length : Int))) = true then (((idx p0 s.1).bind fun (x : List α)=>(if (decide ((wr (s.2 + (x.length : Int))) < 0)) = true then (none) else (some ()) : Option (Unit)).bind fun (_ : Unit)=>some (wr (s.2 + (x.length : Int))) : Option (Int)).bind fun (j : Int)=>some (Fl.nx (wr (s.1 + 1),j))) else (some (Fl.ex s.2)))
  (h1 : ∀ s,L1 s = if (decide (s.1 < (p0.length : Int))) = true then ((idx p0 s.1).bind fun (x : List α)=>(app by_ s.2 x).bind fun (_ : List α)=>some (Fl.nx (wr (s.1 + 1),(s.2 ++ x)))) else (some (Fl.ex s.2)))
  (hl : p0.flatten.length * by_ ≤ 140737488355328) (hby : 0 < by_) (hn : p0.length < 9223372036854775807) :
  ZA L0 (0,0) = some (p0.flatten.length : Int) ∧ ZA L1 (0,[]) = some p0.flatten:=by
 have hlen : p0.flatten.length ≤ 140737488355328:=Nat.le_trans (Nat.le_mul_of_pos_right _ hby) hl
 have hstep : ∀ i (hi : i < p0.length),(p0.take (i + 1)).flatten = (p0.take i).flatten ++ p0[i]:=fun i hi=>by
  rw [List.take_succ_eq_append_getElem hi,List.flatten_append]; simp
 have hle : ∀ i,(p0.take i).flatten.length ≤ p0.flatten.length:=fun i=>by
  have : p0.flatten = (p0.take i).flatten ++ (p0.drop i).flatten:=by rw [← List.flatten_append,List.take_append_drop]
  rw [this,List.length_append]; omega
 constructor
 ·have:=Z0 (f:=L0) (fun i : Nat=>((i : Int),((p0.take i).flatten.length : Int))) 0 p0.length (Nat.zero_le _) (t:=(p0.flatten.length : Int)) (fun i _ hi=>by
   have hs:=congrArg List.length (hstep i hi)
   rw [List.length_append] at hs
   have h3:=hle (i + 1)
   have e1 : wr (((p0.take i).flatten.length : Int) + (p0[i].length : Int)) = ((p0.take (i + 1)).flatten.length : Int):=by rw [YS (by omega)]; omega
   have e2 : ¬ (((p0.take (i + 1)).flatten.length : Int) < 0):=by omega
   rw [h0]
   simp only [Int.ofNat_lt,hi,decide_true,if_true,Yg,List.getElem?_eq_getElem hi,Option.bind_some,e1,e2,decide_false,Bool.false_eq_true,if_false,Xh (show i < 9223372036854775807 by omega)]) (by
   rw [h0]; simp)
  exact this
 ·have:=Z0 (f:=L1) (fun i : Nat=>((i : Int),(p0.take i).flatten)) 0 p0.length (Nat.zero_le _) (t:=p0.flatten) (fun i _ hi=>by
   have hs:=congrArg List.length (hstep i hi)
   rw [List.length_append] at hs
   have h3:=hle (i + 1)
   have hap : app by_ (p0.take i).flatten p0[i] = some ((p0.take i).flatten ++ p0[i]):=XD (by
    have : ((p0.take i).flatten.length + p0[i].length) * by_ ≤ p0.flatten.length * by_:=Nat.mul_le_mul_right _ (by omega)
    omega)
   rw [h1]
   simp only [Int.ofNat_lt,hi,decide_true,if_true,Yg,List.getElem?_eq_getElem hi,Option.bind_some,hap,Xh (show i < 9223372036854775807 by omega),hstep i hi]) (by
   rw [h1]; simp)
  exact this
def KK (k : Nat) (b : UInt8) : UInt8:=shlB b (k : Int) ||| HR b ((8 - k : Nat) : Int)
theorem v_rot1 (b : UInt8) : Yc b 1 = some (KK 1 b):=by
 have e1 : wru (BitVec.ofInt 64 (IntKind.u64.wrap 1) &&& BitVec.ofInt 64 7).toNat = 1:=by decide +kernel
 have e2 : IntKind.u64.wrap (8 - 1) = 7:=by decide +kernel
 have e3 : XW 1 = some ():=rfl
 have e4 : XW 7 = some ():=rfl
 unfold Yc
 simp only [e1,e2,e3,e4,Option.bind_some]
 rfl
theorem v_rot4 (b : UInt8) : Yc b 4 = some (KK 4 b):=by
 have e1 : wru (BitVec.ofInt 64 (IntKind.u64.wrap 4) &&& BitVec.ofInt 64 7).toNat = 4:=by decide +kernel
 have e2 : IntKind.u64.wrap (8 - 4) = 4:=by decide +kernel
 have e3 : XW 4 = some ():=rfl
 unfold Yc
 simp only [e1,e2,e3,Option.bind_some]
 rfl
def HW (k : Nat) (b : UInt8) : UInt8:=ZG (Hj (orI (BD (bI b) (k : Int)) (TJ (BD (bI b) (k : Int)) 8)) 255)
theorem H0 {p : UInt8 → Bool} (h : ((List.range 256).all fun n=>p (UInt8.ofNat n)) = true) (b : UInt8) : p b = true:=by
 have:=List.all_eq_true.1 h b.toNat (by simpa using UInt8.toNat_lt b)
 simpa using this
theorem turn0 (b : UInt8) : HW 0 b = b:=by
 have:=H0 (p:=fun b=>HW 0 b == b) (by decide +kernel) b
 simpa using this
theorem turn1 (b : UInt8) : HW 1 b = KK 1 b:=by
 have:=H0 (p:=fun b=>HW 1 b == KK 1 b) (by decide +kernel) b
 simpa using this
theorem turn4 (b : UInt8) : HW 4 b = KK 4 b:=by
 have:=H0 (p:=fun b=>HW 4 b == KK 4 b) (by decide +kernel) b
 simpa using this
theorem yE (b : UInt8) (k : Nat) (h : k < 64) : XQ b (k : Int) = some (HW k b):=by
 have e1 : IntKind.u64.wrap (k : Int) = (k : Int):=yM k (by omega)
 unfold XQ
 rw [e1]
 have e2 : XW (k : Int) = some ():=by unfold XW; rw [if_pos (by omega)]
 rw [e2]; rfl
def HT (x : UInt8) : UInt8:=((T6 285 x ^^^ KK 1 (T6 285 x)) ^^^ KK 4 (T6 285 x)) ^^^ 90
def Ul (n : Int) : GCipher:=⟨285,vf 256 fun x=>HT (UInt8.ofNat x),mf fun i j=>T6 285 (UInt8.ofNat (i ^^^ (4 + j))),vf 16 fun i=>UInt8.ofNat ((13 * i + 4) % 16),n⟩
theorem A0 {i : Nat} (h : i < 256) : decide ((i : Int) < 256) = true:=by simp; omega
theorem Hw (L : Vector UInt8 256 × Int → Option (Fl (Vector UInt8 256 × Int) (Vector UInt8 256))) (h : Nat → UInt8) (hL : ∀ i : Nat,i < 256 → ∀ a : Nat → UInt8,L (vf 256 a,(i : Int)) = some (.nx ((vf 256 a).setIfInBounds i (h i),wr ((i : Int) + 1))))
  (he : ∀ v,L (v,256) = some (.ex v)) : ZA L (Vector.replicate 256 0,0) = some (vf 256 h):=by
 rw [UZ]
 exact Wr L (fun _=>0) h (by omega) 0 (by omega) (fun j hj=>by omega) (fun i _ hi a _ _=>hL i hi a) he
theorem z5 (E : UInt8 → Option UInt8) (hE : ∀ a,E a = some (T6 285 a)) (L1 : Mat × Int → Mat × Int → Option (Fl (Mat × Int) Mat)) (L0 : Mat × Int → Option (Fl (Mat × Int) Mat))
  (h1 : ∀ s t,L1 s t = if (decide (t.2 < 4)) = true then ((E (ZG (JD s.2 (wr (4 + t.2))))).bind fun r=>(ZI t.1 s.2).bind fun x=>(ZI x t.2).bind fun _=>some (Fl.nx ((t.1.setIfInBounds (s.2).toNat (x.setIfInBounds (t.2).toNat r)),wr (t.2 + 1)))) else (some (Fl.ex t.1)))
  (h0 : ∀ s,L0 s = if (decide (s.2 < 4)) = true then ((ZA (L1 s) (s.1,0) : Option Mat).bind fun j=>some (Fl.nx (j,wr (s.2 + 1)))) else (some (Fl.ex s.1))) :
  ZA L0 (Vector.replicate 4 (Vector.replicate 4 (0 : UInt8)),0) = some (mf fun i j=>T6 285 (UInt8.ofNat (i ^^^ (4 + j)))):=by
 have inner : ∀ (i : Nat) (hi : i < 4) (g : MF),ZA (L1 (mf g,(i : Int))) (mf g,0) = some (mf fun r c=>if r = i then T6 285 (UInt8.ofNat (i ^^^ (4 + c))) else g r c):=by
  intro i hi g
  have:=Z0 (f:=L1 (mf g,(i : Int))) (fun j : Nat=>(mf fun r c=>if r = i ∧ c < j then T6 285 (UInt8.ofNat (i ^^^ (4 + c))) else g r c,(j : Int))) 0 4 (by omega) (t:=mf fun r c=>if r = i then T6 285 (UInt8.ofNat (i ^^^ (4 + c))) else g r c) (fun j _ hj=>by
   have e1 : wr (4 + (j : Int)) = ((4 + j : Nat) : Int):=by rw [YS (by omega)]; omega
   rw [h1]
   simp only [lt4 hj,if_true,e1,Q6 i (4 + j) (by omega) (by omega),VD,hE,Option.bind_some,UE _ hi,ZT _ hj,Int.toNat_natCast,Tf,Kw,wr4 (show j < 1000 by omega)]
   refine congrArg (fun z=>some (Fl.nx (z,((j + 1 : Nat) : Int)))) (WQ fun r _ c _=>?_)
   by_cases hr : r = i
   ·subst hr
    by_cases hc : c = j
    ·subst hc; simp
    ·by_cases hc2 : c < j
     ·simp [hc,hc2,show c < j + 1 by omega]
     ·simp [hc,hc2,show ¬ c < j + 1 by omega]
   ·simp [hr]) (by
   rw [h1]
   simp only [show decide (((4 : Nat) : Int) < 4) = false from rfl,Bool.false_eq_true,if_false]
   refine congrArg (fun z=>some (Fl.ex z)) (WQ fun r _ c hc=>?_)
   by_cases hr : r = i <;> simp [hr,hc])
  have e0 : (mf fun r c=>if r = i ∧ c < 0 then T6 285 (UInt8.ofNat (i ^^^ (4 + c))) else g r c) = mf g:=WQ fun r _ c _=>by simp
  simp only [e0] at this
  exact this
 have:=Z0 (f:=L0) (fun i : Nat=>(mf fun r c=>if r < i then T6 285 (UInt8.ofNat (r ^^^ (4 + c))) else 0,(i : Int))) 0 4 (by omega) (t:=mf fun i j=>T6 285 (UInt8.ofNat (i ^^^ (4 + j)))) (fun i _ hi=>by
  rw [h0]
  simp only [lt4 hi,if_true,inner i hi,Option.bind_some,wr4 (show i < 1000 by omega)]
  refine congrArg (fun z=>some (Fl.nx (z,((i + 1 : Nat) : Int)))) (WQ fun r _ c _=>?_)
  by_cases hr : r = i
  ·subst hr; simp
  ·by_cases hc2 : r < i
   ·simp [hr,hc2,show r < i + 1 by omega]
   ·simp [hr,hc2,show ¬ r < i + 1 by omega]) (by
  rw [h0]
  simp only [show decide (((4 : Nat) : Int) < 4) = false from rfl,Bool.false_eq_true,if_false]
  exact congrArg (fun z=>some (Fl.ex z)) (WQ fun r hr c hc=>by simp [hr]))
 have e0 : (mf fun r c=>if r < 0 then T6 285 (UInt8.ofNat (r ^^^ (4 + c))) else 0) = mf fun _ _=>0:=WQ fun r _ c _=>by simp
 simp only [e0] at this
 rw [Am]
 exact this
theorem Bk (L : Blk × Int → Option (Fl (Blk × Int) Blk))
  (hL : ∀ s,L s = if (decide (s.2 < 16)) = true then ((ZI s.1 s.2).bind fun _=>some (Fl.nx ((s.1.setIfInBounds (s.2).toNat (ZG (Int.tmod (wr ((wr (13 * s.2)) + 4)) 16))),wr (s.2 + 1)))) else (some (Fl.ex s.1))) :
  ZA L (Vector.replicate 16 0,0) = some (vf 16 fun i=>UInt8.ofNat ((13 * i + 4) % 16)):=by
 rw [UZ]
 exact Wr L (fun _=>0) (fun i=>UInt8.ofNat ((13 * i + 4) % 16)) (by omega) 0 (by omega) (fun j hj=>by omega) (fun i _ hi a _ _=>by
  have e1 : wr (13 * (i : Int)) = 13 * (i : Int):=YS (by omega)
  have e2 : wr (13 * (i : Int) + 4) = ((13 * i + 4 : Nat) : Int):=by rw [YS (by omega)]; omega
  have e3 : Int.tmod ((13 * i + 4 : Nat) : Int) 16 = (((13 * i + 4) % 16 : Nat) : Int):=by rw [Int.tmod_eq_emod_of_nonneg (by omega)]; omega
  rw [hL]
  simp only [Jf hi,if_true,ZT _ hi,Option.bind_some,e1,e2,e3,VD,Int.toNat_natCast]) (fun v=>by rw [hL]; simp)
theorem BB (n : Int) : WM n = some (Ul n):=by
 have hinv : ∀ a,Yh 285 a = some (T6 285 a):=fun a=>QM 285 (by omega) a
 have h1:=Hw Wj (fun x=>HT (UInt8.ofNat x)) (fun i hi a=>by
  unfold Wj
  simp only [A0 hi,if_true,VD,hinv,v_rot1,v_rot4,Option.bind_some,ZT _ hi,Int.toNat_natCast]
  rfl) (fun v=>by unfold Wj; simp)
 have h2:=z5 (Yh 285) hinv Vh Vg (fun s t=>by unfold Vh; rfl) (fun s=>by unfold Vg; rfl)
 have h3:=Bk Vf (fun s=>by unfold Vf; rfl)
 unfold WM Ul
 simp only [h1,h2,h3,Option.bind_some]
theorem kJ (L : UInt8 × UInt8 × Int → Option (Fl (UInt8 × UInt8 × Int) UInt8)) (T : UInt8 → UInt8 → Option UInt8) (hT : ∀ a b,T a b = some (Z1 285 a b))
  (hL : ∀ s,L s = if (decide (s.2.2 > 0)) = true then (((if ((Int.tmod s.2.2 2) == 1) = true then ((T s.1 s.2.1).bind fun r=>some r) else (some s.1) : Option UInt8).bind fun j24=>(T s.2.1 s.2.1).bind fun r32=>some (j24,r32) : Option (UInt8 × UInt8)).bind fun j21=>some (Fl.nx (j21.1,j21.2,wr (Int.tdiv s.2.2 2)))) else (some (Fl.ex s.1))) :
  ∀ (f k : Nat) (a o : UInt8),k < 2 ^ f → f ≤ 62 → ZA L (o,a,(k : Int)) = some (J6 285 f a k o):=by
 intro f
 induction f with
 | zero =>
  intro k a o hk _
  have : k = 0:=by simpa using hk
  subst this
  exact Xe (by rw [hL]; simp [J6])
 | succ f ih =>
  intro k a o hk hf
  by_cases h0 : k = 0
  ·subst h0
   exact Xe (by rw [hL]; simp [J6])
  ·have hlt : k < 9223372036854775808:=Nat.lt_of_lt_of_le hk (Nat.pow_le_pow_right (by omega : 0 < 2) (by omega : f + 1 ≤ 63))
   have hst : L (o,a,(k : Int)) = some (.nx (if k % 2 = 1 then Z1 285 o a else o,Z1 285 a a,((k / 2 : Nat) : Int))):=by
    rw [hL]
    have c1 : (k : Int) > 0:=by omega
    have e3 : ((((k % 2 : Nat) : Int)) == 1) = decide (k % 2 = 1):=by
     rw [Bool.eq_iff_iff,beq_iff_eq,decide_eq_true_eq]; omega
    simp only [c1,decide_true,if_true,ky,kG,hT,e3,Option.bind_some,zC (k / 2) (by omega)]
    by_cases c2 : k % 2 = 1 <;> simp [c2]
   rw [XP hst,ih (k / 2) _ _ (by rw [Nat.pow_succ] at hk; omega) (by omega)]
   conv=>rhs; unfold J6
   rw [if_neg h0]
theorem yR : VU 285 254 = some (vf 256 fun x=>T6 285 (UInt8.ofNat x)):=by
 have hp:=kJ (Vz 285) (YM 285) (KL 285 (by omega) (by omega)) (fun s=>by unfold Vz; rfl)
 have hp2 : ∀ a,ZA (Vz 285) (1,a,254) = some (T6 285 a):=fun a=>hp 8 254 a 1 (by omega) (by omega)
 have h1:=Hw (Vk 285 254) (fun x=>T6 285 (UInt8.ofNat x)) (fun i hi a=>by
  unfold Vk
  simp only [A0 hi,if_true,VD,hp2,Option.bind_some,ZT _ hi,Int.toNat_natCast]) (fun v=>by unfold Vk; simp)
 unfold VU
 simp only [h1,Option.bind_some]
def rots (x : UInt8) : UInt8:=((90 ^^^ x) ^^^ KK 1 x) ^^^ KK 4 x
theorem Bl : Wl ([0,1,4] : List Int) 90 = some (vf 256 fun x=>rots (UInt8.ofNat x)):=by
 have t0 : ∀ b,XQ b 0 = some b:=fun b=>by have:=yE b 0 (by omega); rw [turn0] at this; exact this
 have t1 : ∀ b,XQ b 1 = some (KK 1 b):=fun b=>by have:=yE b 1 (by omega); rw [turn1] at this; exact this
 have t4 : ∀ b,XQ b 4 = some (KK 4 b):=fun b=>by have:=yE b 4 (by omega); rw [turn4] at this; exact this
 have w1 : wr 1 = 1:=by decide
 have w2 : wr 2 = 2:=by decide
 have w3 : wr 3 = 3:=by decide
 have hin : ∀ (s : Vector UInt8 256 × Int),ZA (Z7 [0,1,4] s) (90,0) = some (rots (ZG s.2)):=by
  intro s
  rw [XP (f:=Z7 [0,1,4] s) (s:=(90,0)) (s':=(90 ^^^ ZG s.2,1)) (by unfold Z7; simp [t0,w1,idx])]
  rw [XP (f:=Z7 [0,1,4] s) (s':=((90 ^^^ ZG s.2) ^^^ KK 1 (ZG s.2),2)) (by unfold Z7; simp [t1,w2,idx])]
  rw [XP (f:=Z7 [0,1,4] s) (s':=(((90 ^^^ ZG s.2) ^^^ KK 1 (ZG s.2)) ^^^ KK 4 (ZG s.2),3)) (by unfold Z7; simp [t4,w3,idx])]
  exact Xe (by unfold Z7; simp; rfl)
 have h1:=Hw (XS [0,1,4] 90) (fun x=>rots (UInt8.ofNat x)) (fun i hi a=>by
  unfold XS
  simp only [A0 hi,if_true,hin,VD,Option.bind_some,ZT _ hi,Int.toNat_natCast]) (fun v=>by unfold XS; simp)
 unfold Wl
 simp only [h1,Option.bind_some]
theorem jl (f g : Nat → UInt8) : Ue (vf 256 f) (vf 256 g) = some (vf 256 fun x=>g (f x).toNat):=by
 have hv : ∀ x : UInt8,ZI (vf 256 g) (bI x) = some (g x.toNat):=fun x=>ZT g (UInt8.toNat_lt x)
 have h1:=Hw (VR (vf 256 f) (vf 256 g)) (fun x=>g (f x).toNat) (fun i hi a=>by
  unfold VR
  simp only [A0 hi,if_true,Option.bind_some,ZT _ hi,hv,Int.toNat_natCast]) (fun v=>by unfold VR; simp)
 unfold Ue
 simp only [h1,Option.bind_some]
theorem yp (x : UInt8) : rots (UInt8.ofNat (T6 285 x).toNat) = HT x:=by
 rw [UInt8.ofNat_toNat]
 unfold rots HT
 ac_rfl
theorem ys (n : Int) : VN n = some (Ul n):=by
 have hinv : ∀ a,Vb 285 a = some (T6 285 a):=fun a=>jP 285 (by omega) (by omega) a
 have h2:=z5 (Vb 285) hinv Uu Ur (fun s t=>by unfold Uu; rfl) (fun s=>by unfold Ur; rfl)
 have h3:=Bk Uz (fun s=>by unfold Uz; rfl)
 unfold VN Ul
 simp only [yR,Bl,jl,yp,h2,h3,Option.bind_some]

theorem AF {α : Type} (n : Nat) (f : Nat → α) : (vf n f).toList = (List.range n).map f:=by
 apply List.ext_getElem
 ·simp
 ·intro i h1 h2
  simp at h1
  rw [Vector.getElem_toList,QH f h1]; simp
theorem jE : kp ((List.range 256).map fun x=>HT (UInt8.ofNat x)) = true:=by decide +kernel
theorem zO : TR (vf 16 fun i=>UInt8.ofNat ((13 * i + 4) % 16)) = true:=by
 unfold TR
 rw [AF]
 decide +kernel
theorem zY : KV 285 = true:=by decide +kernel
theorem jp : (detC 285 (mf fun i j=>T6 285 (UInt8.ofNat (i ^^^ (4 + j)))) != 0) = true:=by decide +kernel
theorem zx (n : Int) (h : 1 ≤ n ∧ n ≤ 20) : YP (Ul n) = true:=by
 unfold YP Ul
 simp only [AF,jE,zO,zY,Bool.true_and,h,decide_true,Bool.and_true,and_self]
 exact jp
theorem K4 (p0 : List (List UInt8)) (hl : p0.flatten.length ≤ 140737488355328) (hn : p0.length < 9223372036854775807) : Z4 p0 = some p0.flatten:=by
 obtain ⟨a1,a2⟩:=AB 1 p0 (Xl p0) (Xr p0) (fun s=>by unfold Xl; rfl) (fun s=>by unfold Xr; rfl) (by omega) (by omega) hn
 have hg : YD (p0.flatten.length : Int) = some []:=by
  unfold YD
  exact kI 1 _ _ (by omega) (by omega)
 unfold Z4
 simp only [a1,a2,hg,Option.bind_some]
theorem QZ (l : List UInt8) (h : l.length ≤ 140737488355328) : Ym l = some l:=by
 unfold Ym
 rw [XD (by simp; omega)]; rfl
theorem JR (l : List UInt8) (h : l.length ≤ 140737488355328) : WL l = some l:=by
 unfold WL
 rw [XD (by simp; omega)]; rfl
theorem HS {l : List UInt8} {n : Nat} (h : n ≤ l.length) : T4 n l = some (vf n fun j=>l.getD j 0):=by
 unfold T4
 rw [dif_pos h]
 refine congrArg some (Tm fun i hi=>?_)
 rw [QH _ hi,List.getD_eq_getElem?_getD,List.getElem?_eq_getElem (by omega)]
 simp
theorem z8 {l : List UInt8} {i j : Nat} (h : i ≤ j) (h2 : j ≤ l.length) : ∃ r,slc l (i : Int) (j : Int) = some r ∧ r.length = j - i ∧ ∀ k,k < j - i → r.getD k 0 = l.getD (i + k) 0:=by
 refine ⟨_,AG h h2,by simp; omega,fun k hk=>?_⟩
 rw [List.getD_eq_getElem?_getD,List.getD_eq_getElem?_getD,List.getElem?_drop,List.getElem?_take,if_pos (by omega)]

def beL (n : Int) : Nat → List UInt8
 | 0=>[]
 | k + 1=>ZG (TJ n ((8 * k : Nat) : Int)) :: beL n k
theorem Av (n : Int) : ∀ k,(beL n k).length = k
 | 0=>rfl
 | k + 1=>by rw [beL,List.length_cons,Av n k]
theorem jc (n : Int) (L : List UInt8 × Int → Option (Fl (List UInt8 × Int) (List UInt8))) (K : Nat)
  (hL : ∀ (k : Nat) (acc : List UInt8),k < K → acc.length ≤ 100000000 → L (acc,(k : Int)) = some (.nx (acc ++ [ZG (TJ n ((8 * k : Nat) : Int))],(k : Int) - 1))) (he : ∀ acc,L (acc,-1) = some (.ex acc)) :
  ∀ (k : Nat) (acc : List UInt8),k ≤ K → acc.length + k ≤ 100000000 → ZA L (acc,(k : Int) - 1) = some (acc ++ beL n k):=by
 intro k
 induction k with
 | zero=>intro acc _ _; rw [show ((0 : Nat) : Int) - 1 = -1 from rfl,Xe (he acc)]; simp [beL]
 | succ k ih =>
  intro acc hk hl
  have e : ((k + 1 : Nat) : Int) - 1 = (k : Int):=by omega
  rw [e,XP (hL k acc (by omega) (by omega)),ih _ (by omega) (by simp; omega)]
  simp [beL]
theorem zh (n : Int) (m : Nat) (hm : m ≤ 100) : Wu n (m : Int) = some (beL n m):=by
 have h:=jc n (W8 n) 100 (fun k acc hk hl=>by
  unfold W8
  have e1 : wr (8 * (k : Int)) = ((8 * k : Nat) : Int):=by rw [YS (by omega)]; omega
  have e2 : XW ((8 * k : Nat) : Int) = some ():=by unfold XW; rw [if_pos (by omega)]
  have e3 : wr ((k : Int) - 1) = (k : Int) - 1:=YS (by omega)
  have e4 : decide ((k : Int) ≥ 0) = true:=by simp
  simp only [e1,e2,e3,e4,if_true,Option.bind_some]
  rw [XD (by simp; omega)]; rfl) (fun acc=>by unfold W8; simp) m [] hm (by simp; omega)
 have e : wr ((m : Int) - 1) = (m : Int) - 1:=YS (by omega)
 unfold Wu
 rw [e,h]; rfl
theorem and255 (x : Int) : ZG (Hj x 255) = ZG x:=by
 have h1 : (BitVec.ofInt 64 255) = (255 : BitVec 64):=rfl
 have h2 : (BitVec.ofInt 64 x &&& BitVec.ofInt 64 255).toNat = (x % 256).toNat:=by
  rw [BitVec.toNat_and,h1,show (255 : BitVec 64).toNat = 2 ^ 8 - 1 from rfl,Nat.and_two_pow_sub_one_eq_mod,BitVec.toNat_ofInt]
  omega
 unfold Hj ZG
 rw [h2,YS (by omega)]
 congr 1
 omega
def Vs (n : Nat) : Nat:=(24 - n % 16) % 16
def Q4 (d : List UInt8) : List UInt8:=((d ++ [128]) ++ List.replicate (Vs (d.length + 1)) 0) ++ beL (d.length : Int) 8
theorem zb (d : List UInt8) : ∃ n,(Q4 d).length = 16 * n ∧ n ≤ d.length + 2:=by
 have : (Q4 d).length = d.length + 1 + Vs (d.length + 1) + 8:=by simp [Q4,Av]; omega
 refine ⟨(d.length + 1 + Vs (d.length + 1) + 8) / 16,?_,?_⟩
 ·rw [this]; unfold Vs; omega
 ·unfold Vs; omega
theorem zf (L : List UInt8 → Option (Fl (List UInt8) (List UInt8))) (hL : ∀ s,L s = if ((Int.tmod (s.length : Int) 16) != 8) = true then ((app 1 s ([0] : List UInt8)).bind fun (_ : List UInt8)=>some (Fl.nx (s ++ ([0] : List UInt8)))) else (some (Fl.ex s)))
  (l : List UInt8) (hl : l.length ≤ 100000000) : ZA L l = some (l ++ List.replicate (Vs l.length) 0):=by
 have ht : ∀ n : Nat,Int.tmod (n : Int) 16 = ((n % 16 : Nat) : Int):=fun n=>by rw [Int.tmod_eq_emod_of_nonneg (by omega)]; omega
 have:=Z0 (f:=L) (fun i : Nat=>l ++ List.replicate i 0) 0 (Vs l.length) (Nat.zero_le _) (t:=l ++ List.replicate (Vs l.length) 0) (fun i _ hi=>by
  rw [hL,ht]
  have hz : Vs l.length < 16:=by unfold Vs; omega
  have e : ((((l ++ List.replicate i 0).length % 16 : Nat) : Int) != 8) = true:=by
   simp only [List.length_append,List.length_replicate,bne_iff_ne,ne_eq]
   unfold Vs at hi; omega
  rw [e,if_pos rfl,XD (by simp; omega)]
  simp [List.replicate_succ']) (by
  rw [hL,ht]
  have e : ((((l ++ List.replicate (Vs l.length) 0).length % 16 : Nat) : Int) != 8) = false:=by
   simp only [List.length_append,List.length_replicate,bne_eq_false_iff_eq]
   unfold Vs; omega
  rw [e]; rfl)
 simpa using this
theorem AS (d : List UInt8) (h : d.length ≤ 10000000) : W4 d = some (Q4 d):=by
 have h1:=zf VF (fun s=>by unfold VF; rfl) (d ++ [128]) (by simp; omega)
 have h2:=zh (d.length : Int) 8 (by omega)
 have h3 : Wu (d.length : Int) 8 = some (beL (d.length : Int) 8):=h2
 have hz : Vs (d.length + 1) < 16:=by unfold Vs; omega
 have e : (d ++ [128]).length = d.length + 1:=by simp
 rw [e] at h1
 unfold W4 Q4
 rw [QZ d (by omega),Option.bind_some,XD (by simp; omega),Option.bind_some,h1,Option.bind_some,h3,Option.bind_some,XD (by simp [Av]; omega)]
 rfl
theorem jM (d : List UInt8) (h : d.length ≤ 10000000) : UL d = some (Q4 d):=by
 have h1:=zf Tb (fun s=>by unfold Tb; rfl) (d ++ [128]) (by simp; omega)
 have hz : Vs (d.length + 1) < 16:=by unfold Vs; omega
 have e : (d ++ [128]).length = d.length + 1:=by simp
 rw [e] at h1
 have h2:=jc (d.length : Int) (Vw d) 100 (fun k acc hk hl=>by
  unfold Vw
  have e1 : wr (8 * (k : Int)) = ((8 * k : Nat) : Int):=by rw [YS (by omega)]; omega
  have e5 : IntKind.u64.wrap ((8 * k : Nat) : Int) = ((8 * k : Nat) : Int):=yM _ (by omega)
  have e2 : XW ((8 * k : Nat) : Int) = some ():=by unfold XW; rw [if_pos (by omega)]
  have e3 : wr ((k : Int) - 1) = (k : Int) - 1:=YS (by omega)
  have e4 : decide ((k : Int) ≥ 0) = true:=by simp
  simp only [e1,e5,e2,e3,e4,if_true,Option.bind_some,and255]
  rw [XD (by simp; omega)]; rfl) (fun acc=>by unfold Vw; simp) 8 ((d ++ [128]) ++ List.replicate (Vs (d.length + 1)) 0) (by omega) (by simp; omega)
 have h3 : ZA (Vw d) ((d ++ [128]) ++ List.replicate (Vs (d.length + 1)) 0,7) = some (((d ++ [128]) ++ List.replicate (Vs (d.length + 1)) 0) ++ beL (d.length : Int) 8):=h2
 unfold UL Q4
 rw [JR d (by omega),Option.bind_some,XD (by simp; omega),Option.bind_some,h1,Option.bind_some,h3]
 rfl

def y9 (l : List UInt8) (i : Nat) : Blk:=vf 16 fun j=>l.getD (16 * i + j) 0
def X6 (l : List UInt8) (n : Nat) : List Blk:=(List.range n).map (y9 l)
theorem Qa (l : List UInt8) (n : Nat) : (X6 l n).length = n:=by simp [X6]
theorem KR (l : List UInt8) (n : Nat) : X6 l (n + 1) = X6 l n ++ [y9 l n]:=by simp [X6,List.range_succ]
theorem yI (l : List UInt8) (n : Nat) (hl : l.length = 16 * n) (hn : n ≤ 100000000) : VS l = some (X6 l n):=by
 have:=Z0 (f:=Wx l) (fun i : Nat=>(X6 l i,((16 * i : Nat) : Int))) 0 n (Nat.zero_le _) (t:=X6 l n) (fun i _ hi=>by
  unfold Wx
  have e1 : wr (((16 * i : Nat) : Int) + 16) = ((16 * (i + 1) : Nat) : Int):=by rw [YS (by omega)]; omega
  have e2 : decide (((16 * i : Nat) : Int) < (l.length : Int)) = true:=by simp; omega
  obtain ⟨r,r1,r2,r3⟩:=z8 (l:=l) (i:=16 * i) (j:=16 * (i + 1)) (by omega) (by omega)
  have e3 : T4 16 r = some (y9 l i):=by
   rw [HS (by omega)]
   exact congrArg some (Y7 fun j hj=>r3 j (by omega))
  simp only [e1,e2,if_true,r1,e3,Option.bind_some]
  rw [XD (by rw [Qa]; simp; omega),KR]; rfl) (by
  unfold Wx
  have e2 : decide (((16 * n : Nat) : Int) < (l.length : Int)) = false:=by simp; omega
  simp only [e2,Bool.false_eq_true,if_false])
 have h2 : ZA (Wx l) ([],0) = _:=this
 unfold VS
 rw [h2]; rfl
theorem zK (l : List UInt8) (n : Nat) (hl : l.length = 16 * n) (hn : n ≤ 100000000) : Vl l = some (X6 l n):=by
 have:=Z0 (f:=X5 l) (fun i : Nat=>(X6 l i,((16 * i : Nat) : Int))) 0 n (Nat.zero_le _) (t:=X6 l n) (fun i _ hi=>by
  unfold X5
  have e1 : wr (((16 * i : Nat) : Int) + 16) = ((16 * (i + 1) : Nat) : Int):=by rw [YS (by omega)]; omega
  have e2 : decide (((16 * (i + 1) : Nat) : Int) ≤ (l.length : Int)) = true:=by simp; omega
  have h3:=Wr (Wa l (X6 l i,((16 * i : Nat) : Int))) (fun _=>0) (fun j=>l.getD (16 * i + j) 0) (by omega) 0 (by omega) (fun j hj=>by omega) (fun j _ hj a _ _=>by
   unfold Wa
   have e4 : wr (((16 * i : Nat) : Int) + (j : Int)) = ((16 * i + j : Nat) : Int):=by rw [YS (by omega)]; omega
   have e5 : 16 * i + j < l.length:=by omega
   simp only [Jf hj,if_true,e4,Yg,List.getElem?_eq_getElem e5,ZT _ hj,Option.bind_some,Int.toNat_natCast,List.getD_eq_getElem?_getD,Option.getD_some]) (fun v=>by unfold Wa; simp)
  have h4 : ZA (Wa l (X6 l i,((16 * i : Nat) : Int))) (Vector.replicate 16 0,0) = some (y9 l i):=by rw [UZ]; exact h3
  simp only [e1,e2,if_true,h4,Option.bind_some]
  rw [XD (by rw [Qa]; simp; omega),KR]; rfl) (by
  unfold X5
  have e1 : wr (((16 * n : Nat) : Int) + 16) = ((16 * (n + 1) : Nat) : Int):=by rw [YS (by omega)]; omega
  have e2 : decide (((16 * (n + 1) : Nat) : Int) ≤ (l.length : Int)) = false:=by simp; omega
  simp only [e1,e2,Bool.false_eq_true,if_false])
 have h2 : ZA (X5 l) ([],0) = _:=this
 unfold Vl
 rw [h2]; rfl

abbrev Dig:=Vector UInt8 32
def df (v : Dig) (i : Nat) : UInt8:=v[i]?.getD default
theorem vf_df (v : Dig) : v = vf 32 (df v):=yW v
def QF : Dig:=vf 32 fun i=>UInt8.ofNat (17 * i)
theorem lt32 {i : Nat} (h : i < 32) : decide ((i : Int) < 32) = true:=by simp; omega
theorem qp : XR = some QF:=by
 have h:=Wr YY (fun _=>0) (fun i=>UInt8.ofNat (17 * i)) (by omega) 0 (by omega) (fun j hj=>by omega) (fun i _ hi a _ _=>by
  unfold YY
  have e1 : wr (17 * (i : Int)) = ((17 * i : Nat) : Int):=by rw [YS (by omega)]; omega
  simp only [lt32 hi,if_true,ZT _ hi,Option.bind_some,e1,VD,Int.toNat_natCast]) (fun v=>by unfold YY; simp)
 have h2 : ZA YY (Vector.replicate 32 0,0) = some QF:=by rw [UZ]; exact h
 unfold XR
 rw [h2]; rfl
theorem yN : VP = some QF:=by
 have h:=Wr Ws (fun _=>0) (fun i=>UInt8.ofNat (17 * i)) (by omega) 0 (by omega) (fun j hj=>by omega) (fun i _ hi a _ _=>by
  unfold Ws
  have e1 : wr (17 * (i : Int)) = ((17 * i : Nat) : Int):=by rw [YS (by omega)]; omega
  have e2 : Int.tmod ((17 * i : Nat) : Int) 256 = ((17 * i % 256 : Nat) : Int):=by rw [Int.tmod_eq_emod_of_nonneg (by omega)]; omega
  simp only [lt32 hi,if_true,ZT _ hi,Option.bind_some,e1,e2,VD,jF,Int.toNat_natCast]) (fun v=>by unfold Ws; simp)
 have h2 : ZA Ws (Vector.replicate 32 0,0) = some QF:=by rw [UZ]; exact h
 unfold VP
 rw [h2]; rfl
def hiF (s : Nat → UInt8) : Nat → UInt8:=fun i=>s (16 + i)
def B0 (f g : Nat → UInt8) : Nat → UInt8:=fun i=>if i < 16 then f i else g (i - 16)
def yV (c : GCipher) (k a : Nat → UInt8) : Nat → UInt8:=K6 (A2 c k a c.Rounds.toNat) a
def absC (c : GCipher) (s m : Nat → UInt8) : Nat → UInt8 :=
 B0 (yV c (hiF s) (K6 s m)) (yV c (yV c (hiF s) (K6 s m)) (K6 (hiF s) m))
theorem zP (s : Nat → UInt8) : Vu (vf 32 s) = some (vf 16 s,vf 16 (hiF s)):=by
 have:=Z0 (f:=X7 (vf 32 s)) (fun i : Nat=>(vf 16 (fun j=>if j < i then hiF s j else 0),vf 16 (fun j=>if j < i then s j else 0),(i : Int))) 0 16 (by omega) (t:=(vf 16 (hiF s),vf 16 s)) (fun i _ hi=>by
  unfold X7
  have e1 : wr (16 + (i : Int)) = ((16 + i : Nat) : Int):=by rw [YS (by omega)]; omega
  simp only [Jf hi,if_true,e1,ZT _ (show i < 32 by omega),ZT _ (show 16 + i < 32 by omega),ZT _ hi,Option.bind_some,Int.toNat_natCast,Tf,Xh (show i < 9223372036854775807 by omega)]
  have e : ∀ f : Nat → UInt8,(vf 16 fun j=>if j = i then f i else if j < i then f j else 0) = vf 16 fun j=>if j < i + 1 then f j else 0:=fun f=>Y7 fun j _=>by
   by_cases h1 : j = i
   ·subst h1; simp
   ·by_cases h2 : j < i
    ·rw [if_neg h1,if_pos h2,if_pos (by omega)]
    ·rw [if_neg h1,if_neg h2,if_neg (by omega)]
  have ea:=e (hiF s)
  have eb:=e s
  rw [eb]
  have ea' : (vf 16 fun j=>if j = i then s (16 + i) else if j < i then hiF s j else 0) = vf 16 fun j=>if j < i + 1 then hiF s j else 0:=ea
  rw [ea']) (by
  unfold X7
  simp only [show decide (((16 : Nat) : Int) < 16) = false from rfl,Bool.false_eq_true,if_false]
  refine congrArg (fun z=>some (Fl.ex z)) (congr (congrArg Prod.mk (Y7 fun j hj=>by rw [if_pos hj])) (Y7 fun j hj=>by rw [if_pos hj])))
 have h2 : ZA (X7 (vf 32 s)) (vf 16 (fun _=>0),vf 16 (fun _=>0),0) = some (vf 16 (hiF s),vf 16 s):=by
  have e0 : ∀ f : Nat → UInt8,(vf 16 fun j=>if j < 0 then f j else 0) = vf 16 fun _=>0:=fun f=>Y7 fun j _=>by simp
  simp only [e0] at this
  exact this
 unfold Vu
 rw [UZ,h2]; rfl
theorem zH (c : GCipher) (h : YP c = true) (s m : Nat → UInt8) : WB c (vf 32 s) (vf 16 m) = some (vf 32 (absC c s m)):=by
 have hj : ∀ f g : Nat → UInt8,ZA (X8 (vf 16 f) (vf 16 g)) (Vector.replicate 32 0,0) = some (vf 32 (B0 f g)):=by
  intro f g
  have:=Z0 (f:=X8 (vf 16 f) (vf 16 g)) (fun i : Nat=>(vf 32 (fun j=>if j < i then f j else if 16 ≤ j ∧ j < 16 + i then g (j - 16) else 0),(i : Int))) 0 16 (by omega) (t:=vf 32 (B0 f g)) (fun i _ hi=>by
   unfold X8
   have e1 : wr (16 + (i : Int)) = ((16 + i : Nat) : Int):=by rw [YS (by omega)]; omega
   simp only [Jf hi,if_true,e1,ZT _ (show i < 32 by omega),ZT _ (show 16 + i < 32 by omega),ZT _ hi,Option.bind_some,Int.toNat_natCast,Tf,Xh (show i < 9223372036854775807 by omega)]
   refine congrArg (fun z=>some (Fl.nx (z,((i + 1 : Nat) : Int)))) (Y7 fun j hj=>?_)
   by_cases h1 : j = 16 + i
   ·subst h1
    rw [if_pos rfl,if_neg (by omega),if_pos (by omega)]
    congr 1; omega
   ·rw [if_neg h1]
    by_cases h2 : j = i
    ·subst h2; rw [if_pos rfl,if_pos (by omega)]
    ·rw [if_neg h2]
     by_cases h3 : j < i
     ·rw [if_pos h3,if_pos (by omega)]
     ·rw [if_neg h3,if_neg (show ¬ j < i + 1 by omega)]
      by_cases h4 : 16 ≤ j ∧ j < 16 + i
      ·rw [if_pos h4,if_pos (by omega)]
      ·rw [if_neg h4,if_neg (by omega)]) (by
   unfold X8
   simp only [show decide (((16 : Nat) : Int) < 16) = false from rfl,Bool.false_eq_true,if_false]
   refine congrArg (fun z=>some (Fl.ex z)) (Y7 fun j hj=>?_)
   unfold B0
   by_cases h3 : j < 16
   ·rw [if_pos h3,if_pos h3]
   ·rw [if_neg h3,if_neg h3,if_pos (by omega)])
  have e0 : (vf 32 fun j=>if j < 0 then f j else if 16 ≤ j ∧ j < 16 + 0 then g (j - 16) else 0) = vf 32 fun _=>0:=Y7 fun j _=>by rw [if_neg (by omega),if_neg (by omega)]
  simp only [e0] at this
  rw [UZ]
  exact this
 unfold WB
 simp only [zP,Option.bind_some,Jd,KU c h,hj]
 rfl
theorem jR (c : GCipher) (h : YP c = true) (s m : Nat → UInt8) : Y9 ⟨Y3 c⟩ (vf 32 s) (vf 16 m) = some (vf 32 (absC c s m)):=by
 have g1 : ∀ {n : Nat} (f : Nat → UInt8) (k : Nat),k < n → (vf n f).toList.getD k 0 = f k:=fun f k hk=>by
  rw [AF,List.getD_eq_getElem?_getD,List.getElem?_map,List.getElem?_range hk]; rfl
 have hl : ∀ {n : Nat} (f : Nat → UInt8),(vf n f).toList.length = n:=fun f=>by simp
 have cut : ∀ {n : Nat} (f : Nat → UInt8) (i j : Nat),i ≤ j → j ≤ n → ∃ r,slc (vf n f).toList (i : Int) (j : Int) = some r ∧ r.length = j - i ∧ T4 (j - i) r = some (vf (j - i) fun k=>f (i + k)) ∧ ∀ k,k < j - i → r.getD k 0 = f (i + k):=by
  intro n f i j hij hjn
  obtain ⟨r,r1,r2,r3⟩:=z8 (l:=(vf n f).toList) (i:=i) (j:=j) hij (by rw [hl]; exact hjn)
  have r4 : ∀ k,k < j - i → r.getD k 0 = f (i + k):=fun k hk=>by rw [r3 k hk,g1 f (i + k) (by omega)]
  refine ⟨r,r1,r2,?_,r4⟩
  rw [HS (by omega)]
  exact congrArg some (Y7 r4)
 obtain ⟨l,l1,l2,l3,l4⟩:=cut (n:=32) s 0 16 (by omega) (by omega)
 obtain ⟨l',l1',l2',l3',l4'⟩:=cut (n:=32) s 16 32 (by omega) (by omega)
 have a1 : slc (vf 32 s).toList (0 : Int) (16 : Int) = some l:=l1
 have a2 : slc (vf 32 s).toList (16 : Int) (32 : Int) = some l':=l1'
 have a3 : T4 16 l = some (vf 16 s):=by
  have : T4 16 l = some (vf 16 fun k=>s (0 + k)):=l3
  rw [this]; exact congrArg some (Y7 fun k _=>by rw [Nat.zero_add])
 have a4 : T4 16 l' = some (vf 16 (hiF s)):=l3'
 have join : ∀ f g : Nat → UInt8,((slc (vf 16 f).toList (0 : Int) (16 : Int)).bind fun (l56 : (List UInt8))=>(slc (vf 16 g).toList (0 : Int) (16 : Int)).bind fun (l59 : (List UInt8))=>(Z4 ([l56,l59] : (List (List UInt8)))).bind fun (r64 : (List UInt8))=>(T4 32 r64).bind fun (x67 : (Vector UInt8 32))=>some x67 : Option ((Vector UInt8 32))) = some (vf 32 (B0 f g)):=by
  intro f g
  obtain ⟨p,p1,p2,_,p4⟩:=cut (n:=16) f 0 16 (by omega) (by omega)
  obtain ⟨q,q1,q2,_,q4⟩:=cut (n:=16) g 0 16 (by omega) (by omega)
  have b1 : slc (vf 16 f).toList (0 : Int) (16 : Int) = some p:=p1
  have b2 : slc (vf 16 g).toList (0 : Int) (16 : Int) = some q:=q1
  have b3 : Z4 [p,q] = some (p ++ q):=by
   have:=K4 [p,q] (by simp; omega) (by simp)
   simpa using this
  rw [b1,Option.bind_some,b2,Option.bind_some,b3,Option.bind_some,HS (by simp; omega),Option.bind_some]
  refine congrArg some (Y7 fun k hk=>?_)
  unfold B0
  rw [List.getD_eq_getElem?_getD]
  by_cases h1 : k < 16
  ·rw [if_pos h1,List.getElem?_append_left (by omega),← List.getD_eq_getElem?_getD,p4 k (by omega),Nat.zero_add]
  ·rw [if_neg h1,List.getElem?_append_right (by omega),← List.getD_eq_getElem?_getD,q4 (k - p.length) (by omega),Nat.zero_add,show p.length = 16 from p2]
 have in1 : ∀ k a : Nat → UInt8,((Yw ⟨Y3 c⟩ (vf 16 k) (vf 16 a)).bind fun (r34 : (Vector UInt8 16))=>(Ys r34 (vf 16 a)).bind fun (r36 : (Vector UInt8 16))=>some r36 : Option (Vector UInt8 16)) = some (vf 16 (yV c k a)):=fun k a=>by
  rw [K8 c h,Option.bind_some,U3,Option.bind_some]; rfl
 unfold Y9
 rw [a1,Option.bind_some,a3,Option.bind_some,a2,Option.bind_some,a4,Option.bind_some,U3,Option.bind_some,in1,Option.bind_some,U3,Option.bind_some,in1,Option.bind_some,join,Option.bind_some]
 rfl

def absV (c : GCipher) (s : Dig) (m : Blk) : Dig:=vf 32 (absC c (df s) (bf m))
theorem y6 (c : GCipher) (h : YP c = true) (s : Dig) (m : Blk) : Y9 ⟨Y3 c⟩ s m = some (absV c s m) ∧ WB c s m = some (absV c s m):=by
 have h1:=jR c h (df s) (bf m)
 have h2:=zH c h (df s) (bf m)
 rw [← vf_df,← vf_bf] at h1 h2
 exact ⟨h1,h2⟩
def zL (c : GCipher) (d : List UInt8) : Dig:=(X6 (Q4 d) ((Q4 d).length / 16)).foldl (absV c) QF
theorem z2 (c : GCipher) (h : YP c = true) (ps : List (List UInt8)) (hl : ps.flatten.length ≤ 10000000) (hn : ps.length < 9223372036854775807) : YH ⟨Y3 c⟩ ps = some (zL c ps.flatten):=by
 obtain ⟨n,n1,n2⟩:=zb ps.flatten
 have e : (Q4 ps.flatten).length / 16 = n:=by omega
 have h1:=Jl (f:=YX ⟨Y3 c⟩ (X6 (Q4 ps.flatten) n)) (X6 (Q4 ps.flatten) n) (fun (b : Dig) i=>(b,i)) (absV c) QF (t:=zL c ps.flatten) (by rw [Qa]; omega) (fun i hi=>by
  unfold YX
  simp only [Int.ofNat_lt,hi,decide_true,if_true,Yg,List.getElem?_eq_getElem hi,Option.bind_some,(y6 c h _ _).1]) (by
  unfold YX zL
  rw [e]; simp)
 unfold YH
 rw [qp,Option.bind_some,K4 ps (by omega) hn,Option.bind_some,AS _ hl,Option.bind_some,yI _ n n1 (by omega),Option.bind_some]
 have h2 : ZA (YX ⟨Y3 c⟩ (X6 (Q4 ps.flatten) n)) (QF,0) = _:=h1
 rw [h2]; rfl
theorem qd (c : GCipher) (h : YP c = true) (d : List UInt8) (hl : d.length ≤ 10000000) : Th c d = some (zL c d):=by
 obtain ⟨n,n1,n2⟩:=zb d
 have e : (Q4 d).length / 16 = n:=by omega
 have h1:=Jl (f:=VV c (X6 (Q4 d) n)) (X6 (Q4 d) n) (fun (b : Dig) i=>(b,i)) (absV c) QF (t:=zL c d) (by rw [Qa]; omega) (fun i hi=>by
  unfold VV
  simp only [Int.ofNat_lt,hi,decide_true,if_true,Yg,List.getElem?_eq_getElem hi,Option.bind_some,(y6 c h _ _).2]) (by
  unfold VV zL
  rw [e]; simp)
 unfold Th
 rw [jM _ hl,Option.bind_some,zK _ n n1 (by omega),Option.bind_some,yN,Option.bind_some]
 have h2 : ZA (VV c (X6 (Q4 d) n)) (QF,0) = _:=h1
 rw [h2]; rfl
theorem yl : YP (Ul 8) = true:=zx 8 (by omega)
theorem qi (n : Int) (h : 1 ≤ n ∧ n ≤ 20) : Tj n = some ⟨Y3 (Ul n)⟩:=by
 unfold Tj
 rw [BB,Option.bind_some,zN _ (zx n h)]; rfl
theorem qr (d : Dig) : slc d.toList (0 : Int) (32 : Int) = some d.toList:=by
 have h1 : slc d.toList ((0 : Nat) : Int) ((32 : Nat) : Int) = _:=AG (Nat.zero_le _) (by simp)
 have h2 : slc d.toList (0 : Int) (32 : Int) = _:=h1
 rw [h2,List.drop_zero,List.take_of_length_le (by simp)]
theorem yS : ∀ (a b : List UInt8),UK a b = 0 ↔ a = b
 | [],[]=>by simp [UK]
 | [],_ :: _=>by simp [UK]
 | _ :: _,[]=>by simp [UK]
 | x :: a,y :: b=>by
  unfold UK
  by_cases h1 : x < y
  ·have : x ≠ y:=fun e=>by subst e; exact absurd h1 (UInt8.lt_irrefl x)
   simp [h1,this]
  ·by_cases h2 : y < x
   ·have : x ≠ y:=fun e=>by subst e; exact absurd h2 (UInt8.lt_irrefl x)
    simp [h1,h2,this]
   ·have : x = y:=by
     apply UInt8.toNat_inj.1
     rw [UInt8.lt_iff_toNat_lt] at h1 h2
     omega
    subst this
    simp only [h1,if_false,yS a b]
    simp
theorem B6 : ∀ (a b c : List UInt8),UK a b < 0 → UK b c < 0 → UK a c < 0
 | [],_,[],h1,h2=>by
  rename_i b
  cases b with
  | nil=>exact h2
  | cons y b=>simp [UK] at h2
 | [],_,_ :: _,_,_=>by simp [UK]
 | _ :: _,[],_,h1,_=>by simp [UK] at h1
 | _ :: _,_ :: _,[],_,h2=>by simp [UK] at h2
 | x :: a,y :: b,z :: c,h1,h2=>by
  unfold UK at h1 h2 ⊢
  have ih:=B6 a b c
  simp only [UInt8.lt_iff_toNat_lt] at h1 h2 ⊢
  by_cases a1 : x.toNat < y.toNat
  ·by_cases b1 : y.toNat < z.toNat
   ·rw [if_pos (by omega)]; omega
   ·rw [if_neg b1] at h2
    by_cases b2 : z.toNat < y.toNat
    ·rw [if_pos b2] at h2; omega
    ·rw [if_pos (by omega)]; omega
  ·rw [if_neg a1] at h1
   by_cases a2 : y.toNat < x.toNat
   ·rw [if_pos a2] at h1; omega
   ·rw [if_neg a2] at h1
    by_cases b1 : y.toNat < z.toNat
    ·rw [if_pos (by omega)]; omega
    ·rw [if_neg b1] at h2
     by_cases b2 : z.toNat < y.toNat
     ·rw [if_pos b2] at h2; omega
     ·rw [if_neg b2] at h2
      rw [if_neg (by omega),if_neg (by omega)]
      exact ih h1 h2
def ltD (a b : Dig) : Bool:=decide (UK a.toList b.toList < 0)
theorem BU {a b c : Dig} (h1 : ltD a b = true) (h2 : ltD b c = true) : ltD a c = true:=by
 unfold ltD at *
 simp only [decide_eq_true_eq] at *
 exact B6 _ _ _ h1 h2
theorem JJ (a b : Dig) : ZV a b = some (UK a.toList b.toList):=by
 unfold ZV UX
 simp only [qr,Option.bind_some]
theorem Ai (a b : Dig) : ∀ (k i : Nat),i + k = 32 → ZA (Wd a b) (i : Int) = some (if UK (a.toList.drop i) (b.toList.drop i) = 0 then .nx () else .ex (decide (UK (a.toList.drop i) (b.toList.drop i) < 0)))
 | 0,i,h=>by
  have : i = 32:=by omega
  subst this
  have e1 : a.toList.drop 32 = []:=by simp
  have e2 : b.toList.drop 32 = []:=by simp
  rw [Xe (t:=.nx ()) (by unfold Wd; simp),e1,e2]
  simp [UK]
 | k + 1,i,h=>by
  have hi : i < 32:=by omega
  have e1 : a.toList.drop i = a[i] :: a.toList.drop (i + 1):=by rw [List.drop_eq_getElem_cons (by simp; omega)]; simp
  have e2 : b.toList.drop i = b[i] :: b.toList.drop (i + 1):=by rw [List.drop_eq_getElem_cons (by simp; omega)]; simp
  have ih:=Ai a b k (i + 1) (by omega)
  have hst : Wd a b (i : Int) = some (if a[i] = b[i] then .nx ((i + 1 : Nat) : Int) else .ex (.ex (decide (a[i] < b[i])))):=by
   unfold Wd
   simp only [lt32 hi,if_true,Wq,Vector.getElem?_eq_getElem hi,Option.bind_some,Xh (show i < 9223372036854775807 by omega)]
   by_cases hab : a[i] = b[i]
   ·simp [hab]
   ·have : (a[i] != b[i]) = true:=by simpa using hab
    simp [hab,this]
  rw [e1,e2]
  unfold UK
  by_cases hab : a[i] = b[i]
  ·rw [if_pos hab] at hst
   rw [XP hst,ih]
   have n1 : ¬ (a[i] < b[i]):=by rw [hab]; exact UInt8.lt_irrefl _
   have n2 : ¬ (b[i] < a[i]):=by rw [hab]; exact UInt8.lt_irrefl _
   simp only [n1,n2,if_false]
  ·rw [if_neg hab] at hst
   rw [Xe hst]
   by_cases n1 : a[i] < b[i]
   ·simp [n1]
   ·have n2 : b[i] < a[i]:=by
     rw [UInt8.lt_iff_toNat_lt] at n1 ⊢
     have : a[i].toNat ≠ b[i].toNat:=fun e=>hab (UInt8.toNat_inj.1 e)
     omega
    simp [n1,n2]
theorem Ag (a b : Dig) : WI a b = some (ltD a b):=by
 have h:=Ai a b 32 0 (by omega)
 have h2 : ZA (Wd a b) 0 = _:=h
 unfold WI ltD
 rw [h2,List.drop_zero,List.drop_zero,Option.bind_some]
 by_cases h0 : UK a.toList b.toList = 0
 ·rw [if_pos h0]
  simp [Fl.el,h0]
 ·rw [if_neg h0]; rfl
def BK (l : List Dig) : Bool:=!((List.range' 1 (l.length - 1)).any fun i=>!ltD (l.getD (i - 1) default) (l.getD i default))
theorem zT (l : List Dig) (hl : l.length < 9223372036854775807) (E : Dig → Dig → Option Bool) (hE : ∀ a b,E a b = some (!ltD a b)) (L : Int → Option (Fl Int (Fl Unit Bool)))
  (hL : ∀ s,L s = if (decide (s < (l.length : Int))) = true then (((idx l (wr (s - 1))).bind fun x=>(idx l s).bind fun y=>E x y : Option Bool).bind fun j10=>if j10 = true then (some (Fl.ex (Fl.ex false))) else (some (Fl.nx (wr (s + 1))))) else (some (Fl.ex (Fl.nx ())))) :
  ((ZA L 1 : Option (Fl Unit Bool)).bind fun j1=>j1.el (fun _=>some true) (fun r=>some r)) = some (BK l):=by
 by_cases h0 : l.length = 0
 ·have : l = []:=List.eq_nil_of_length_eq_zero h0
  subst this
  rw [Xe (t:=.nx ()) (by rw [hL]; simp)]
  rfl
 have h:=js (f:=L) l.length (fun i=>!ltD (l.getD (i - 1) default) (l.getD i default)) false hl 1 (by omega) (fun i hm hi=>by
  have e : wr ((i : Int) - 1) = ((i - 1 : Nat) : Int):=by rw [YS (by omega)]; omega
  have e1 : i - 1 < l.length:=by omega
  rw [hL,e]
  simp only [Int.ofNat_lt,hi,decide_true,if_true,Yg,List.getElem?_eq_getElem hi,List.getElem?_eq_getElem e1,Option.bind_some,hE,List.getD_eq_getElem?_getD,Option.getD_some]
  split <;> rfl) (by rw [hL]; simp)
 have h2 : ZA L 1 = _:=h
 rw [h2,Option.bind_some]
 unfold BK
 cases (List.range' 1 (l.length - 1)).any fun i=>!ltD (l.getD (i - 1) default) (l.getD i default) <;> rfl
theorem jt (l : List Dig) (hl : l.length < 9223372036854775807) : Uj l = some (BK l):=by
 unfold Uj
 exact zT l hl (fun a b=>(ZV a b).bind fun r=>some (decide (r ≥ 0))) (fun a b=>by
  rw [JJ]; unfold ltD
  simp only [Option.bind_some]
  congr 1
  by_cases h : UK a.toList b.toList < 0
  ·have : ¬ (UK a.toList b.toList ≥ 0):=by omega
   simp [h,this]
  ·have : UK a.toList b.toList ≥ 0:=by omega
   simp [h,this]) _ (fun s=>by unfold TI; rfl)
theorem Bt (l : List Dig) (hl : l.length < 9223372036854775807) : Wi l = some (BK l):=by
 unfold Wi
 exact zT l hl (fun a b=>(WI a b).bind fun r=>some (!r)) (fun a b=>by rw [Ag]; rfl) _ (fun s=>by unfold Ud; rfl)
theorem kA {l : List Dig} (h : BK l = true) : l.Pairwise fun a b=>ltD a b = true:=by
 have h1 : ∀ i (hi : i + 1 < l.length),ltD l[i] l[i + 1] = true:=by
  intro i hi
  unfold BK at h
  simp only [Bool.not_eq_true',List.any_eq_false,List.mem_range'_1] at h
  have:=h (i + 1) (by omega)
  simpa [List.getD_eq_getElem?_getD,List.getElem?_eq_getElem hi,List.getElem?_eq_getElem (show i < l.length by omega)] using this
 rw [List.pairwise_iff_getElem]
 intro i j hi hj hij
 have key : ∀ (k : Nat) (hk : i + 1 + k < l.length),ltD l[i] l[i + 1 + k] = true:=by
  intro k
  induction k with
  | zero=>intro hk; exact h1 i hk
  | succ k ih=>intro hk; exact BU (ih (by omega)) (h1 (i + 1 + k) hk)
 have:=key (j - (i + 1)) (by omega)
 have e : i + 1 + (j - (i + 1)) = j:=by omega
 simpa only [e] using this

def WF (l : List Dig) (d : Dig) : Nat:=l.countP fun k=>ltD k d
theorem Jm (l : List Dig) (d : Dig) : WF l d ≤ l.length:=List.countP_le_length
theorem low_at {l : List Dig} (h : l.Pairwise fun a b=>ltD a b = true) (d : Dig) : ∀ i (hi : i < l.length),ltD l[i] d = decide (i < WF l d):=by
 induction l with
 | nil=>intro i hi; simp at hi
 | cons k l ih =>
  have h2:=List.pairwise_cons.1 h
  intro i hi
  cases hk : ltD k d with
  | true =>
   have e : WF (k :: l) d = WF l d + 1:=by unfold WF; rw [List.countP_cons]; simp [hk]
   rw [e]
   cases i with
   | zero=>simpa using hk
   | succ i =>
    have hi' : i < l.length:=by simpa using hi
    rw [List.getElem_cons_succ,ih h2.2 i hi']
    rw [decide_eq_decide]; omega
  | false =>
   have hno : ∀ x ∈ l,ltD x d = false:=by
    intro x hx
    cases hxd : ltD x d with
    | false=>rfl
    | true=>rw [BU (h2.1 x hx) hxd] at hk; cases hk
   have e : WF (k :: l) d = 0:=by
    unfold WF
    rw [List.countP_eq_zero]
    intro x hx
    rcases List.mem_cons.1 hx with rfl | hx
    ·simp [hk]
    ·simp [hno x hx]
   rw [e]
   cases i with
   | zero=>simpa using hk
   | succ i =>
    have hi' : i < l.length:=by simpa using hi
    rw [List.getElem_cons_succ,hno _ (List.getElem_mem hi')]; simp
theorem yi (l : List Dig) (d : Dig) (hl : l.length < 1000000) : VK l d = some (WF l d : Int):=by
 have hc : ∀ i,WF (l.take i) d ≤ 1000000:=fun i=>by have:=Jm (l.take i) d; rw [List.length_take] at this; omega
 have:=Z0 (f:=WE l d) (fun i : Nat=>((WF (l.take i) d : Nat),(i : Int))) 0 l.length (Nat.zero_le _) (t:=((WF l d : Nat) : Int)) (fun i _ hi=>by
  have hci:=hc i
  unfold WE
  simp only [Int.ofNat_lt,hi,decide_true,if_true,Yg,List.getElem?_eq_getElem hi,Option.bind_some,Ag,Xh (show i < 9223372036854775807 by omega)]
  have e : WF (l.take (i + 1)) d = WF (l.take i) d + (if ltD l[i] d then 1 else 0):=by
   unfold WF
   rw [List.take_succ_eq_append_getElem hi,List.countP_append]
   congr 1
   rw [List.countP_cons]; simp
  rw [e]
  cases ltD l[i] d with
  | true =>
   simp only [if_true,Option.bind_some]
   rw [Xh (by omega)]
  | false=>simp) (by unfold WE; simp)
 have h2 : ZA (WE l d) (0,0) = _:=this
 unfold VK
 rw [h2]; rfl
theorem A9 (l : List Dig) (hp : l.Pairwise fun a b=>ltD a b = true) (d : Dig) (hl : l.length < 1000000) : ∀ (n lo hi : Nat),hi - lo ≤ n → lo ≤ WF l d → WF l d ≤ hi → hi ≤ l.length →
  ZA (Zw l d fun z0 z1=>ZV z0 z1) ((hi : Int),(lo : Int)) = some ((WF l d : Nat) : Int):=by
 intro n
 induction n with
 | zero =>
  intro lo hi h1 h2 h3 h4
  have : lo = WF l d:=by omega
  have hge : ¬ (WF l d < hi):=by omega
  refine Xe ?_
  unfold Zw
  simp [hge,this]
 | succ n ih =>
  intro lo hi h1 h2 h3 h4
  by_cases hlt : lo < hi
  ·have e1 : wr ((lo : Int) + (hi : Int)) = ((lo + hi : Nat) : Int):=by rw [YS (by omega)]; omega
   have e2 : IntKind.u64.wrap ((lo + hi : Nat) : Int) = ((lo + hi : Nat) : Int):=yM _ (by omega)
   have e3 : TJ ((lo + hi : Nat) : Int) 1 = (((lo + hi) / 2 : Nat) : Int):=by
    have:=zy (lo + hi) 1 (by omega)
    rw [Nat.shiftRight_eq_div_pow] at this
    exact this
   have e4 : IntKind.i64.wrap (((lo + hi) / 2 : Nat) : Int) = (((lo + hi) / 2 : Nat) : Int):=zC _ (by omega)
   have hm : (lo + hi) / 2 < l.length:=by omega
   have hat:=low_at hp d _ hm
   unfold ltD at hat
   have hst : Zw l d (fun z0 z1=>ZV z0 z1) ((hi : Int),(lo : Int)) = some (.nx (if (lo + hi) / 2 < WF l d then ((hi : Int),(((lo + hi) / 2 + 1 : Nat) : Int)) else ((((lo + hi) / 2 : Nat) : Int),(lo : Int)))):=by
    unfold Zw
    have c1 : decide ((lo : Int) < (hi : Int)) = true:=by simp; omega
    simp only [c1,if_true,e1,e2,e3,e4,Yg,List.getElem?_eq_getElem hm,Option.bind_some,JJ,hat]
    by_cases c : (lo + hi) / 2 < WF l d
    ·simp only [c,decide_true,if_true,Option.bind_some]
     rw [Xh (by omega)]
    ·simp [c]
   rw [XP hst]
   by_cases c : (lo + hi) / 2 < WF l d
   ·rw [if_pos c]
    exact ih _ _ (by omega) (by omega) h3 h4
   ·rw [if_neg c]
    exact ih _ _ (by omega) h2 (by omega) (by omega)
  ·exact ih lo hi (by omega) h2 h3 h4
def QB (l : List Dig) (d : Dig) : Bool:=l[WF l d]? == some d
theorem zV {l : List Dig} {d : Dig} (h : QB l d = true) : WF l d < l.length:=by
 unfold QB at h
 simp only [beq_iff_eq] at h
 exact (List.getElem?_eq_some_iff.1 h).1
theorem jZ (l : List Dig) (hp : l.Pairwise fun a b=>ltD a b = true) (d : Dig) (hl : l.length < 1000000) : ZH l d (fun z0 z1=>ZV z0 z1) = some ((WF l d : Int),QB l d):=by
 have h:=A9 l hp d hl l.length 0 l.length (by omega) (Nat.zero_le _) (Jm l d) (Nat.le_refl _)
 have h2 : ZA (Zw l d fun z0 z1=>ZV z0 z1) ((l.length : Int),0) = _:=h
 unfold ZH QB
 rw [h2,Option.bind_some]
 by_cases c : WF l d < l.length
 ·simp only [Int.ofNat_lt,c,decide_true,if_true,Yg,List.getElem?_eq_getElem c,Option.bind_some,JJ]
  refine congrArg (fun z=>some (((WF l d : Nat) : Int),z)) ?_
  rw [Bool.eq_iff_iff,beq_iff_eq,beq_iff_eq,yS]
  constructor
  ·intro h; rw [Vector.toList_inj.1 h]
  ·intro h; rw [Option.some.inj h]
 ·simp [c,List.getElem?_eq_none (show l.length ≤ WF l d by omega)]
def Vd (d : List UInt8) : Dig:=zL (Ul 8) d
theorem JX (d : List UInt8) (h : d.length ≤ 10000000) : Ww d = some (Vd d):=by
 unfold Ww
 rw [ys,Option.bind_some,qd _ yl d h]; rfl
def TS (b : GBlobs) (i : Nat) : Bool:=!decide ((b.Data.getD i []).length ≤ 2000) || !decide ((1 : Int) ≤ b.Counts.getD i 0 ∧ b.Counts.getD i 0 ≤ 1000000) || !decide (Vd (b.Data.getD i []) = b.Keys.getD i default)
def W7 (b : GBlobs) : Bool:=decide (b.Keys.length ≤ 32) && decide (b.Data.length = b.Keys.length) && decide (b.Counts.length = b.Keys.length) && BK b.Keys && !((List.range' 0 (b.Keys.length - 0)).any (TS b))
theorem jq (b : GBlobs) (hk : b.Keys.length < 9223372036854775807) : XG ⟨⟨Y3 (Ul 8)⟩⟩ b = some (W7 b):=by
 unfold XG W7
 by_cases h1 : b.Keys.length ≤ 32
 ·have c1 : ¬ ((b.Keys.length : Int) > 32):=by omega
  by_cases h2 : b.Data.length = b.Keys.length
  ·by_cases h3 : b.Counts.length = b.Keys.length
   ·have c2 : ((b.Data.length : Int) != (b.Keys.length : Int)) = false:=by simp [h2]
    have c3 : ((b.Counts.length : Int) != (b.Keys.length : Int)) = false:=by simp [h3]
    simp only [c1,c2,c3,decide_false,Bool.false_eq_true,if_false,jt b.Keys hk,Option.bind_some,h1,h2,h3,decide_true,Bool.true_and,bne_self_eq_false]
    cases BK b.Keys with
    | false=>simp
    | true =>
     have h:=za (f:=YO ⟨⟨Y3 (Ul 8)⟩⟩ b) b.Keys.length (TS b) false hk (fun i hi=>by
      have d1 : i < b.Data.length:=by omega
      have d2 : i < b.Counts.length:=by omega
      unfold YO TS VW
      simp only [h2,Int.ofNat_lt,hi,decide_true,if_true,Yg,List.getElem?_eq_getElem d1,List.getElem?_eq_getElem d2,List.getElem?_eq_getElem hi,Option.bind_some,jz,List.getD_eq_getElem?_getD,Option.getD_some]
      by_cases g1 : b.Data[i].length ≤ 2000
      ·have g1' : ((b.Data[i].length : Int) ≤ 2000):=by omega
       by_cases g2 : (1 : Int) ≤ b.Counts[i] ∧ b.Counts[i] ≤ 1000000
       ·have hd:=z2 (Ul 8) yl [b.Data[i]] (by simp; omega) (by simp)
        have ef : ([b.Data[i]] : List (List UInt8)).flatten = b.Data[i]:=by simp
        rw [ef] at hd
        simp only [g1,g1',g2,decide_true,Bool.not_true,Bool.false_eq_true,if_false,hd,Option.bind_some,Bool.false_or,and_self]
        unfold Vd
        by_cases g3 : zL (Ul 8) b.Data[i] = b.Keys[i] <;> simp [g3]
       ·simp only [g1,g1',g2,decide_true,decide_false,Bool.not_true,Bool.not_false,Bool.false_eq_true,if_false,if_true,Option.bind_some,Bool.false_or,Bool.true_or]
      ·have g1' : ¬ ((b.Data[i].length : Int) ≤ 2000):=by omega
       simp only [g1,g1',decide_false,Bool.not_false,if_true,Option.bind_some,Bool.true_or]) (by unfold YO; simp [h2]) 0 (Nat.zero_le _)
     have h5 : ZA (YO ⟨⟨Y3 (Ul 8)⟩⟩ b) 0 = _:=h
     simp only [Bool.not_true,Bool.false_eq_true,if_false,h5,Option.bind_some,Bool.true_and]
     cases (List.range' 0 (b.Keys.length - 0)).any (TS b) <;> rfl
   ·have c2 : ((b.Data.length : Int) != (b.Keys.length : Int)) = false:=by simp [h2]
    have c3 : ((b.Counts.length : Int) != (b.Keys.length : Int)) = true:=by simp; omega
    simp [c1,c2,c3,h3]
  ·have c2 : ((b.Data.length : Int) != (b.Keys.length : Int)) = true:=by simp; omega
   simp [c1,c2,h2]
 ·have c1 : ((b.Keys.length : Int) > 32):=by omega
  simp [c1,h1]
theorem kS (b : GBlobs) (hk : b.Keys.length < 9223372036854775807) : Tn b = some (W7 b):=by
 unfold Tn W7
 by_cases h1 : b.Keys.length ≤ 32
 ·have c1 : ¬ ((b.Keys.length : Int) > 32):=by omega
  by_cases h2 : b.Data.length = b.Keys.length
  ·by_cases h3 : b.Counts.length = b.Keys.length
   ·have c2 : ((b.Data.length : Int) != (b.Keys.length : Int)) = false:=by simp [h2]
    have c3 : ((b.Counts.length : Int) != (b.Keys.length : Int)) = false:=by simp [h3]
    simp only [c1,c2,c3,decide_false,Bool.false_eq_true,if_false,Bt b.Keys hk,Option.bind_some,h1,h2,h3,decide_true,Bool.true_and,bne_self_eq_false]
    cases BK b.Keys with
    | false=>simp
    | true =>
     have h:=za (f:=VY b) b.Keys.length (TS b) false hk (fun i hi=>by
      have d1 : i < b.Data.length:=by omega
      have d2 : i < b.Counts.length:=by omega
      unfold VY TS
      simp only [Int.ofNat_lt,hi,decide_true,if_true,Yg,List.getElem?_eq_getElem d1,List.getElem?_eq_getElem d2,List.getElem?_eq_getElem hi,Option.bind_some,List.getD_eq_getElem?_getD,Option.getD_some]
      by_cases g1 : b.Data[i].length ≤ 2000
      ·have g1' : ¬ ((b.Data[i].length : Int) > 2000):=by omega
       by_cases g2 : (1 : Int) ≤ b.Counts[i]
       ·have g2' : ¬ (b.Counts[i] < 1):=by omega
        by_cases g4 : b.Counts[i] ≤ 1000000
        ·have g4' : ¬ (b.Counts[i] > 1000000):=by omega
         simp only [g1,g1',g2,g2',g4,g4',decide_true,decide_false,Bool.not_true,Bool.false_eq_true,if_false,JX b.Data[i] (by omega),Option.bind_some,Bool.false_or,and_self]
         by_cases g3 : Vd b.Data[i] = b.Keys[i] <;> simp [g3]
        ·have g4' : b.Counts[i] > 1000000:=by omega
         simp [g1,g1',g2,g2',g4,g4']
       ·have g2' : b.Counts[i] < 1:=by omega
        simp [g1,g1',g2,g2']
      ·have g1' : ((b.Data[i].length : Int) > 2000):=by omega
       simp [g1,g1']) (by unfold VY; simp) 0 (Nat.zero_le _)
     have h5 : ZA (VY b) 0 = _:=h
     simp only [Bool.not_true,Bool.false_eq_true,if_false,h5,Option.bind_some,Bool.true_and]
     cases (List.range' 0 (b.Keys.length - 0)).any (TS b) <;> rfl
   ·have c2 : ((b.Data.length : Int) != (b.Keys.length : Int)) = false:=by simp [h2]
    have c3 : ((b.Counts.length : Int) != (b.Keys.length : Int)) = true:=by simp; omega
    simp [c1,c2,c3,h3]
  ·have c2 : ((b.Data.length : Int) != (b.Keys.length : Int)) = true:=by simp; omega
   simp [c1,c2,h2]
 ·have c1 : ((b.Keys.length : Int) > 32):=by omega
  simp [c1,h1]
theorem Qu {b : GBlobs} (h : W7 b = true) : b.Keys.length ≤ 32 ∧ b.Data.length = b.Keys.length ∧ b.Counts.length = b.Keys.length ∧ BK b.Keys = true ∧ ∀ i (hi : i < b.Data.length),b.Data[i].length ≤ 2000:=by
 unfold W7 at h
 simp only [Bool.and_eq_true,decide_eq_true_eq,Bool.not_eq_true',List.any_eq_false,List.mem_range'_1] at h
 refine ⟨h.1.1.1.1,h.1.1.1.2,h.1.1.2,h.1.2,fun i hi=>?_⟩
 have:=h.2 i (by omega)
 unfold TS at this
 simp only [List.getD_eq_getElem?_getD,List.getElem?_eq_getElem hi,Option.getD_some,Bool.or_eq_true,Bool.not_eq_true',decide_eq_false_iff_not,not_or,Classical.not_not] at this
 exact this.1.1

instance : Wt GBlobs:=⟨fun x=>Wt.wt x.Keys + (Wt.wt x.Data + Wt.wt x.Counts),fun x=>Wt.ln x.Keys ∧ Wt.ln x.Data ∧ Wt.ln x.Counts,fun x h=>⟨Wt.bdln x.Keys h.1,Wt.bdln x.Data h.2.1,Wt.bdln x.Counts h.2.2⟩,
 fun x h=>⟨Wt.wtln x.Keys (by omega),Wt.wtln x.Data (by omega),Wt.wtln x.Counts (by omega)⟩⟩
theorem Ql (x : GBlobs) : Wt.wt x = Wt.wt x.Keys + (Wt.wt x.Data + Wt.wt x.Counts):=rfl
theorem zw (l : List Dig) (h : Wt.wt l ≤ 1048576) : Vy l = some l:=by
 have:=Bo l
 unfold Vy
 have:=Ke l WY id 32 (Vector.replicate 32 0) (V2 l) (fun s=>by unfold V2; rfl) (fun x _=>yu x) (by omega) (by omega)
 simpa using this
theorem yP (l : List Int) (h : Wt.wt l ≤ 1048576) : VO l = some l:=by
 have:=Bo l
 unfold VO
 have:=Ke l (fun x=>some x) id 8 0 (UA l) (fun s=>by unfold UA; rfl) (fun _ _=>rfl) (by omega) (by omega)
 simpa using this
theorem A8 (l : List Dig) (h : Wt.ln l) : Vp l l = some true:=by
 unfold Vp
 exact Hz l (fun x y=>(Y2 x y).bind fun r=>some (!r)) (V3 l l) (fun s=>by unfold V3; rfl) (fun x _=>by simp [HL x]) (UJ h)
theorem z3 (l : List Dig) (h : Wt.ln l) : Tu WC l :=
 Kz (fun _=>rfl) WC (fun left=>by unfold WC; rfl) (UJ h)
theorem yh (l : List Int) (h : Wt.ln l) : Tu XC l :=
 Kz (fun _=>rfl) XC (fun left=>by unfold XC; rfl) (UJ h)
theorem jI (x : GBlobs) (h : Wt.wt x ≤ 1048576) : X0 x = some x:=by
 rw [Ql] at h
 unfold X0
 simp [zw x.Keys (by omega),yB x.Data (by omega),yP x.Counts (by omega)]
theorem BV (x : GBlobs) (h : Wt.ln x) : XU x x = some true:=by
 unfold XU
 simp [A8 x.Keys h.1,yq x.Data h.2.1,yF x.Counts h.2.2]
theorem jm (x : GBlobs) (h : Wt.ln x) : Tu Ti x:=by
 intro left h1 h2
 have h3 : Tu (fun (y : List Int) r=>(XC y r).bind fun r=>if decide (r < 0) = true then some (-1) else some r) x.Counts:=fun left h1 h2=>jB (yh x.Counts h.2.2 left h1 h2)
 have h4 : Tu (α:=List (List UInt8) × List Int) (fun y r=>(Wf y.1 r).bind fun r=>if decide (r < 0) = true then some (-1) else (XC y.2 r).bind fun r=>if decide (r < 0) = true then some (-1) else some r) (x.Data,x.Counts):=fun left h1 h2=>Bf (yL x.Data h.2.1) h3 left h1 h2
 exact Bf (z3 x.Keys h.1) h4 left h1 h2
theorem BA (l : List (Vector UInt8 32)) (h : Wt.ln l) : Jy Y8 l (l.map fun _=>32).sum :=
 HC Y8 YA (fun _=>32) (fun _ _=>rfl) l (UJ h) (fun l' i k hi _ _ h0 hk=>by
  unfold YA
  have h1:=zo (n:=32) (fun x : Vector UInt8 32=>x) (fun _ v=>v) i i rfl (Xu (l',k,(i : Int))) (fun s=>by unfold Xu; rfl) (fun _ _=>rfl) (fun _ _ _=>rfl) (fun _=>rfl) (by omega) l' hi k h0 (by omega)
  refine ⟨JV 32 k,?_⟩
  simp only [Int.ofNat_lt,hi,decide_true,if_true,h1,Option.bind_some]
  try rfl) (fun l' k=>by unfold YA; simp)
theorem AV (l : List Int) (h : Wt.ln l) : Jy Xm l (l.map fun _=>1).sum :=
 HC Xm YJ (fun _=>1) (fun _ _=>rfl) l (UJ h) (fun l' i k hi _ _ h0 hk=>by
  have e:=wr_k (k:=k) h0 (by omega)
  refine ⟨k,?_⟩
  unfold YJ
  simp only [Int.ofNat_lt,hi,decide_true,if_true,Yg,List.getElem?_eq_getElem hi,Option.bind_some,Int.toNat_natCast,e]; rfl) (fun l' k=>by unfold YJ; simp)
theorem AR (l : List (List UInt8)) (h : Wt.ln l) : Jy Xq l (l.map fun x=>(x.map fun _=>1).sum).sum :=
 HC Xq YF (fun x=>(x.map fun _=>1).sum) (fun _ _=>rfl) l (UJ h) (fun l' i k hi hx _ h0 hk=>by
  obtain ⟨d',d1⟩:=J4 l'[i] (AN h hx) k h0 hk
  refine ⟨d',?_⟩
  unfold YF
  simp only [Int.ofNat_lt,hi,decide_true,if_true,Yg,List.getElem?_eq_getElem hi,Option.bind_some,Int.toNat_natCast,d1]) (fun l' k=>by unfold YF; simp)
def V6 (x : GBlobs) : Nat:=(x.Keys.map fun _=>32).sum + ((x.Data.map fun x=>(x.map fun _=>1).sum).sum + (x.Counts.map fun _=>1).sum)
theorem HH (x : GBlobs) : V6 x ≤ 50 * Wt.wt x:=by
 have h1:=JA (fun _ : Vector UInt8 32=>32) 50 (fun _=>by omega) x.Keys
 have h2:=JA (fun x : List UInt8=>(x.map fun _=>1).sum) 50 (fun x=>by rw [y7,HK]; omega) x.Data
 have h3:=JA (fun _ : Int=>1) 50 (fun _=>by omega) x.Counts
 rw [Ql]; unfold V6; omega
theorem zt (x : GBlobs) (h : Wt.ln x) : Jy Xd x (V6 x):=by
 intro k h0 hk
 unfold V6 at hk
 obtain ⟨a,h1⟩:=BA x.Keys h.1 k h0 (by omega)
 obtain ⟨b,h2⟩:=AR x.Data h.2.1 _ (by omega : (0 : Int) ≤ k + ((x.Keys.map fun _=>32).sum : Nat)) (by omega)
 obtain ⟨c,h3⟩:=AV x.Counts h.2.2 _ (by omega : (0 : Int) ≤ k + ((x.Keys.map fun _=>32).sum : Nat) + ((x.Data.map fun x=>(x.map fun _=>1).sum).sum : Nat)) (by omega)
 refine ⟨⟨a,b,c⟩,?_⟩
 unfold Xd V6
 simp only [h1,h2,h3,Option.bind_some]
 refine congrArg (fun z=>some (_,z)) ?_
 omega
theorem yg {α : Type} {l : List α} {i : Nat} (h : i ≤ l.length) : slc l (0 : Int) (i : Int) = some (l.take i):=by
 unfold slc; rw [if_pos (by omega)]; simp
theorem HQ {α : Type} {l : List α} {i : Nat} (h : i ≤ l.length) : slc l (i : Int) (l.length : Int) = some (l.drop i):=by
 unfold slc; rw [if_pos (by omega)]; simp
def yD (b : GBlobs) : Prop:=b.Keys.length ≤ 1000 ∧ b.Counts.length ≤ 1000 ∧ b.Data.length ≤ 1000 ∧ ∀ d ∈ b.Data,d.length ≤ 1000000
theorem jO (b : GBlobs) (h : yD b) : WP b = some b:=by
 obtain ⟨h1,h2,h3,h4⟩:=h
 have hl:=zn (f:=Wk b) b.Data (fun r=>r) (t:=b.Data) (by omega) (fun i hi=>by
  have a1:=h4 _ (List.getElem_mem hi)
  unfold Wk
  simp only [Int.ofNat_lt,hi,decide_true,if_true,Yg,List.getElem?_eq_getElem hi,Option.bind_some,QZ _ (show b.Data[i].length ≤ 140737488355328 by omega)]
  rw [XD (by simp; omega)]; rfl) (by
  unfold Wk
  simp)
 unfold WP Yi Xn
 rw [XD (by simp; omega),Option.bind_some,Option.bind_some,XD (by simp; omega),Option.bind_some,Option.bind_some,hl]; rfl
theorem ke (b : GBlobs) (h : yD b) : UP b = some b:=by
 obtain ⟨h1,h2,h3,h4⟩:=h
 have hl:=zn (f:=Ui b) b.Data (fun r=>r) (t:=b.Data) (by omega) (fun i hi=>by
  have a1:=h4 _ (List.getElem_mem hi)
  unfold Ui
  simp only [Int.ofNat_lt,hi,decide_true,if_true,Yg,List.getElem?_eq_getElem hi,Option.bind_some,JR _ (show b.Data[i].length ≤ 140737488355328 by omega)]
  rw [XD (by simp; omega)]; rfl) (by
  unfold Ui
  simp)
 unfold UP Tx
 rw [XD (by simp; omega),Option.bind_some,XD (by simp; omega),Option.bind_some,Option.bind_some,hl]; rfl
theorem JZ {b : GBlobs} (h : W7 b = true) : yD b:=by
 obtain ⟨h1,h2,h3,h4,h5⟩:=Qu h
 refine ⟨by omega,by omega,by omega,fun d hd=>?_⟩
 obtain ⟨i,hi,rfl⟩:=List.mem_iff_getElem.1 hd
 have:=h5 i hi
 omega
theorem JS {b : GBlobs} (h : W7 b = true) {i : Nat} (hi : i < b.Counts.length) : 1 ≤ b.Counts[i] ∧ b.Counts[i] ≤ 1000000:=by
 obtain ⟨h1,h2,h3,h4,h5⟩:=Qu h
 unfold W7 at h
 simp only [Bool.and_eq_true,decide_eq_true_eq,Bool.not_eq_true',List.any_eq_false,List.mem_range'_1] at h
 have:=h.2 i (by omega)
 unfold TS at this
 simp only [List.getD_eq_getElem?_getD,List.getElem?_eq_getElem hi,Option.getD_some,Bool.or_eq_true,Bool.not_eq_true',decide_eq_false_iff_not,not_or,Classical.not_not] at this
 exact this.1.2
def QK : GBlobs:=⟨[],[],[]⟩
theorem BG (l : List (Vector UInt8 32)) (h : Wt.ln l) : HU Y8 WG l (l.map fun _=>32).sum :=
 Kc Y8 WG YA Wh (fun _=>32) (fun _ _=>rfl) (fun _ _=>rfl) l (UJ h) (fun l' i k hi _ _ h0 hk=>by
  refine ⟨JV 32 k,?_,fun m hm=>?_⟩
  ·unfold YA
   have h1:=zo (n:=32) (fun x : Vector UInt8 32=>x) (fun _ v=>v) i i rfl (Xu (l',k,(i : Int))) (fun s=>by unfold Xu; rfl) (fun _ _=>rfl) (fun _ _ _=>rfl) (fun _=>rfl) (by omega) l' hi k h0 (by omega)
   simp only [Int.ofNat_lt,hi,decide_true,if_true,h1,Option.bind_some]
  ·have hi':=(List.getElem?_eq_some_iff.1 hm).1
   unfold Wh
   have h1:=ku (n:=32) (fun x : Vector UInt8 32=>x) m i i rfl (Vi m (k,(i : Int))) (fun s=>by unfold Vi; rfl) hm k h0 (by omega) rfl
   simp only [Int.ofNat_lt,hi',decide_true,if_true,h1,Option.bind_some,Fl.el]
   try rfl) (fun l' k=>by unfold YA; simp) (fun m k=>by unfold Wh; simp)
theorem An (l : List (List UInt8)) (h : Wt.ln l) : HU Xq W3 l (l.map fun x=>(x.map fun _=>1).sum).sum :=
 Kc Xq W3 YF WR (fun x=>(x.map fun _=>1).sum) (fun _ _=>rfl) (fun _ _=>rfl) l (UJ h) (fun l' i k hi hx _ h0 hk=>by
  obtain ⟨d',d1,d2⟩:=zW l'[i] (AN h hx) k h0 hk
  refine ⟨d',?_,fun m hm=>?_⟩
  ·unfold YF
   simp only [Int.ofNat_lt,hi,decide_true,if_true,Yg,List.getElem?_eq_getElem hi,Option.bind_some,Int.toNat_natCast,d1]
  ·have hi':=(List.getElem?_eq_some_iff.1 hm).1
   have e3 : ¬ (k + ((l'[i].map fun _=>1).sum : Nat) < 0):=by omega
   unfold WR
   simp only [Int.ofNat_lt,hi',decide_true,if_true,Yg,hm,Option.bind_some,d2,e3,decide_false,Bool.false_eq_true,if_false]) (fun l' k=>by unfold YF; simp) (fun m k=>by unfold WR; simp)
theorem zU (x : GBlobs) (h : Wt.ln x) (k : Int) (h0 : 0 ≤ k) (hk : k + (V6 x : Nat) ≤ 4611686018427387904) :
  ∃ x',Xd x k = some (x',k + (V6 x : Nat)) ∧ Wy x' k = some (k + (V6 x : Nat)):=by
 unfold V6 at hk
 obtain ⟨a,a1,a2⟩:=BG x.Keys h.1 k h0 (by omega)
 obtain ⟨b,b1,b2⟩:=An x.Data h.2.1 _ (by omega : (0 : Int) ≤ k + ((x.Keys.map fun _=>32).sum : Nat)) (by omega)
 obtain ⟨c,c1,c2⟩:=AZ x.Counts h.2.2 _ (by omega : (0 : Int) ≤ k + ((x.Keys.map fun _=>32).sum : Nat) + ((x.Data.map fun x=>(x.map fun _=>1).sum).sum : Nat)) (by omega)
 refine ⟨⟨a,b,c⟩,?_,?_⟩
 ·unfold Xd V6
  simp only [a1,b1,c1,Option.bind_some]
  refine congrArg (fun z=>some (_,z)) ?_
  omega
 ·have d1 : ¬ (k + ((x.Keys.map fun _=>32).sum : Nat) < 0):=by omega
  have d2 : ¬ (k + ((x.Keys.map fun _=>32).sum : Nat) + ((x.Data.map fun x=>(x.map fun _=>1).sum).sum : Nat) < 0):=by omega
  have d3 : ¬ (k + ((x.Keys.map fun _=>32).sum : Nat) + ((x.Data.map fun x=>(x.map fun _=>1).sum).sum : Nat) + ((x.Counts.map fun _=>1).sum : Nat) < 0):=by omega
  unfold Wy V6
  simp only [a2,b2,c2,d1,d2,d3,decide_false,Bool.false_eq_true,if_false,Option.bind_some]
  refine congrArg some ?_
  omega
def QL {α : Type} (l : List α) (i : Nat) (x : α) : List α:=l.take i ++ ([x] ++ l.drop i)
theorem Ay {α : Type} {by_ : Nat} {l : List α} {i : Nat} {x : α} (h : i ≤ l.length) (hb : (l.length + 1) * by_ ≤ 140737488355328) : zM by_ l (i : Int) [x] = some (QL l i x):=by
 unfold zM QL
 rw [if_pos ⟨by omega,by omega,rfl,hb⟩,Int.toNat_natCast]
theorem Kf {α : Type} {l : List α} {i : Nat} {x : α} (h : i ≤ l.length) : (QL l i x).length = l.length + 1:=by simp [QL]; omega
theorem HO {α : Type} [Dat α] [Wt α] (l : List α) (i : Nat) (x : α) (h : i ≤ l.length) : Wt.wt (QL l i x) = Wt.wt l + (Wt.wt x + 1):=by
 rw [TO,TO,Kf h]
 have : ((QL l i x).map Wt.wt).sum = (l.map Wt.wt).sum + Wt.wt x:=by
  unfold QL
  have e : (l.map Wt.wt).sum = ((l.take i).map Wt.wt).sum + ((l.drop i).map Wt.wt).sum:=by rw [← List.sum_append,← List.map_append,List.take_append_drop]
  rw [List.map_append,List.sum_append,List.map_append,List.sum_append,e]
  simp; omega
 omega
theorem jJ {α : Type} {l : List α} {i : Nat} {x y : α} (h : y ∈ QL l i x) : y = x ∨ y ∈ l:=by
 unfold QL at h
 rcases List.mem_append.1 h with h | h
 ·exact .inr (List.mem_of_mem_take h)
 ·rcases List.mem_append.1 h with h | h
  ·exact .inl (by simpa using h)
  ·exact .inr (List.mem_of_mem_drop h)
def jb : Dig:=Vector.replicate 32 0
def H3 (b : GBlobs) (d : List UInt8) : GBlobs × Dig × Int :=
 if W7 b then (if d.length ≤ 2000 then (if QB b.Keys (Vd d) then (if b.Counts.getD (WF b.Keys (Vd d)) 0 = 1000000 then (QK,jb,3) else (⟨b.Keys,b.Data,b.Counts.set (WF b.Keys (Vd d)) (b.Counts.getD (WF b.Keys (Vd d)) 0 + 1)⟩,Vd d,0))
  else if b.Keys.length = 32 then (QK,jb,3) else (⟨QL b.Keys (WF b.Keys (Vd d)) (Vd d),QL b.Data (WF b.Keys (Vd d)) d,QL b.Counts (WF b.Keys (Vd d)) 1⟩,Vd d,0)) else (QK,jb,2)) else (QK,jb,1)
theorem A6 : Vm = some ⟨⟨Y3 (Ul 8)⟩⟩:=by
 unfold Vm
 rw [qi 8 (by omega),Option.bind_some]
theorem Bi (b : GBlobs) (hk : b.Keys.length < 9223372036854775807) (d : List UInt8) : Vq b d = some (H3 b d):=by
 unfold Vq VW H3
 rw [A6,Option.bind_some,jq b hk,Option.bind_some]
 cases hb : W7 b with
 | false=>rfl
 | true =>
  obtain ⟨h1,h2,h3,h4,h5⟩:=Qu hb
  simp only [Bool.not_true,Bool.false_eq_true,if_false,Option.bind_some,if_true]
  by_cases hd : d.length ≤ 2000
  ·have c1 : (d.length : Int) ≤ 2000:=by omega
   have hdg : YH ⟨Y3 (Ul 8)⟩ [d] = some (Vd d):=by
    have:=z2 (Ul 8) yl [d] (by simp; omega) (by simp)
    simpa [Vd] using this
   simp only [c1,hd,decide_true,Bool.not_true,Bool.false_eq_true,if_false,if_true,hdg,Option.bind_some,jO b (JZ hb),jZ b.Keys (kA h4) (Vd d) (by omega)]
   have hlow:=Jm b.Keys (Vd d)
   cases hf : QB b.Keys (Vd d) with
   | true =>
    have hi:=zV hf
    generalize WF b.Keys (Vd d) = i at hi hlow
    have hiC : i < b.Counts.length:=by omega
    obtain ⟨k1,k2⟩:=JS hb hiC
    have hw : wr (b.Counts[i] + 1) = b.Counts[i] + 1:=YS (by omega)
    simp only [if_true,Yg,List.getElem?_eq_getElem hiC,Option.bind_some,List.getD_eq_getElem?_getD,Option.getD_some,Int.toNat_natCast,hw]
    by_cases hc : b.Counts[i] = 1000000
    ·have e1 : (b.Counts[i] == 1000000) = true:=by rw [hc]; rfl
     simp only [e1,hc,if_true,Option.bind_some,Fl.el]
     rfl
    ·have e1 : (b.Counts[i] == 1000000) = false:=by rw [beq_eq_false_iff_ne]; exact hc
     simp only [e1,hc,Bool.false_eq_true,if_false,Option.bind_some,Fl.el]
   | false =>
    generalize WF b.Keys (Vd d) = i at hlow
    simp only [Bool.false_eq_true,if_false,Option.bind_some]
    by_cases hc : b.Keys.length = 32
    ·have e1 : ((b.Keys.length : Int) == 32) = true:=by rw [hc]; rfl
     simp only [e1,hc,if_true,Option.bind_some,Fl.el]
     rfl
    ·have e1 : ((b.Keys.length : Int) == 32) = false:=by rw [beq_eq_false_iff_ne]; omega
     unfold YE Wm WV
     rw [Ay hlow (by omega),Ay (by omega) (by omega),QZ d (by omega)]
     simp only [e1,hc,Bool.false_eq_true,if_false,Option.bind_some,Fl.el]
     rw [Ay (by omega) (by omega)]
     rfl
  ·have c1 : ¬ (d.length : Int) ≤ 2000:=by omega
   simp only [c1,hd,decide_false,Bool.not_false,if_true,if_false]
   rfl
theorem HJ (b : GBlobs) (hk : b.Keys.length < 9223372036854775807) (d : List UInt8) : Un b d = some (H3 b d):=by
 unfold Un H3
 rw [kS b hk,Option.bind_some]
 cases hb : W7 b with
 | false=>rfl
 | true =>
  obtain ⟨h1,h2,h3,h4,h5⟩:=Qu hb
  simp only [Bool.not_true,Bool.false_eq_true,if_false,Option.bind_some,if_true]
  by_cases hd : d.length ≤ 2000
  ·have c1 : ¬ (d.length : Int) > 2000:=by omega
   have hlow:=Jm b.Keys (Vd d)
   have hj : (if (decide (((WF b.Keys (Vd d) : Nat) : Int) < (b.Keys.length : Int))) = true then ((idx b.Keys ((WF b.Keys (Vd d) : Nat) : Int)).bind fun (x46 : (Vector UInt8 32))=>some (decide (x46 = Vd d))) else (some false) : Option (Bool)) = some (QB b.Keys (Vd d)):=by
    unfold QB
    by_cases c : WF b.Keys (Vd d) < b.Keys.length
    ·simp only [Int.ofNat_lt,c,decide_true,if_true,Yg,List.getElem?_eq_getElem c,Option.bind_some]
     by_cases e : b.Keys[WF b.Keys (Vd d)] = Vd d
     ·simp [e]
     ·simp [e]
    ·simp [c,List.getElem?_eq_none (show b.Keys.length ≤ WF b.Keys (Vd d) by omega)]
   simp only [c1,hd,decide_false,Bool.false_eq_true,if_false,if_true,JX d (by omega),Option.bind_some,yi b.Keys (Vd d) (by omega),ke b (JZ hb)]
   rw [hj,Option.bind_some]
   cases hf : QB b.Keys (Vd d) with
   | true =>
    have hi:=zV hf
    generalize WF b.Keys (Vd d) = i at hi hlow
    have hiC : i < b.Counts.length:=by omega
    obtain ⟨k1,k2⟩:=JS hb hiC
    have hw : wr (b.Counts[i] + 1) = b.Counts[i] + 1:=YS (by omega)
    simp only [if_true,Yg,List.getElem?_eq_getElem hiC,Option.bind_some,List.getD_eq_getElem?_getD,Option.getD_some,Int.toNat_natCast,hw]
    by_cases hc : b.Counts[i] = 1000000
    ·have e1 : (b.Counts[i] == 1000000) = true:=by rw [hc]; rfl
     simp only [e1,hc,if_true]
     rfl
    ·have e1 : (b.Counts[i] == 1000000) = false:=by rw [beq_eq_false_iff_ne]; exact hc
     simp only [e1,hc,Bool.false_eq_true,if_false]
   | false =>
    generalize WF b.Keys (Vd d) = i at hlow
    have hlC : i ≤ b.Counts.length:=by omega
    have hlD : i ≤ b.Data.length:=by omega
    simp only [Bool.false_eq_true,if_false,Option.bind_some]
    by_cases hc : b.Keys.length = 32
    ·have e1 : ((b.Keys.length : Int) == 32) = true:=by rw [hc]; rfl
     simp only [e1,hc,if_true]
     rfl
    ·have e1 : ((b.Keys.length : Int) == 32) = false:=by rw [beq_eq_false_iff_ne]; omega
     simp only [e1,hc,Bool.false_eq_true,if_false,yg hlow,yg hlC,yg hlD,HQ hlow,HQ hlC,HQ hlD,Option.bind_some,JR d (show d.length ≤ 140737488355328 by omega)]
     rw [XD (by simp; omega),XD (by simp; omega),XD (by simp; omega),XD (by simp; omega),XD (by simp; omega),XD (by simp; omega),XD (by simp; omega),XD (by simp; omega),XD (by simp; omega)]
     simp only [Option.bind_some,List.nil_append,List.append_assoc]
     rfl
  ·have c1 : (d.length : Int) > 2000:=by omega
   simp only [c1,hd,decide_true,if_true,if_false]
   rfl
theorem qa (b : GBlobs) (d : List UInt8) (hw : Wt.wt b ≤ 1048576) : Wt.wt (H3 b d).1 ≤ 1052576:=by
 have hz : Wt.wt QK = 0:=rfl
 unfold H3
 rw [Ql] at hw
 cases hb : W7 b with
 | false=>simp only [Bool.false_eq_true,if_false,hz]; omega
 | true =>
  obtain ⟨h1,h2,h3,h4,h5⟩:=Qu hb
  have hlow:=Jm b.Keys (Vd d)
  simp only [if_true]
  split
  ·rename_i hd
   split
   ·split
    ·simp only [hz]; omega
    ·rw [Ql]
     simp only
     rw [yX,List.length_set,← yX]; omega
   ·split
    ·simp only [hz]; omega
    ·have w1:=HO b.Keys (WF b.Keys (Vd d)) (Vd d) hlow
     have w2:=HO b.Data (WF b.Keys (Vd d)) d (by omega)
     have w3:=HO b.Counts (WF b.Keys (Vd d)) 1 (by omega)
     have w4 : Wt.wt (Vd d) = 0:=rfl
     have w5 : Wt.wt (1 : Int) = 0:=rfl
     rw [HK d] at w2
     rw [Ql]
     simp only
     omega
  ·simp only [hz]; omega
theorem KX : Wt.ln QK:=⟨⟨by simp [QK],fun x hx=>by simp [QK] at hx⟩,⟨by simp [QK],fun x hx=>by simp [QK] at hx⟩,⟨by simp [QK],fun x hx=>by simp [QK] at hx⟩⟩
theorem k8 (b : GBlobs) (d : List UInt8) (hl : Wt.ln b) : Wt.ln (H3 b d).1:=by
 unfold H3
 cases hb : W7 b with
 | false=>exact KX
 | true =>
  obtain ⟨h1,h2,h3,h4,h5⟩:=Qu hb
  have hlow:=Jm b.Keys (Vd d)
  simp only [if_true]
  split
  ·rename_i hd
   split
   ·split
    ·exact KX
    ·exact ⟨hl.1,hl.2.1,by simp only [List.length_set]; omega,fun _ _=>trivial⟩
   ·split
    ·exact KX
    ·refine ⟨⟨?_,fun _ _=>trivial⟩,⟨?_,fun x hx=>?_⟩,⟨?_,fun _ _=>trivial⟩⟩
     ·simp only [Kf hlow]; omega
     ·simp only [Kf (show WF b.Keys (Vd d) ≤ b.Data.length by omega)]; omega
     ·rcases jJ hx with rfl | hx
      ·exact ⟨by omega,fun _ _=>trivial⟩
      ·exact hl.2.1.2 x hx
     ·simp only [Kf (show WF b.Keys (Vd d) ≤ b.Counts.length by omega)]; omega
  ·exact KX
theorem KH (b : GBlobs) (d : List UInt8) (h : Dat.bd b) (_ : Dat.bd d) : WU b d = some true:=by
 unfold WU
 by_cases hlab : (d.length : Int) > 1048576
 ·simp [hlab]
 simp only [hlab,decide_false,Bool.false_eq_true,if_false]
 refine qe (jm b (Wt.bdln b h)) (by omega) (by omega) fun r _ _ hw=>?_
 have hw : Wt.wt b ≤ 1048576:=by omega
 have hwl : Wt.wt d ≤ 1048576:=by rw [HK]; omega
 have hl:=Wt.wtln b hw
 have hll:=Wt.wtln d hwl
 have hkl : b.Keys.length < 9223372036854775807:=by
  have:=Bo b.Keys
  rw [Ql] at hw
  omega
 have hwr:=qa b d hw
 have hln:=k8 b d hl
 have hle:=HH b
 have hle2:=HH (H3 b d).1
 obtain ⟨x',m1⟩:=zt b hl 1 (by omega) (by omega)
 obtain ⟨y',m4⟩:=J4 d hll (1 + (V6 b : Nat)) (by omega) (by rw [y7]; omega)
 obtain ⟨r',m2,m3⟩:=zU (H3 b d).1 hln 1 (by omega) (by omega)
 have e1 : ¬ ((1 : Int) + (V6 b : Nat) + ((d.map fun _=>1).sum : Nat) < 0):=by omega
 have e2 : ¬ ((1 : Int) + (V6 (H3 b d).1 : Nat) < 0):=by omega
 simp [jI b hw,B5 d hwl,BN d hll,HL,HJ b hkl,Bi b hkl,BV b hl,BV _ hln,m1,m2,m3,m4,e1,e2]
end Go.Proofs.YtpibglnacohdkaaGreat
