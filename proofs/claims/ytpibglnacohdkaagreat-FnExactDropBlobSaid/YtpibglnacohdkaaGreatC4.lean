/- Plain laws, no program in sight. -/
import Derived.Test.YtpibglnacohdkaaGreatC3
set_option linter.unusedVariables false
set_option linter.unusedSimpArgs false
set_option maxRecDepth 20000
set_option maxHeartbeats 400000
namespace Go.Proofs.YtpibglnacohdkaaGreat
open Go
open Flat (enc)
theorem Hx {α : Type} {l : List α} {i : Nat} (h : i < l.length) : idx l (i : Int) = some l[i]:=by
 unfold idx
 rw [if_pos (by omega)]
 simp
theorem Y4 {i : Nat} (h : i < 9223372036854775807) : wr ((i : Int) + 1) = ((i + 1 : Nat) : Int):=by
 rw [YD (by omega)]; rfl

section
variable {S T : Type} {f : S → Option (Fl S T)}
theorem ql (g : Nat → S) (m n : Nat) (hmn : m ≤ n) (h : ∀ i, m ≤ i → i < n → f (g i) = some (.nx (g (i + 1)))) : Zz f (g m) = Zz f (g n) := by
  induction n with
  | zero => have : m = 0 := by omega
            subst this; rfl
  | succ n ih =>
    rcases Nat.lt_or_ge m (n + 1) with h1 | h1
    · rw [ih (by omega) (fun i h2 h3 => h i h2 (by omega)), XE (h n (by omega) (by omega))]
    · have : m = n + 1 := by omega
      subst this; rfl
theorem ZW (g : Nat → S) (m n : Nat) (hmn : m ≤ n) {t : T} (h : ∀ i,m ≤ i → i < n → f (g i) = some (.nx (g (i + 1)))) (he : f (g n) = some (.ex t)) : Zz f (g m) = some t:=by
 rw [ql g m n hmn h,Y3 he]
theorem JL (g : Nat → S) (p : Nat → Bool) (t : Nat → T) {e : T} (n : Nat) : ∀ (k m : Nat),m + k = n → (∀ i,m ≤ i → i < n → f (g i) = some (if p i then .ex (t i) else .nx (g (i + 1)))) → f (g n) = some (.ex e) →
  Zz f (g m) = some (((List.range' m k).find? p).elim e t)
 | 0,m,hk,_,he=>by
  have : m = n:=by omega
  subst this
  rw [Y3 he]; rfl
 | k + 1,m,hk,h,he=>by
  have h1:=h m (Nat.le_refl _) (by omega)
  rw [List.range'_succ,List.find?_cons]
  cases hp : p m with
  | true=>rw [hp] at h1; rw [Y3 h1]; rfl
  | false =>
   rw [hp] at h1
   rw [XE h1,JL g p t n k (m + 1) (by omega) (fun i h2 h3=>h i (by omega) h3) he]
end

theorem zq {T : Type} {f : Int → Option (Fl Int (Fl Unit T))} (p : Nat → Bool) {t : T} {n m : Nat} (hm : m ≤ n)
  (h : ∀ i,m ≤ i → i < n → f (i : Int) = some (if p i then .ex (.ex t) else .nx ((i + 1 : Nat) : Int))) (he : f (n : Int) = some (.ex (.nx ()))) :
  Zz f (m : Int) = some (if (List.range' m (n - m)).any p then .ex t else .nx ()):=by
 rw [JL (fun i : Nat=>(i : Int)) p (fun _=>.ex t) n (n - m) m (by omega) h he]
 cases hf : (List.range' m (n - m)).find? p with
 | none =>
  have : (List.range' m (n - m)).any p = false:=by
   rw [List.any_eq_false]
   rw [List.find?_eq_none] at hf
   exact hf
  rw [this]; rfl
 | some i =>
  have : (List.range' m (n - m)).any p = true:=by
   rw [List.any_eq_true]
   exact ⟨i,List.mem_of_find?_eq_some hf,List.find?_some hf⟩
  rw [this]; rfl
class Wt (α : Type) [Dat α] where
 wt : α → Nat
 ln : α → Prop
 bdln : ∀ x,Dat.bd x → ln x
 wtln : ∀ x,wt x ≤ 1048576 → ln x
instance : Wt Int:=⟨fun _=>0,fun _=>True,fun _ _=>trivial,fun _ _=>trivial⟩
instance : Wt UInt8:=⟨fun _=>0,fun _=>True,fun _ _=>trivial,fun _ _=>trivial⟩
instance : Wt Bool:=⟨fun _=>0,fun _=>True,fun _ _=>trivial,fun _ _=>trivial⟩
instance : Wt Str:=⟨fun s=>s.l.length,fun s=>s.l.length ≤ 9223372036854775807,fun _ h=>h,fun _ h=>by omega⟩
instance {n : Nat} : Wt (Vector UInt8 n):=⟨fun _=>0,fun _=>True,fun _ _=>trivial,fun _ _=>trivial⟩
instance {n m : Nat} : Wt (Vector (Vector UInt8 m) n):=⟨fun _=>0,fun _=>True,fun _ _=>trivial,fun _ _=>trivial⟩
theorem yY {α : Type} {f : α → Nat} {l : List α} {x : α} (h : x ∈ l) : f x ≤ (l.map f).sum:=by
 induction l with
 | nil=>cases h
 | cons y l ih =>
  rw [List.map_cons,List.sum_cons]
  rcases List.mem_cons.1 h with rfl | h
  ·omega
  ·have:=ih h; omega
instance {α : Type} [Dat α] [Wt α] : Wt (List α):=⟨fun l=>l.length + (l.map Wt.wt).sum,fun l=>l.length ≤ 9223372036854775807 ∧ ∀ x ∈ l,Wt.ln x,fun _ h=>⟨h.1,fun x hx=>Wt.bdln x (h.2 x hx)⟩,
 fun l h=>⟨by omega,fun x hx=>Wt.wtln x (by have:=yY (f:=Wt.wt) hx; omega)⟩⟩
instance {α β : Type} [Dat α] [Dat β] [Wt α] [Wt β] : Wt (α × β):=⟨fun x=>Wt.wt x.1 + Wt.wt x.2,fun x=>Wt.ln x.1 ∧ Wt.ln x.2,fun x h=>⟨Wt.bdln x.1 h.1,Wt.bdln x.2 h.2⟩,fun x h=>⟨Wt.wtln x.1 (by omega),Wt.wtln x.2 (by omega)⟩⟩
theorem TL {α : Type} [Dat α] [Wt α] (l : List α) : Wt.wt l = l.length + (l.map Wt.wt).sum:=rfl
theorem wt_mem {α : Type} [Dat α] [Wt α] {l : List α} {x : α} (h : x ∈ l) : Wt.wt x ≤ (l.map Wt.wt).sum:=yY h
theorem kX {α : Type} [Dat α] [Wt α] {l : List α} {x : α} (h : x ∈ l) : Wt.wt x ≤ Wt.wt l:=by
 have:=wt_mem h; rw [TL]; omega
theorem HD {α : Type} [Dat α] [Wt α] (l : List α) : l.length ≤ Wt.wt l:=by rw [TL]; omega
theorem UD {α : Type} [Dat α] [Wt α] {l : List α} (h : Wt.ln l) : l.length ≤ 9223372036854775807:=h.1
theorem Am {α : Type} [Dat α] [Wt α] {l : List α} {x : α} (h : Wt.ln l) (hx : x ∈ l) : Wt.ln x:=h.2 x hx

theorem Q4 {α β : Type} (p0 : List α) (c : α → Option β) (g : α → β) (by_ : Nat) (z : β) (L : List β × Int → Option (Fl (List β × Int) (List β)))
  (hL : ∀ s,L s = if (decide (s.2 < (p0.length : Int))) = true then ((idx p0 s.2).bind fun x=>(c x).bind fun r=>(idx s.1 s.2).bind fun _=>some (Fl.nx ((s.1.set (s.2).toNat r),wr (s.2 + 1)))) else (some (Fl.ex s.1)))
  (hc : ∀ x ∈ p0,c x = some (g x)) (hl : p0.length * by_ ≤ 140737488355328) (hl' : p0.length < 9223372036854775807) :
  ((mkS by_ z (p0.length : Int)).bind fun l1=>(Zz L (l1,0) : Option (List β)).bind fun j=>some j) = some (p0.map g):=by
 have hm : mkS by_ z (p0.length : Int) = some (List.replicate p0.length z):=by
  have h3 : ((p0.length * by_ : Nat) : Int) ≤ ((140737488355328 : Nat) : Int):=Int.ofNat_le.2 hl
  rw [Int.natCast_mul] at h3
  unfold mkS
  rw [if_pos ⟨by omega,h3⟩,Int.toNat_natCast]
 rw [hm]
 simp only [Option.bind_some]
 have hrun:=ZW (f:=L) (fun i : Nat=>((p0.take i).map g ++ List.replicate (p0.length - i) z,(i : Int))) 0 p0.length (Nat.zero_le _) (t:=p0.map g) (fun i _ hi=>by
  rw [hL]
  simp only [Int.ofNat_lt,hi,decide_true,if_true,Hx hi,Option.bind_some,hc _ (List.getElem_mem hi)]
  rw [Hx (by simp; omega)]
  simp only [Option.bind_some,Y4 (show i < 9223372036854775807 by omega),Int.toNat_natCast]
  congr 3
  rw [List.set_append_right _ _ (by simp; omega)]
  have e1 : p0.length - i = (p0.length - (i + 1)) + 1:=by omega
  have e2 : i - ((p0.take i).map g).length = 0:=by simp; omega
  rw [e1,List.replicate_succ,e2,List.set_cons_zero]
  rw [List.take_succ_eq_append_getElem hi,List.map_append,List.append_assoc]
  rfl) (by
  rw [hL]
  simp)
 simp at hrun
 simp [hrun]

theorem Hw {α : Type} (p0 : List α) (ne : α → α → Option Bool) (L : Int → Option (Fl Int (Fl Unit Bool)))
  (hL : ∀ s,L s = if (decide (s < (p0.length : Int))) = true then (((idx p0 s).bind fun x=>(idx p0 s).bind fun y=>ne x y : Option Bool).bind fun j=>if j = true then (some (Fl.ex (Fl.ex false))) else (some (Fl.nx (wr (s + 1))))) else (some (Fl.ex (Fl.nx ()))))
  (hn : ∀ x ∈ p0,ne x x = some false) (hl : p0.length ≤ 9223372036854775807) :
  (if ((p0.length : Int) != (p0.length : Int)) = true then (some false) else ((Zz L 0 : Option (Fl Unit Bool)).bind fun j2=>j2.el (fun _=>some true) (fun r=>some r))) = some true:=by
 have:=ZW (f:=L) (fun i : Nat=>(i : Int)) 0 p0.length (Nat.zero_le _) (t:=.nx ()) (fun i _ hi=>by
  rw [hL]
  simp only [Int.ofNat_lt,hi,decide_true,if_true,Hx hi,Option.bind_some,hn _ (List.getElem_mem hi)]
  simp [Y4 (show i < 9223372036854775807 by omega)]) (by
  rw [hL]; simp)
 have h2 : Zz L 0 = some (.nx ()):=this
 simp [h2,Fl.el]

def Tm {α : Type} [Dat α] [Wt α] (f : α → Int → Option Int) (x : α) : Prop:=∀ left : Int,0 ≤ left → left ≤ 1048576 → ∃ r,f x left = some r ∧ r ≤ 1048576 ∧ (0 ≤ r → r + Wt.wt x ≤ left)
theorem Km {α : Type} [Dat α] [Wt α] {l : List α} (h0 : ∀ x : α,Wt.wt x = 0) (f : List α → Int → Option Int)
  (hf : ∀ left,f l left = if (decide ((wr (left - (l.length : Int))) < 0)) = true then (some (-1)) else (some (wr (left - (l.length : Int))))) (hl : l.length ≤ 9223372036854775807) : Tm f l:=by
 intro left h1 h2
 have hs : (l.map Wt.wt).sum = 0:=by
  clear hf hl
  induction l with
  | nil=>rfl
  | cons x l ih=>rw [List.map_cons,List.sum_cons,h0,ih]
 have hw : Wt.wt l = l.length:=by rw [TL,hs]; rfl
 rw [hf,YD (by omega),hw]
 by_cases h : left - (l.length : Int) < 0
 ·exact ⟨-1,by simp [h],by omega,by omega⟩
 ·exact ⟨left - l.length,by simp [h],by omega,by omega⟩
theorem ys {α : Type} [Dat α] [Wt α] {p0 : List α} (f : List α → Int → Option Int) (c : α → Int → Option Int) (L : Int × Int → Option (Fl (Int × Int) (Fl Int Int)))
  (hL : ∀ s,L s = if (decide (s.2 < (p0.length : Int))) = true then ((idx p0 s.2).bind fun x=>(c x s.1).bind fun r=>if (decide (r < 0)) = true then (some (Fl.ex (Fl.ex (-1)))) else (some (Fl.nx (r,wr (s.2 + 1))))) else (some (Fl.ex (Fl.nx s.1))))
  (hf : ∀ left,f p0 left = if (decide ((wr (left - (p0.length : Int))) < 0)) = true then (some (-1)) else ((Zz L (wr (left - (p0.length : Int)),0) : Option (Fl Int Int)).bind fun j2=>j2.el (fun s=>some s) (fun r=>some r)))
  (hl : p0.length ≤ 9223372036854775807) (hc : ∀ x ∈ p0,Tm c x) : Tm f p0:=by
 intro left h1 h2
 rw [hf,YD (by omega)]
 by_cases h : left - (p0.length : Int) < 0
 ·exact ⟨-1,by simp [h],by omega,by omega⟩
 simp only [h,decide_false,Bool.false_eq_true,if_false]
 have key : ∀ (k m : Nat) (a : Int),m + k = p0.length → 0 ≤ a → a ≤ 1048576 → ∃ o : Fl Int Int,Zz L (a,(m : Int)) = some o ∧ ((o = .ex (-1)) ∨ ∃ r,o = .nx r ∧ 0 ≤ r ∧ r + (((p0.drop m).map Wt.wt).sum : Nat) ≤ a):=by
  intro k
  induction k with
  | zero =>
   intro m a hm h0 h3
   have : m = p0.length:=by omega
   subst this
   refine ⟨.nx a,?_,.inr ⟨a,rfl,h0,?_⟩⟩
   ·rw [Y3 (t:=.nx a)]; rw [hL]; simp
   ·simp
  | succ k ih =>
   intro m a hm h0 h3
   have hi : m < p0.length:=by omega
   obtain ⟨r,e1,e2,e3⟩:=hc _ (List.getElem_mem hi) a h0 h3
   have hst : L (a,(m : Int)) = (if (decide (r < 0)) = true then (some (Fl.ex (Fl.ex (-1)))) else (some (Fl.nx (r,((m + 1 : Nat) : Int))))):=by
    rw [hL]
    simp only [Int.ofNat_lt,hi,decide_true,if_true,Hx hi,Option.bind_some,e1,Y4 (show m < 9223372036854775807 by omega)]
   by_cases hr : r < 0
   ·simp only [hr,decide_true,if_true] at hst
    exact ⟨_,Y3 hst,.inl rfl⟩
   ·simp only [hr,decide_false,Bool.false_eq_true,if_false] at hst
    obtain ⟨o,k1,k2⟩:=ih (m + 1) r (by omega) (by omega) e2
    refine ⟨o,by rw [XE hst]; exact k1,k2.imp id ?_⟩
    rintro ⟨q,rfl,q1,q2⟩
    refine ⟨q,rfl,q1,?_⟩
    have e3:=e3 (by omega)
    rw [List.drop_eq_getElem_cons hi,List.map_cons,List.sum_cons]
    omega
 obtain ⟨o,k1,k2⟩:=key p0.length 0 (left - p0.length) (by omega) (by omega) (by omega)
 have k1' : Zz L (left - (p0.length : Int),0) = some o:=k1
 rw [k1']
 rcases k2 with rfl | ⟨r,rfl,q1,q2⟩
 ·exact ⟨-1,rfl,by omega,by omega⟩
 ·refine ⟨r,rfl,by omega,fun _=>?_⟩
  rw [List.drop_zero] at q2
  rw [TL]; omega
@[simp] theorem Ye {α : Type} (l : List α) (i : Nat) : idx l (i : Int) = l[i]?:=by unfold idx; simp
@[simp] theorem idx_zero {α : Type} (l : List α) : idx l (0 : Int) = l[0]?:=Ye l 0
theorem zJ {T : Type} {f : Int → Option (Fl Int (Fl Unit T))} (n : Nat) (p : Nat → Bool) (t : T) (hn : n < 9223372036854775807)
  (h : ∀ i,i < n → f (i : Int) = some (if p i then .ex (.ex t) else .nx (wr ((i : Int) + 1)))) (he : f (n : Int) = some (.ex (.nx ()))) (m : Nat) (hm : m ≤ n) :
  Zz f (m : Int) = some (if (List.range' m (n - m)).any p then .ex t else .nx ()) :=
 zq p hm (fun i _ hi=>by rw [h i hi,Y4 (by omega)]) he
theorem jA {T : Type} {f : Int → Option (Fl Int (Fl Unit T))} (n : Nat) (p : Nat → Bool) (t : T) (hn : n < 9223372036854775807) (m : Nat) (hm : m ≤ n)
  (h : ∀ i,m ≤ i → i < n → f (i : Int) = some (if p i then .ex (.ex t) else .nx (wr ((i : Int) + 1)))) (he : f (n : Int) = some (.ex (.nx ()))) :
  Zz f (m : Int) = some (if (List.range' m (n - m)).any p then .ex t else .nx ()) :=
 zq p hm (fun i hmi hi=>by rw [h i hmi hi,Y4 (by omega)]) he
theorem JA {α β S T : Type} {f : S → Option (Fl S T)} (l : List α) (pack : β → Int → S) (g : β → α → β) (b0 : β) {t : T} (hn : l.length < 9223372036854775807)
  (h : ∀ i (hi : i < l.length),f (pack ((l.take i).foldl g b0) (i : Int)) = some (.nx (pack (g ((l.take i).foldl g b0) l[i]) (wr ((i : Int) + 1))))) (he : f (pack (l.foldl g b0) (l.length : Int)) = some (.ex t)) :
  Zz f (pack b0 0) = some t:=by
 have:=ZW (f:=f) (fun i : Nat=>pack ((l.take i).foldl g b0) (i : Int)) 0 l.length (Nat.zero_le _) (t:=t) (fun i _ hi=>by
  rw [h i hi,Y4 (by omega)]
  congr 3
  rw [List.take_succ_eq_append_getElem hi,List.foldl_append]; rfl) (by rw [List.take_length]; exact he)
 simpa using this
theorem Bt {α β : Type} (g : α → β) (l : List α) (acc : List β) : l.foldl (fun b x=>b ++ [g x]) acc = acc ++ l.map g:=by
 induction l generalizing acc with
 | nil=>simp
 | cons x l ih=>simp [ih]
theorem zI {α β T : Type} {f : List β × Int → Option (Fl (List β × Int) T)} (l : List α) (g : α → β) {t : T} (hn : l.length < 9223372036854775807)
  (h : ∀ i (hi : i < l.length),f ((l.take i).map g,(i : Int)) = some (.nx ((l.take i).map g ++ [g l[i]],wr ((i : Int) + 1)))) (he : f (l.map g,(l.length : Int)) = some (.ex t)) :
  Zz f ([],0) = some t:=by
 have e : ∀ m : List α,m.foldl (fun b x=>b ++ [g x]) [] = m.map g:=fun m=>by rw [Bt]; rfl
 exact JA (f:=f) l (fun b i=>(b,i)) (fun b x=>b ++ [g x]) [] hn (fun i hi=>by simp only [e]; exact h i hi) (by simp only [e]; exact he)
theorem X7 {α : Type} {by_ : Nat} {l m : List α} (h : (l.length + m.length) * by_ ≤ 140737488355328) : app by_ l m = some (l ++ m):=by unfold app; rw [if_pos h]
theorem AJ {α : Type} {l : List α} {i j : Nat} (h : i ≤ j) (h2 : j ≤ l.length) : slc l (i : Int) (j : Int) = some ((l.take j).drop i):=by
 unfold slc; rw [if_pos (by omega)]; simp

theorem Td {α : Type} {n : Nat} {v w : Vector α n} (h : ∀ i (hi : i < n),v[i] = w[i]) : v = w:=Vector.ext h
@[simp] theorem Wy {α : Type} {n : Nat} (v : Vector α n) (i : Nat) : ZI v (i : Int) = v[i]?:=by unfold ZI; simp
theorem jP {n : Nat} (p0 : Vector UInt8 n) (L : Vector UInt8 n × Int → Option (Fl (Vector UInt8 n × Int) (Vector UInt8 n)))
  (hL : ∀ s,L s = if decide (s.2 < (n : Int)) = true then ((ZI p0 s.2).bind fun x=>(ZI s.1 s.2).bind fun _=>some (Fl.nx (s.1.setIfInBounds (s.2).toNat x,wr (s.2 + 1)))) else (some (Fl.ex s.1))) (hn : n < 9223372036854775807) (z : Vector UInt8 n) :
  Zz L (z,0) = some p0:=by
 have:=ZW (f:=L) (fun i : Nat=>(Vector.ofFn fun j : Fin n=>if j.1 < i then p0[j] else z[j],(i : Int))) 0 n (Nat.zero_le _) (t:=p0) (fun i _ hi=>by
  rw [hL]
  simp only [Int.ofNat_lt,hi,decide_true,if_true,Wy,Vector.getElem?_eq_getElem hi,Option.bind_some,Int.toNat_natCast,Y4 (show i < 9223372036854775807 by omega)]
  congr 3
  apply Td
  intro j hj
  rw [Vector.getElem_setIfInBounds]
  simp only [Vector.getElem_ofFn,Fin.getElem_fin]
  by_cases h : i = j
  ·subst h; simp
  ·by_cases h2 : j < i
   ·simp [h,h2,show j < i + 1 by omega]
   ·simp [h,h2,show ¬ j < i + 1 by omega]) (by
  rw [hL]
  simp only [Int.ofNat_lt,Nat.lt_irrefl,decide_false,Bool.false_eq_true,if_false]
  congr 2
  apply Td
  intro j hj
  simp [hj])
 have h0 : (Vector.ofFn fun j : Fin n=>if j.1 < 0 then p0[j] else z[j]) = z:=by
  apply Td
  intro j hj
  simp
 rw [h0] at this
 exact this
theorem eq_arr {n : Nat} (p0 : Vector UInt8 n) (L : Int → Option (Fl Int (Fl Unit Bool)))
  (hL : ∀ s,L s = if decide (s < (n : Int)) = true then (((ZI p0 s).bind fun x=>(ZI p0 s).bind fun y=>some (x != y) : Option Bool).bind fun j=>if j = true then (some (Fl.ex (Fl.ex false))) else (some (Fl.nx (wr (s + 1))))) else (some (Fl.ex (Fl.nx ())))) (hn : n < 9223372036854775807) :
  ((Zz L 0 : Option (Fl Unit Bool)).bind fun j5=>j5.el (fun _=>some true) (fun r=>some r)) = some true:=by
 have:=ZW (f:=L) (fun i : Nat=>(i : Int)) 0 n (Nat.zero_le _) (t:=.nx ()) (fun i _ hi=>by
  rw [hL]
  simp only [Int.ofNat_lt,hi,decide_true,if_true,Wy,Vector.getElem?_eq_getElem hi,Option.bind_some]
  simp [Y4 (show i < 9223372036854775807 by omega)]) (by rw [hL]; simp)
 have h2 : Zz L 0 = some (.nx ()):=this
 rw [h2]; rfl

def JM (n : Nat) (k : Int) : Vector UInt8 n:=Vector.ofFn fun j=>ZG (k + j)
theorem wr_k {k : Int} (h : 0 ≤ k) (h2 : k < 9223372036854775807) : wr (k + 1) = k + 1:=YD (by omega)
theorem zt {α : Type} {n : Nat} (get : α → Vector UInt8 n) (put : α → Vector UInt8 n → α) (i : Nat) (I : Int) (hI : I = i) (L : List α × Int × Int → Option (Fl (List α × Int × Int) (List α × Int)))
  (hL : ∀ s,L s = if decide (s.2.2 < (n : Int)) = true then ((idx s.1 I).bind fun x=>(ZI (get x) s.2.2).bind fun _=>some (Fl.nx (s.1.set (I).toNat (put x ((get x).setIfInBounds (s.2.2).toNat (ZG s.2.1))),wr (s.2.1 + 1),wr (s.2.2 + 1)))) else (some (Fl.ex (s.1,s.2.1))))
  (hgp : ∀ x v,get (put x v) = v) (hpp : ∀ x v w,put (put x v) w = put x w) (hpg : ∀ x,put x (get x) = x) (hn : n < 9223372036854775807)
  (l : List α) (hi : i < l.length) (k : Int) (h0 : 0 ≤ k) (hk : k + n ≤ 4611686018427387904) : Zz L (l,k,0) = some (l.set i (put l[i] (JM n k)),k + n):=by
 subst hI
 have:=ZW (f:=L) (fun j : Nat=>(l.set i (put l[i] (Vector.ofFn fun q : Fin n=>if q.1 < j then ZG (k + q) else (get l[i])[q])),k + j,(j : Int))) 0 n (Nat.zero_le _) (t:=(l.set i (put l[i] (JM n k)),k + n)) (fun j _ hj=>by
  rw [hL]
  have hi' : i < (l.set i (put l[i] (Vector.ofFn fun q : Fin n=>if q.1 < j then ZG (k + q) else (get l[i])[q]))).length:=by simpa using hi
  simp only [Int.ofNat_lt,hj,decide_true,if_true,Ye,Wy,List.getElem?_eq_getElem hi',Vector.getElem?_eq_getElem hj,Option.bind_some,Int.toNat_natCast,Y4 (show j < 9223372036854775807 by omega),List.getElem_set_self,hgp,hpp,List.set_set]
  rw [wr_k (by omega) (by omega)]
  congr 3
  ·congr 2
   apply Td
   intro q hq
   rw [Vector.getElem_setIfInBounds]
   simp only [Vector.getElem_ofFn,Fin.getElem_fin]
   by_cases h : j = q
   ·subst h; simp
   ·by_cases h2 : q < j
    ·simp [h,h2,show q < j + 1 by omega]
    ·simp [h,h2,show ¬ q < j + 1 by omega]
  ·congr 1
   omega) (by
  rw [hL]
  simp only [Int.ofNat_lt,Nat.lt_irrefl,decide_false,Bool.false_eq_true,if_false]
  have e : (Vector.ofFn fun q : Fin n=>if q.1 < n then ZG (k + q) else (get l[i])[q]) = JM n k:=by
   unfold JM
   apply Td
   intro j hj
   simp [hj]
  rw [e])
 have h0' : (Vector.ofFn fun q : Fin n=>if q.1 < 0 then ZG (k + q) else (get l[i])[q]) = get l[i]:=by
  apply Td
  intro j hj
  simp
 rw [h0',hpg,List.set_getElem_self] at this
 simpa using this
theorem jO {α : Type} {n : Nat} (get : α → Vector UInt8 n) (l : List α) (i : Nat) (I : Int) (hI : I = i) (L : Int × Int → Option (Fl (Int × Int) (Fl Int Int)))
  (hL : ∀ s,L s = if decide (s.2 < (n : Int)) = true then ((idx l I).bind fun x=>(ZI (get x) s.2).bind fun b=>if (b != (ZG s.1)) = true then (some (Fl.ex (Fl.ex (-1)))) else (some (Fl.nx (wr (s.1 + 1),wr (s.2 + 1))))) else (some (Fl.ex (Fl.nx s.1))))
  {x : α} (hx : l[i]? = some x) (k : Int) (h0 : 0 ≤ k) (hk : k + n ≤ 4611686018427387904) (hg : get x = JM n k) : Zz L (k,0) = some (.nx (k + n)):=by
 subst hI
 have:=ZW (f:=L) (fun j : Nat=>(k + j,(j : Int))) 0 n (Nat.zero_le _) (t:=.nx (k + n)) (fun j _ hj=>by
  rw [hL]
  simp only [Int.ofNat_lt,hj,decide_true,if_true,Ye,Wy,hx,Vector.getElem?_eq_getElem hj,Option.bind_some,Y4 (show j < 9223372036854775807 by omega)]
  rw [wr_k (by omega) (by omega)]
  have : (get x)[j] = ZG (k + j):=by simp [hg,JM]
  rw [this]
  simp only [bne_self_eq_false,Bool.false_eq_true,if_false]
  congr 3
  omega) (by rw [hL]; simp)
 simpa using this
def Be {α : Type} (Fm : α → Int → Option (α × Int)) (Fh : α → Int → Option Int) (x : α) (n : Nat) : Prop :=
 ∀ k : Int,0 ≤ k → k + n ≤ 4611686018427387904 → ∃ x',Fm x k = some (x',k + n) ∧ Fh x' k = some (k + n)
theorem Q8 {α : Type} (Fm : List α → Int → Option (List α × Int)) (Fh : List α → Int → Option Int) (Lm : List α × Int × Int → Option (Fl (List α × Int × Int) (List α × Int))) (Lh : List α → Int × Int → Option (Fl (Int × Int) (Fl Int Int))) (mk : α → Nat)
  (hFm : ∀ l k,Fm l k = (Zz Lm (l,k,0) : Option (List α × Int)).bind fun j1=>some (j1.1,j1.2)) (hFh : ∀ l k,Fh l k = (Zz (Lh l) (k,0) : Option (Fl Int Int)).bind fun j1=>j1.el (fun s=>some s) (fun r=>some r))
  (l : List α) (hl : l.length ≤ 9223372036854775807)
  (hm : ∀ (l' : List α) (i : Nat) (k : Int) (hi : i < l'.length),l'[i] ∈ l → i < 9223372036854775807 → 0 ≤ k → k + mk l'[i] ≤ 4611686018427387904 → ∃ x',Lm (l',k,(i : Int)) = some (.nx (l'.set i x',k + mk l'[i],wr ((i : Int) + 1))) ∧
   ∀ (m : List α),m[i]? = some x' → Lh m (k,(i : Int)) = some (.nx (k + mk l'[i],wr ((i : Int) + 1))))
  (hme : ∀ (l' : List α) k,Lm (l',k,(l'.length : Int)) = some (.ex (l',k))) (hhe : ∀ (m : List α) k,Lh m (k,(m.length : Int)) = some (.ex (.nx k))) : Be Fm Fh l (l.map mk).sum:=by
 have aux : ∀ (n i : Nat) (l' : List α) (k : Int),i + n = l'.length → l'.length = l.length → l'.drop i = l.drop i → 0 ≤ k → k + (((l.drop i).map mk).sum : Nat) ≤ 4611686018427387904 →
   ∃ l'',Zz Lm (l',k,(i : Int)) = some (l'',k + (((l.drop i).map mk).sum : Nat)) ∧ l''.length = l'.length ∧ (∀ j,j < i → l''[j]? = l'[j]?) ∧ Zz (Lh l'') (k,(i : Int)) = some (.nx (k + (((l.drop i).map mk).sum : Nat))):=by
  intro n
  induction n with
  | zero =>
   intro i l' k hi hll hd h0 hk
   have hi : i = l'.length:=by omega
   subst hi
   have e : l.drop l'.length = []:=by rw [hll]; simp
   rw [e]
   refine ⟨l',?_,rfl,fun _ _=>rfl,?_⟩
   ·rw [Y3 (hme l' k)]; simp
   ·rw [Y3 (hhe l' k)]; simp
  | succ n ih =>
   intro i l' k hi hll hd h0 hk
   have hil : i < l'.length:=by omega
   have hil2 : i < l.length:=by omega
   have e1 : l'[i] = l[i]:=by
    have h1:=List.drop_eq_getElem_cons hil
    have h2:=List.drop_eq_getElem_cons hil2
    rw [h1,h2] at hd
    exact (List.cons.inj hd).1
   have e2 : l.drop i = l[i] :: l.drop (i + 1):=List.drop_eq_getElem_cons hil2
   rw [e2,List.map_cons,List.sum_cons] at hk ⊢
   obtain ⟨x',h1,h2⟩:=hm l' i k hil (by rw [e1]; exact List.getElem_mem hil2) (by omega) h0 (by rw [e1]; omega)
   rw [e1] at h1 h2
   rw [Y4 (by omega)] at h1 h2
   obtain ⟨l'',k1,k2,k3,k4⟩:=ih (i + 1) (l'.set i x') (k + mk l[i]) (by simp; omega) (by simpa using hll) (by
    rw [List.drop_set_of_lt (by omega)]
    have h1:=List.drop_eq_getElem_cons hil
    rw [h1,e2] at hd
    exact (List.cons.inj hd).2) (by omega) (by omega)
   refine ⟨l'',?_,by simpa using k2,fun j hj=>?_,?_⟩
   ·rw [XE h1,k1]; congr 2; omega
   ·rw [k3 j (by omega),List.getElem?_set_ne (by omega)]
   ·rw [XE (h2 l'' (by rw [k3 i (by omega)]; simp [hil])),k4]; congr 2; omega
 intro k h0 hk
 obtain ⟨l'',k1,k2,k3,k4⟩:=aux l.length 0 l k (by omega) rfl rfl h0 (by simpa using hk)
 simp only [List.drop_zero] at k1 k4
 refine ⟨l'',?_,?_⟩
 ·rw [hFm]
  have : Zz Lm (l,k,0) = _:=k1
  rw [this]; rfl
 ·rw [hFh]
  have : Zz (Lh l'') (k,0) = _:=k4
  rw [this]; rfl
theorem JH {α : Type} [Dat α] [Wt α] (mk : α → Nat) (c : Nat) (h : ∀ x,mk x ≤ c * (1 + Wt.wt x)) (l : List α) : (l.map mk).sum ≤ c * Wt.wt l:=by
 rw [TL]
 induction l with
 | nil=>simp
 | cons x l ih =>
  have:=h x
  simp only [List.map_cons,List.sum_cons,List.length_cons]
  have e : c * (l.length + 1 + (Wt.wt x + (l.map Wt.wt).sum)) = c * (1 + Wt.wt x) + c * (l.length + (l.map Wt.wt).sum):=by
   rw [← Nat.mul_add]; congr 1; omega
  omega
theorem jF (l : List UInt8) : Wt.wt l = l.length:=by
 rw [TL]
 have : (l.map Wt.wt).sum = 0:=by
  induction l with
  | nil=>rfl
  | cons x l ih=>rw [List.map_cons,List.sum_cons,ih]; rfl
 omega
theorem yV (l : List Int) : Wt.wt l = l.length:=by
 rw [TL]
 have : (l.map Wt.wt).sum = 0:=by
  induction l with
  | nil=>rfl
  | cons x l ih=>rw [List.map_cons,List.sum_cons,ih]; rfl
 omega
theorem y6 (l : List UInt8) (h : Wt.wt l ≤ 1048576) : Vd l = some l:=by
 have:=HD l
 unfold Vd
 have:=Q4 l (fun x=>some x) id 1 0 (UQ l) (fun s=>by unfold UQ; rfl) (fun _ _=>rfl) (by omega) (by omega)
 simpa using this
theorem js (l : List UInt8) (h : Wt.ln l) : Vj l l = some true:=by
 unfold Vj
 exact Hw l (fun x y=>some (x != y)) (UP l l) (fun s=>by unfold UP; rfl) (fun x _=>by simp) (UD h)
theorem jt (l : List UInt8) (h : Wt.ln l) : Tm WE l :=
 Km (fun _=>rfl) WE (fun left=>by unfold WE; rfl) (UD h)
theorem zi (l : List UInt8) (h : Wt.ln l) : Be XC Vu l (l.map fun _=>1).sum :=
 Q8 XC Vu YP W1 (fun _=>1) (fun _ _=>rfl) (fun _ _=>rfl) l (UD h) (fun l' i k hi _ _ h0 hk=>by
  have e:=wr_k (k:=k) h0 (by omega)
  refine ⟨ZG k,?_,fun m hm=>?_⟩
  ·unfold YP
   simp only [Int.ofNat_lt,hi,decide_true,if_true,Ye,List.getElem?_eq_getElem hi,Option.bind_some,Int.toNat_natCast,e]; rfl
  ·have hi':=(List.getElem?_eq_some_iff.1 hm).1
   unfold W1
   simp only [Int.ofNat_lt,hi',decide_true,if_true,Ye,hm,Option.bind_some,bne_self_eq_false,Bool.false_eq_true,if_false,e]; rfl) (fun l' k=>by unfold YP; simp) (fun m k=>by unfold W1; simp)
theorem yh (l : List Int) (h : Wt.ln l) : VE l l = some true:=by
 unfold VE
 exact Hw l (fun x y=>some (x != y)) (Uy l l) (fun s=>by unfold Uy; rfl) (fun x _=>by simp) (UD h)
theorem Av (l : List Int) (h : Wt.ln l) : Be Y8 W0 l (l.map fun _=>1).sum :=
 Q8 Y8 W0 YA WB (fun _=>1) (fun _ _=>rfl) (fun _ _=>rfl) l (UD h) (fun l' i k hi _ _ h0 hk=>by
  have e:=wr_k (k:=k) h0 (by omega)
  refine ⟨k,?_,fun m hm=>?_⟩
  ·unfold YA
   simp only [Int.ofNat_lt,hi,decide_true,if_true,Ye,List.getElem?_eq_getElem hi,Option.bind_some,Int.toNat_natCast,e]; rfl
  ·have hi':=(List.getElem?_eq_some_iff.1 hm).1
   unfold WB
   simp only [Int.ofNat_lt,hi',decide_true,if_true,Ye,hm,Option.bind_some,bne_self_eq_false,Bool.false_eq_true,if_false,e]; rfl) (fun l' k=>by unfold YA; simp) (fun m k=>by unfold WB; simp)
theorem yE (l : List (List UInt8)) (h : Wt.wt l ≤ 1048576) : VG l = some l:=by
 have:=HD l
 unfold VG
 have:=Q4 l Vd id 24 [] (Uu l) (fun s=>by unfold Uu; rfl) (fun x hx=>y6 x (Nat.le_trans (kX hx) h)) (by omega) (by omega)
 simpa using this
theorem ya (l : List (List UInt8)) (h : Wt.ln l) : VC l l = some true:=by
 unfold VC
 exact Hw l (fun x y=>(Vj x y).bind fun r=>some (!r)) (Us l l) (fun s=>by unfold Us; rfl) (fun x hx=>by simp [js x (Am h hx)]) (UD h)
theorem yj (l : List (List UInt8)) (h : Wt.ln l) : Tm X3 l :=
 ys X3 WE (Ut l) (fun s=>by unfold Ut; rfl) (fun left=>by unfold X3; rfl) (UD h) (fun x hx=>jt x (Am h hx))
theorem Bb (x : Vector UInt8 32) : YU x = some x:=by
 unfold YU
 rw [jP x (Uv x) (fun s=>by unfold Uv; rfl) (by omega)]; rfl
theorem zZ (x : Vector UInt8 32) : WU x x = some true:=by
 unfold WU
 exact eq_arr x (Ur x x) (fun s=>by unfold Ur; rfl) (by omega)
theorem HN {α β : Type} [Dat α] [Wt α] [Dat β] [Wt β] {f : α → Int → Option Int} {g : β → Int → Option Int} {x : α} {y : β} (hf : Tm f x) (hg : Tm g y) (left : Int) (h1 : 0 ≤ left) (h2 : left ≤ 1048576) :
  ∃ r,((f x left).bind fun r=>if decide (r < 0) = true then some (-1) else g y r) = some r ∧ r ≤ 1048576 ∧ (0 ≤ r → r + (Wt.wt x + Wt.wt y : Nat) ≤ left):=by
 obtain ⟨r,e1,e2,e3⟩:=hf left h1 h2
 rw [e1]
 by_cases hr : r < 0
 ·exact ⟨-1,by simp [hr],by omega,by omega⟩
 ·have e3:=e3 (by omega)
  obtain ⟨q,k1,k2,k3⟩:=hg r (by omega) e2
  refine ⟨q,by simp [hr,k1],k2,fun hq=>?_⟩
  have:=k3 hq
  omega
theorem y8 {f : Option Int} {left w : Int} (h : ∃ r,f = some r ∧ r ≤ 1048576 ∧ (0 ≤ r → r + w ≤ left)) : ∃ r,(f.bind fun r=>if decide (r < 0) = true then some (-1) else some r) = some r ∧ r ≤ 1048576 ∧ (0 ≤ r → r + w ≤ left):=by
 obtain ⟨r,e1,e2,e3⟩:=h
 by_cases hr : r < 0
 ·exact ⟨-1,by simp [e1,hr],by omega,by omega⟩
 ·exact ⟨r,by simp [e1,hr],e2,e3⟩
def Jn {α : Type} (Fm : α → Int → Option (α × Int)) (x : α) (n : Nat) : Prop :=
 ∀ k : Int,0 ≤ k → k + n ≤ 4611686018427387904 → ∃ x',Fm x k = some (x',k + n)
theorem Hr {α : Type} (Fm : List α → Int → Option (List α × Int)) (Lm : List α × Int × Int → Option (Fl (List α × Int × Int) (List α × Int))) (mk : α → Nat)
  (hFm : ∀ l k,Fm l k = (Zz Lm (l,k,0) : Option (List α × Int)).bind fun j1=>some (j1.1,j1.2)) (l : List α) (hl : l.length ≤ 9223372036854775807)
  (hm : ∀ (l' : List α) (i : Nat) (k : Int) (hi : i < l'.length),l'[i] ∈ l → i < 9223372036854775807 → 0 ≤ k → k + mk l'[i] ≤ 4611686018427387904 → ∃ x',Lm (l',k,(i : Int)) = some (.nx (l'.set i x',k + mk l'[i],wr ((i : Int) + 1))))
  (hme : ∀ (l' : List α) k,Lm (l',k,(l'.length : Int)) = some (.ex (l',k))) : Jn Fm l (l.map mk).sum:=by
 intro k h0 hk
 have aux : ∀ (n i : Nat) (l' : List α) (k : Int),i + n = l'.length → l'.length = l.length → l'.drop i = l.drop i → 0 ≤ k → k + (((l.drop i).map mk).sum : Nat) ≤ 4611686018427387904 →
   ∃ l'',Zz Lm (l',k,(i : Int)) = some (l'',k + (((l.drop i).map mk).sum : Nat)):=by
  intro n
  induction n with
  | zero =>
   intro i l' k hi hll hd h0 hk
   have hi : i = l'.length:=by omega
   subst hi
   have e : l.drop l'.length = []:=by rw [hll]; simp
   rw [e]
   exact ⟨l',by rw [Y3 (hme l' k)]; simp⟩
  | succ n ih =>
   intro i l' k hi hll hd h0 hk
   have hil : i < l'.length:=by omega
   have hil2 : i < l.length:=by omega
   have h1:=List.drop_eq_getElem_cons hil
   have e2 : l.drop i = l[i] :: l.drop (i + 1):=List.drop_eq_getElem_cons hil2
   rw [h1,e2] at hd
   have e1:=(List.cons.inj hd).1
   rw [e2,List.map_cons,List.sum_cons] at hk ⊢
   obtain ⟨x',h1⟩:=hm l' i k hil (by rw [e1]; exact List.getElem_mem hil2) (by omega) h0 (by rw [e1]; omega)
   rw [e1,Y4 (by omega)] at h1
   obtain ⟨l'',k1⟩:=ih (i + 1) (l'.set i x') (k + mk l[i]) (by simp; omega) (by simpa using hll) (by
    rw [List.drop_set_of_lt (by omega)]
    exact (List.cons.inj hd).2) (by omega) (by omega)
   exact ⟨l'',by rw [XE h1,k1]; congr 2; omega⟩
 obtain ⟨l'',k1⟩:=aux l.length 0 l k (by omega) rfl rfl h0 (by simpa using hk)
 simp only [List.drop_zero] at k1
 refine ⟨l'',?_⟩
 rw [hFm]
 have : Zz Lm (l,k,0) = _:=k1
 rw [this]; rfl
theorem zH (l : List UInt8) (h : Wt.ln l) : Jn XC l (l.map fun _=>1).sum :=
 Hr XC YP (fun _=>1) (fun _ _=>rfl) l (UD h) (fun l' i k hi _ _ h0 hk=>by
  have e:=wr_k (k:=k) h0 (by omega)
  refine ⟨ZG k,?_⟩
  unfold YP
  simp only [Int.ofNat_lt,hi,decide_true,if_true,Ye,List.getElem?_eq_getElem hi,Option.bind_some,Int.toNat_natCast,e]; rfl) (fun l' k=>by unfold YP; simp)
theorem qg (l : List UInt8) : (l.map fun _=>1).sum = l.length:=by
 induction l with
 | nil=>rfl
 | cons x l ih=>rw [List.map_cons,List.sum_cons,ih,List.length_cons]; omega
theorem jq (n a b : Int) : Uf n a b = some (decide (a ≤ n ∧ n ≤ b)):=by
 unfold Uf
 by_cases h1 : a ≤ n <;> by_cases h2 : n ≤ b <;> simp [h1,h2]
theorem qr {α : Type} [Dat α] [Wt α] {f : α → Int → Option Int} {x : α} {left : Int} {G : Int → Option Bool} (hf : Tm f x) (h1 : 0 ≤ left) (h2 : left ≤ 1048576) (hG : ∀ r,0 ≤ r → r ≤ 1048576 → r + (Wt.wt x : Nat) ≤ left → G r = some true) :
  ((f x left).bind fun r=>if decide (r < 0) = true then some true else G r) = some true:=by
 obtain ⟨r,e1,e2,e3⟩:=hf left h1 h2
 rw [e1]
 by_cases hr : r < 0
 ·simp [hr]
 ·have:=hG r (by omega) e2 (e3 (by omega))
  simp [hr,this]
theorem Jz (a : Nat) (h : a < 9223372036854775808) : (BitVec.ofInt 64 (a : Int)).toNat = a:=by
 rw [BitVec.toNat_ofInt]
 omega
theorem Q0 (a b : Nat) (ha : a < 9223372036854775808) (hb : b < 9223372036854775808) : JF (a : Int) (b : Int) = ((a ^^^ b : Nat) : Int):=by
 unfold JF
 rw [BitVec.toNat_xor,Jz a ha,Jz b hb]
 have : a ^^^ b < 2 ^ 63:=Nat.xor_lt_two_pow ha hb
 exact YD (by omega)
theorem jN (a b : Nat) (ha : a < 9223372036854775808) (hb : b < 9223372036854775808) : Hf (a : Int) (b : Int) = ((a &&& b : Nat) : Int):=by
 unfold Hf
 rw [BitVec.toNat_and,Jz a ha,Jz b hb]
 have : a &&& b < 2 ^ 63:=Nat.and_lt_two_pow _ hb
 exact YD (by omega)
theorem zm (a i : Nat) (hi : i ≤ 63) (h : a <<< i < 9223372036854775808) : Bu (a : Int) (i : Int) = ((a <<< i : Nat) : Int):=by
 unfold Bu
 rw [show min ((i : Int)).toNat 64 = i by omega]
 have : ((a : Int) * 2 ^ i) = ((a <<< i : Nat) : Int):=by rw [Nat.shiftLeft_eq]; simp
 rw [this]
 generalize a <<< i = x at h ⊢
 exact YD (by omega)
theorem zc (a i : Nat) (hi : i ≤ 63) : TC (a : Int) (i : Int) = ((a >>> i : Nat) : Int):=by
 unfold TC
 rw [show min ((i : Int)).toNat 64 = i by omega,Nat.shiftRight_eq_div_pow,Int.fdiv_eq_ediv_of_nonneg _ (by exact_mod_cast Nat.zero_le _)]
 simp
theorem Ab (a i : Nat) : ((a >>> i) &&& 1 = 1) ↔ a.testBit i = true:=by
 rw [Nat.testBit,Nat.and_comm]
 have h:=Nat.and_one_is_mod (a >>> i)
 rw [Nat.and_comm] at h
 rw [h]
 rcases Nat.mod_two_eq_zero_or_one (a >>> i) with h | h <;> simp [h]
theorem kF (a : Nat) : Int.tmod (a : Int) 2 = ((a % 2 : Nat) : Int):=by
 rw [Int.tmod_eq_emod_of_nonneg (by omega)]; simp
theorem jQ (a : Nat) : Int.tdiv (a : Int) 2 = ((a / 2 : Nat) : Int):=by
 rw [Int.tdiv_eq_ediv_of_nonneg (by omega)]; simp
theorem AT (a : Nat) (h : a < 9223372036854775808) : wr (a : Int) = (a : Int):=YD (by omega)
theorem yf (a : Nat) (h : a < 9223372036854775808) : IntKind.u64.wrap (a : Int) = (a : Int):=by
 simp only [IntKind.wrap,IntKind.bits,IntKind.signed]
 simp
 omega

def YG (m deg : Nat) : Nat → Nat → Nat
 | 0,a=>a
 | k + 1,a=>YG m deg k (if a.testBit (deg + k) then a ^^^ (m <<< k) else a)
theorem QP {m k n : Nat} (h : m < 2 ^ n) : m <<< k < 2 ^ (n + k):=by
 rw [Nat.shiftLeft_eq,Nat.pow_add]
 exact Nat.mul_lt_mul_of_pos_right h (Nat.two_pow_pos _)
theorem BY {a n : Nat} (h : a < 2 ^ (n + 1)) (hb : a.testBit n = false) : a < 2 ^ n:=by
 apply Nat.lt_pow_two_of_testBit
 intro i hi
 rcases Nat.eq_or_lt_of_le hi with rfl | hi
 ·exact hb
 ·exact Nat.testBit_lt_two_pow (Nat.lt_of_lt_of_le h (Nat.pow_le_pow_right (by omega) hi))
theorem yX {m d : Nat} (h1 : 2 ^ d ≤ m) (h2 : m < 2 ^ (d + 1)) : m.testBit d = true:=by
 rw [Nat.testBit,Nat.shiftRight_eq_div_pow]
 have : m / 2 ^ d = 1:=by
  apply Nat.div_eq_of_lt_le
  ·simpa using h1
  ·rw [Nat.pow_succ] at h2; omega
 rw [this]; rfl
theorem qf {m d k a : Nat} (h1 : 2 ^ d ≤ m) (h2 : m < 2 ^ (d + 1)) (ha : a < 2 ^ (d + (k + 1))) (hb : a.testBit (d + k) = true) : a ^^^ (m <<< k) < 2 ^ (d + k):=by
 have hm : m <<< k < 2 ^ (d + (k + 1)):=by have:=QP (k:=k) h2; rwa [show d + 1 + k = d + (k + 1) by omega] at this
 refine BY (Nat.xor_lt_two_pow (by rwa [show d + k + 1 = d + (k + 1) by omega]) (by rwa [show d + k + 1 = d + (k + 1) by omega])) ?_
 rw [Nat.testBit_xor,hb,Nat.testBit_shiftLeft]
 simp [yX h1 h2]
theorem KU {m d : Nat} (h1 : 2 ^ d ≤ m) (h2 : m < 2 ^ (d + 1)) : ∀ (k a : Nat),a < 2 ^ (d + k) → YG m d k a < 2 ^ d
 | 0,a,h=>by simpa [YG] using h
 | k + 1,a,h=>by
  unfold YG
  cases hb : a.testBit (d + k) with
  | true=>simp only [if_true]; exact KU h1 h2 k _ (qf h1 h2 h hb)
  | false=>simp only [Bool.false_eq_true,if_false]; exact KU h1 h2 k a (BY h hb)
theorem TP (m d : Nat) : ∀ (k a b : Nat),YG m d k (a ^^^ b) = YG m d k a ^^^ YG m d k b
 | 0,_,_=>rfl
 | k + 1,a,b=>by
  simp only [YG]
  rw [Nat.testBit_xor]
  cases a.testBit (d + k) <;> cases b.testBit (d + k) <;> simp only [Bool.xor_false,Bool.false_xor,Bool.xor_self,Bool.xor_true,Bool.not_false,Bool.not_true,Bool.false_eq_true,if_true,if_false]
  ·exact TP m d k a b
  ·rw [Nat.xor_assoc]; exact TP m d k a _
  ·rw [← TP m d k]; congr 1; rw [Nat.xor_assoc,Nat.xor_comm b,← Nat.xor_assoc]
  ·rw [← TP m d k]; congr 1
   rw [Nat.xor_assoc,← Nat.xor_assoc (m <<< k),Nat.xor_comm (m <<< k) b,Nat.xor_assoc,Nat.xor_self,Nat.xor_zero]
theorem Uw {m d : Nat} : ∀ (k a : Nat),a < 2 ^ d → YG m d k a = a
 | 0,_,_=>rfl
 | k + 1,a,h=>by
  unfold YG
  rw [Nat.testBit_lt_two_pow (Nat.lt_of_lt_of_le h (Nat.pow_le_pow_right (by omega) (by omega)))]
  simp only [Bool.false_eq_true,if_false]
  exact Uw k a h
theorem BW {m d k a : Nat} (h : a < 2 ^ (d + k)) : YG m d (k + 1) a = YG m d k a:=by
 conv=>lhs; unfold YG
 rw [Nat.testBit_lt_two_pow h]; rfl
theorem T3 (m d : Nat) : ∀ (k x : Nat),YG m d (k + 1) (x <<< 1) = (if ((YG m d k x) <<< 1).testBit d then ((YG m d k x) <<< 1) ^^^ m else (YG m d k x) <<< 1)
 | 0,x=>by simp [YG]
 | k + 1,x=>by
  conv=>lhs; unfold YG
  conv=>rhs; unfold YG
  have e : (x <<< 1).testBit (d + (k + 1)) = x.testBit (d + k):=by
   rw [Nat.testBit_shiftLeft]
   have : d + (k + 1) ≥ 1:=by omega
   simp only [this,decide_true,Bool.true_and]
   congr 1
  rw [e]
  cases x.testBit (d + k) with
  | false=>simp only [Bool.false_eq_true,if_false]; exact T3 m d k x
  | true =>
   simp only [if_true]
   have e2 : x <<< 1 ^^^ m <<< (k + 1) = (x ^^^ m <<< k) <<< 1:=by
    rw [Nat.shiftLeft_xor_distrib,← Nat.shiftLeft_add]
   rw [e2]
   exact T3 m d k _

def lenN (n : Nat) : Nat:=if n = 0 then 0 else n.log2 + 1
theorem v_rest (a m d : Nat) (hd : d ≤ 15) (ha : a < 2 ^ 16) (hm : m < 2 ^ 20) : UY (a : Int) (m : Int) (d : Int) = some ((YG m d (16 - d) a : Nat) : Int):=by
 have key : ∀ (k a : Nat),d + k ≤ 16 → a < 2 ^ 40 → Zz (UA (m : Int) (d : Int)) ((a : Int),((d + k : Nat) : Int) - 1) = some ((YG m d k a : Nat) : Int):=by
  intro k
  induction k with
  | zero =>
   intro a _ _
   rw [Y3 (t:=(a : Int))]
   ·rfl
   ·unfold UA
    have : ¬ (((d + 0 : Nat) : Int) - 1 ≥ (d : Int)):=by omega
    simp only [this,decide_false,Bool.false_eq_true,if_false]
  | succ k ih =>
   intro a hk ha
   have e0 : ((d + (k + 1) : Nat) : Int) - 1 = ((d + k : Nat) : Int):=by omega
   have hsh : m <<< k < 2 ^ (20 + k):=QP hm
   have hsh2 : m <<< k < 2 ^ 40:=Nat.lt_of_lt_of_le hsh (Nat.pow_le_pow_right (by omega) (by omega))
   have hst : UA (m : Int) (d : Int) ((a : Int),((d + (k + 1) : Nat) : Int) - 1) = some (.nx (((if a.testBit (d + k) then a ^^^ (m <<< k) else a : Nat) : Int),((d + k : Nat) : Int) - 1)):=by
    rw [e0]
    unfold UA
    have c1 : ((d + k : Nat) : Int) ≥ (d : Int):=by omega
    have c2 : Xd ((d + k : Nat) : Int) = some ():=by unfold Xd; rw [if_pos (by omega)]
    have c3 : wr (((d + k : Nat) : Int) - (d : Int)) = ((k : Nat) : Int):=by rw [show ((d + k : Nat) : Int) - (d : Int) = ((k : Nat) : Int) by omega,AT _ (by omega)]
    have c4 : Xd ((k : Nat) : Int) = some ():=by unfold Xd; rw [if_pos (by omega)]
    have c5 : wr (((d + k : Nat) : Int) - 1) = ((d + k : Nat) : Int) - 1:=YD (by omega)
    simp only [c1,decide_true,if_true,c2,c3,c4,c5,Option.bind_some]
    have c6 : Hf (TC (a : Int) ((d + k : Nat) : Int)) 1 = (((a >>> (d + k)) &&& 1 : Nat) : Int):=by
     rw [zc a (d + k) (by omega)]
     exact jN _ 1 (Nat.lt_of_le_of_lt (Nat.shiftRight_le _ _) (by omega)) (by omega)
    rw [c6,zm m k (by omega) (by omega),Q0 a _ (by omega) (by omega)]
    cases hb : a.testBit (d + k) with
    | true =>
     have:=(Ab a (d + k)).2 hb
     rw [this]; rfl
    | false =>
     have : ¬ ((a >>> (d + k)) &&& 1 = 1):=fun h=>by rw [(Ab a (d + k)).1 h] at hb; cases hb
     have h2 : (((((a >>> (d + k)) &&& 1 : Nat) : Int)) == 1) = false:=by
      rw [beq_eq_false_iff_ne]; omega
     rw [h2]; rfl
   rw [XE hst,ih _ (by omega) ?_]
   ·conv=>rhs; unfold YG
   ·split
    ·exact Nat.xor_lt_two_pow ha hsh2
    ·exact ha
 unfold UY
 have:=key (16 - d) a (by omega) (by omega)
 rw [show ((d + (16 - d) : Nat) : Int) - 1 = 15 by omega] at this
 rw [this]; rfl

def KY : Nat → Nat → Nat → Nat
 | 0,_,_=>0
 | n + 1,a,b=>(if b % 2 = 1 then a else 0) ^^^ KY n (a <<< 1) (b / 2)
theorem Je : ∀ (n a : Nat),KY n a 0 = 0
 | 0,_=>rfl
 | n + 1,a=>by simp [KY,Je n]
theorem yO : ∀ (n a b p : Nat),a < 2 ^ p → KY n a b < 2 ^ (p + n)
 | 0,_,_,_,_=>by simp [KY]; exact Nat.two_pow_pos _
 | n + 1,a,b,p,h=>by
  unfold KY
  have h1 : a <<< 1 < 2 ^ (p + 1):=QP h
  have h2:=yO n (a <<< 1) (b / 2) (p + 1) h1
  rw [show p + 1 + n = p + (n + 1) by omega] at h2
  refine Nat.xor_lt_two_pow ?_ h2
  have h3 : 2 ^ p ≤ 2 ^ (p + (n + 1)):=Nat.pow_le_pow_right (by omega) (by omega)
  have h4:=Nat.two_pow_pos (p + (n + 1))
  split <;> omega
def prC : Nat → Nat → Nat → Nat
 | 0,_,_=>0
 | i + 1,a,b=>prC i a b ^^^ (if b.testBit i then a <<< i else 0)
theorem zx : ∀ (n a b : Nat),prC (n + 1) a b = (if b % 2 = 1 then a else 0) ^^^ prC n (a <<< 1) (b / 2)
 | 0,a,b=>by
  simp only [prC,Nat.zero_xor,Nat.xor_zero,Nat.shiftLeft_zero]
  have : b.testBit 0 = decide (b % 2 = 1):=by simp [Nat.testBit_zero]
  rw [this]; simp
 | n + 1,a,b=>by
  conv=>lhs; unfold prC
  rw [zx n a b]
  conv=>rhs; unfold prC
  rw [← Nat.xor_assoc]
  congr 1
  rw [Nat.testBit_succ,← Nat.shiftLeft_add,Nat.add_comm 1 n]
theorem kd : ∀ (n a b : Nat),prC n a b = KY n a b
 | 0,_,_=>rfl
 | n + 1,a,b=>by rw [zx,kd n]; rfl
theorem yg (a b : Nat) (h : a < 256) : ∀ i,i ≤ 8 → prC i a b < 2 ^ 16
 | 0,_=>by simp [prC]
 | i + 1,hi=>by
  unfold prC
  have h1 : a <<< i < 2 ^ (8 + i):=QP h
  have h2 : 2 ^ (8 + i) ≤ 2 ^ 16:=Nat.pow_le_pow_right (by omega) (by omega)
  refine Nat.xor_lt_two_pow (yg a b h i (by omega)) ?_
  split
  ·omega
  ·omega
def ZY (m : Nat) (a b : UInt8) : UInt8:=ZG ((YG m 8 8 (KY 8 a.toNat b.toNat) : Nat) : Int)
theorem UL (m : Nat) (hm : m < 512) (a b : UInt8) : Z1 (m : Int) a b = some (ZY m a b):=by
 have ha : a.toNat < 256:=a.toNat_lt
 have hb : b.toNat < 256:=b.toNat_lt
 have h:=ZW (f:=Xl a b) (fun i : Nat=>(((prC i a.toNat b.toNat : Nat) : Int),(i : Int))) 0 8 (Nat.zero_le _) (t:=((prC 8 a.toNat b.toNat : Nat) : Int)) (fun i _ hi=>by
  unfold Xl
  have c1 : ((i : Int) < 8):=by omega
  have c2 : Xd (i : Int) = some ():=by unfold Xd; rw [if_pos (by omega)]
  have c3 : prC i a.toNat b.toNat < 2 ^ 16:=yg _ _ ha i (by omega)
  have c4 : a.toNat <<< i < 2 ^ (8 + i):=QP ha
  have c5 : 2 ^ (8 + i) ≤ 2 ^ 16:=Nat.pow_le_pow_right (by omega) (by omega)
  have c6 : (((HJ b (i : Int)) &&& 1) == 1) = b.toNat.testBit i:=by
   have e1 : (HJ b (i : Int)).toNat = b.toNat >>> i:=by
    unfold HJ ZG
    rw [show min ((i : Int)).toNat 8 = i by omega,Int.fdiv_eq_ediv_of_nonneg _ (by exact_mod_cast Nat.zero_le _)]
    have : ((b.toNat : Int) / 2 ^ i) = ((b.toNat >>> i : Nat) : Int):=by rw [Nat.shiftRight_eq_div_pow]; simp
    rw [this]
    have h3 : b.toNat >>> i ≤ b.toNat:=Nat.shiftRight_le _ _
    generalize b.toNat >>> i = q at h3 ⊢
    have h4 : (((q : Nat) : Int) % 256).toNat = q:=by omega
    rw [h4]
    simp
    omega
   rw [Bool.eq_iff_iff,beq_iff_eq,← Ab,← UInt8.toNat_inj,UInt8.toNat_and,e1]
   simp
  simp only [c1,decide_true,if_true,c2,Option.bind_some,c6,Y4 (show i < 9223372036854775807 by omega)]
  rw [zm _ i (by omega) (by omega),Q0 _ _ (by omega) (by omega)]
  cases hbit : b.toNat.testBit i with
  | true=>simp [prC,hbit]
  | false=>simp [prC,hbit]) (by unfold Xl; simp)
 have h2 : Zz (Xl a b) (0,0) = _:=h
 unfold Z1
 rw [h2]
 simp only [Option.bind_some]
 have h3:=v_rest (prC 8 a.toNat b.toNat) m 8 (by omega) (yg _ _ ha 8 (by omega)) (by omega)
 have h4 : UY ((prC 8 a.toNat b.toNat : Nat) : Int) (m : Int) 8 = _:=h3
 rw [h4,kd]
 rfl
theorem Ku (m : Nat) (hm : m < 512) (hm2 : 256 ≤ m) (a b : UInt8) : YI (m : Int) a b = some (ZY m a b):=by
 have ha : a.toNat < 256:=a.toNat_lt
 have hb : b.toNat < 256:=b.toNat_lt
 have h1 : 2 ^ 8 ≤ m:=hm2
 have h2 : m < 2 ^ (8 + 1):=hm
 have hR : ∀ i,i ≤ 8 → YG m 8 8 (a.toNat <<< i) < 256:=fun i hi=>KU h1 h2 8 _ (by
  have:=QP (k:=i) (show a.toNat < 2 ^ 8 from ha)
  exact Nat.lt_of_lt_of_le this (Nat.pow_le_pow_right (by omega) (by omega)))
 have hdbl : ∀ i,i ≤ 7 → YG m 8 8 (a.toNat <<< (i + 1)) = if 256 ≤ (YG m 8 8 (a.toNat <<< i)) * 2 then (YG m 8 8 (a.toNat <<< i)) * 2 ^^^ m else (YG m 8 8 (a.toNat <<< i)) * 2:=by
  intro i hi
  have hx : a.toNat <<< i < 2 ^ (8 + 7):=Nat.lt_of_lt_of_le (QP (show a.toNat < 2 ^ 8 from ha)) (Nat.pow_le_pow_right (by omega) (by omega))
  have e : a.toNat <<< (i + 1) = (a.toNat <<< i) <<< 1:=by rw [← Nat.shiftLeft_add]
  rw [e,T3 m 8 7,← BW hx]
  have hlt:=hR i (by omega)
  generalize YG m 8 8 (a.toNat <<< i) = y at hlt ⊢
  have e2 : y <<< 1 = y * 2:=by rw [Nat.shiftLeft_eq]
  rw [e2]
  have e3 : (y * 2).testBit 8 = decide (256 ≤ y * 2):=by
   by_cases hy : 256 ≤ y * 2
   ·rw [yX (d:=8) hy (by omega)]; simp [hy]
   ·rw [Nat.testBit_lt_two_pow (by omega : y * 2 < 2 ^ 8)]; simp [hy]
  rw [e3]
  by_cases hy : 256 ≤ y * 2 <;> simp [hy]
 have key : ∀ (n i o r : Nat),i + n ≤ 8 → r < 2 ^ n → o < 256 → Zz (YZ (m : Int)) ((o : Int),((YG m 8 8 (a.toNat <<< i) : Nat) : Int),(r : Int)) = some ((o ^^^ YG m 8 8 (KY n (a.toNat <<< i) r) : Nat) : Int):=by
  intro n
  induction n with
  | zero =>
   intro i o r _ hr ho
   have : r = 0:=by simpa using hr
   subst this
   rw [Y3 (t:=(o : Int))]
   ·rw [Je,Uw 8 0 (by omega),Nat.xor_zero]
   ·unfold YZ; simp
  | succ n ih =>
   intro i o r hi hr ho
   by_cases h0 : r = 0
   ·subst h0
    rw [Y3 (t:=(o : Int))]
    ·rw [Je,Uw 8 0 (by omega),Nat.xor_zero]
    ·unfold YZ; simp
   ·have hy:=hR i (by omega)
    have hst : YZ (m : Int) ((o : Int),((YG m 8 8 (a.toNat <<< i) : Nat) : Int),(r : Int)) = some (.nx (((o ^^^ YG m 8 8 (if r % 2 = 1 then a.toNat <<< i else 0) : Nat) : Int),((YG m 8 8 (a.toNat <<< (i + 1)) : Nat) : Int),((r / 2 : Nat) : Int))):=by
     rw [hdbl i (by omega)]
     unfold YZ
     have c1 : (r : Int) > 0:=by omega
     have hr2 : r < 512:=Nat.lt_of_lt_of_le hr (Nat.le_trans (Nat.pow_le_pow_right (by omega) (by omega : n + 1 ≤ 9)) (by omega))
     simp only [c1,decide_true,if_true,kF,jQ]
     have e1 : wr (((YG m 8 8 (a.toNat <<< i) : Nat) : Int) * 2) = (((YG m 8 8 (a.toNat <<< i)) * 2 : Nat) : Int):=by rw [YD (by omega)]; omega
     have e2 : wr ((r / 2 : Nat) : Int) = ((r / 2 : Nat) : Int):=AT _ (by omega)
     rw [e1,e2,Q0 _ _ (by omega) (by omega),Q0 _ _ (by omega) (by omega)]
     have e3 : ((((r % 2 : Nat) : Int)) == 1) = decide (r % 2 = 1):=by
      rw [Bool.eq_iff_iff,beq_iff_eq,decide_eq_true_eq]; omega
     rw [e3]
     have e4 : decide ((((YG m 8 8 (a.toNat <<< i)) * 2 : Nat) : Int) ≥ 256) = decide (256 ≤ (YG m 8 8 (a.toNat <<< i)) * 2):=by rw [decide_eq_decide]; omega
     rw [e4]
     have e5 : YG m 8 8 0 = 0:=Uw 8 0 (by omega)
     by_cases c2 : r % 2 = 1 <;> by_cases c3 : 256 ≤ (YG m 8 8 (a.toNat <<< i)) * 2 <;> simp only [c2,c3,decide_true,decide_false,Bool.false_eq_true,if_true,if_false,Option.bind_some,e5,Nat.xor_zero]
    rw [XE hst,ih (i + 1) _ (r / 2) (by omega) (by rw [Nat.pow_succ] at hr; omega) ?_]
    ·conv=>rhs; unfold KY
     rw [TP,Nat.xor_assoc,Nat.shiftLeft_add]
    ·refine Nat.xor_lt_two_pow (n:=8) ho ?_
     split
     ·exact hR i (by omega)
     ·rw [Uw 8 0 (by omega)]; omega
 have:=key 8 0 0 b.toNat (by omega) hb (by omega)
 rw [Nat.shiftLeft_zero,Uw 8 a.toNat ha,Nat.zero_xor] at this
 have h3 : Zz (YZ (m : Int)) (0,bI a,bI b) = _:=this
 unfold YI
 rw [h3]
 rfl

def Hk (m : Nat) : Nat → UInt8 → Nat → UInt8 → UInt8
 | 0,_,_,o=>o
 | f + 1,a,k,o=>if k = 0 then o else Hk m f (ZY m a a) (k / 2) (if k % 2 = 1 then ZY m o a else o)
theorem zY (m : Nat) (L : UInt8 × Int × UInt8 → Option (Fl (UInt8 × Int × UInt8) UInt8)) (T : UInt8 → UInt8 → Option UInt8) (hT : ∀ a b,T a b = some (ZY m a b))
  (hL : ∀ s,L s = if (decide (s.2.1 > 0)) = true then (((if ((Int.tmod s.2.1 2) == 1) = true then ((T s.2.2 s.1).bind fun r=>some r) else (some s.2.2) : Option UInt8).bind fun j12=>(T s.1 s.1).bind fun r20=>some (r20,j12) : Option (UInt8 × UInt8)).bind fun j9=>some (Fl.nx (j9.1,wr (Int.tdiv s.2.1 2),j9.2))) else (some (Fl.ex s.2.2))) :
  ∀ (f k : Nat) (a o : UInt8),k < 2 ^ f → f ≤ 62 → Zz L (a,(k : Int),o) = some (Hk m f a k o):=by
 intro f
 induction f with
 | zero =>
  intro k a o hk _
  have : k = 0:=by simpa using hk
  subst this
  exact Y3 (by rw [hL]; simp [Hk])
 | succ f ih =>
  intro k a o hk hf
  by_cases h0 : k = 0
  ·subst h0
   exact Y3 (by rw [hL]; simp [Hk])
  ·have hlt : k < 9223372036854775808:=Nat.lt_of_lt_of_le hk (Nat.pow_le_pow_right (by omega : 0 < 2) (by omega : f + 1 ≤ 63))
   have hst : L (a,(k : Int),o) = some (.nx (ZY m a a,((k / 2 : Nat) : Int),if k % 2 = 1 then ZY m o a else o)):=by
    rw [hL]
    have c1 : (k : Int) > 0:=by omega
    have e3 : ((((k % 2 : Nat) : Int)) == 1) = decide (k % 2 = 1):=by
     rw [Bool.eq_iff_iff,beq_iff_eq,decide_eq_true_eq]; omega
    simp only [c1,decide_true,if_true,kF,jQ,hT,e3,Option.bind_some,AT (k / 2) (by omega)]
    by_cases c2 : k % 2 = 1 <;> simp [c2]
   rw [XE hst,ih (k / 2) _ _ (by rw [Nat.pow_succ] at hk; omega) (by omega)]
   conv=>rhs; unfold Hk
   rw [if_neg h0]
theorem Bz (m : Nat) (hm : m < 512) (a : UInt8) (k f : Nat) (hk : k < 2 ^ f) (hf : f ≤ 62) : XB (m : Int) a (k : Int) = some (Hk m f a k 1):=by
 unfold XB
 rw [zY m (W7 (m : Int)) _ (UL m hm) (fun s=>by unfold W7; rfl) f k a 1 hk hf]; rfl
theorem yF (m : Nat) (hm : m < 512) (hm2 : 256 ≤ m) (a : UInt8) (k f : Nat) (hk : k < 2 ^ f) (hf : f ≤ 62) : WT (m : Int) a (k : Int) = some (Hk m f a k 1):=by
 unfold WT
 rw [zY m (Uq (m : Int)) _ (Ku m hm hm2) (fun s=>by unfold Uq; rfl) f k a 1 hk hf]; rfl
def TT (m : Nat) (a : UInt8) : UInt8:=Hk m 8 a 254 1
theorem Qz (m : Nat) (hm : m < 512) (a : UInt8) : Yf (m : Int) a = some (TT m a):=by
 unfold Yf
 have:=Bz m hm a 254 8 (by omega) (by omega)
 have h2 : XB (m : Int) a 254 = _:=this
 rw [h2]; rfl
theorem jY (m : Nat) (hm : m < 512) (hm2 : 256 ≤ m) (a : UInt8) : W2 (m : Int) a = some (TT m a):=by
 unfold W2
 have:=yF m hm hm2 a 254 8 (by omega) (by omega)
 have h2 : WT (m : Int) a 254 = _:=this
 rw [h2]; rfl

def redB (m d : Nat) : Bool:=YG d (lenN d - 1) (16 - (lenN d - 1)) m == 0
def KM (m : Int) : Bool:=decide (256 ≤ m ∧ m ≤ 511) && !((List.range' 2 30).any (redB m.toNat))
theorem zy {m : Int} (h : KM m = true) : ∃ n : Nat,m = n ∧ 256 ≤ n ∧ n < 512:=by
 unfold KM at h
 simp only [Bool.and_eq_true,decide_eq_true_eq] at h
 exact ⟨m.toNat,by omega,by omega,by omega⟩
def kQ (l : List UInt8) : Bool:=decide l.Nodup
def dbl (m y : Nat) : Nat:=if (y <<< 1).testBit 8 then (y <<< 1) ^^^ m else y <<< 1
theorem zn (a b c d : Nat) : (a ^^^ b) ^^^ (c ^^^ d) = (a ^^^ c) ^^^ (b ^^^ d):=by
 rw [Nat.xor_assoc,Nat.xor_assoc,← Nat.xor_assoc b,← Nat.xor_assoc c,Nat.xor_comm b c]
theorem yK (m x y : Nat) : dbl m (x ^^^ y) = dbl m x ^^^ dbl m y:=by
 unfold dbl
 rw [Nat.shiftLeft_xor_distrib,Nat.testBit_xor]
 cases (x <<< 1).testBit 8 <;> cases (y <<< 1).testBit 8 <;> simp only [Bool.xor_false,Bool.false_xor,Bool.xor_self,Bool.xor_true,Bool.not_false,Bool.not_true,Bool.false_eq_true,if_true,if_false]
 ·rw [Nat.xor_assoc]
 ·rw [Nat.xor_assoc,Nat.xor_assoc,Nat.xor_comm m]
 ·rw [zn,Nat.xor_self,Nat.xor_zero]
theorem Bh (m : Nat) : dbl m 0 = 0:=by simp [dbl]
def opP (m : Nat) : Nat → Nat → Nat → Nat
 | 0,_,_=>0
 | n + 1,b,x=>(if b % 2 = 1 then x else 0) ^^^ opP m n (b / 2) (dbl m x)
theorem A0 (m n b x : Nat) : opP m (n + 1) b x = (if b % 2 = 1 then x else 0) ^^^ opP m n (b / 2) (dbl m x):=rfl
theorem AR (m : Nat) : ∀ (n b x y : Nat),opP m n b (x ^^^ y) = opP m n b x ^^^ opP m n b y
 | 0,_,_,_=>by simp [opP]
 | n + 1,b,x,y=>by
  unfold opP
  rw [yK,AR m n,zn]
  congr 1
  split <;> simp
theorem K7 (m : Nat) : ∀ (n b : Nat),opP m n b 0 = 0
 | 0,_=>rfl
 | n + 1,b=>by unfold opP; rw [Bh,K7 m n]; simp
theorem yZ (m : Nat) : ∀ (n b x : Nat),opP m n b (dbl m x) = dbl m (opP m n b x)
 | 0,_,_=>(Bh m).symm
 | n + 1,b,x=>by
  unfold opP
  rw [yZ m n,yK]
  congr 1
  split
  ·rfl
  ·exact (Bh m).symm
theorem AY (m : Nat) : ∀ (n b k c x : Nat),opP m n b (opP m k c x) = opP m k c (opP m n b x)
 | 0,_,k,c,_=>(K7 m k c).symm
 | n + 1,b,k,c,x=>by
  rw [A0,A0,← yZ,AY m n,AR]
  congr 1
  split
  ·rfl
  ·exact (K7 m k c).symm
theorem jx (a : Nat) : (if a % 2 = 1 then 1 else 0) ^^^ (a / 2) <<< 1 = a:=by
 rw [Nat.shiftLeft_eq]
 have h : (if a % 2 = 1 then 1 else 0) = a % 2:=by split <;> omega
 rw [h]
 apply Nat.eq_of_testBit_eq
 intro i
 rw [Nat.testBit_xor]
 cases i with
 | zero =>
  simp [Nat.testBit_zero]
 | succ i =>
  rw [Nat.testBit_succ,Nat.testBit_succ,Nat.testBit_succ]
  have h1 : a % 2 / 2 = 0:=by omega
  have h2 : a / 2 * 2 ^ 1 / 2 = a / 2:=by omega
  rw [h1,h2]; simp
theorem qa (m i : Nat) (hi : i < 7) : dbl m (1 <<< i) = 1 <<< (i + 1):=by
 unfold dbl
 rw [← Nat.shiftLeft_add]
 have : (1 <<< (i + 1)).testBit 8 = false:=by
  apply Nat.testBit_lt_two_pow
  rw [Nat.shiftLeft_eq,Nat.one_mul]
  exact Nat.pow_lt_pow_right (by omega) (by omega)
 rw [this]; rfl
theorem Ae (m : Nat) : ∀ (n i a : Nat), n + i ≤ 8 → a < 2 ^ n → opP m n a (1 <<< i) = a <<< i
  | 0, i, a, _, ha => by
    have : a = 0 := by simpa using ha
    subst this; simp [opP]
  | n + 1, i, a, hn, ha => by
    have e : a <<< i = (if a % 2 = 1 then 1 <<< i else 0) ^^^ (a / 2) <<< (i + 1) := by
      conv => lhs; rw [← jx a]
      rw [Nat.shiftLeft_xor_distrib, ← Nat.shiftLeft_add, Nat.add_comm 1 i]
      congr 1
      split <;> simp
    unfold opP
    rw [e]
    congr 1
    rcases Nat.eq_zero_or_pos n with rfl | hp
    · have : a / 2 = 0 := by have : a < 2 := by simpa using ha
                             omega
      rw [this]; simp [opP]
    · rw [qa m i (by omega)]
      exact Ae m n (i + 1) (a / 2) (by omega) (by rw [Nat.pow_succ] at ha; omega)

theorem jk (m x : Nat) (hx : x < 2 ^ 15) : YG m 8 8 (x <<< 1) = dbl m (YG m 8 8 x):=by
 rw [T3 m 8 7,← BW (d:=8) (k:=7) hx]; rfl
theorem km (m : Nat) : ∀ (n i a b : Nat),i + n ≤ 8 → a < 2 ^ 8 → YG m 8 8 (KY n (a <<< i) b) = opP m n b (YG m 8 8 (a <<< i))
 | 0,_,_,_,_,_=>by simp [KY,opP,Uw 8 0]
 | n + 1,i,a,b,hn,ha=>by
  unfold KY opP
  rw [TP]
  have hx : a <<< i < 2 ^ 15:=Nat.lt_of_lt_of_le (QP ha) (Nat.pow_le_pow_right (by omega) (by omega))
  rw [← jk m _ hx,← Nat.shiftLeft_add,km m n (i + 1) a (b / 2) (by omega) ha]
  congr 1
  split
  ·rfl
  ·exact Uw 8 0 (by omega)
theorem TO (m : Nat) (h1 : 256 ≤ m) (h2 : m < 512) (a b : UInt8) : (ZY m a b).toNat = opP m 8 b.toNat a.toNat:=by
 have ha : a.toNat < 2 ^ 8:=a.toNat_lt
 have hr : YG m 8 8 (KY 8 a.toNat b.toNat) < 256:=KU (d:=8) h1 h2 8 _ (yO 8 a.toNat b.toNat 8 ha)
 have e:=km m 8 0 a.toNat b.toNat (by omega) ha
 rw [Nat.shiftLeft_zero,Uw 8 _ ha] at e
 unfold ZY ZG
 rw [e] at hr ⊢
 generalize opP m 8 b.toNat a.toNat = q at hr ⊢
 have : (((q : Nat) : Int) % 256).toNat = q:=by omega
 rw [this]
 simp
 omega
section
variable {m : Nat} (h1 : 256 ≤ m) (h2 : m < 512)
include h1 h2
theorem Qt (a b : UInt8) : ZY m a b = ZY m b a:=by
 apply UInt8.toNat_inj.1
 rw [TO m h1 h2,TO m h1 h2]
 have ea:=Ae m 8 0 a.toNat (by omega) a.toNat_lt
 have eb:=Ae m 8 0 b.toNat (by omega) b.toNat_lt
 simp only [Nat.shiftLeft_zero] at ea eb
 rw [← ea,AY,eb,ea]
theorem jz (a b c : UInt8) : ZY m (a ^^^ b) c = ZY m a c ^^^ ZY m b c:=by
 apply UInt8.toNat_inj.1
 rw [UInt8.toNat_xor,TO m h1 h2,TO m h1 h2,TO m h1 h2,UInt8.toNat_xor,AR]
theorem yz (a b c : UInt8) : ZY m a (b ^^^ c) = ZY m a b ^^^ ZY m a c:=by
 rw [Qt h1 h2,jz h1 h2,Qt h1 h2 b,Qt h1 h2 c]
theorem Kt (a : UInt8) : ZY m 0 a = 0:=by
 apply UInt8.toNat_inj.1
 rw [TO m h1 h2]
 exact K7 m 8 _
end
def vf {α : Type} (n : Nat) (f : Nat → α) : Vector α n:=Vector.ofFn fun i=>f i.1
theorem Qs {α : Type} {n i : Nat} (f : Nat → α) (h : i < n) : (vf n f)[i] = f i:=by simp [vf]
theorem KT {α : Type} {n i : Nat} (f : Nat → α) (h : i < n) : (vf n f)[i]? = some (f i):=by rw [Vector.getElem?_eq_getElem h,Qs f h]
theorem ZQ {α : Type} {n i : Nat} (f : Nat → α) (h : i < n) : ZI (vf n f) (i : Int) = some (f i):=by rw [Wy,KT f h]
theorem YV {α : Type} {n : Nat} {f g : Nat → α} (h : ∀ i,i < n → f i = g i) : vf n f = vf n g:=by
 apply Td
 intro i hi
 rw [Qs f hi,Qs g hi,h i hi]
theorem Te {α : Type} {n : Nat} (f : Nat → α) (k : Nat) (x : α) : (vf n f).setIfInBounds k x = vf n (fun i=>if i = k then x else f i):=by
 apply Td
 intro i hi
 rw [Vector.getElem_setIfInBounds,Qs _ hi,Qs _ hi]
 by_cases h : k = i
 ·subst h; simp
 ·rw [if_neg h,if_neg (fun e=>h e.symm)]
theorem UU {α : Type} (n : Nat) (x : α) : Vector.replicate n x = vf n (fun _=>x):=by
 apply Td
 intro i hi
 rw [Qs _ hi]; simp
theorem yM {α : Type} [Inhabited α] {n : Nat} (v : Vector α n) : v = vf n (fun i=>v[i]?.getD default):=by
 apply Td
 intro i hi
 rw [Qs _ hi,Vector.getElem?_eq_getElem hi]; rfl
abbrev Mat:=Vector (Vector UInt8 4) 4
def mf (f : Nat → Nat → UInt8) : Mat:=vf 4 fun i=>vf 4 (f i)
theorem WG {f g : Nat → Nat → UInt8} (h : ∀ i,i < 4 → ∀ j,j < 4 → f i j = g i j) : mf f = mf g:=YV fun i hi=>YV fun j hj=>h i hi j hj
theorem Uz {i : Nat} (f : Nat → Nat → UInt8) (h : i < 4) : ZI (mf f) (i : Int) = some (vf 4 (f i)):=ZQ _ h
theorem Ko (f : Nat → Nat → UInt8) (k : Nat) (g : Nat → UInt8) : (mf f).setIfInBounds k (vf 4 g) = mf (fun i j=>if i = k then g j else f i j):=by
 unfold mf
 rw [Te]
 apply YV
 intro i hi
 by_cases h : i = k
 ·simp [h]
 ·simp [h]
theorem AO : Vector.replicate 4 (Vector.replicate 4 (0 : UInt8)) = mf (fun _ _=>0):=by rw [UU 4 (0 : UInt8),UU]; rfl
theorem lt4 {i : Nat} (h : i < 4) : decide ((i : Int) < 4) = true:=by simp; omega
theorem lt4' {i : Nat} (h : ¬ i < 4) : decide ((i : Int) < 4) = false:=by simp; omega
theorem wr4 {i : Nat} (h : i < 1000) : wr ((i : Int) + 1) = ((i + 1 : Nat) : Int):=Y4 (by omega)

def KD (i j : Nat) : UInt8:=if i = j then 1 else 0
theorem jr (L : Mat × Int → Option (Fl (Mat × Int) Mat))
  (hL : ∀ s8,L s8 = if (decide (s8.2 < 4)) = true then ((ZI s8.1 s8.2).bind fun (x14 : (Vector UInt8 4))=>(ZI x14 s8.2).bind fun (x17 : UInt8)=>some (Fl.nx ((s8.1.setIfInBounds (s8.2).toNat (x14.setIfInBounds (s8.2).toNat 1)),wr (s8.2 + 1)))) else (some (Fl.ex s8.1))) :
  Zz L (Vector.replicate 4 (Vector.replicate 4 (0 : UInt8)),0) = some (mf KD):=by
 have:=ZW (f:=L) (fun i : Nat=>(mf fun r c=>if r < i then KD r c else 0,(i : Int))) 0 4 (by omega) (t:=mf KD) (fun i _ hi=>by
  rw [hL]
  simp only [lt4 hi,if_true,Uz _ hi,ZQ _ hi,Option.bind_some,Int.toNat_natCast,Te,Ko,wr4 (show i < 1000 by omega)]
  congr 3
  apply WG
  intro r hr c hc
  by_cases h1 : r = i
  ·subst h1; simp [KD,eq_comm]
  ·simp only [h1,if_false]
   by_cases h2 : r < i
   ·rw [if_pos h2,if_pos (by omega)]
   ·rw [if_neg h2,if_neg (by omega)]) (by
  rw [hL]
  simp only [lt4' (show ¬ 4 < 4 by omega),Bool.false_eq_true,if_false]
  exact congrArg (fun z=>some (Fl.ex z)) (WG fun r hr c hc=>by rw [if_pos hr]))
 rw [AO]
 simpa using this
theorem K0 : WX = some (mf KD):=by
 unfold WX
 rw [jr UW fun s=>rfl]; rfl

abbrev MF:=Nat → Nat → UInt8
def Ke (f : MF) (k : Nat) : Nat:=((List.range' k (4 - k)).find? fun i=>!(f i k == 0)).getD 4
def ko (f : MF) (i k : Nat) : MF:=fun r c=>if r = k then f i c else if r = i then f k c else f r c
def Ap (m : Nat) (f : MF) (k : Nat) (by_ : UInt8) : MF:=fun r c=>if r = k then ZY m (f k c) by_ else f r c
def VW (m : Nat) (f g : MF) (k : Nat) : MF:=fun r c=>if r = k then g r c else g r c ^^^ ZY m (f r k) (g k c)
structure Red where
 a : MF
 b : MF
 det : UInt8
def KP (m : Nat) (s : Red) (k : Nat) : Option Red :=
 let i:=Ke s.a k
 if i = 4 then none else
  let f:=ko s.a i k
  let g:=ko s.b i k
  let q:=TT m (f k k)
  let f2:=Ap m f k q
  let g2:=Ap m g k q
  some ⟨VW m f2 f2 k,VW m f2 g2 k,ZY m s.det (f k k)⟩
def K3 (m : Nat) : Nat → Nat → Red → Option Red
 | 0,_,s=>some s
 | n + 1,k,s=>(KP m s k).bind (K3 m n (k + 1))
def Hv (m : Nat) (a : MF) : UInt8 × Mat:=match K3 m 4 0 ⟨a,KD,1⟩ with
 | some s=>(s.det,mf s.b)
 | none=>(0,mf fun _ _=>0)
theorem z5 (L : Int → Option (Fl Int Int)) (f : MF) (k : Nat) (hk : k < 4)
  (hL : ∀ s,L s = (if (decide (s < 4)) = true then ((ZI (mf f) s).bind fun (x30 : (Vector UInt8 4))=>(ZI x30 (k : Int)).bind fun (x33 : UInt8)=>some (x33 == 0)) else (some false) : Option (Bool)).bind fun (j25 : Bool)=>if j25 = true then (some (Fl.nx (wr (s + 1)))) else (some (Fl.ex s))) :
  Zz L (k : Int) = some ((Ke f k : Nat) : Int):=by
 have:=JL (f:=L) (fun i : Nat=>(i : Int)) (fun i=>!(f i k == 0)) (fun i=>(i : Int)) (e:=(4 : Int)) 4 (4 - k) k (by omega) (fun i _ hi=>by
  rw [hL]
  simp only [lt4 hi,if_true,Uz _ hi,ZQ _ hk,Option.bind_some]
  cases h : (f i k == 0)
  ·simp
  ·simp [wr4 (show i < 1000 by omega)]) (by rw [hL]; simp)
 rw [this]
 unfold Ke
 cases (List.range' k (4 - k)).find? fun i=>!(f i k == 0) <;> rfl
theorem jW {f : MF} {k : Nat} (h : Ke f k ≠ 4) : Ke f k < 4:=by
 unfold Ke at h ⊢
 cases hf : (List.range' k (4 - k)).find? fun i=>!(f i k == 0) with
 | none=>rw [hf] at h; exact absurd rfl h
 | some i =>
  have:=List.mem_range'_1.1 (List.mem_of_find?_eq_some hf)
  simp only [Option.getD_some]
  omega
theorem BZ (L : Mat × Mat × Int → Option (Fl (Mat × Mat × Int) (Mat × Mat))) (f g : MF) (k : Nat) (hk : k < 4) (p q : Nat → UInt8)
  (hL : ∀ c,c < 4 → ∀ a b : MF,(∀ r,r ≠ k → a r = f r) → (∀ r,r ≠ k → b r = g r) → a k c = f k c → b k c = g k c → L (mf a,mf b,(c : Int)) = some (Fl.nx ((mf a).setIfInBounds k ((vf 4 (a k)).setIfInBounds c (p c)),(mf b).setIfInBounds k ((vf 4 (b k)).setIfInBounds c (q c)),wr ((c : Int) + 1))))
  (he : ∀ a b : Mat,L (a,b,4) = some (Fl.ex (a,b))) :
  Zz L (mf f,mf g,0) = some (mf (fun r c=>if r = k then p c else f r c),mf (fun r c=>if r = k then q c else g r c)):=by
 have k1 : (mf fun r c=>if r = k then (if c < 4 then p c else f k c) else f r c) = mf fun r c=>if r = k then p c else f r c:=WG fun r _ c hc=>by rw [if_pos hc]
 have k2 : (mf fun r c=>if r = k then (if c < 4 then q c else g k c) else g r c) = mf fun r c=>if r = k then q c else g r c:=WG fun r _ c hc=>by rw [if_pos hc]
 have:=ZW (f:=L) (fun i : Nat=>(mf fun r c=>if r = k then (if c < i then p c else f k c) else f r c,mf fun r c=>if r = k then (if c < i then q c else g k c) else g r c,(i : Int))) 0 4 (by omega)
  (t:=(mf (fun r c=>if r = k then p c else f r c),mf (fun r c=>if r = k then q c else g r c))) (fun i _ hi=>by
  rw [hL i hi _ _ (fun r hr=>by funext c; rw [if_neg hr]) (fun r hr=>by funext c; rw [if_neg hr]) (by simp) (by simp)]
  simp only [Te,Ko,wr4 (show i < 1000 by omega)]
  congr 3
  ·apply WG
   intro r hr c hc
   by_cases h : r = k
   ·simp only [h,if_true]
    by_cases h2 : c = i
    ·subst h2; simp
    ·by_cases h3 : c < i
     ·rw [if_neg h2,if_pos h3,if_pos (by omega)]
     ·rw [if_neg h2,if_neg h3,if_neg (by omega)]
   ·simp only [h,if_false]
  ·congr 1
   apply WG
   intro r hr c hc
   by_cases h : r = k
   ·simp only [h,if_true]
    by_cases h2 : c = i
    ·subst h2; simp
    ·by_cases h3 : c < i
     ·rw [if_neg h2,if_pos h3,if_pos (by omega)]
     ·rw [if_neg h2,if_neg h3,if_neg (by omega)]
   ·simp only [h,if_false]) (by
  simp only [k1,k2]
  exact he _ _)
 have e1 : mf (fun r c=>if r = k then (if c < 0 then p c else f k c) else f r c) = mf f:=WG fun r hr c hc=>by
  by_cases h : r = k
  ·subst h; simp
  ·simp [h]
 have e2 : mf (fun r c=>if r = k then (if c < 0 then q c else g k c) else g r c) = mf g:=WG fun r hr c hc=>by
  by_cases h : r = k
  ·subst h; simp
  ·simp [h]
 simp only [e1,e2] at this
 exact this
theorem zN {S : Type} (m : Nat) (L : S → Option (Fl S (Fl (Mat × UInt8) (UInt8 × Mat)))) (pk : Red → Nat → S)
  (hstep : ∀ k,k < 4 → ∀ s,L (pk s k) = some (match KP m s k with | none=>.ex (.ex (0,mf fun _ _=>0)) | some s'=>.nx (pk s' (k + 1))))
  (hend : ∀ s,L (pk s 4) = some (.ex (.nx (mf s.b,s.det)))) : ∀ (n k : Nat) (s : Red),k + n = 4 → Zz L (pk s k) = some (match K3 m n k s with | some s'=>.nx (mf s'.b,s'.det) | none=>.ex (0,mf fun _ _=>0))
 | 0,k,s,h=>by
  have : k = 4:=by omega
  subst this
  rw [Y3 (hend s)]; rfl
 | n + 1,k,s,h=>by
  have h1:=hstep k (by omega) s
  unfold K3
  cases hr : KP m s k with
  | none=>rw [hr] at h1; rw [Y3 h1]; rfl
  | some s'=>rw [hr] at h1; rw [XE h1]; exact zN m L pk hstep hend n (k + 1) s' (by omega)
theorem qo {i k : Nat} : (((i : Int)) != ((k : Nat) : Int)) = decide (i ≠ k):=by
 by_cases h : i = k
 ·subst h; simp
 ·have : (i : Int) ≠ (k : Int):=by omega
  simp [h,this]
theorem jo (m : Nat) (L : Mat × Mat × Int → Option (Fl (Mat × Mat × Int) (Mat × Mat))) (f g : MF) (k : Nat)
  (hL : ∀ i,i < 4 → ∀ a b : MF,(a i = f i) → (b i = g i) → (a k = f k) → (b k = g k) → L (mf a,mf b,(i : Int)) = some (Fl.nx (mf (fun r c=>if r = i then VW m f f k r c else a r c),mf (fun r c=>if r = i then VW m f g k r c else b r c),wr ((i : Int) + 1))))
  (he : ∀ a b : Mat,L (a,b,4) = some (Fl.ex (a,b))) : Zz L (mf f,mf g,0) = some (mf (VW m f f k),mf (VW m f g k)):=by
 have ek : ∀ h : MF,VW m f h k k = h k:=fun h=>by funext c; simp [VW]
 have k1 : (mf fun r c=>if r < 4 then VW m f f k r c else f r c) = mf (VW m f f k):=WG fun r hr c _=>by rw [if_pos hr]
 have k2 : (mf fun r c=>if r < 4 then VW m f g k r c else g r c) = mf (VW m f g k):=WG fun r hr c _=>by rw [if_pos hr]
 have:=ZW (f:=L) (fun i : Nat=>(mf fun r c=>if r < i then VW m f f k r c else f r c,mf fun r c=>if r < i then VW m f g k r c else g r c,(i : Int))) 0 4 (by omega)
  (t:=(mf (VW m f f k),mf (VW m f g k))) (fun i _ hi=>by
  rw [hL i hi _ _ (by funext c; simp) (by funext c; simp) (by funext c; by_cases h : k < i <;> simp [h,ek]) (by funext c; by_cases h : k < i <;> simp [h,ek])]
  rw [wr4 (show i < 1000 by omega)]
  have e : ∀ (x y : MF),(mf fun r c=>if r = i then x r c else if r < i then x r c else y r c) = mf fun r c=>if r < i + 1 then x r c else y r c:=fun x y=>WG fun r _ c _=>by
   by_cases h1 : r = i
   ·subst h1; simp
   ·by_cases h2 : r < i
    ·rw [if_neg h1,if_pos h2,if_pos (by omega)]
    ·rw [if_neg h1,if_neg h2,if_neg (by omega)]
  rw [e,e]) (by
  simp only [k1,k2]
  exact he _ _)
 simpa using this

theorem kM (f : MF) {i k : Nat} : ((mf f).setIfInBounds i (vf 4 (f k))).setIfInBounds k (vf 4 (f i)) = mf (ko f i k):=by
 rw [Ko,Ko]; rfl
section
variable (m : Nat) (hm : m < 512) (hm2 : 256 ≤ m)
include hm
theorem z6 (A B : Mat) (det : UInt8) (q : UInt8) (f g : MF) (k : Nat) (hk : k < 4) : Zz (XK (m : Int) (A,B,(k : Int),det) q) (mf f,mf g,0) = some (mf (Ap m f k q),mf (Ap m g k q)):=by
 refine BZ _ f g k hk (fun c=>ZY m (f k c) q) (fun c=>ZY m (g k c) q) (fun c hc a b _ _ ha hb=>?_) (fun a b=>?_)
 ·unfold XK
  simp only [lt4 hc,if_true,Uz _ hk,ZQ _ hc,Option.bind_some,UL m hm,ha,hb,Int.toNat_natCast]
 ·unfold XK; simp
theorem kl (A B : Mat) (det : UInt8) (s1 : Mat × Mat × Int) (x : UInt8) (f g : MF) (k i : Nat) (hk : k < 4) (hi : i < 4) (hik : i ≠ k) (hs : s1.2.2 = (i : Int)) :
  Zz (XJ (m : Int) (A,B,(k : Int),det) s1 x) (mf f,mf g,0) = some (mf (fun r c=>if r = i then f i c ^^^ ZY m x (f k c) else f r c),mf (fun r c=>if r = i then g i c ^^^ ZY m x (g k c) else g r c)):=by
 refine BZ _ f g i hi (fun c=>f i c ^^^ ZY m x (f k c)) (fun c=>g i c ^^^ ZY m x (g k c)) (fun c hc a b ha' hb' ha hb=>?_) (fun a b=>?_)
 ·unfold XJ
  have e1:=ha' k (Ne.symm hik)
  have e2:=hb' k (Ne.symm hik)
  simp only [hs,lt4 hc,if_true,Uz _ hk,Uz _ hi,ZQ _ hc,Option.bind_some,UL m hm,ha,hb,e1,e2,Int.toNat_natCast]
 ·unfold XJ; simp
include hm2
theorem jn (A B : Mat) (det : UInt8) (f g : MF) (k : Nat) (hk : k < 4) : Zz (XN (m : Int) (A,B,(k : Int),det)) (mf f,mf g,0) = some (mf (VW m f f k),mf (VW m f g k)):=by
 refine jo m _ f g k (fun i hi a b hai hbi hak hbk=>?_) (fun a b=>by unfold XN; simp)
 unfold XN
 have hfi : a i k = f i k:=by rw [hai]
 simp only [lt4 hi,if_true,Uz _ hi,ZQ _ hk,Option.bind_some,qo,hfi]
 by_cases h : i = k
 ·subst h
  simp only [ne_eq,not_true_eq_false,decide_false,Bool.false_eq_true,if_false,Option.bind_some]
  congr 3
  ·exact WG fun r _ c _=>by
    by_cases h : r = i
    ·subst h; simp [VW,hai]
    ·simp [h]
  ·congr 1
   exact WG fun r _ c _=>by
    by_cases h : r = i
    ·subst h; simp [VW,hbi]
    ·simp [h]
 ·have hd : decide (i ≠ k) = true:=by simpa using h
  simp only [hd,if_true,Option.bind_some]
  by_cases h0 : f i k = 0
  ·simp only [h0,bne_self_eq_false,Bool.false_eq_true,if_false,Option.bind_some]
   congr 3
   ·exact WG fun r _ c _=>by
     by_cases h2 : r = i
     ·subst h2; simp [VW,hai,h,h0,Kt hm2 hm]
     ·simp [h2]
   ·congr 1
    exact WG fun r _ c _=>by
     by_cases h2 : r = i
     ·subst h2; simp [VW,hbi,h,h0,Kt hm2 hm]
     ·simp [h2]
  ·have hb0 : (f i k != 0) = true:=by simpa using h0
   simp only [hb0,if_true,Option.bind_some]
   rw [kl m hm A B det _ _ a b k i hk hi h rfl]
   simp only [Option.bind_some]
   congr 3
   ·exact WG fun r _ c _=>by
     by_cases h2 : r = i
     ·subst h2; simp [VW,hai,hak,h]
     ·simp [h2]
   ·congr 1
    exact WG fun r _ c _=>by
     by_cases h2 : r = i
     ·subst h2; simp [VW,hbi,hbk,h]
     ·simp [h2]
theorem jg (k : Nat) (hk : k < 4) (s : Red) : YE (m : Int) (mf s.a,mf s.b,(k : Int),s.det) = some (match KP m s k with | none=>.ex (.ex (0,mf fun _ _=>0)) | some s'=>.nx (mf s'.a,mf s'.b,((k + 1 : Nat) : Int),s'.det)):=by
 unfold YE
 have hp:=z5 (Ug (mf s.a,mf s.b,(k : Int),s.det)) s.a k hk (fun x=>rfl)
 simp only [lt4 hk,if_true,hp,Option.bind_some]
 unfold KP
 by_cases h4 : Ke s.a k = 4
 ·have : ((4 : Nat) : Int) = 4:=rfl
  simp only [h4,this,beq_self_eq_true,if_true,AO]
 ·have hi:=jW h4
  have h5 : (((Ke s.a k : Nat) : Int) == 4) = false:=by
   have : ((Ke s.a k : Nat) : Int) ≠ 4:=by omega
   simpa using this
  generalize hpi : Ke s.a k = i at *
  simp only [h4,h5,Bool.false_eq_true,if_false]
  have x1 : ZI ((mf s.a).setIfInBounds i (vf 4 (s.a k))) (k : Int) = some (vf 4 (fun c=>if k = i then s.a k c else s.a k c)):=by rw [Ko]; exact Uz _ hk
  have x2 : ZI ((mf s.b).setIfInBounds i (vf 4 (s.b k))) (k : Int) = some (vf 4 (fun c=>if k = i then s.b k c else s.b k c)):=by rw [Ko]; exact Uz _ hk
  simp only [Uz _ hk,Uz _ hi,Option.bind_some,Int.toNat_natCast,x1,x2,kM,ZQ _ hk,UL m hm,Qz m hm,z6 m hm _ _ _ _ _ _ k hk,jn m hm hm2 _ _ _ _ _ k hk,wr4 (show k < 1000 by omega)]
theorem HQ (f : MF) : Xi (m : Int) (mf f) = some (Hv m f):=by
 unfold Xi
 have h:=zN m (YE (m : Int)) (fun s k=>(mf s.a,mf s.b,(k : Int),s.det)) (jg m hm hm2) (fun s=>by unfold YE; simp) 4 0 ⟨f,KD,1⟩ rfl
 have h2 : Zz (YE (m : Int)) (mf f,mf KD,0,1) = _:=h
 rw [K0,Option.bind_some,h2]
 unfold Hv
 cases K3 m 4 0 ⟨f,KD,1⟩ <;> rfl
end
theorem BM {n i : Nat} (v : Vector UInt8 n) (h : i < n) : ZI v (i : Int) = some (v.toList.getD i 0):=by
 rw [Wy,Vector.getElem?_eq_getElem h]
 simp [List.getD_eq_getElem?_getD,h]
theorem zl (x : UInt8) : (bI x).toNat = x.toNat:=rfl
def TI (p : Vector UInt8 16) : Bool:=p.toList.all (fun x=>decide (x < 16)) && kQ p.toList
def J3 (a : Mat) : MF:=fun i j=>(a[i]?.getD default)[j]?.getD default
theorem Hs (a : Mat) : a = mf (J3 a):=calc a = vf 4 (fun i=>a[i]?.getD default):=yM a
  _ = _:=YV fun i _=>yM _
def detC (m : Nat) (a : Mat) : UInt8:=(Hv m (J3 a)).1
def invM (m : Nat) (a : Mat) : Mat:=(Hv m (J3 a)).2
def YL (c : GCipher) : Bool:=KM c.Field && kQ c.Box.toList && TI c.Places && decide (1 ≤ c.Rounds ∧ c.Rounds ≤ 20) && (detC c.Field.toNat c.Mix != 0)
theorem ki (m : Nat) (hm : m < 512) (hm2 : 256 ≤ m) (a : Mat) : Xi (m : Int) a = some (detC m a,invM m a):=by
 have:=HQ m hm hm2 (J3 a)
 rw [← Hs] at this
 exact this
theorem K1 {c : GCipher} (h : YL c = true) : ∃ m : Nat,c.Field = m ∧ 256 ≤ m ∧ m < 512:=by
 unfold YL at h
 simp only [Bool.and_eq_true] at h
 exact zy h.1.1.1.1
theorem Wm {n : Nat} (L : Vector UInt8 n × Int → Option (Fl (Vector UInt8 n × Int) (Vector UInt8 n))) (f h : Nat → UInt8) (hn : n < 9223372036854775807) (m : Nat) (hm : m ≤ n) (h0 : ∀ j,j < m → h j = f j)
  (hL : ∀ i,m ≤ i → i < n → ∀ a : Nat → UInt8,(∀ j,j < i → a j = h j) → (∀ j,i ≤ j → a j = f j) → L (vf n a,(i : Int)) = some (.nx ((vf n a).setIfInBounds i (h i),wr ((i : Int) + 1))))
  (he : ∀ v,L (v,(n : Int)) = some (.ex v)) : Zz L (vf n f,(m : Int)) = some (vf n h):=by
 have k1 : (vf n fun j=>if j < n then h j else f j) = vf n h:=YV fun j hj=>by rw [if_pos hj]
 have k0 : (vf n fun j=>if j < m then h j else f j) = vf n f:=YV fun j hj=>by
  by_cases h1 : j < m
  ·rw [if_pos h1,h0 j h1]
  ·rw [if_neg h1]
 have:=ZW (f:=L) (fun i : Nat=>(vf n fun j=>if j < i then h j else f j,(i : Int))) m n hm (t:=vf n h) (fun i hmi hi=>by
  rw [hL i hmi hi _ (fun j hj=>by rw [if_pos hj]) (fun j hj=>by rw [if_neg (by omega)]),Te,Y4 (show i < 9223372036854775807 by omega)]
  refine congrArg (fun z=>some (Fl.nx (z,((i + 1 : Nat) : Int)))) (YV fun j hj=>?_)
  by_cases h1 : j = i
  ·subst h1; simp
  ·by_cases h2 : j < i
   ·rw [if_neg h1,if_pos h2,if_pos (by omega)]
   ·rw [if_neg h1,if_neg h2,if_neg (by omega)]) (by
  simp only [k1]
  exact he _)
 simp only [k0] at this
 exact this
def B7 (b : Vector UInt8 256) (x : UInt8) : UInt8:=b[x.toNat]'(UInt8.toNat_lt x)
theorem Ql (b : Vector UInt8 256) (x : UInt8) : ZI b (bI x) = some (B7 b x):=by
 have : ZI b ((x.toNat : Nat) : Int) = _:=Wy b x.toNat
 rw [Vector.getElem?_eq_getElem (UInt8.toNat_lt x)] at this
 exact this
abbrev Blk:=Vector UInt8 16
def bf (v : Blk) (i : Nat) : UInt8:=v[i]?.getD default
theorem vf_bf (v : Blk) : v = vf 16 (bf v):=yM v
theorem KE {i : Nat} (h : i < 16) : decide ((i : Int) < 16) = true:=by simp; omega
def K8 (f g : Nat → UInt8) : Nat → UInt8:=fun i=>f i ^^^ g i
theorem KK (f g : Nat → UInt8) : Y6 (vf 16 f) (vf 16 g) = some (vf 16 (K8 f g)):=by
 unfold Y6
 have:=Wm (Va (vf 16 g)) f (K8 f g) (by omega) 0 (by omega) (fun j hj=>by omega) (fun i _ hi a _ ha=>by
  unfold Va
  simp only [KE hi,if_true,ZQ _ hi,Option.bind_some,Int.toNat_natCast,ha i (Nat.le_refl _),K8]) (fun v=>by unfold Va; simp)
 have h2 : Zz (Va (vf 16 g)) (vf 16 f,0) = _:=this
 rw [h2]; rfl
theorem UZ (f g : Nat → UInt8) : Yn (vf 16 f) (vf 16 g) = some (vf 16 (K8 f g)):=by
 unfold Yn
 have:=Wm (XV (vf 16 g)) f (K8 f g) (by omega) 0 (by omega) (fun j hj=>by omega) (fun i _ hi a _ ha=>by
  unfold XV
  simp only [KE hi,if_true,ZQ _ hi,Option.bind_some,Int.toNat_natCast,ha i (Nat.le_refl _),K8]) (fun v=>by unfold XV; simp)
 have h2 : Zz (XV (vf 16 g)) (vf 16 f,0) = _:=this
 rw [h2]; rfl
def Bl (b : Vector UInt8 256) (f : Nat → UInt8) : Nat → UInt8:=fun i=>B7 b (f i)
theorem z4 (b : Vector UInt8 256) (f : Nat → UInt8) : VP b (vf 16 f) = some (vf 16 (Bl b f)):=by
 unfold VP
 have:=Wm (Wx b) f (Bl b f) (by omega) 0 (by omega) (fun j hj=>by omega) (fun i _ hi a _ ha=>by
  unfold Wx
  simp only [KE hi,if_true,ZQ _ hi,Option.bind_some,Int.toNat_natCast,ha i (Nat.le_refl _),Ql,Bl]) (fun v=>by unfold Wx; simp)
 have h2 : Zz (Wx b) (vf 16 f,0) = _:=this
 rw [h2]; rfl
def Kf (p : Blk) (f : Nat → UInt8) : Nat → UInt8:=fun i=>f (bf p i).toNat
theorem Ji {p : Blk} (h : TI p = true) {i : Nat} (hi : i < 16) : (bf p i).toNat < 16:=by
 unfold TI at h
 simp only [Bool.and_eq_true,List.all_eq_true,decide_eq_true_eq] at h
 have e : bf p i = p[i]:=by unfold bf; rw [Vector.getElem?_eq_getElem hi]; rfl
 have:=h.1 p[i] (by simp)
 rw [UInt8.lt_iff_toNat_lt] at this
 rw [e]; exact this
theorem K6 (p : Blk) {i : Nat} (h : i < 16) : ZI p (i : Int) = some (bf p i):=by
 rw [Wy]; unfold bf; rw [Vector.getElem?_eq_getElem h]; rfl
theorem zk (f : Nat → UInt8) {x : UInt8} (h : x.toNat < 16) : ZI (vf 16 f) (bI x) = some (f x.toNat):=ZQ f h
theorem jl (p : Blk) (hp : TI p = true) (f : Nat → UInt8) : Uj p (vf 16 f) = some (vf 16 (Kf p f)):=by
 unfold Uj
 have:=Wm (WQ p (vf 16 f)) (fun _=>0) (Kf p f) (by omega) 0 (by omega) (fun j hj=>by omega) (fun i _ hi a _ ha=>by
  unfold WQ
  simp only [KE hi,if_true,ZQ _ hi,K6 _ hi,Option.bind_some,Int.toNat_natCast,zk f (Ji hp hi),Kf]) (fun v=>by unfold WQ; simp)
 have h2 : Zz (WQ p (vf 16 f)) (vf 16 (fun _=>0),0) = _:=this
 rw [UU 16 (0 : UInt8),h2]; rfl
theorem v_move (p : Blk) (hp : TI p = true) (f : Nat → UInt8) : WD p (vf 16 f) = some (vf 16 (Kf p f)):=by
 unfold WD
 have:=Wm (Xj p (vf 16 f)) (fun _=>0) (Kf p f) (by omega) 0 (by omega) (fun j hj=>by omega) (fun i _ hi a _ ha=>by
  unfold Xj
  simp only [KE hi,if_true,ZQ _ hi,K6 _ hi,Option.bind_some,Int.toNat_natCast,zk f (Ji hp hi),Kf]) (fun v=>by unfold Xj; simp)
 have h2 : Zz (Xj p (vf 16 f)) (vf 16 (fun _=>0),0) = _:=this
 rw [UU 16 (0 : UInt8),h2]; rfl

def Qi (b : Vector UInt8 256) (f : Nat → UInt8) (r : Int) : Nat → UInt8
 | 0=>f 0 ^^^ B7 b (f 15 ^^^ ZG r)
 | i + 1=>f (i + 1) ^^^ B7 b (Qi b f r i)
theorem ja (b : Vector UInt8 256) (f : Nat → UInt8) (r : Int) : V4 b (vf 16 f) r = some (vf 16 (Qi b f r)) := by
  unfold V4
  have := Wm (WS b r) f (Qi b f r) (by omega) 0 (by omega) (fun j hj => by omega) (fun i _ hi a hb ha => by
    unfold WS
    cases i with
    | zero =>
      have e1 : Int.tmod (wr (((0 : Nat) : Int) + 15)) 16 = ((15 : Nat) : Int) := by decide
      simp only [e1, KE hi, if_true, ZQ a (show 15 < 16 by omega), Option.bind_some]
      have e2 : (((0 : Nat) : Int) == 0) = true := rfl
      simp only [e2, if_true, Option.bind_some, Ql, ZQ a hi, Int.toNat_natCast, ha 0 (by omega), ha 15 (by omega), Qi]
    | succ i =>
      have e1 : Int.tmod (wr (((i + 1 : Nat) : Int) + 15)) 16 = ((i : Nat) : Int) := by
        rw [YD (by omega)]
        have : (((i + 1 : Nat) : Int) + 15) = ((i + 16 : Nat) : Int) := by omega
        rw [this]
        have : Int.tmod ((i + 16 : Nat) : Int) 16 = (((i + 16) % 16 : Nat) : Int) := rfl
        rw [this]
        omega
      have e2 : (((i + 1 : Nat) : Int) == 0) = false := by have : ((i + 1 : Nat) : Int) ≠ 0 := by omega
                                                           simpa using this
      simp only [e1, e2, KE hi, if_true, ZQ a (show i < 16 by omega), Option.bind_some, Bool.false_eq_true, if_false, Ql, ZQ a hi, Int.toNat_natCast, ha (i + 1) (Nat.le_refl _), hb i (by omega), Qi]) (fun v => by unfold WS; simp)
  have h2 : Zz (WS b r) (vf 16 f, 0) = _ := this
  rw [h2]; rfl
theorem jB (e : Ref Gengine) (f : Nat → UInt8) (r : Int) : Xu e (vf 16 f) r = some (vf 16 (Qi e.v.box f r)):=by
 unfold Xu
 have x0 : ZI (vf 16 f) (0 : Int) = some (f 0):=ZQ f (show 0 < 16 by omega)
 have x15 : ZI (vf 16 f) (15 : Int) = some (f 15):=ZQ f (show 15 < 16 by omega)
 have z : (0 : Int).toNat = 0:=rfl
 simp only [x0,x15,Option.bind_some,Ql,z,Te]
 have:=Wm (YK e) (fun i=>if i = 0 then f 0 ^^^ B7 e.v.box (f 15 ^^^ ZG r) else f i) (Qi e.v.box f r) (by omega) 1 (by omega) (fun j hj=>by
  have : j = 0:=by omega
  subst this; simp [Qi]) (fun i h1 hi a hb ha=>by
  unfold YK
  obtain ⟨i,rfl⟩ : ∃ k,i = k + 1:=⟨i - 1,by omega⟩
  have e1 : wr (((i + 1 : Nat) : Int) - 1) = ((i : Nat) : Int):=by rw [YD (by omega)]; omega
  simp only [e1,KE hi,if_true,ZQ a (show i < 16 by omega),ZQ a hi,Option.bind_some,Ql,Int.toNat_natCast,ha (i + 1) (Nat.le_refl _),hb i (by omega),Qi]
  simp) (fun v=>by unfold YK; simp)
 have h2 : Zz (YK e) (vf 16 (fun i=>if i = 0 then f 0 ^^^ B7 e.v.box (f 15 ^^^ ZG r) else f i),1) = _:=this
 rw [h2]; rfl
def Ac (b : Vector UInt8 256) (k : Nat → UInt8) : Nat → Nat → UInt8
 | 0=>k
 | r + 1=>Qi b (Ac b k r) ((r + 1 : Nat) : Int)
def VH (b : Vector UInt8 256) (k : Nat → UInt8) (n : Nat) : List Blk:=(List.range (n + 1)).map fun r=>vf 16 (Ac b k r)
theorem B5 (b : Vector UInt8 256) (k : Nat → UInt8) (n : Nat) : VH b k (n + 1) = VH b k n ++ [vf 16 (Qi b (Ac b k n) ((n + 1 : Nat) : Int))]:=by
 unfold VH
 rw [List.range_succ,List.map_append]; rfl
theorem QX (b : Vector UInt8 256) (k : Nat → UInt8) (n : Nat) : (VH b k n).length = n + 1:=by simp [VH]
theorem KB (b : Vector UInt8 256) (k : Nat → UInt8) {n r : Nat} (h : r ≤ n) : idx (VH b k n) (r : Int) = some (vf 16 (Ac b k r)):=by
 rw [Ye]; unfold VH; rw [List.getElem?_map,List.getElem?_range (by omega)]; rfl
theorem jc (c : GCipher) (k : Nat → UInt8) (n : Nat) (hn : n ≤ 1000) : Ui c (vf 16 k) (n : Int) = some (VH c.Box k n):=by
 unfold Ui
 have:=ZW (f:=WO c (n : Int)) (fun i : Nat=>(vf 16 (Ac c.Box k (i - 1)),VH c.Box k (i - 1),(i : Int))) 1 (n + 1) (by omega) (t:=VH c.Box k n) (fun i h1 hi=>by
  unfold WO
  obtain ⟨i,rfl⟩ : ∃ q,i = q + 1:=⟨i - 1,by omega⟩
  have e1 : decide (((i + 1 : Nat) : Int) ≤ (n : Int)) = true:=by simp; omega
  have e2 : app 16 (VH c.Box k i) [vf 16 (Qi c.Box (Ac c.Box k i) ((i + 1 : Nat) : Int))] = _:=X7 (by rw [QX]; simp; omega)
  simp only [Nat.add_sub_cancel,e1,if_true,ja,Option.bind_some,e2,Y4 (show i + 1 < 9223372036854775807 by omega),B5]
  rfl) (by
  unfold WO
  have e1 : decide (((n + 1 : Nat) : Int) ≤ (n : Int)) = false:=by simp; omega
  simp only [e1,Bool.false_eq_true,if_false,Nat.add_sub_cancel])
 have h2 : Zz (WO c (n : Int)) (vf 16 k,[vf 16 k],1) = _:=this
 rw [h2]; rfl
theorem v_keys (e : Ref Gengine) (k : Nat → UInt8) (n : Nat) (hn : n ≤ 1000) : WJ e (vf 16 k) (n : Int) = some (VH e.v.box k n):=by
 unfold WJ
 have:=ZW (f:=Xm e (n : Int)) (fun i : Nat=>(vf 16 (Ac e.v.box k (i - 1)),VH e.v.box k (i - 1),(i : Int))) 1 (n + 1) (by omega) (t:=VH e.v.box k n) (fun i h1 hi=>by
  unfold Xm
  obtain ⟨i,rfl⟩ : ∃ q,i = q + 1:=⟨i - 1,by omega⟩
  have e1 : decide (((i + 1 : Nat) : Int) ≤ (n : Int)) = true:=by simp; omega
  have e2 : app 16 (VH e.v.box k i) [vf 16 (Qi e.v.box (Ac e.v.box k i) ((i + 1 : Nat) : Int))] = _:=X7 (by rw [QX]; simp; omega)
  simp only [Nat.add_sub_cancel,e1,if_true,jB,Option.bind_some,e2,Y4 (show i + 1 < 9223372036854775807 by omega),B5]
  rfl) (by
  unfold Xm
  have e1 : decide (((n + 1 : Nat) : Int) ≤ (n : Int)) = false:=by simp; omega
  simp only [e1,Bool.false_eq_true,if_false,Nat.add_sub_cancel])
 have h2 : Zz (Xm e (n : Int)) (vf 16 k,[vf 16 k],1) = _:=this
 rw [h2]; rfl

def rowF (m : Nat) (a : MF) (f : Nat → UInt8) (c r : Nat) : UInt8:=((ZY m (a r 0) (f c) ^^^ ZY m (a r 1) (f (c + 1))) ^^^ ZY m (a r 2) (f (c + 2))) ^^^ ZY m (a r 3) (f (c + 3))
def V2 (m : Nat) (a : MF) (f : Nat → UInt8) : Nat → UInt8:=fun i=>rowF m a f (i / 4 * 4) (i % 4)
theorem set_set (f : Nat → UInt8) (k : Nat) (x y : UInt8) : (fun i=>if i = k then y else if i = k then x else f i) = fun i=>if i = k then y else f i:=by
 funext i; by_cases h : i = k <;> simp [h]
theorem wr_at {c r : Nat} (hc : c < 4) (hr : r < 4) : wr (wr (4 * (c : Int)) + (r : Int)) = ((c * 4 + r : Nat) : Int):=by
 rw [YD (x:=4 * (c : Int)) (by omega),YD (by omega)]; omega
theorem qd (m : Nat) (hm : m < 512) (hm2 : 256 ≤ m) (a : MF) (f g : Nat → UInt8) (c r : Nat) (hc : c < 4) (hr : r < 4) (s1 s2 : Blk × Int) (h1 : s1.2 = (c : Int)) (h2 : s2.2 = (r : Int)) (hg : g (c * 4 + r) = 0) :
  Zz (XM (m : Int) (mf a) (vf 16 f) s1 s2) (vf 16 g,0) = some (vf 16 fun i=>if i = c * 4 + r then rowF m a f (c * 4) r else g i):=by
 have hcr : c * 4 + r < 16:=by omega
 have step : ∀ (j : Nat) (h : Nat → UInt8),j < 4 → XM (m : Int) (mf a) (vf 16 f) s1 s2 (vf 16 h,(j : Int)) = some (.nx (vf 16 (fun i=>if i = c * 4 + r then h (c * 4 + r) ^^^ ZY m (a r j) (f (c * 4 + j)) else h i),((j + 1 : Nat) : Int))):=fun j h hj=>by
  unfold XM
  simp only [h1,h2,lt4 hj,if_true,wr_at hc hr,wr_at hc hj,ZQ _ hcr,Uz _ hr,ZQ _ hj,ZQ f (show c * 4 + j < 16 by omega),Option.bind_some,Ku m hm hm2,Int.toNat_natCast,Te,wr4 (show j < 1000 by omega)]
 have e0:=step 0 g (by omega)
 have e1:=step 1 (fun i=>if i = c * 4 + r then g (c * 4 + r) ^^^ ZY m (a r 0) (f (c * 4 + 0)) else g i) (by omega)
 have e2:=step 2 (fun i=>if i = c * 4 + r then (g (c * 4 + r) ^^^ ZY m (a r 0) (f (c * 4 + 0))) ^^^ ZY m (a r 1) (f (c * 4 + 1)) else g i) (by omega)
 have e3:=step 3 (fun i=>if i = c * 4 + r then ((g (c * 4 + r) ^^^ ZY m (a r 0) (f (c * 4 + 0))) ^^^ ZY m (a r 1) (f (c * 4 + 1))) ^^^ ZY m (a r 2) (f (c * 4 + 2)) else g i) (by omega)
 have e4 : ∀ v : Blk,XM (m : Int) (mf a) (vf 16 f) s1 s2 (v,((4 : Nat) : Int)) = some (.ex v):=fun v=>by unfold XM; simp
 simp only [if_true,set_set] at e1 e2 e3
 have e0' : XM (m : Int) (mf a) (vf 16 f) s1 s2 (vf 16 g,0) = _:=e0
 rw [XE e0',XE e1,XE e2,XE e3,Y3 (e4 _)]
 refine congrArg some (YV fun i _=>?_)
 by_cases h : i = c * 4 + r
 ·simp [h,hg,rowF]
 ·simp [h]
theorem kN (m : Nat) (hm : m < 512) (hm2 : 256 ≤ m) (a : MF) (f : Nat → UInt8) : UH (m : Int) (mf a) (vf 16 f) = some (vf 16 (V2 m a f)):=by
 unfold UH
 -- after c columns and r rows of the next
 have inner : ∀ c : Nat,c < 4 → ∀ s1 : Blk × Int,s1.2 = (c : Int) → Zz (Vm (m : Int) (mf a) (vf 16 f) s1) (vf 16 (fun i=>if i < c * 4 then V2 m a f i else 0),0) = some (vf 16 fun i=>if i < (c + 1) * 4 then V2 m a f i else 0):=fun c hc s1 h1=>by
  have k1 : (vf 16 fun i=>if i < c * 4 + 4 then V2 m a f i else 0) = vf 16 fun i=>if i < (c + 1) * 4 then V2 m a f i else 0:=by rw [show c * 4 + 4 = (c + 1) * 4 by omega]
  have:=ZW (f:=Vm (m : Int) (mf a) (vf 16 f) s1) (fun r : Nat=>(vf 16 fun i=>if i < c * 4 + r then V2 m a f i else 0,(r : Int))) 0 4 (by omega) (t:=vf 16 fun i=>if i < (c + 1) * 4 then V2 m a f i else 0) (fun r _ hr=>by
   unfold Vm
   have h2:=qd m hm hm2 a f (fun i=>if i < c * 4 + r then V2 m a f i else 0) c r hc hr s1 (vf 16 fun i=>if i < c * 4 + r then V2 m a f i else 0,(r : Int)) h1 rfl (by simp)
   simp only [lt4 hr,if_true,h2,Option.bind_some,wr4 (show r < 1000 by omega)]
   refine congrArg (fun z=>some (Fl.nx (z,((r + 1 : Nat) : Int)))) (YV fun i _=>?_)
   by_cases h : i = c * 4 + r
   ·subst h
    have q1 : (c * 4 + r) / 4 = c:=by omega
    have q2 : (c * 4 + r) % 4 = r:=by omega
    rw [if_pos rfl,if_pos (by omega)]
    unfold V2; rw [q1,q2]
   ·by_cases h3 : i < c * 4 + r
    ·rw [if_neg h,if_pos h3,if_pos (by omega)]
    ·rw [if_neg h,if_neg h3,if_neg (by omega)]) (by
   unfold Vm
   simp only [k1]
   simp)
  exact this
 have:=ZW (f:=Vq (m : Int) (mf a) (vf 16 f)) (fun c : Nat=>(vf 16 fun i=>if i < c * 4 then V2 m a f i else 0,(c : Int))) 0 4 (by omega) (t:=vf 16 (V2 m a f)) (fun c _ hc=>by
  unfold Vq
  have h2:=inner c hc (vf 16 fun i=>if i < c * 4 then V2 m a f i else 0,(c : Int)) rfl
  simp only [lt4 hc,if_true,h2,Option.bind_some,wr4 (show c < 1000 by omega)]) (by
  unfold Vq
  have : (vf 16 fun i=>if i < 4 * 4 then V2 m a f i else 0) = vf 16 (V2 m a f):=YV fun i hi=>by rw [if_pos (by omega)]
  simp only [this]
  simp)
 have e0 : (vf 16 fun i=>if i < 0 * 4 then V2 m a f i else 0) = vf 16 fun _=>(0 : UInt8):=YV fun i _=>by rw [if_neg (by omega)]
 simp only [e0] at this
 have h2 : Zz (Vq (m : Int) (mf a) (vf 16 f)) (vf 16 fun _=>(0 : UInt8),0) = _:=this
 rw [UU 16 (0 : UInt8),h2]; rfl

abbrev Tab:=Vector (Vector (Vector UInt8 256) 4) 4
def Ha (m : Nat) (a : MF) : Tab:=vf 4 fun i=>vf 4 fun j=>vf 256 fun x=>ZY m (a i j) (UInt8.ofNat x)
theorem kO (m : Nat) (a : MF) (i j : Nat) (x : UInt8) : ZI (vf 256 fun x=>ZY m (a i j) (UInt8.ofNat x)) (bI x) = some (ZY m (a i j) x):=by
 rw [show bI x = ((x.toNat : Nat) : Int) from rfl,ZQ _ (UInt8.toNat_lt x)]
 simp
theorem v_mix (m : Nat) (a : MF) (f : Nat → UInt8) : Vf ⟨Ha m a⟩ (vf 16 f) = some (vf 16 (V2 m a f)):=by
 unfold Vf
 have i0 : ∀ (v : Vector (Vector UInt8 256) 4),ZI v (0 : Int) = v[0]?:=fun v=>Wy v 0
 have i1 : ∀ (v : Vector (Vector UInt8 256) 4),ZI v (1 : Int) = v[1]?:=fun v=>Wy v 1
 have i2 : ∀ (v : Vector (Vector UInt8 256) 4),ZI v (2 : Int) = v[2]?:=fun v=>Wy v 2
 have i3 : ∀ (v : Vector (Vector UInt8 256) 4),ZI v (3 : Int) = v[3]?:=fun v=>Wy v 3
 have inner : ∀ c : Nat,c < 4 → ∀ s1 : Blk × Int,s1.2 = ((c * 4 : Nat) : Int) → Zz (XR ⟨Ha m a⟩ s1 (f (c * 4),f (c * 4 + 1),f (c * 4 + 2),f (c * 4 + 3))) (vf 16 (fun i=>if i < c * 4 then V2 m a f i else f i),0) = some (vf 16 fun i=>if i < (c + 1) * 4 then V2 m a f i else f i):=fun c hc s1 h1=>by
  have k1 : (vf 16 fun i=>if i < c * 4 + 4 then V2 m a f i else f i) = vf 16 fun i=>if i < (c + 1) * 4 then V2 m a f i else f i:=by rw [show c * 4 + 4 = (c + 1) * 4 by omega]
  have:=ZW (f:=XR ⟨Ha m a⟩ s1 (f (c * 4),f (c * 4 + 1),f (c * 4 + 2),f (c * 4 + 3))) (fun r : Nat=>(vf 16 fun i=>if i < c * 4 + r then V2 m a f i else f i,(r : Int))) 0 4 (by omega) (t:=vf 16 fun i=>if i < (c + 1) * 4 then V2 m a f i else f i) (fun r _ hr=>by
   unfold XR
   have e1 : wr (s1.2 + (r : Int)) = ((c * 4 + r : Nat) : Int):=by rw [h1,YD (by omega)]; omega
   have et : ZI (Ha m a) (r : Int) = some (vf 4 fun j=>vf 256 fun x=>ZY m (a r j) (UInt8.ofNat x)):=ZQ _ hr
   simp only [lt4 hr,if_true,et,i0,i1,i2,i3,KT _ (show 0 < 4 by omega),KT _ (show 1 < 4 by omega),KT _ (show 2 < 4 by omega),KT _ (show 3 < 4 by omega),kO,e1,ZQ _ (show c * 4 + r < 16 by omega),Option.bind_some,Int.toNat_natCast,Te,wr4 (show r < 1000 by omega)]
   refine congrArg (fun z=>some (Fl.nx (z,((r + 1 : Nat) : Int)))) (YV fun i _=>?_)
   by_cases h : i = c * 4 + r
   ·subst h
    have q1 : (c * 4 + r) / 4 = c:=by omega
    have q2 : (c * 4 + r) % 4 = r:=by omega
    rw [if_pos rfl,if_pos (by omega)]
    unfold V2; rw [q1,q2]; rfl
   ·by_cases h3 : i < c * 4 + r
    ·rw [if_neg h,if_pos h3,if_pos (by omega)]
    ·rw [if_neg h,if_neg h3,if_neg (by omega)]) (by
   unfold XR
   simp only [k1]
   simp)
  exact this
 have:=ZW (f:=XU ⟨Ha m a⟩) (fun c : Nat=>(vf 16 fun i=>if i < c * 4 then V2 m a f i else f i,((c * 4 : Nat) : Int))) 0 4 (by omega) (t:=vf 16 (V2 m a f)) (fun c _ hc=>by
  unfold XU
  have hd : decide (((c * 4 : Nat) : Int) < ((vf 16 fun i=>if i < c * 4 then V2 m a f i else f i).toList.length : Int)) = true:=by rw [Vector.length_toList]; simp; omega
  have x0:=ZQ (n:=16) (fun i=>if i < c * 4 then V2 m a f i else f i) (show c * 4 < 16 by omega)
  have x1:=ZQ (n:=16) (fun i=>if i < c * 4 then V2 m a f i else f i) (show c * 4 + 1 < 16 by omega)
  have x2:=ZQ (n:=16) (fun i=>if i < c * 4 then V2 m a f i else f i) (show c * 4 + 2 < 16 by omega)
  have x3:=ZQ (n:=16) (fun i=>if i < c * 4 then V2 m a f i else f i) (show c * 4 + 3 < 16 by omega)
  have w1 : wr (((c * 4 : Nat) : Int) + 1) = ((c * 4 + 1 : Nat) : Int):=by rw [YD (by omega)]; omega
  have w2 : wr (((c * 4 : Nat) : Int) + 2) = ((c * 4 + 2 : Nat) : Int):=by rw [YD (by omega)]; omega
  have w3 : wr (((c * 4 : Nat) : Int) + 3) = ((c * 4 + 3 : Nat) : Int):=by rw [YD (by omega)]; omega
  have w4 : wr (((c * 4 : Nat) : Int) + 4) = (((c + 1) * 4 : Nat) : Int):=by rw [YD (by omega)]; omega
  rw [if_neg (by omega)] at x0 x1 x2 x3
  have h2:=inner c hc (vf 16 fun i=>if i < c * 4 then V2 m a f i else f i,((c * 4 : Nat) : Int)) rfl
  simp only [hd,if_true,x0,w1,x1,w2,x2,w3,x3,Option.bind_some,h2,w4]) (by
  unfold XU
  have : (vf 16 fun i=>if i < 4 * 4 then V2 m a f i else f i) = vf 16 (V2 m a f):=YV fun i hi=>by rw [if_pos (by omega)]
  simp only [this]
  simp)
 have e0 : (vf 16 fun i=>if i < 0 * 4 then V2 m a f i else f i) = vf 16 f:=YV fun i _=>by rw [if_neg (by omega)]
 simp only [e0] at this
 have h2 : Zz (XU ⟨Ha m a⟩) (vf 16 f,0) = _:=this
 rw [h2]; rfl

def tb (g : Nat → Nat → Nat → UInt8) : Tab:=vf 4 fun i=>vf 4 fun j=>vf 256 (g i j)
theorem Jr {g h : Nat → Nat → Nat → UInt8} (e : ∀ i,i < 4 → ∀ j,j < 4 → ∀ x,x < 256 → g i j x = h i j x) : tb g = tb h :=
 YV fun i hi=>YV fun j hj=>YV fun x hx=>e i hi j hj x hx
theorem k7 (g : Nat → Nat → Nat → UInt8) {i : Nat} (hi : i < 4) : ZI (tb g) (i : Int) = some (vf 4 fun j=>vf 256 (g i j)):=ZQ _ hi
theorem kx (g : Nat → Nat → Nat → UInt8) (i : Nat) {j : Nat} (hj : j < 4) : ZI (vf 4 fun j=>vf 256 (g i j)) (j : Int) = some (vf 256 (g i j)):=ZQ _ hj
theorem tb_set (g : Nat → Nat → Nat → UInt8) (i j : Nat) (h : Nat → UInt8) : (tb g).setIfInBounds i ((vf 4 fun j=>vf 256 (g i j)).setIfInBounds j (vf 256 h)) = tb (fun i' j'=>if i' = i ∧ j' = j then h else g i' j'):=by
 unfold tb
 rw [Te,Te]
 refine YV fun i' _=>?_
 by_cases h1 : i' = i
 ·subst h1
  rw [if_pos rfl]
  refine YV fun j' _=>?_
  by_cases h2 : j' = j
  ·subst h2; simp
  ·simp [h2]
 ·rw [if_neg h1]
  refine YV fun j' _=>?_
  simp [h1]
theorem qj (a b : Nat) (ha : a < 9223372036854775808) (hb : b < 9223372036854775808) : orI (a : Int) (b : Int) = ((a ||| b : Nat) : Int):=by
 unfold orI
 rw [BitVec.toNat_or,Jz a ha,Jz b hb]
 have : a ||| b < 2 ^ 63:=Nat.or_lt_two_pow ha hb
 exact YD (by omega)
theorem Vv (n : Nat) : ZG (n : Int) = UInt8.ofNat n:=by
 unfold ZG
 have : ((n : Int) % 256).toNat = n % 256:=by omega
 rw [this]
 apply UInt8.toNat_inj.1
 simp
theorem kW (g : Nat → Nat → Nat → UInt8) (i j : Nat) (h : Nat → UInt8) : (tb g).setIfInBounds i (vf 4 fun j'=>if j' = j then vf 256 h else vf 256 (g i j')) = tb (fun i' j'=>if i' = i ∧ j' = j then h else g i' j'):=by
 have:=tb_set g i j h
 rw [Te] at this
 exact this
theorem jT {p low : Nat} (h : low < 2 ^ p) : 2 ^ p ||| low = 2 ^ p + low:=by
 have:=Nat.two_pow_add_eq_or_of_lt h 1
 simpa using this.symm
theorem kj {p low : Nat} (hp : p < 8) (h : low < 2 ^ p) : UInt8.ofNat (2 ^ p + low) = UInt8.ofNat (2 ^ p) ^^^ UInt8.ofNat low:=by
 apply UInt8.toNat_inj.1
 have h7 : 2 ^ p ≤ 2 ^ 7:=Nat.pow_le_pow_right (by omega) (by omega)
 rw [UInt8.toNat_xor]
 simp only [UInt8.toNat_ofNat']
 rw [Nat.mod_eq_of_lt (by omega),Nat.mod_eq_of_lt (by omega),Nat.mod_eq_of_lt (by omega)]
 rw [← jT h]
 apply Nat.eq_of_testBit_eq
 intro i
 rw [Nat.testBit_or,Nat.testBit_xor,Nat.testBit_two_pow]
 by_cases hi : p = i
 ·subst hi
  rw [Nat.testBit_lt_two_pow h]; simp
 ·simp [hi]
section
variable (m : Nat) (hm : m < 512) (hm2 : 256 ≤ m) (a : MF)
include hm hm2
def QQ (m : Nat) (a : MF) (i j n : Nat) (g : Nat → Nat → Nat → UInt8) : Nat → Nat → Nat → UInt8:=fun i' j'=>if i' = i ∧ j' = j then (fun x=>if x < n then ZY m (a i j) (UInt8.ofNat x) else 0) else g i' j'
theorem jH (i j p : Nat) (hi : i < 4) (hj : j < 4) (hp : p < 8) (g : Nat → Nat → Nat → UInt8) (s0 s1 s2 : Tab × Int) (h0 : s0.2 = (i : Int)) (h1 : s1.2 = (j : Int)) (h2 : s2.2 = ((2 ^ p : Nat) : Int)) :
  Zz (Wu s0 s1 s2 (ZY m (a i j) (UInt8.ofNat (2 ^ p)))) (tb (QQ m a i j (2 ^ p) g),0) = some (tb (QQ m a i j (2 ^ (p + 1)) g)):=by
 have h7 : 2 ^ p ≤ 2 ^ 7:=Nat.pow_le_pow_right (by omega) (by omega)
 have k1 : 2 ^ p + 2 ^ p = 2 ^ (p + 1):=by rw [Nat.pow_succ]; omega
 have:=ZW (f:=Wu s0 s1 s2 (ZY m (a i j) (UInt8.ofNat (2 ^ p)))) (fun low : Nat=>(tb (QQ m a i j (2 ^ p + low) g),(low : Int))) 0 (2 ^ p) (Nat.zero_le _) (t:=tb (QQ m a i j (2 ^ (p + 1)) g)) (fun low _ hl=>by
  unfold Wu
  have hd : decide ((low : Int) < ((2 ^ p : Nat) : Int)) = true:=by simp only [decide_eq_true_eq]; omega
  have ho : orI ((2 ^ p : Nat) : Int) (low : Int) = ((2 ^ p + low : Nat) : Int):=by rw [qj _ _ (by omega) (by omega),jT hl]
  have eg : QQ m a i j (2 ^ p + low) g i j = fun x=>if x < 2 ^ p + low then ZY m (a i j) (UInt8.ofNat x) else 0:=by simp [QQ]
  simp only [h0,h1,h2,hd,if_true,k7 _ hi,kx _ i hj,eg,ZQ _ (show low < 256 by omega),ho,ZQ _ (show 2 ^ p + low < 256 by omega),Option.bind_some,Int.toNat_natCast,Te,Y4 (show low < 9223372036854775807 by omega)]
  rw [if_pos (show low < 2 ^ p + low from Nat.lt_add_of_pos_left (Nat.two_pow_pos p)),← yz hm2 hm,← kj hp hl]
  have:=kW (QQ m a i j (2 ^ p + low) g) i j (fun x=>if x = 2 ^ p + low then ZY m (a i j) (UInt8.ofNat (2 ^ p + low)) else if x < 2 ^ p + low then ZY m (a i j) (UInt8.ofNat x) else 0)
  rw [this]
  refine congrArg (fun z=>some (Fl.nx (z,((low + 1 : Nat) : Int)))) (Jr fun i' _ j' _ x _=>?_)
  unfold QQ
  by_cases h : i' = i ∧ j' = j
  ·simp only [h,and_self,if_true]
   by_cases hx : x = 2 ^ p + low
   ·subst hx; simp
   ·by_cases hx2 : x < 2 ^ p + low
    ·rw [if_neg hx,if_pos hx2,if_pos (by omega)]
    ·rw [if_neg hx,if_neg hx2,if_neg (by omega)]
  ·simp only [h,if_false]) (by
  unfold Wu
  simp only [h2,k1]
  simp)
 exact this
theorem kD (i j : Nat) (hi : i < 4) (hj : j < 4) (g : Nat → Nat → Nat → UInt8) (s0 s1 : Tab × Int) (h0 : s0.2 = (i : Int)) (h1 : s1.2 = (j : Int)) :
  Zz (Wp (m : Int) s0 s1 (a i j)) (tb (QQ m a i j 1 g),1) = some (tb (QQ m a i j 256 g)):=by
 have:=ZW (f:=Wp (m : Int) s0 s1 (a i j)) (fun p : Nat=>(tb (QQ m a i j (2 ^ p) g),((2 ^ p : Nat) : Int))) 0 8 (by omega) (t:=tb (QQ m a i j 256 g)) (fun p _ hp=>by
  unfold Wp
  have h7 : 2 ^ p ≤ 2 ^ 7:=Nat.pow_le_pow_right (by omega) (by omega)
  have hd : decide (((2 ^ p : Nat) : Int) < 256) = true:=by simp only [decide_eq_true_eq]; omega
  have hb : ZG ((2 ^ p : Nat) : Int) = UInt8.ofNat (2 ^ p):=by rw [Vv]
  have hw : wr (((2 ^ p : Nat) : Int) * 2) = ((2 ^ (p + 1) : Nat) : Int):=by
   rw [Nat.pow_succ]
   generalize 2 ^ p = q at h7 ⊢
   rw [YD (by omega)]; omega
  have h3:=jH m hm hm2 a i j p hi hj hp g s0 s1 (tb (QQ m a i j (2 ^ p) g),((2 ^ p : Nat) : Int)) h0 h1 rfl
  simp only [hd,if_true,hb,UL m hm,Option.bind_some,h3,hw]) (by unfold Wp; simp)
 exact this
theorem H9 (A : Mat) (hA : A = mf a) : WR (m : Int) A = some ⟨Ha m a⟩:=by
 subst hA
 unfold WR
 let G : Nat → Nat → Nat → Nat → Nat → UInt8:=fun r c i j x=>if i < r ∨ (i = r ∧ j < c) then ZY m (a i j) (UInt8.ofNat x) else 0
 have hGt : ∀ r c i j x,(i < r ∨ (i = r ∧ j < c)) → G r c i j x = ZY m (a i j) (UInt8.ofNat x):=fun r c i j x h=>if_pos h
 have hGf : ∀ r c i j x,¬ (i < r ∨ (i = r ∧ j < c)) → G r c i j x = 0:=fun r c i j x h=>if_neg h
 have hGe : ∀ r c r' c' i j x,((i < r ∨ (i = r ∧ j < c)) ↔ (i < r' ∨ (i = r' ∧ j < c'))) → G r c i j x = G r' c' i j x:=fun r c r' c' i j x h=>by show (if _ then _ else _) = (if _ then _ else _); simp only [h]
 have z0 : ∀ i j,ZY m (a i j) (UInt8.ofNat 0) = 0:=fun i j=>by rw [Qt hm2 hm]; exact Kt hm2 hm _
 have col : ∀ r : Nat,r < 4 → ∀ s0 : Tab × Int,s0.2 = (r : Int) → Zz (Wq (m : Int) s0 (vf 4 (a r))) (tb (G r 0),0) = some (tb (G (r + 1) 0)):=fun r hr s0 h0=>by
  have k1 : tb (G r 4) = tb (G (r + 1) 0):=Jr fun i hi j hj x _=>by
   exact hGe _ _ _ _ _ _ _ (by omega)
  have:=ZW (f:=Wq (m : Int) s0 (vf 4 (a r))) (fun c : Nat=>(tb (G r c),(c : Int))) 0 4 (by omega) (t:=tb (G (r + 1) 0)) (fun c _ hc=>by
   unfold Wq
   have e1 : tb (G r c) = tb (QQ m a r c 1 (G r c)):=Jr fun i _ j _ x _=>by
    unfold QQ
    by_cases h : i = r ∧ j = c
    ·obtain ⟨rfl,rfl⟩:=h
     simp only [and_self,if_true]
     rw [hGf _ _ _ _ _ (by omega)]
     by_cases hx : x < 1
     ·have : x = 0:=by omega
      subst this; rw [if_pos hx,z0]
     ·rw [if_neg hx]
    ·simp only [h,if_false]
   have e2 : tb (QQ m a r c 256 (G r c)) = tb (G r (c + 1)):=Jr fun i _ j _ x hx=>by
    unfold QQ
    by_cases h : i = r ∧ j = c
    ·obtain ⟨rfl,rfl⟩:=h
     simp only [and_self,if_true,hx]
     rw [hGt _ _ _ _ _ (by omega)]
    ·simp only [h,if_false]
     exact hGe _ _ _ _ _ _ _ (by omega)
   have h3:=kD m hm hm2 a r c hr hc (G r c) s0 (tb (G r c),(c : Int)) h0 rfl
   rw [← e1,e2] at h3
   simp only [lt4 hc,if_true,ZQ _ hc,h3,Option.bind_some,wr4 (show c < 1000 by omega)]) (by
   unfold Wq
   simp only [k1]
   simp)
  exact this
 have kz : tb (G 0 0) = Vector.replicate 4 (Vector.replicate 4 (Vector.replicate 256 (0 : UInt8))):=by
  rw [UU 256 (0 : UInt8),UU 4,UU 4]
  exact Jr fun i _ j _ x _=>by
   exact hGf _ _ _ _ _ (by omega)
 have k4 : tb (G 4 0) = Ha m a:=Jr fun i hi j _ x _=>by
  exact hGt _ _ _ _ _ (by omega)
 have:=ZW (f:=Wz (m : Int) (mf a)) (fun r : Nat=>(tb (G r 0),(r : Int))) 0 4 (by omega) (t:=Ha m a) (fun r _ hr=>by
  unfold Wz
  have h3:=col r hr (tb (G r 0),(r : Int)) rfl
  simp only [lt4 hr,if_true,Uz _ hr,h3,Option.bind_some,wr4 (show r < 1000 by omega)]) (by
  unfold Wz
  simp only [k4]
  simp)
 have h2 : Zz (Wz (m : Int) (mf a)) (tb (G 0 0),0) = _:=this
 rw [← kz,h2]; rfl
end

def HV (n : Nat) (p : Vector UInt8 n) : Nat → Vector UInt8 n
 | 0=>Vector.replicate n 0
 | i + 1=>(HV n p i).setIfInBounds (p.toList.getD i 0).toNat (ZG (i : Int))
theorem BG (p : Vector UInt8 256) : WL p = some (HV 256 p 256):=by
 unfold WL
 have:=ZW (f:=Xk p) (fun i : Nat=>(HV 256 p i,(i : Int))) 0 256 (by omega) (t:=HV 256 p 256) (fun i _ hi=>by
  unfold Xk
  have hd : decide ((i : Int) < 256) = true:=by simp; omega
  simp only [hd,if_true,BM p hi,Ql,Option.bind_some,zl,Y4 (show i < 9223372036854775807 by omega)]
  rfl) (by unfold Xk; simp)
 have h2 : Zz (Xk p) (Vector.replicate 256 0,0) = _:=this
 rw [h2]; rfl
theorem qe (p : Blk) {i : Nat} (h : i < 16) : p.toList.getD i 0 = bf p i:=by
 have h1:=BM p h
 rw [K6 p h] at h1
 exact (Option.some.inj h1).symm
theorem Jc (p : Blk) (hp : TI p = true) : Xv p = some (HV 16 p 16):=by
 unfold Xv
 have:=ZW (f:=YM p) (fun i : Nat=>(HV 16 p i,(i : Int))) 0 16 (by omega) (t:=HV 16 p 16) (fun i _ hi=>by
  unfold YM
  have hlt:=Ji hp hi
  have hv : ZI (HV 16 p i) (bI (bf p i)) = some (bf (HV 16 p i) (bf p i).toNat):=K6 _ hlt
  simp only [KE hi,if_true,K6 p hi,hv,Option.bind_some,zl,Y4 (show i < 9223372036854775807 by omega)]
  rw [← qe p hi]
  rfl) (by unfold YM; simp)
 have h2 : Zz (YM p) (Vector.replicate 16 0,0) = _:=this
 rw [h2]; rfl

def Xe (c : GCipher) : Gengine:=⟨c.Box,HV 256 c.Box 256,c.Places,HV 16 c.Places 16,⟨Ha c.Field.toNat (J3 c.Mix)⟩,⟨Ha c.Field.toNat (J3 (invM c.Field.toNat c.Mix))⟩,c.Rounds⟩
theorem Qc {c : GCipher} (h : YL c = true) : TI c.Places = true:=by
 unfold YL at h
 simp only [Bool.and_eq_true] at h
 exact h.1.1.2
theorem Kg {c : GCipher} (h : YL c = true) : 1 ≤ c.Rounds ∧ c.Rounds ≤ 20:=by
 unfold YL at h
 simp only [Bool.and_eq_true,decide_eq_true_eq] at h
 exact h.1.2
theorem zC (c : GCipher) (h : YL c = true) : Vg c = some ⟨Xe c⟩:=by
 obtain ⟨m,hm,h1,h2⟩:=K1 h
 have e : c.Field.toNat = m:=by omega
 unfold Vg Xe
 rw [e]
 simp only [hm,ki m h2 h1,Option.bind_some,BG,Jc _ (Qc h),H9 m h2 h1 (J3 c.Mix) c.Mix (Hs _),H9 m h2 h1 (J3 (invM m c.Mix)) (invM m c.Mix) (Hs _)]

def H8 (c : GCipher) (n r : Nat) (k f : Nat → UInt8) : Nat → UInt8 :=
 K8 (if r < n then V2 c.Field.toNat (J3 c.Mix) (Kf c.Places (Bl c.Box f)) else Kf c.Places (Bl c.Box f)) k
def JC (c : GCipher) (k f : Nat → UInt8) (n : Nat) : Nat → Nat → UInt8
 | 0=>K8 f k
 | r + 1=>H8 c n (r + 1) (Ac c.Box k (r + 1)) (JC c k f n r)
def An (c : GCipher) (k f : Nat → UInt8) (n : Nat) : Nat → UInt8:=JC c k f n n
theorem By (c : GCipher) (h : YL c = true) (k f : Nat → UInt8) (n : Nat) (hn : n ≤ 1000) : YX c (vf 16 k) (vf 16 f) (n : Int) = some (vf 16 (An c k f n)):=by
 obtain ⟨m,hm,h1,h2⟩:=K1 h
 have e : c.Field.toNat = m:=by omega
 have hp:=Qc h
 unfold YX
 have i0 : idx (VH c.Box k n) (0 : Int) = some (vf 16 k):=KB c.Box k (Nat.zero_le n)
 simp only [jc c k n hn,Option.bind_some,i0,KK]
 have:=ZW (f:=Xn c (n : Int) (VH c.Box k n)) (fun i : Nat=>(vf 16 (JC c k f n (i - 1)),(i : Int))) 1 (n + 1) (by omega) (t:=vf 16 (An c k f n)) (fun i hi1 hi=>by
  unfold Xn
  obtain ⟨r,rfl⟩ : ∃ q,i = q + 1:=⟨i - 1,by omega⟩
  have e1 : decide (((r + 1 : Nat) : Int) ≤ (n : Int)) = true:=by simp only [decide_eq_true_eq]; omega
  have Yq:=kN m h2 h1 (J3 c.Mix) (Kf c.Places (Bl c.Box (JC c k f n r)))
  rw [← Hs] at Yq
  simp only [Nat.add_sub_cancel,e1,if_true,z4,Option.bind_some,jl c.Places hp,hm,Yq,KB c.Box k (show r + 1 ≤ n by omega),Y4 (show r + 1 < 9223372036854775807 by omega)]
  by_cases hr : r + 1 < n
  ·have e2 : decide (((r + 1 : Nat) : Int) < (n : Int)) = true:=by simp only [decide_eq_true_eq]; omega
   simp only [e2,if_true,Option.bind_some,KK,JC,H8,hr,e]
  ·have e2 : decide (((r + 1 : Nat) : Int) < (n : Int)) = false:=by simp only [decide_eq_false_iff_not]; omega
   simp only [e2,Bool.false_eq_true,if_false,Option.bind_some,KK,JC,H8,hr]) (by
  unfold Xn
  have e1 : decide (((n + 1 : Nat) : Int) ≤ (n : Int)) = false:=by simp only [decide_eq_false_iff_not]; omega
  simp only [e1,Bool.false_eq_true,if_false,Nat.add_sub_cancel,An])
 have h3 : Zz (Xn c (n : Int) (VH c.Box k n)) (vf 16 (K8 f k),1) = _:=this
 rw [h3]; rfl
theorem yq (e : Ref Gengine) (s : Blk × Int) (f : Nat → UInt8) (hs : s.1 = vf 16 f) : Zz (Yj e s) (vf 16 f,0) = some (vf 16 (Bl e.v.box f)):=by
 have:=Wm (Yj e s) f (Bl e.v.box f) (by omega) 0 (by omega) (fun j hj=>by omega) (fun i _ hi a _ ha=>by
  unfold Yj
  simp only [hs,KE hi,if_true,ZQ _ hi,Option.bind_some,Int.toNat_natCast,Ql,Bl]) (fun v=>by unfold Yj; simp)
 exact this
theorem Bf (c : GCipher) (h : YL c = true) (k f : Nat → UInt8) (n : Nat) (hn : n ≤ 1000) : YH ⟨Xe c⟩ (VH c.Box k n) (vf 16 f) = some (vf 16 (An c k f n)):=by
 have hp:=Qc h
 unfold YH
 have i0 : idx (VH c.Box k n) (0 : Int) = some (vf 16 k):=KB c.Box k (Nat.zero_le n)
 simp only [Option.bind_some,i0,UZ]
 have:=ZW (f:=Yk ⟨Xe c⟩ (VH c.Box k n)) (fun i : Nat=>(vf 16 (JC c k f n (i - 1)),(i : Int))) 1 (n + 1) (by omega) (t:=vf 16 (An c k f n)) (fun i hi1 hi=>by
  unfold Yk
  obtain ⟨r,rfl⟩ : ∃ q,i = q + 1:=⟨i - 1,by omega⟩
  have e1 : decide (((r + 1 : Nat) : Int) < ((VH c.Box k n).length : Int)) = true:=by rw [QX]; simp only [decide_eq_true_eq]; omega
  have e3 : wr (((VH c.Box k n).length : Int) - 1) = (n : Int):=by rw [QX,YD (by omega)]; omega
  have hb:=yq ⟨Xe c⟩ (vf 16 (JC c k f n r),((r + 1 : Nat) : Int)) (JC c k f n r) rfl
  have hmv:=v_move c.Places hp (Bl c.Box (JC c k f n r))
  have Yq:=v_mix c.Field.toNat (J3 c.Mix) (Kf c.Places (Bl c.Box (JC c k f n r)))
  have hsl : ∀ g : Nat → UInt8,slc (vf 16 g).toList (0 : Int) (16 : Int) = some (vf 16 g).toList:=fun g=>by
   have:=AJ (l:=(vf 16 g).toList) (i:=0) (j:=16) (by omega) (by simp)
   simp only [List.drop_zero] at this
   rw [List.take_of_length_le (by simp)] at this
   exact this
  have q1 : (Xe c).box = c.Box:=rfl
  have q2 : (Xe c).places = c.Places:=rfl
  have q3 : (Xe c).mixer = ⟨Ha c.Field.toNat (J3 c.Mix)⟩:=rfl
  simp only [q1] at hb
  simp only [Nat.add_sub_cancel,e1,if_true,hb,Option.bind_some,q2,q3,hmv,e3,hsl,Yq,KB c.Box k (show r + 1 ≤ n by omega),Y4 (show r + 1 < 9223372036854775807 by omega)]
  by_cases hr : r + 1 < n
  ·have e2 : decide (((r + 1 : Nat) : Int) < (n : Int)) = true:=by simp only [decide_eq_true_eq]; omega
   simp only [e2,if_true,Option.bind_some,UZ,JC,H8,hr]
  ·have e2 : decide (((r + 1 : Nat) : Int) < (n : Int)) = false:=by simp only [decide_eq_false_iff_not]; omega
   simp only [e2,Bool.false_eq_true,if_false,Option.bind_some,UZ,JC,H8,hr]) (by
  unfold Yk
  have e1 : decide (((n + 1 : Nat) : Int) < ((VH c.Box k n).length : Int)) = false:=by rw [QX]; simp only [decide_eq_false_iff_not]; omega
  simp only [e1,Bool.false_eq_true,if_false,Nat.add_sub_cancel,An])
 have h3 : Zz (Yk ⟨Xe c⟩ (VH c.Box k n)) (vf 16 (K8 f k),1) = _:=this
 rw [h3]; rfl
theorem KG (c : GCipher) (h : YL c = true) (k f : Nat → UInt8) : Yp ⟨Xe c⟩ (vf 16 k) (vf 16 f) = some (vf 16 (An c k f c.Rounds.toNat)):=by
 have hr:=Kg h
 obtain ⟨n,hn⟩ : ∃ n : Nat,c.Rounds = n:=⟨c.Rounds.toNat,by omega⟩
 have e1 : (Xe c).rounds = (n : Int):=hn
 have e2 : (Xe c).box = c.Box:=rfl
 have hk:=v_keys ⟨Xe c⟩ k n (by omega)
 rw [e2] at hk
 unfold Yp
 simp only [e1,hk,Option.bind_some,Bf c h k f n (by omega),hn,Int.toNat_natCast]
theorem KI (c : GCipher) (h : YL c = true) (k f : Nat → UInt8) : YX c (vf 16 k) (vf 16 f) c.Rounds = some (vf 16 (An c k f c.Rounds.toNat)):=by
 have hr:=Kg h
 obtain ⟨n,hn⟩ : ∃ n : Nat,c.Rounds = n:=⟨c.Rounds.toNat,by omega⟩
 rw [hn]
 exact By c h k f n (by omega)
theorem jb (x : Nat) : UInt8.ofNat (x % 256) = UInt8.ofNat x:=by
 apply UInt8.toNat_inj.1; simp
def tab (n : Nat) (f : Nat → UInt8) : List UInt8:=(List.range n).map f
@[simp] theorem tab_len (n : Nat) (f : Nat → UInt8) : (tab n f).length = n:=by simp [tab]
theorem kb {α : Type} (by_ : Nat) (z : α) (n : Nat) (h : n * by_ ≤ 140737488355328) (hby : 0 < by_) :
  ((if (decide ((n : Int) < 0)) = true then (none) else (some ()) : Option (Unit)).bind fun (_ : Unit)=>(if (decide ((wr ((n : Int) - (wr (0 - 0)))) > 0)) = true then ((mkS by_ z (wr ((n : Int) - (wr (0 - 0))))).bind fun (l14 : List α)=>(slc l14 (0 : Int) (0 : Int)).bind fun (l16 : List α)=>some l16) else (some ([])) : Option (List α)).bind fun (j6 : List α)=>some j6) = some []:=by
 have hn : n ≤ 140737488355328:=Nat.le_trans (Nat.le_mul_of_pos_right _ hby) h
 have e0 : wr (0 - 0) = 0:=by decide
 have e1 : wr ((n : Int) - (wr (0 - 0))) = (n : Int):=by rw [e0,YD (by omega)]; omega
 have e2 : ¬ ((n : Int) < 0):=by omega
 rw [e1]
 simp only [e2,decide_false,Bool.false_eq_true,if_false,Option.bind_some]
 by_cases h3 : (n : Int) > 0
 ·have hm : mkS by_ z (n : Int) = some (List.replicate n z):=by
   have h4 : ((n * by_ : Nat) : Int) ≤ 140737488355328:=by omega
   rw [Int.natCast_mul] at h4
   unfold mkS
   rw [if_pos ⟨by omega,h4⟩,Int.toNat_natCast]
  have hs : slc (List.replicate n z) (0 : Int) (0 : Int) = some []:=by
   have:=AJ (l:=List.replicate n z) (i:=0) (j:=0) (Nat.le_refl _) (Nat.zero_le _)
   simpa using this
  simp [h3,hm,hs]
 ·have h4 : decide ((n : Int) > 0) = false:=by simp only [decide_eq_false_iff_not]; exact h3
  simp only [h4,Bool.false_eq_true,if_false,Option.bind_some]
theorem Af {α : Type} (by_ : Nat) (p0 : List (List α)) (L0 : Int × Int → Option (Fl (Int × Int) Int)) (L1 : Int × List α → Option (Fl (Int × List α) (List α)))
  (h0 : ∀ s,L0 s = if (decide (s.1 < (p0.length : Int))) = true then (((idx p0 s.1).bind fun (x : List α)=>(if (decide ((wr (s.2 + (x.length : Int))) < 0)) = true then (none) else (some ()) : Option (Unit)).bind fun (_ : Unit)=>some (wr (s.2 + (x.length : Int))) : Option (Int)).bind fun (j : Int)=>some (Fl.nx (wr (s.1 + 1),j))) else (some (Fl.ex s.2)))
  (h1 : ∀ s,L1 s = if (decide (s.1 < (p0.length : Int))) = true then ((idx p0 s.1).bind fun (x : List α)=>(app by_ s.2 x).bind fun (_ : List α)=>some (Fl.nx (wr (s.1 + 1),(s.2 ++ x)))) else (some (Fl.ex s.2)))
  (hl : p0.flatten.length * by_ ≤ 140737488355328) (hby : 0 < by_) (hn : p0.length < 9223372036854775807) :
  Zz L0 (0,0) = some (p0.flatten.length : Int) ∧ Zz L1 (0,[]) = some p0.flatten:=by
 have hlen : p0.flatten.length ≤ 140737488355328:=Nat.le_trans (Nat.le_mul_of_pos_right _ hby) hl
 have hstep : ∀ i (hi : i < p0.length),(p0.take (i + 1)).flatten = (p0.take i).flatten ++ p0[i]:=fun i hi=>by
  rw [List.take_succ_eq_append_getElem hi,List.flatten_append]; simp
 have hle : ∀ i,(p0.take i).flatten.length ≤ p0.flatten.length:=fun i=>by
  have : p0.flatten = (p0.take i).flatten ++ (p0.drop i).flatten:=by rw [← List.flatten_append,List.take_append_drop]
  rw [this,List.length_append]; omega
 constructor
 ·have:=ZW (f:=L0) (fun i : Nat=>((i : Int),((p0.take i).flatten.length : Int))) 0 p0.length (Nat.zero_le _) (t:=(p0.flatten.length : Int)) (fun i _ hi=>by
   have hs:=congrArg List.length (hstep i hi)
   rw [List.length_append] at hs
   have h3:=hle (i + 1)
   have e1 : wr (((p0.take i).flatten.length : Int) + (p0[i].length : Int)) = ((p0.take (i + 1)).flatten.length : Int):=by rw [YD (by omega)]; omega
   have e2 : ¬ (((p0.take (i + 1)).flatten.length : Int) < 0):=by omega
   rw [h0]
   simp only [Int.ofNat_lt,hi,decide_true,if_true,Ye,List.getElem?_eq_getElem hi,Option.bind_some,e1,e2,decide_false,Bool.false_eq_true,if_false,Y4 (show i < 9223372036854775807 by omega)]) (by
   rw [h0]; simp)
  exact this
 ·have:=ZW (f:=L1) (fun i : Nat=>((i : Int),(p0.take i).flatten)) 0 p0.length (Nat.zero_le _) (t:=p0.flatten) (fun i _ hi=>by
   have hs:=congrArg List.length (hstep i hi)
   rw [List.length_append] at hs
   have h3:=hle (i + 1)
   have hap : app by_ (p0.take i).flatten p0[i] = some ((p0.take i).flatten ++ p0[i]):=X7 (by
    have : ((p0.take i).flatten.length + p0[i].length) * by_ ≤ p0.flatten.length * by_:=Nat.mul_le_mul_right _ (by omega)
    omega)
   rw [h1]
   simp only [Int.ofNat_lt,hi,decide_true,if_true,Ye,List.getElem?_eq_getElem hi,Option.bind_some,hap,Y4 (show i < 9223372036854775807 by omega),hstep i hi]) (by
   rw [h1]; simp)
  exact this
def Ki (k : Nat) (b : UInt8) : UInt8:=shlB b (k : Int) ||| HJ b ((8 - k : Nat) : Int)
theorem v_rot1 (b : UInt8) : Ya b 1 = some (Ki 1 b):=by
 have e1 : wru (BitVec.ofInt 64 (IntKind.u64.wrap 1) &&& BitVec.ofInt 64 7).toNat = 1:=by decide +kernel
 have e2 : IntKind.u64.wrap (8 - 1) = 7:=by decide +kernel
 have e3 : Xd 1 = some ():=rfl
 have e4 : Xd 7 = some ():=rfl
 unfold Ya
 simp only [e1,e2,e3,e4,Option.bind_some]
 rfl
theorem v_rot4 (b : UInt8) : Ya b 4 = some (Ki 4 b):=by
 have e1 : wru (BitVec.ofInt 64 (IntKind.u64.wrap 4) &&& BitVec.ofInt 64 7).toNat = 4:=by decide +kernel
 have e2 : IntKind.u64.wrap (8 - 4) = 4:=by decide +kernel
 have e3 : Xd 4 = some ():=rfl
 unfold Ya
 simp only [e1,e2,e3,Option.bind_some]
 rfl
def HL (k : Nat) (b : UInt8) : UInt8:=ZG (Hf (orI (Bu (bI b) (k : Int)) (TC (Bu (bI b) (k : Int)) 8)) 255)
theorem Bn {p : UInt8 → Bool} (h : ((List.range 256).all fun n=>p (UInt8.ofNat n)) = true) (b : UInt8) : p b = true:=by
 have:=List.all_eq_true.1 h b.toNat (by simpa using UInt8.toNat_lt b)
 simpa using this
theorem turn0 (b : UInt8) : HL 0 b = b:=by
 have:=Bn (p:=fun b=>HL 0 b == b) (by decide +kernel) b
 simpa using this
theorem turn1 (b : UInt8) : HL 1 b = Ki 1 b:=by
 have:=Bn (p:=fun b=>HL 1 b == Ki 1 b) (by decide +kernel) b
 simpa using this
theorem turn4 (b : UInt8) : HL 4 b = Ki 4 b:=by
 have:=Bn (p:=fun b=>HL 4 b == Ki 4 b) (by decide +kernel) b
 simpa using this
theorem yk (b : UInt8) (k : Nat) (h : k < 64) : XG b (k : Int) = some (HL k b):=by
 have e1 : IntKind.u64.wrap (k : Int) = (k : Int):=yf k (by omega)
 unfold XG
 rw [e1]
 have e2 : Xd (k : Int) = some ():=by unfold Xd; rw [if_pos (by omega)]
 rw [e2]; rfl
def Bg (x : UInt8) : UInt8:=((TT 285 x ^^^ Ki 1 (TT 285 x)) ^^^ Ki 4 (TT 285 x)) ^^^ 90
def Tc (n : Int) : GCipher:=⟨285,vf 256 fun x=>Bg (UInt8.ofNat x),mf fun i j=>TT 285 (UInt8.ofNat (i ^^^ (4 + j))),vf 16 fun i=>UInt8.ofNat ((13 * i + 4) % 16),n⟩
theorem Ag {i : Nat} (h : i < 256) : decide ((i : Int) < 256) = true:=by simp; omega
theorem Hq (L : Vector UInt8 256 × Int → Option (Fl (Vector UInt8 256 × Int) (Vector UInt8 256))) (h : Nat → UInt8) (hL : ∀ i : Nat,i < 256 → ∀ a : Nat → UInt8,L (vf 256 a,(i : Int)) = some (.nx ((vf 256 a).setIfInBounds i (h i),wr ((i : Int) + 1))))
  (he : ∀ v,L (v,256) = some (.ex v)) : Zz L (Vector.replicate 256 0,0) = some (vf 256 h):=by
 rw [UU]
 exact Wm L (fun _=>0) h (by omega) 0 (by omega) (fun j hj=>by omega) (fun i _ hi a _ _=>hL i hi a) he
theorem zh (E : UInt8 → Option UInt8) (hE : ∀ a,E a = some (TT 285 a)) (L1 : Mat × Int → Mat × Int → Option (Fl (Mat × Int) Mat)) (L0 : Mat × Int → Option (Fl (Mat × Int) Mat))
  (h1 : ∀ s t,L1 s t = if (decide (t.2 < 4)) = true then ((E (ZG (JF s.2 (wr (4 + t.2))))).bind fun r=>(ZI t.1 s.2).bind fun x=>(ZI x t.2).bind fun _=>some (Fl.nx ((t.1.setIfInBounds (s.2).toNat (x.setIfInBounds (t.2).toNat r)),wr (t.2 + 1)))) else (some (Fl.ex t.1)))
  (h0 : ∀ s,L0 s = if (decide (s.2 < 4)) = true then ((Zz (L1 s) (s.1,0) : Option Mat).bind fun j=>some (Fl.nx (j,wr (s.2 + 1)))) else (some (Fl.ex s.1))) :
  Zz L0 (Vector.replicate 4 (Vector.replicate 4 (0 : UInt8)),0) = some (mf fun i j=>TT 285 (UInt8.ofNat (i ^^^ (4 + j)))):=by
 have inner : ∀ (i : Nat) (hi : i < 4) (g : MF),Zz (L1 (mf g,(i : Int))) (mf g,0) = some (mf fun r c=>if r = i then TT 285 (UInt8.ofNat (i ^^^ (4 + c))) else g r c):=by
  intro i hi g
  have:=ZW (f:=L1 (mf g,(i : Int))) (fun j : Nat=>(mf fun r c=>if r = i ∧ c < j then TT 285 (UInt8.ofNat (i ^^^ (4 + c))) else g r c,(j : Int))) 0 4 (by omega) (t:=mf fun r c=>if r = i then TT 285 (UInt8.ofNat (i ^^^ (4 + c))) else g r c) (fun j _ hj=>by
   have e1 : wr (4 + (j : Int)) = ((4 + j : Nat) : Int):=by rw [YD (by omega)]; omega
   rw [h1]
   simp only [lt4 hj,if_true,e1,Q0 i (4 + j) (by omega) (by omega),Vv,hE,Option.bind_some,Uz _ hi,ZQ _ hj,Int.toNat_natCast,Te,Ko,wr4 (show j < 1000 by omega)]
   refine congrArg (fun z=>some (Fl.nx (z,((j + 1 : Nat) : Int)))) (WG fun r _ c _=>?_)
   by_cases hr : r = i
   ·subst hr
    by_cases hc : c = j
    ·subst hc; simp
    ·by_cases hc2 : c < j
     ·simp [hc,hc2,show c < j + 1 by omega]
     ·simp [hc,hc2,show ¬ c < j + 1 by omega]
   ·simp [hr]) (by
   rw [h1]
   simp only [show decide (((4 : Nat) : Int) < 4) = false from rfl,Bool.false_eq_true,if_false]
   refine congrArg (fun z=>some (Fl.ex z)) (WG fun r _ c hc=>?_)
   by_cases hr : r = i <;> simp [hr,hc])
  have e0 : (mf fun r c=>if r = i ∧ c < 0 then TT 285 (UInt8.ofNat (i ^^^ (4 + c))) else g r c) = mf g:=WG fun r _ c _=>by simp
  simp only [e0] at this
  exact this
 have:=ZW (f:=L0) (fun i : Nat=>(mf fun r c=>if r < i then TT 285 (UInt8.ofNat (r ^^^ (4 + c))) else 0,(i : Int))) 0 4 (by omega) (t:=mf fun i j=>TT 285 (UInt8.ofNat (i ^^^ (4 + j)))) (fun i _ hi=>by
  rw [h0]
  simp only [lt4 hi,if_true,inner i hi,Option.bind_some,wr4 (show i < 1000 by omega)]
  refine congrArg (fun z=>some (Fl.nx (z,((i + 1 : Nat) : Int)))) (WG fun r _ c _=>?_)
  by_cases hr : r = i
  ·subst hr; simp
  ·by_cases hc2 : r < i
   ·simp [hr,hc2,show r < i + 1 by omega]
   ·simp [hr,hc2,show ¬ r < i + 1 by omega]) (by
  rw [h0]
  simp only [show decide (((4 : Nat) : Int) < 4) = false from rfl,Bool.false_eq_true,if_false]
  exact congrArg (fun z=>some (Fl.ex z)) (WG fun r hr c hc=>by simp [hr]))
 have e0 : (mf fun r c=>if r < 0 then TT 285 (UInt8.ofNat (r ^^^ (4 + c))) else 0) = mf fun _ _=>0:=WG fun r _ c _=>by simp
 simp only [e0] at this
 rw [AO]
 exact this
theorem H1 (L : Blk × Int → Option (Fl (Blk × Int) Blk))
  (hL : ∀ s,L s = if (decide (s.2 < 16)) = true then ((ZI s.1 s.2).bind fun _=>some (Fl.nx ((s.1.setIfInBounds (s.2).toNat (ZG (Int.tmod (wr ((wr (13 * s.2)) + 4)) 16))),wr (s.2 + 1)))) else (some (Fl.ex s.1))) :
  Zz L (Vector.replicate 16 0,0) = some (vf 16 fun i=>UInt8.ofNat ((13 * i + 4) % 16)):=by
 rw [UU]
 exact Wm L (fun _=>0) (fun i=>UInt8.ofNat ((13 * i + 4) % 16)) (by omega) 0 (by omega) (fun j hj=>by omega) (fun i _ hi a _ _=>by
  have e1 : wr (13 * (i : Int)) = 13 * (i : Int):=YD (by omega)
  have e2 : wr (13 * (i : Int) + 4) = ((13 * i + 4 : Nat) : Int):=by rw [YD (by omega)]; omega
  have e3 : Int.tmod ((13 * i + 4 : Nat) : Int) 16 = (((13 * i + 4) % 16 : Nat) : Int):=by rw [Int.tmod_eq_emod_of_nonneg (by omega)]; omega
  rw [hL]
  simp only [KE hi,if_true,ZQ _ hi,Option.bind_some,e1,e2,e3,Vv,Int.toNat_natCast]) (fun v=>by rw [hL]; simp)
theorem Bw (n : Int) : WK n = some (Tc n):=by
 have hinv : ∀ a,Yf 285 a = some (TT 285 a):=fun a=>Qz 285 (by omega) a
 have h1:=Hq X8 (fun x=>Bg (UInt8.ofNat x)) (fun i hi a=>by
  unfold X8
  simp only [Ag hi,if_true,Vv,hinv,v_rot1,v_rot4,Option.bind_some,ZQ _ hi,Int.toNat_natCast]
  rfl) (fun v=>by unfold X8; simp)
 have h2:=zh (Yf 285) hinv W9 W5 (fun s t=>by unfold W9; rfl) (fun s=>by unfold W5; rfl)
 have h3:=H1 W8 (fun s=>by unfold W8; rfl)
 unfold WK Tc
 simp only [h1,h2,h3,Option.bind_some]
theorem ka (L : UInt8 × UInt8 × Int → Option (Fl (UInt8 × UInt8 × Int) UInt8)) (T : UInt8 → UInt8 → Option UInt8) (hT : ∀ a b,T a b = some (ZY 285 a b))
  (hL : ∀ s,L s = if (decide (s.2.2 > 0)) = true then (((if ((Int.tmod s.2.2 2) == 1) = true then ((T s.1 s.2.1).bind fun r=>some r) else (some s.1) : Option UInt8).bind fun j24=>(T s.2.1 s.2.1).bind fun r32=>some (j24,r32) : Option (UInt8 × UInt8)).bind fun j21=>some (Fl.nx (j21.1,j21.2,wr (Int.tdiv s.2.2 2)))) else (some (Fl.ex s.1))) :
  ∀ (f k : Nat) (a o : UInt8),k < 2 ^ f → f ≤ 62 → Zz L (o,a,(k : Int)) = some (Hk 285 f a k o):=by
 intro f
 induction f with
 | zero =>
  intro k a o hk _
  have : k = 0:=by simpa using hk
  subst this
  exact Y3 (by rw [hL]; simp [Hk])
 | succ f ih =>
  intro k a o hk hf
  by_cases h0 : k = 0
  ·subst h0
   exact Y3 (by rw [hL]; simp [Hk])
  ·have hlt : k < 9223372036854775808:=Nat.lt_of_lt_of_le hk (Nat.pow_le_pow_right (by omega : 0 < 2) (by omega : f + 1 ≤ 63))
   have hst : L (o,a,(k : Int)) = some (.nx (if k % 2 = 1 then ZY 285 o a else o,ZY 285 a a,((k / 2 : Nat) : Int))):=by
    rw [hL]
    have c1 : (k : Int) > 0:=by omega
    have e3 : ((((k % 2 : Nat) : Int)) == 1) = decide (k % 2 = 1):=by
     rw [Bool.eq_iff_iff,beq_iff_eq,decide_eq_true_eq]; omega
    simp only [c1,decide_true,if_true,kF,jQ,hT,e3,Option.bind_some,AT (k / 2) (by omega)]
    by_cases c2 : k % 2 = 1 <;> simp [c2]
   rw [XE hst,ih (k / 2) _ _ (by rw [Nat.pow_succ] at hk; omega) (by omega)]
   conv=>rhs; unfold Hk
   rw [if_neg h0]
theorem yx : VQ 285 254 = some (vf 256 fun x=>TT 285 (UInt8.ofNat x)):=by
 have hp:=ka (Vo 285) (YI 285) (Ku 285 (by omega) (by omega)) (fun s=>by unfold Vo; rfl)
 have hp2 : ∀ a,Zz (Vo 285) (1,a,254) = some (TT 285 a):=fun a=>hp 8 254 a 1 (by omega) (by omega)
 have h1:=Hq (Vt 285 254) (fun x=>TT 285 (UInt8.ofNat x)) (fun i hi a=>by
  unfold Vt
  simp only [Ag hi,if_true,Vv,hp2,Option.bind_some,ZQ _ hi,Int.toNat_natCast]) (fun v=>by unfold Vt; simp)
 unfold VQ
 simp only [h1,Option.bind_some]
def rots (x : UInt8) : UInt8:=((90 ^^^ x) ^^^ Ki 1 x) ^^^ Ki 4 x
theorem HF : Wc ([0,1,4] : List Int) 90 = some (vf 256 fun x=>rots (UInt8.ofNat x)):=by
 have t0 : ∀ b,XG b 0 = some b:=fun b=>by have:=yk b 0 (by omega); rw [turn0] at this; exact this
 have t1 : ∀ b,XG b 1 = some (Ki 1 b):=fun b=>by have:=yk b 1 (by omega); rw [turn1] at this; exact this
 have t4 : ∀ b,XG b 4 = some (Ki 4 b):=fun b=>by have:=yk b 4 (by omega); rw [turn4] at this; exact this
 have w1 : wr 1 = 1:=by decide
 have w2 : wr 2 = 2:=by decide
 have w3 : wr 3 = 3:=by decide
 have hin : ∀ (s : Vector UInt8 256 × Int),Zz (Z4 [0,1,4] s) (90,0) = some (rots (ZG s.2)):=by
  intro s
  rw [XE (f:=Z4 [0,1,4] s) (s:=(90,0)) (s':=(90 ^^^ ZG s.2,1)) (by unfold Z4; simp [t0,w1,idx])]
  rw [XE (f:=Z4 [0,1,4] s) (s':=((90 ^^^ ZG s.2) ^^^ Ki 1 (ZG s.2),2)) (by unfold Z4; simp [t1,w2,idx])]
  rw [XE (f:=Z4 [0,1,4] s) (s':=(((90 ^^^ ZG s.2) ^^^ Ki 1 (ZG s.2)) ^^^ Ki 4 (ZG s.2),3)) (by unfold Z4; simp [t4,w3,idx])]
  exact Y3 (by unfold Z4; simp; rfl)
 have h1:=Hq (XL [0,1,4] 90) (fun x=>rots (UInt8.ofNat x)) (fun i hi a=>by
  unfold XL
  simp only [Ag hi,if_true,hin,Vv,Option.bind_some,ZQ _ hi,Int.toNat_natCast]) (fun v=>by unfold XL; simp)
 unfold Wc
 simp only [h1,Option.bind_some]
theorem jy (f g : Nat → UInt8) : V5 (vf 256 f) (vf 256 g) = some (vf 256 fun x=>g (f x).toNat):=by
 have hv : ∀ x : UInt8,ZI (vf 256 g) (bI x) = some (g x.toNat):=fun x=>ZQ g (UInt8.toNat_lt x)
 have h1:=Hq (VO (vf 256 f) (vf 256 g)) (fun x=>g (f x).toNat) (fun i hi a=>by
  unfold VO
  simp only [Ag hi,if_true,Option.bind_some,ZQ _ hi,hv,Int.toNat_natCast]) (fun v=>by unfold VO; simp)
 unfold V5
 simp only [h1,Option.bind_some]
theorem z2 (x : UInt8) : rots (UInt8.ofNat (TT 285 x).toNat) = Bg x:=by
 rw [UInt8.ofNat_toNat]
 unfold rots Bg
 ac_rfl
theorem yr (n : Int) : VK n = some (Tc n):=by
 have hinv : ∀ a,W2 285 a = some (TT 285 a):=fun a=>jY 285 (by omega) (by omega) a
 have h2:=zh (W2 285) hinv Um Up (fun s t=>by unfold Um; rfl) (fun s=>by unfold Up; rfl)
 have h3:=H1 Ul (fun s=>by unfold Ul; rfl)
 unfold VK Tc
 simp only [yx,HF,jy,z2,h2,h3,Option.bind_some]

theorem AE {α : Type} (n : Nat) (f : Nat → α) : (vf n f).toList = (List.range n).map f:=by
 apply List.ext_getElem
 ·simp
 ·intro i h1 h2
  simp at h1
  rw [Vector.getElem_toList,Qs f h1]; simp
theorem jm : kQ ((List.range 256).map fun x=>Bg (UInt8.ofNat x)) = true:=by decide +kernel
theorem A3 : TI (vf 16 fun i=>UInt8.ofNat ((13 * i + 4) % 16)) = true:=by
 unfold TI
 rw [AE]
 decide +kernel
theorem AS : KM 285 = true:=by decide +kernel
theorem jh : (detC 285 (mf fun i j=>TT 285 (UInt8.ofNat (i ^^^ (4 + j)))) != 0) = true:=by decide +kernel
theorem zF (n : Int) (h : 1 ≤ n ∧ n ≤ 20) : YL (Tc n) = true:=by
 unfold YL Tc
 simp only [AE,jm,A3,AS,Bool.true_and,h,decide_true,Bool.and_true,and_self]
 exact jh
theorem KN (p0 : List (List UInt8)) (hl : p0.flatten.length ≤ 140737488355328) (hn : p0.length < 9223372036854775807) : Z2 p0 = some p0.flatten:=by
 obtain ⟨a1,a2⟩:=Af 1 p0 (Xc p0) (Y7 p0) (fun s=>by unfold Xc; rfl) (fun s=>by unfold Y7; rfl) (by omega) (by omega) hn
 have hg : Yw (p0.flatten.length : Int) = some []:=by
  unfold Yw
  exact kb 1 _ _ (by omega) (by omega)
 unfold Z2
 simp only [a1,a2,hg,Option.bind_some]
theorem JP (l : List UInt8) (h : l.length ≤ 140737488355328) : Ys l = some l:=by
 unfold Ys
 rw [X7 (by simp; omega)]; rfl
theorem BX (l : List UInt8) (h : l.length ≤ 140737488355328) : Vi l = some l:=by
 unfold Vi
 rw [X7 (by simp; omega)]; rfl
theorem HS {l : List UInt8} {n : Nat} (h : n ≤ l.length) : TY n l = some (vf n fun j=>l.getD j 0):=by
 unfold TY
 rw [dif_pos h]
 refine congrArg some (Td fun i hi=>?_)
 rw [Qs _ hi,List.getD_eq_getElem?_getD,List.getElem?_eq_getElem (by omega)]
 simp
theorem zd {l : List UInt8} {i j : Nat} (h : i ≤ j) (h2 : j ≤ l.length) : ∃ r,slc l (i : Int) (j : Int) = some r ∧ r.length = j - i ∧ ∀ k,k < j - i → r.getD k 0 = l.getD (i + k) 0:=by
 refine ⟨_,AJ h h2,by simp; omega,fun k hk=>?_⟩
 rw [List.getD_eq_getElem?_getD,List.getD_eq_getElem?_getD,List.getElem?_drop,List.getElem?_take,if_pos (by omega)]

def beL (n : Int) : Nat → List UInt8
 | 0=>[]
 | k + 1=>ZG (TC n ((8 * k : Nat) : Int)) :: beL n k
theorem Au (n : Int) : ∀ k,(beL n k).length = k
 | 0=>rfl
 | k + 1=>by rw [beL,List.length_cons,Au n k]
theorem yT (n : Int) (L : List UInt8 × Int → Option (Fl (List UInt8 × Int) (List UInt8))) (K : Nat)
  (hL : ∀ (k : Nat) (acc : List UInt8),k < K → acc.length ≤ 100000000 → L (acc,(k : Int)) = some (.nx (acc ++ [ZG (TC n ((8 * k : Nat) : Int))],(k : Int) - 1))) (he : ∀ acc,L (acc,-1) = some (.ex acc)) :
  ∀ (k : Nat) (acc : List UInt8),k ≤ K → acc.length + k ≤ 100000000 → Zz L (acc,(k : Int) - 1) = some (acc ++ beL n k):=by
 intro k
 induction k with
 | zero=>intro acc _ _; rw [show ((0 : Nat) : Int) - 1 = -1 from rfl,Y3 (he acc)]; simp [beL]
 | succ k ih =>
  intro acc hk hl
  have e : ((k + 1 : Nat) : Int) - 1 = (k : Int):=by omega
  rw [e,XE (hL k acc (by omega) (by omega)),ih _ (by omega) (by simp; omega)]
  simp [beL]
theorem zB (n : Int) (m : Nat) (hm : m ≤ 100) : Ww n (m : Int) = some (beL n m):=by
 have h:=yT n (WW n) 100 (fun k acc hk hl=>by
  unfold WW
  have e1 : wr (8 * (k : Int)) = ((8 * k : Nat) : Int):=by rw [YD (by omega)]; omega
  have e2 : Xd ((8 * k : Nat) : Int) = some ():=by unfold Xd; rw [if_pos (by omega)]
  have e3 : wr ((k : Int) - 1) = (k : Int) - 1:=YD (by omega)
  have e4 : decide ((k : Int) ≥ 0) = true:=by simp
  simp only [e1,e2,e3,e4,if_true,Option.bind_some]
  rw [X7 (by simp; omega)]; rfl) (fun acc=>by unfold WW; simp) m [] hm (by simp; omega)
 have e : wr ((m : Int) - 1) = (m : Int) - 1:=YD (by omega)
 unfold Ww
 rw [e,h]; rfl
theorem and255 (x : Int) : ZG (Hf x 255) = ZG x:=by
 have h1 : (BitVec.ofInt 64 255) = (255 : BitVec 64):=rfl
 have h2 : (BitVec.ofInt 64 x &&& BitVec.ofInt 64 255).toNat = (x % 256).toNat:=by
  rw [BitVec.toNat_and,h1,show (255 : BitVec 64).toNat = 2 ^ 8 - 1 from rfl,Nat.and_two_pow_sub_one_eq_mod,BitVec.toNat_ofInt]
  omega
 unfold Hf ZG
 rw [h2,YD (by omega)]
 congr 1
 omega
def Vc (n : Nat) : Nat:=(24 - n % 16) % 16
def QN (d : List UInt8) : List UInt8:=((d ++ [128]) ++ List.replicate (Vc (d.length + 1)) 0) ++ beL (d.length : Int) 8
theorem A1 (d : List UInt8) : ∃ n,(QN d).length = 16 * n ∧ n ≤ d.length + 2:=by
 have : (QN d).length = d.length + 1 + Vc (d.length + 1) + 8:=by simp [QN,Au]; omega
 refine ⟨(d.length + 1 + Vc (d.length + 1) + 8) / 16,?_,?_⟩
 ·rw [this]; unfold Vc; omega
 ·unfold Vc; omega
theorem zP (L : List UInt8 → Option (Fl (List UInt8) (List UInt8))) (hL : ∀ s,L s = if ((Int.tmod (s.length : Int) 16) != 8) = true then ((app 1 s ([0] : List UInt8)).bind fun (_ : List UInt8)=>some (Fl.nx (s ++ ([0] : List UInt8)))) else (some (Fl.ex s)))
  (l : List UInt8) (hl : l.length ≤ 100000000) : Zz L l = some (l ++ List.replicate (Vc l.length) 0):=by
 have ht : ∀ n : Nat,Int.tmod (n : Int) 16 = ((n % 16 : Nat) : Int):=fun n=>by rw [Int.tmod_eq_emod_of_nonneg (by omega)]; omega
 have:=ZW (f:=L) (fun i : Nat=>l ++ List.replicate i 0) 0 (Vc l.length) (Nat.zero_le _) (t:=l ++ List.replicate (Vc l.length) 0) (fun i _ hi=>by
  rw [hL,ht]
  have hz : Vc l.length < 16:=by unfold Vc; omega
  have e : ((((l ++ List.replicate i 0).length % 16 : Nat) : Int) != 8) = true:=by
   simp only [List.length_append,List.length_replicate,bne_iff_ne,ne_eq]
   unfold Vc at hi; omega
  rw [e,if_pos rfl,X7 (by simp; omega)]
  simp [List.replicate_succ']) (by
  rw [hL,ht]
  have e : ((((l ++ List.replicate (Vc l.length) 0).length % 16 : Nat) : Int) != 8) = false:=by
   simp only [List.length_append,List.length_replicate,bne_eq_false_iff_eq]
   unfold Vc; omega
  rw [e]; rfl)
 simpa using this
theorem AA (d : List UInt8) (h : d.length ≤ 10000000) : WY d = some (QN d):=by
 have h1:=zP Vy (fun s=>by unfold Vy; rfl) (d ++ [128]) (by simp; omega)
 have h2:=zB (d.length : Int) 8 (by omega)
 have h3 : Ww (d.length : Int) 8 = some (beL (d.length : Int) 8):=h2
 have hz : Vc (d.length + 1) < 16:=by unfold Vc; omega
 have e : (d ++ [128]).length = d.length + 1:=by simp
 rw [e] at h1
 unfold WY QN
 rw [JP d (by omega),Option.bind_some,X7 (by simp; omega),Option.bind_some,h1,Option.bind_some,h3,Option.bind_some,X7 (by simp [Au]; omega)]
 rfl
theorem jZ (d : List UInt8) (h : d.length ≤ 10000000) : UI d = some (QN d):=by
 have h1:=zP Tb (fun s=>by unfold Tb; rfl) (d ++ [128]) (by simp; omega)
 have hz : Vc (d.length + 1) < 16:=by unfold Vc; omega
 have e : (d ++ [128]).length = d.length + 1:=by simp
 rw [e] at h1
 have h2:=yT (d.length : Int) (Vp d) 100 (fun k acc hk hl=>by
  unfold Vp
  have e1 : wr (8 * (k : Int)) = ((8 * k : Nat) : Int):=by rw [YD (by omega)]; omega
  have e5 : IntKind.u64.wrap ((8 * k : Nat) : Int) = ((8 * k : Nat) : Int):=yf _ (by omega)
  have e2 : Xd ((8 * k : Nat) : Int) = some ():=by unfold Xd; rw [if_pos (by omega)]
  have e3 : wr ((k : Int) - 1) = (k : Int) - 1:=YD (by omega)
  have e4 : decide ((k : Int) ≥ 0) = true:=by simp
  simp only [e1,e5,e2,e3,e4,if_true,Option.bind_some,and255]
  rw [X7 (by simp; omega)]; rfl) (fun acc=>by unfold Vp; simp) 8 ((d ++ [128]) ++ List.replicate (Vc (d.length + 1)) 0) (by omega) (by simp; omega)
 have h3 : Zz (Vp d) ((d ++ [128]) ++ List.replicate (Vc (d.length + 1)) 0,7) = some (((d ++ [128]) ++ List.replicate (Vc (d.length + 1)) 0) ++ beL (d.length : Int) 8):=h2
 unfold UI QN
 rw [BX d (by omega),Option.bind_some,X7 (by simp; omega),Option.bind_some,h1,Option.bind_some,h3]
 rfl

def y4 (l : List UInt8) (i : Nat) : Blk:=vf 16 fun j=>l.getD (16 * i + j) 0
def XT (l : List UInt8) (n : Nat) : List Blk:=(List.range n).map (y4 l)
theorem T6 (l : List UInt8) (n : Nat) : (XT l n).length = n:=by simp [XT]
theorem KS (l : List UInt8) (n : Nat) : XT l (n + 1) = XT l n ++ [y4 l n]:=by simp [XT,List.range_succ]
theorem z9 (l : List UInt8) (n : Nat) (hl : l.length = 16 * n) (hn : n ≤ 100000000) : VD l = some (XT l n):=by
 have:=ZW (f:=Wk l) (fun i : Nat=>(XT l i,((16 * i : Nat) : Int))) 0 n (Nat.zero_le _) (t:=XT l n) (fun i _ hi=>by
  unfold Wk
  have e1 : wr (((16 * i : Nat) : Int) + 16) = ((16 * (i + 1) : Nat) : Int):=by rw [YD (by omega)]; omega
  have e2 : decide (((16 * i : Nat) : Int) < (l.length : Int)) = true:=by simp; omega
  obtain ⟨r,r1,r2,r3⟩:=zd (l:=l) (i:=16 * i) (j:=16 * (i + 1)) (by omega) (by omega)
  have e3 : TY 16 r = some (y4 l i):=by
   rw [HS (by omega)]
   exact congrArg some (YV fun j hj=>r3 j (by omega))
  simp only [e1,e2,if_true,r1,e3,Option.bind_some]
  rw [X7 (by rw [T6]; simp; omega),KS]; rfl) (by
  unfold Wk
  have e2 : decide (((16 * n : Nat) : Int) < (l.length : Int)) = false:=by simp; omega
  simp only [e2,Bool.false_eq_true,if_false])
 have h2 : Zz (Wk l) ([],0) = _:=this
 unfold VD
 rw [h2]; rfl
theorem AZ (l : List UInt8) (n : Nat) (hl : l.length = 16 * n) (hn : n ≤ 100000000) : Vr l = some (XT l n):=by
 have:=ZW (f:=X0 l) (fun i : Nat=>(XT l i,((16 * i : Nat) : Int))) 0 n (Nat.zero_le _) (t:=XT l n) (fun i _ hi=>by
  unfold X0
  have e1 : wr (((16 * i : Nat) : Int) + 16) = ((16 * (i + 1) : Nat) : Int):=by rw [YD (by omega)]; omega
  have e2 : decide (((16 * (i + 1) : Nat) : Int) ≤ (l.length : Int)) = true:=by simp; omega
  have h3:=Wm (XZ l (XT l i,((16 * i : Nat) : Int))) (fun _=>0) (fun j=>l.getD (16 * i + j) 0) (by omega) 0 (by omega) (fun j hj=>by omega) (fun j _ hj a _ _=>by
   unfold XZ
   have e4 : wr (((16 * i : Nat) : Int) + (j : Int)) = ((16 * i + j : Nat) : Int):=by rw [YD (by omega)]; omega
   have e5 : 16 * i + j < l.length:=by omega
   simp only [KE hj,if_true,e4,Ye,List.getElem?_eq_getElem e5,ZQ _ hj,Option.bind_some,Int.toNat_natCast,List.getD_eq_getElem?_getD,Option.getD_some]) (fun v=>by unfold XZ; simp)
  have h4 : Zz (XZ l (XT l i,((16 * i : Nat) : Int))) (Vector.replicate 16 0,0) = some (y4 l i):=by rw [UU]; exact h3
  simp only [e1,e2,if_true,h4,Option.bind_some]
  rw [X7 (by rw [T6]; simp; omega),KS]; rfl) (by
  unfold X0
  have e1 : wr (((16 * n : Nat) : Int) + 16) = ((16 * (n + 1) : Nat) : Int):=by rw [YD (by omega)]; omega
  have e2 : decide (((16 * (n + 1) : Nat) : Int) ≤ (l.length : Int)) = false:=by simp; omega
  simp only [e1,e2,Bool.false_eq_true,if_false])
 have h2 : Zz (X0 l) ([],0) = _:=this
 unfold Vr
 rw [h2]; rfl

abbrev Dig:=Vector UInt8 32
def df (v : Dig) (i : Nat) : UInt8:=v[i]?.getD default
theorem vf_df (v : Dig) : v = vf 32 (df v):=yM v
def Qm : Dig:=vf 32 fun i=>UInt8.ofNat (17 * i)
theorem lt32 {i : Nat} (h : i < 32) : decide ((i : Int) < 32) = true:=by simp; omega
theorem kY : XI = some Qm:=by
 have h:=Wm YQ (fun _=>0) (fun i=>UInt8.ofNat (17 * i)) (by omega) 0 (by omega) (fun j hj=>by omega) (fun i _ hi a _ _=>by
  unfold YQ
  have e1 : wr (17 * (i : Int)) = ((17 * i : Nat) : Int):=by rw [YD (by omega)]; omega
  simp only [lt32 hi,if_true,ZQ _ hi,Option.bind_some,e1,Vv,Int.toNat_natCast]) (fun v=>by unfold YQ; simp)
 have h2 : Zz YQ (Vector.replicate 32 0,0) = some Qm:=by rw [UU]; exact h
 unfold XI
 rw [h2]; rfl
theorem yp : VN = some Qm:=by
 have h:=Wm Wo (fun _=>0) (fun i=>UInt8.ofNat (17 * i)) (by omega) 0 (by omega) (fun j hj=>by omega) (fun i _ hi a _ _=>by
  unfold Wo
  have e1 : wr (17 * (i : Int)) = ((17 * i : Nat) : Int):=by rw [YD (by omega)]; omega
  have e2 : Int.tmod ((17 * i : Nat) : Int) 256 = ((17 * i % 256 : Nat) : Int):=by rw [Int.tmod_eq_emod_of_nonneg (by omega)]; omega
  simp only [lt32 hi,if_true,ZQ _ hi,Option.bind_some,e1,e2,Vv,jb,Int.toNat_natCast]) (fun v=>by unfold Wo; simp)
 have h2 : Zz Wo (Vector.replicate 32 0,0) = some Qm:=by rw [UU]; exact h
 unfold VN
 rw [h2]; rfl
def hiF (s : Nat → UInt8) : Nat → UInt8:=fun i=>s (16 + i)
def B1 (f g : Nat → UInt8) : Nat → UInt8:=fun i=>if i < 16 then f i else g (i - 16)
def y5 (c : GCipher) (k a : Nat → UInt8) : Nat → UInt8:=K8 (An c k a c.Rounds.toNat) a
def absC (c : GCipher) (s m : Nat → UInt8) : Nat → UInt8 :=
 B1 (y5 c (hiF s) (K8 s m)) (y5 c (y5 c (hiF s) (K8 s m)) (K8 (hiF s) m))
theorem zK (s : Nat → UInt8) : Vh (vf 32 s) = some (vf 16 s,vf 16 (hiF s)):=by
 have:=ZW (f:=XY (vf 32 s)) (fun i : Nat=>(vf 16 (fun j=>if j < i then hiF s j else 0),vf 16 (fun j=>if j < i then s j else 0),(i : Int))) 0 16 (by omega) (t:=(vf 16 (hiF s),vf 16 s)) (fun i _ hi=>by
  unfold XY
  have e1 : wr (16 + (i : Int)) = ((16 + i : Nat) : Int):=by rw [YD (by omega)]; omega
  simp only [KE hi,if_true,e1,ZQ _ (show i < 32 by omega),ZQ _ (show 16 + i < 32 by omega),ZQ _ hi,Option.bind_some,Int.toNat_natCast,Te,Y4 (show i < 9223372036854775807 by omega)]
  have e : ∀ f : Nat → UInt8,(vf 16 fun j=>if j = i then f i else if j < i then f j else 0) = vf 16 fun j=>if j < i + 1 then f j else 0:=fun f=>YV fun j _=>by
   by_cases h1 : j = i
   ·subst h1; simp
   ·by_cases h2 : j < i
    ·rw [if_neg h1,if_pos h2,if_pos (by omega)]
    ·rw [if_neg h1,if_neg h2,if_neg (by omega)]
  have ea:=e (hiF s)
  have eb:=e s
  rw [eb]
  have ea' : (vf 16 fun j=>if j = i then s (16 + i) else if j < i then hiF s j else 0) = vf 16 fun j=>if j < i + 1 then hiF s j else 0:=ea
  rw [ea']) (by
  unfold XY
  simp only [show decide (((16 : Nat) : Int) < 16) = false from rfl,Bool.false_eq_true,if_false]
  refine congrArg (fun z=>some (Fl.ex z)) (congr (congrArg Prod.mk (YV fun j hj=>by rw [if_pos hj])) (YV fun j hj=>by rw [if_pos hj])))
 have h2 : Zz (XY (vf 32 s)) (vf 16 (fun _=>0),vf 16 (fun _=>0),0) = some (vf 16 (hiF s),vf 16 s):=by
  have e0 : ∀ f : Nat → UInt8,(vf 16 fun j=>if j < 0 then f j else 0) = vf 16 fun _=>0:=fun f=>YV fun j _=>by simp
  simp only [e0] at this
  exact this
 unfold Vh
 rw [UU,h2]; rfl
theorem AV (c : GCipher) (h : YL c = true) (s m : Nat → UInt8) : Ws c (vf 32 s) (vf 16 m) = some (vf 32 (absC c s m)):=by
 have hj : ∀ f g : Nat → UInt8,Zz (XX (vf 16 f) (vf 16 g)) (Vector.replicate 32 0,0) = some (vf 32 (B1 f g)):=by
  intro f g
  have:=ZW (f:=XX (vf 16 f) (vf 16 g)) (fun i : Nat=>(vf 32 (fun j=>if j < i then f j else if 16 ≤ j ∧ j < 16 + i then g (j - 16) else 0),(i : Int))) 0 16 (by omega) (t:=vf 32 (B1 f g)) (fun i _ hi=>by
   unfold XX
   have e1 : wr (16 + (i : Int)) = ((16 + i : Nat) : Int):=by rw [YD (by omega)]; omega
   simp only [KE hi,if_true,e1,ZQ _ (show i < 32 by omega),ZQ _ (show 16 + i < 32 by omega),ZQ _ hi,Option.bind_some,Int.toNat_natCast,Te,Y4 (show i < 9223372036854775807 by omega)]
   refine congrArg (fun z=>some (Fl.nx (z,((i + 1 : Nat) : Int)))) (YV fun j hj=>?_)
   by_cases h1 : j = 16 + i
   ·subst h1
    rw [if_pos rfl,if_neg (by omega),if_pos (by omega)]
    congr 1; omega
   ·rw [if_neg h1]
    by_cases h2 : j = i
    ·subst h2; rw [if_pos rfl,if_pos (by omega)]
    ·rw [if_neg h2]
     by_cases h3 : j < i
     ·rw [if_pos h3,if_pos (by omega)]
     ·rw [if_neg h3,if_neg (show ¬ j < i + 1 by omega)]
      by_cases h4 : 16 ≤ j ∧ j < 16 + i
      ·rw [if_pos h4,if_pos (by omega)]
      ·rw [if_neg h4,if_neg (by omega)]) (by
   unfold XX
   simp only [show decide (((16 : Nat) : Int) < 16) = false from rfl,Bool.false_eq_true,if_false]
   refine congrArg (fun z=>some (Fl.ex z)) (YV fun j hj=>?_)
   unfold B1
   by_cases h3 : j < 16
   ·rw [if_pos h3,if_pos h3]
   ·rw [if_neg h3,if_neg h3,if_pos (by omega)])
  have e0 : (vf 32 fun j=>if j < 0 then f j else if 16 ≤ j ∧ j < 16 + 0 then g (j - 16) else 0) = vf 32 fun _=>0:=YV fun j _=>by rw [if_neg (by omega),if_neg (by omega)]
  simp only [e0] at this
  rw [UU]
  exact this
 unfold Ws
 simp only [zK,Option.bind_some,KK,KI c h,hj]
 rfl
theorem jU (c : GCipher) (h : YL c = true) (s m : Nat → UInt8) : Y0 ⟨Xe c⟩ (vf 32 s) (vf 16 m) = some (vf 32 (absC c s m)):=by
 have g1 : ∀ {n : Nat} (f : Nat → UInt8) (k : Nat),k < n → (vf n f).toList.getD k 0 = f k:=fun f k hk=>by
  rw [AE,List.getD_eq_getElem?_getD,List.getElem?_map,List.getElem?_range hk]; rfl
 have hl : ∀ {n : Nat} (f : Nat → UInt8),(vf n f).toList.length = n:=fun f=>by simp
 have cut : ∀ {n : Nat} (f : Nat → UInt8) (i j : Nat),i ≤ j → j ≤ n → ∃ r,slc (vf n f).toList (i : Int) (j : Int) = some r ∧ r.length = j - i ∧ TY (j - i) r = some (vf (j - i) fun k=>f (i + k)) ∧ ∀ k,k < j - i → r.getD k 0 = f (i + k):=by
  intro n f i j hij hjn
  obtain ⟨r,r1,r2,r3⟩:=zd (l:=(vf n f).toList) (i:=i) (j:=j) hij (by rw [hl]; exact hjn)
  have r4 : ∀ k,k < j - i → r.getD k 0 = f (i + k):=fun k hk=>by rw [r3 k hk,g1 f (i + k) (by omega)]
  refine ⟨r,r1,r2,?_,r4⟩
  rw [HS (by omega)]
  exact congrArg some (YV r4)
 obtain ⟨l,l1,l2,l3,l4⟩:=cut (n:=32) s 0 16 (by omega) (by omega)
 obtain ⟨l',l1',l2',l3',l4'⟩:=cut (n:=32) s 16 32 (by omega) (by omega)
 have a1 : slc (vf 32 s).toList (0 : Int) (16 : Int) = some l:=l1
 have a2 : slc (vf 32 s).toList (16 : Int) (32 : Int) = some l':=l1'
 have a3 : TY 16 l = some (vf 16 s):=by
  have : TY 16 l = some (vf 16 fun k=>s (0 + k)):=l3
  rw [this]; exact congrArg some (YV fun k _=>by rw [Nat.zero_add])
 have a4 : TY 16 l' = some (vf 16 (hiF s)):=l3'
 have join : ∀ f g : Nat → UInt8,((slc (vf 16 f).toList (0 : Int) (16 : Int)).bind fun (l56 : (List UInt8))=>(slc (vf 16 g).toList (0 : Int) (16 : Int)).bind fun (l59 : (List UInt8))=>(Z2 ([l56,l59] : (List (List UInt8)))).bind fun (r64 : (List UInt8))=>(TY 32 r64).bind fun (x67 : (Vector UInt8 32))=>some x67 : Option ((Vector UInt8 32))) = some (vf 32 (B1 f g)):=by
  intro f g
  obtain ⟨p,p1,p2,_,p4⟩:=cut (n:=16) f 0 16 (by omega) (by omega)
  obtain ⟨q,q1,q2,_,q4⟩:=cut (n:=16) g 0 16 (by omega) (by omega)
  have b1 : slc (vf 16 f).toList (0 : Int) (16 : Int) = some p:=p1
  have b2 : slc (vf 16 g).toList (0 : Int) (16 : Int) = some q:=q1
  have b3 : Z2 [p,q] = some (p ++ q):=by
   have:=KN [p,q] (by simp; omega) (by simp)
   simpa using this
  rw [b1,Option.bind_some,b2,Option.bind_some,b3,Option.bind_some,HS (by simp; omega),Option.bind_some]
  refine congrArg some (YV fun k hk=>?_)
  unfold B1
  rw [List.getD_eq_getElem?_getD]
  by_cases h1 : k < 16
  ·rw [if_pos h1,List.getElem?_append_left (by omega),← List.getD_eq_getElem?_getD,p4 k (by omega),Nat.zero_add]
  ·rw [if_neg h1,List.getElem?_append_right (by omega),← List.getD_eq_getElem?_getD,q4 (k - p.length) (by omega),Nat.zero_add,show p.length = 16 from p2]
 have in1 : ∀ k a : Nat → UInt8,((Yp ⟨Xe c⟩ (vf 16 k) (vf 16 a)).bind fun (r34 : (Vector UInt8 16))=>(Yn r34 (vf 16 a)).bind fun (r36 : (Vector UInt8 16))=>some r36 : Option (Vector UInt8 16)) = some (vf 16 (y5 c k a)):=fun k a=>by
  rw [KG c h,Option.bind_some,UZ,Option.bind_some]; rfl
 unfold Y0
 rw [a1,Option.bind_some,a3,Option.bind_some,a2,Option.bind_some,a4,Option.bind_some,UZ,Option.bind_some,in1,Option.bind_some,UZ,Option.bind_some,in1,Option.bind_some,join,Option.bind_some]
 rfl

def absV (c : GCipher) (s : Dig) (m : Blk) : Dig:=vf 32 (absC c (df s) (bf m))
theorem yW (c : GCipher) (h : YL c = true) (s : Dig) (m : Blk) : Y0 ⟨Xe c⟩ s m = some (absV c s m) ∧ Ws c s m = some (absV c s m):=by
 have h1:=jU c h (df s) (bf m)
 have h2:=AV c h (df s) (bf m)
 rw [← vf_df,← vf_bf] at h1 h2
 exact ⟨h1,h2⟩
def zO (c : GCipher) (d : List UInt8) : Dig:=(XT (QN d) ((QN d).length / 16)).foldl (absV c) Qm
theorem jM (c : GCipher) (h : YL c = true) (ps : List (List UInt8)) (hl : ps.flatten.length ≤ 10000000) (hn : ps.length < 9223372036854775807) : XF ⟨Xe c⟩ ps = some (zO c ps.flatten):=by
 obtain ⟨n,n1,n2⟩:=A1 ps.flatten
 have e : (QN ps.flatten).length / 16 = n:=by omega
 have h1:=JA (f:=YR ⟨Xe c⟩ (XT (QN ps.flatten) n)) (XT (QN ps.flatten) n) (fun (b : Dig) i=>(b,i)) (absV c) Qm (t:=zO c ps.flatten) (by rw [T6]; omega) (fun i hi=>by
  unfold YR
  simp only [Int.ofNat_lt,hi,decide_true,if_true,Ye,List.getElem?_eq_getElem hi,Option.bind_some,(yW c h _ _).1]) (by
  unfold YR zO
  rw [e]; simp)
 unfold XF
 rw [kY,Option.bind_some,KN ps (by omega) hn,Option.bind_some,AA _ hl,Option.bind_some,z9 _ n n1 (by omega),Option.bind_some]
 have h2 : Zz (YR ⟨Xe c⟩ (XT (QN ps.flatten) n)) (Qm,0) = _:=h1
 rw [h2]; rfl
theorem qk (c : GCipher) (h : YL c = true) (d : List UInt8) (hl : d.length ≤ 10000000) : U7 c d = some (zO c d):=by
 obtain ⟨n,n1,n2⟩:=A1 d
 have e : (QN d).length / 16 = n:=by omega
 have h1:=JA (f:=VR c (XT (QN d) n)) (XT (QN d) n) (fun (b : Dig) i=>(b,i)) (absV c) Qm (t:=zO c d) (by rw [T6]; omega) (fun i hi=>by
  unfold VR
  simp only [Int.ofNat_lt,hi,decide_true,if_true,Ye,List.getElem?_eq_getElem hi,Option.bind_some,(yW c h _ _).2]) (by
  unfold VR zO
  rw [e]; simp)
 unfold U7
 rw [jZ _ hl,Option.bind_some,AZ _ n n1 (by omega),Option.bind_some,yp,Option.bind_some]
 have h2 : Zz (VR c (XT (QN d) n)) (Qm,0) = _:=h1
 rw [h2]; rfl
theorem kA : YL (Tc 8) = true:=zF 8 (by omega)
theorem k8 (n : Int) (h : 1 ≤ n ∧ n ≤ 20) : U8 n = some ⟨Xe (Tc n)⟩:=by
 unfold U8
 rw [Bw,Option.bind_some,zC _ (zF n h)]; rfl
theorem kT (d : Dig) : slc d.toList (0 : Int) (32 : Int) = some d.toList:=by
 have h1 : slc d.toList ((0 : Nat) : Int) ((32 : Nat) : Int) = _:=AJ (Nat.zero_le _) (by simp)
 have h2 : slc d.toList (0 : Int) (32 : Int) = _:=h1
 rw [h2,List.drop_zero,List.take_of_length_le (by simp)]
theorem yQ : ∀ (a b : List UInt8),UF a b = 0 ↔ a = b
 | [],[]=>by simp [UF]
 | [],_ :: _=>by simp [UF]
 | _ :: _,[]=>by simp [UF]
 | x :: a,y :: b=>by
  unfold UF
  by_cases h1 : x < y
  ·have : x ≠ y:=fun e=>by subst e; exact absurd h1 (UInt8.lt_irrefl x)
   simp [h1,this]
  ·by_cases h2 : y < x
   ·have : x ≠ y:=fun e=>by subst e; exact absurd h2 (UInt8.lt_irrefl x)
    simp [h1,h2,this]
   ·have : x = y:=by
     apply UInt8.toNat_inj.1
     rw [UInt8.lt_iff_toNat_lt] at h1 h2
     omega
    subst this
    simp only [h1,if_false,yQ a b]
    simp
theorem BO : ∀ (a b c : List UInt8),UF a b < 0 → UF b c < 0 → UF a c < 0
 | [],_,[],h1,h2=>by
  rename_i b
  cases b with
  | nil=>exact h2
  | cons y b=>simp [UF] at h2
 | [],_,_ :: _,_,_=>by simp [UF]
 | _ :: _,[],_,h1,_=>by simp [UF] at h1
 | _ :: _,_ :: _,[],_,h2=>by simp [UF] at h2
 | x :: a,y :: b,z :: c,h1,h2=>by
  unfold UF at h1 h2 ⊢
  have ih:=BO a b c
  simp only [UInt8.lt_iff_toNat_lt] at h1 h2 ⊢
  by_cases a1 : x.toNat < y.toNat
  ·by_cases b1 : y.toNat < z.toNat
   ·rw [if_pos (by omega)]; omega
   ·rw [if_neg b1] at h2
    by_cases b2 : z.toNat < y.toNat
    ·rw [if_pos b2] at h2; omega
    ·rw [if_pos (by omega)]; omega
  ·rw [if_neg a1] at h1
   by_cases a2 : y.toNat < x.toNat
   ·rw [if_pos a2] at h1; omega
   ·rw [if_neg a2] at h1
    by_cases b1 : y.toNat < z.toNat
    ·rw [if_pos (by omega)]; omega
    ·rw [if_neg b1] at h2
     by_cases b2 : z.toNat < y.toNat
     ·rw [if_pos b2] at h2; omega
     ·rw [if_neg b2] at h2
      rw [if_neg (by omega),if_neg (by omega)]
      exact ih h1 h2
def ltD (a b : Dig) : Bool:=decide (UF a.toList b.toList < 0)
theorem BL {a b c : Dig} (h1 : ltD a b = true) (h2 : ltD b c = true) : ltD a c = true:=by
 unfold ltD at *
 simp only [decide_eq_true_eq] at *
 exact BO _ _ _ h1 h2
theorem JI (a b : Dig) : ZT a b = some (UF a.toList b.toList):=by
 unfold ZT UM
 simp only [kT,Option.bind_some]
theorem BN (a b : Dig) : ∀ (k i : Nat),i + k = 32 → Zz (X6 a b) (i : Int) = some (if UF (a.toList.drop i) (b.toList.drop i) = 0 then .nx () else .ex (decide (UF (a.toList.drop i) (b.toList.drop i) < 0)))
 | 0,i,h=>by
  have : i = 32:=by omega
  subst this
  have e1 : a.toList.drop 32 = []:=by simp
  have e2 : b.toList.drop 32 = []:=by simp
  rw [Y3 (t:=.nx ()) (by unfold X6; simp),e1,e2]
  simp [UF]
 | k + 1,i,h=>by
  have hi : i < 32:=by omega
  have e1 : a.toList.drop i = a[i] :: a.toList.drop (i + 1):=by rw [List.drop_eq_getElem_cons (by simp; omega)]; simp
  have e2 : b.toList.drop i = b[i] :: b.toList.drop (i + 1):=by rw [List.drop_eq_getElem_cons (by simp; omega)]; simp
  have ih:=BN a b k (i + 1) (by omega)
  have hst : X6 a b (i : Int) = some (if a[i] = b[i] then .nx ((i + 1 : Nat) : Int) else .ex (.ex (decide (a[i] < b[i])))):=by
   unfold X6
   simp only [lt32 hi,if_true,Wy,Vector.getElem?_eq_getElem hi,Option.bind_some,Y4 (show i < 9223372036854775807 by omega)]
   by_cases hab : a[i] = b[i]
   ·simp [hab]
   ·have : (a[i] != b[i]) = true:=by simpa using hab
    simp [hab,this]
  rw [e1,e2]
  unfold UF
  by_cases hab : a[i] = b[i]
  ·rw [if_pos hab] at hst
   rw [XE hst,ih]
   have n1 : ¬ (a[i] < b[i]):=by rw [hab]; exact UInt8.lt_irrefl _
   have n2 : ¬ (b[i] < a[i]):=by rw [hab]; exact UInt8.lt_irrefl _
   simp only [n1,n2,if_false]
  ·rw [if_neg hab] at hst
   rw [Y3 hst]
   by_cases n1 : a[i] < b[i]
   ·simp [n1]
   ·have n2 : b[i] < a[i]:=by
     rw [UInt8.lt_iff_toNat_lt] at n1 ⊢
     have : a[i].toNat ≠ b[i].toNat:=fun e=>hab (UInt8.toNat_inj.1 e)
     omega
    simp [n1,n2]
theorem B9 (a b : Dig) : WI a b = some (ltD a b):=by
 have h:=BN a b 32 0 (by omega)
 have h2 : Zz (X6 a b) 0 = _:=h
 unfold WI ltD
 rw [h2,List.drop_zero,List.drop_zero,Option.bind_some]
 by_cases h0 : UF a.toList b.toList = 0
 ·rw [if_pos h0]
  simp [Fl.el,h0]
 ·rw [if_neg h0]; rfl
def Bq (l : List Dig) : Bool:=!((List.range' 1 (l.length - 1)).any fun i=>!ltD (l.getD (i - 1) default) (l.getD i default))
theorem zQ (l : List Dig) (hl : l.length < 9223372036854775807) (E : Dig → Dig → Option Bool) (hE : ∀ a b,E a b = some (!ltD a b)) (L : Int → Option (Fl Int (Fl Unit Bool)))
  (hL : ∀ s,L s = if (decide (s < (l.length : Int))) = true then (((idx l (wr (s - 1))).bind fun x=>(idx l s).bind fun y=>E x y : Option Bool).bind fun j10=>if j10 = true then (some (Fl.ex (Fl.ex false))) else (some (Fl.nx (wr (s + 1))))) else (some (Fl.ex (Fl.nx ())))) :
  ((Zz L 1 : Option (Fl Unit Bool)).bind fun j1=>j1.el (fun _=>some true) (fun r=>some r)) = some (Bq l):=by
 by_cases h0 : l.length = 0
 ·have : l = []:=List.eq_nil_of_length_eq_zero h0
  subst this
  rw [Y3 (t:=.nx ()) (by rw [hL]; simp)]
  rfl
 have h:=jA (f:=L) l.length (fun i=>!ltD (l.getD (i - 1) default) (l.getD i default)) false hl 1 (by omega) (fun i hm hi=>by
  have e : wr ((i : Int) - 1) = ((i - 1 : Nat) : Int):=by rw [YD (by omega)]; omega
  have e1 : i - 1 < l.length:=by omega
  rw [hL,e]
  simp only [Int.ofNat_lt,hi,decide_true,if_true,Ye,List.getElem?_eq_getElem hi,List.getElem?_eq_getElem e1,Option.bind_some,hE,List.getD_eq_getElem?_getD,Option.getD_some]
  split <;> rfl) (by rw [hL]; simp)
 have h2 : Zz L 1 = _:=h
 rw [h2,Option.bind_some]
 unfold Bq
 cases (List.range' 1 (l.length - 1)).any fun i=>!ltD (l.getD (i - 1) default) (l.getD i default) <;> rfl
theorem jv (l : List Dig) (hl : l.length < 9223372036854775807) : Ud l = some (Bq l):=by
 unfold Ud
 exact zQ l hl (fun a b=>(ZT a b).bind fun r=>some (decide (r ≥ 0))) (fun a b=>by
  rw [JI]; unfold ltD
  simp only [Option.bind_some]
  congr 1
  by_cases h : UF a.toList b.toList < 0
  ·have : ¬ (UF a.toList b.toList ≥ 0):=by omega
   simp [h,this]
  ·have : UF a.toList b.toList ≥ 0:=by omega
   simp [h,this]) _ (fun s=>by unfold TE; rfl)
theorem Ba (l : List Dig) (hl : l.length < 9223372036854775807) : Wa l = some (Bq l):=by
 unfold Wa
 exact zQ l hl (fun a b=>(WI a b).bind fun r=>some (!r)) (fun a b=>by rw [B9]; rfl) _ (fun s=>by unfold V9; rfl)
theorem kL {l : List Dig} (h : Bq l = true) : l.Pairwise fun a b=>ltD a b = true:=by
 have h1 : ∀ i (hi : i + 1 < l.length),ltD l[i] l[i + 1] = true:=by
  intro i hi
  unfold Bq at h
  simp only [Bool.not_eq_true',List.any_eq_false,List.mem_range'_1] at h
  have:=h (i + 1) (by omega)
  simpa [List.getD_eq_getElem?_getD,List.getElem?_eq_getElem hi,List.getElem?_eq_getElem (show i < l.length by omega)] using this
 rw [List.pairwise_iff_getElem]
 intro i j hi hj hij
 have key : ∀ (k : Nat) (hk : i + 1 + k < l.length),ltD l[i] l[i + 1 + k] = true:=by
  intro k
  induction k with
  | zero=>intro hk; exact h1 i hk
  | succ k ih=>intro hk; exact BL (ih (by omega)) (h1 (i + 1 + k) hk)
 have:=key (j - (i + 1)) (by omega)
 have e : i + 1 + (j - (i + 1)) = j:=by omega
 simpa only [e] using this

def W3 (l : List Dig) (d : Dig) : Nat:=l.countP fun k=>ltD k d
theorem jR (l : List Dig) (d : Dig) : W3 l d ≤ l.length:=List.countP_le_length
theorem low_at {l : List Dig} (h : l.Pairwise fun a b=>ltD a b = true) (d : Dig) : ∀ i (hi : i < l.length),ltD l[i] d = decide (i < W3 l d):=by
 induction l with
 | nil=>intro i hi; simp at hi
 | cons k l ih =>
  have h2:=List.pairwise_cons.1 h
  intro i hi
  cases hk : ltD k d with
  | true =>
   have e : W3 (k :: l) d = W3 l d + 1:=by unfold W3; rw [List.countP_cons]; simp [hk]
   rw [e]
   cases i with
   | zero=>simpa using hk
   | succ i =>
    have hi' : i < l.length:=by simpa using hi
    rw [List.getElem_cons_succ,ih h2.2 i hi']
    rw [decide_eq_decide]; omega
  | false =>
   have hno : ∀ x ∈ l,ltD x d = false:=by
    intro x hx
    cases hxd : ltD x d with
    | false=>rfl
    | true=>rw [BL (h2.1 x hx) hxd] at hk; cases hk
   have e : W3 (k :: l) d = 0:=by
    unfold W3
    rw [List.countP_eq_zero]
    intro x hx
    rcases List.mem_cons.1 hx with rfl | hx
    ·simp [hk]
    ·simp [hno x hx]
   rw [e]
   cases i with
   | zero=>simpa using hk
   | succ i =>
    have hi' : i < l.length:=by simpa using hi
    rw [List.getElem_cons_succ,hno _ (List.getElem_mem hi')]; simp
theorem yA (l : List Dig) (d : Dig) (hl : l.length < 1000000) : VL l d = some (W3 l d : Int):=by
 have hc : ∀ i,W3 (l.take i) d ≤ 1000000:=fun i=>by have:=jR (l.take i) d; rw [List.length_take] at this; omega
 have:=ZW (f:=Wl l d) (fun i : Nat=>((W3 (l.take i) d : Nat),(i : Int))) 0 l.length (Nat.zero_le _) (t:=((W3 l d : Nat) : Int)) (fun i _ hi=>by
  have hci:=hc i
  unfold Wl
  simp only [Int.ofNat_lt,hi,decide_true,if_true,Ye,List.getElem?_eq_getElem hi,Option.bind_some,B9,Y4 (show i < 9223372036854775807 by omega)]
  have e : W3 (l.take (i + 1)) d = W3 (l.take i) d + (if ltD l[i] d then 1 else 0):=by
   unfold W3
   rw [List.take_succ_eq_append_getElem hi,List.countP_append]
   congr 1
   rw [List.countP_cons]; simp
  rw [e]
  cases ltD l[i] d with
  | true =>
   simp only [if_true,Option.bind_some]
   rw [Y4 (by omega)]
  | false=>simp) (by unfold Wl; simp)
 have h2 : Zz (Wl l d) (0,0) = _:=this
 unfold VL
 rw [h2]; rfl
theorem A7 (l : List Dig) (hp : l.Pairwise fun a b=>ltD a b = true) (d : Dig) (hl : l.length < 1000000) : ∀ (n lo hi : Nat),hi - lo ≤ n → lo ≤ W3 l d → W3 l d ≤ hi → hi ≤ l.length →
  Zz (Zv l d fun z0 z1=>ZT z0 z1) ((hi : Int),(lo : Int)) = some ((W3 l d : Nat) : Int):=by
 intro n
 induction n with
 | zero =>
  intro lo hi h1 h2 h3 h4
  have : lo = W3 l d:=by omega
  have hge : ¬ (W3 l d < hi):=by omega
  refine Y3 ?_
  unfold Zv
  simp [hge,this]
 | succ n ih =>
  intro lo hi h1 h2 h3 h4
  by_cases hlt : lo < hi
  ·have e1 : wr ((lo : Int) + (hi : Int)) = ((lo + hi : Nat) : Int):=by rw [YD (by omega)]; omega
   have e2 : IntKind.u64.wrap ((lo + hi : Nat) : Int) = ((lo + hi : Nat) : Int):=yf _ (by omega)
   have e3 : TC ((lo + hi : Nat) : Int) 1 = (((lo + hi) / 2 : Nat) : Int):=by
    have:=zc (lo + hi) 1 (by omega)
    rw [Nat.shiftRight_eq_div_pow] at this
    exact this
   have e4 : IntKind.i64.wrap (((lo + hi) / 2 : Nat) : Int) = (((lo + hi) / 2 : Nat) : Int):=AT _ (by omega)
   have hm : (lo + hi) / 2 < l.length:=by omega
   have hat:=low_at hp d _ hm
   unfold ltD at hat
   have hst : Zv l d (fun z0 z1=>ZT z0 z1) ((hi : Int),(lo : Int)) = some (.nx (if (lo + hi) / 2 < W3 l d then ((hi : Int),(((lo + hi) / 2 + 1 : Nat) : Int)) else ((((lo + hi) / 2 : Nat) : Int),(lo : Int)))):=by
    unfold Zv
    have c1 : decide ((lo : Int) < (hi : Int)) = true:=by simp; omega
    simp only [c1,if_true,e1,e2,e3,e4,Ye,List.getElem?_eq_getElem hm,Option.bind_some,JI,hat]
    by_cases c : (lo + hi) / 2 < W3 l d
    ·simp only [c,decide_true,if_true,Option.bind_some]
     rw [Y4 (by omega)]
    ·simp [c]
   rw [XE hst]
   by_cases c : (lo + hi) / 2 < W3 l d
   ·rw [if_pos c]
    exact ih _ _ (by omega) (by omega) h3 h4
   ·rw [if_neg c]
    exact ih _ _ (by omega) h2 (by omega) (by omega)
  ·exact ih lo hi (by omega) h2 h3 h4
def Qy (l : List Dig) (d : Dig) : Bool:=l[W3 l d]? == some d
theorem zw {l : List Dig} {d : Dig} (h : Qy l d = true) : W3 l d < l.length:=by
 unfold Qy at h
 simp only [beq_iff_eq] at h
 exact (List.getElem?_eq_some_iff.1 h).1
theorem kK (l : List Dig) (hp : l.Pairwise fun a b=>ltD a b = true) (d : Dig) (hl : l.length < 1000000) : ZH l d (fun z0 z1=>ZT z0 z1) = some ((W3 l d : Int),Qy l d):=by
 have h:=A7 l hp d hl l.length 0 l.length (by omega) (Nat.zero_le _) (jR l d) (Nat.le_refl _)
 have h2 : Zz (Zv l d fun z0 z1=>ZT z0 z1) ((l.length : Int),0) = _:=h
 unfold ZH Qy
 rw [h2,Option.bind_some]
 by_cases c : W3 l d < l.length
 ·simp only [Int.ofNat_lt,c,decide_true,if_true,Ye,List.getElem?_eq_getElem c,Option.bind_some,JI]
  refine congrArg (fun z=>some (((W3 l d : Nat) : Int),z)) ?_
  rw [Bool.eq_iff_iff,beq_iff_eq,beq_iff_eq,yQ]
  constructor
  ·intro h; rw [Vector.toList_inj.1 h]
  ·intro h; rw [Option.some.inj h]
 ·simp [c,List.getElem?_eq_none (show l.length ≤ W3 l d by omega)]
theorem jD (b : GBlobs) (d : Dig) (hl : b.Keys.length < 1000000) : Uh b d = some (if Qy b.Keys d then (W3 b.Keys d : Int) else -1):=by
 unfold Uh Qy
 rw [yA b.Keys d hl,Option.bind_some]
 by_cases c : W3 b.Keys d < b.Keys.length
 ·simp only [Int.ofNat_lt,c,decide_true,if_true,Ye,List.getElem?_eq_getElem c,Option.bind_some]
  by_cases e : b.Keys[W3 b.Keys d] = d
  ·simp [e]
  ·simp [e]
 ·simp [c,List.getElem?_eq_none (show b.Keys.length ≤ W3 b.Keys d by omega)]

def digH (d : List UInt8) : Dig:=zO (Tc 8) d
theorem zg (d : List UInt8) (h : d.length ≤ 10000000) : Vk d = some (digH d):=by
 unfold Vk
 rw [yr,Option.bind_some,qk _ kA d h]; rfl
def TN (b : GBlobs) (i : Nat) : Bool:=!decide ((b.Data.getD i []).length ≤ 2000) || !decide ((1 : Int) ≤ b.Counts.getD i 0 ∧ b.Counts.getD i 0 ≤ 1000000) || !decide (digH (b.Data.getD i []) = b.Keys.getD i default)
def Vb (b : GBlobs) : Bool:=decide (b.Keys.length ≤ 32) && decide (b.Data.length = b.Keys.length) && decide (b.Counts.length = b.Keys.length) && Bq b.Keys && !((List.range' 0 (b.Keys.length - 0)).any (TN b))
theorem y9 (b : GBlobs) (hk : b.Keys.length < 9223372036854775807) : Xs ⟨⟨Xe (Tc 8)⟩⟩ b = some (Vb b):=by
 unfold Xs Vb
 by_cases h1 : b.Keys.length ≤ 32
 ·have c1 : ¬ ((b.Keys.length : Int) > 32):=by omega
  by_cases h2 : b.Data.length = b.Keys.length
  ·by_cases h3 : b.Counts.length = b.Keys.length
   ·have c2 : ((b.Data.length : Int) != (b.Keys.length : Int)) = false:=by simp [h2]
    have c3 : ((b.Counts.length : Int) != (b.Keys.length : Int)) = false:=by simp [h3]
    simp only [c1,c2,c3,decide_false,Bool.false_eq_true,if_false,jv b.Keys hk,Option.bind_some,h1,h2,h3,decide_true,Bool.true_and,bne_self_eq_false]
    cases Bq b.Keys with
    | false=>simp
    | true =>
     have h:=zJ (f:=YJ ⟨⟨Xe (Tc 8)⟩⟩ b) b.Keys.length (TN b) false hk (fun i hi=>by
      have d1 : i < b.Data.length:=by omega
      have d2 : i < b.Counts.length:=by omega
      unfold YJ TN Tq
      simp only [h2,Int.ofNat_lt,hi,decide_true,if_true,Ye,List.getElem?_eq_getElem d1,List.getElem?_eq_getElem d2,List.getElem?_eq_getElem hi,Option.bind_some,jq,List.getD_eq_getElem?_getD,Option.getD_some]
      by_cases g1 : b.Data[i].length ≤ 2000
      ·have g1' : ((b.Data[i].length : Int) ≤ 2000):=by omega
       by_cases g2 : (1 : Int) ≤ b.Counts[i] ∧ b.Counts[i] ≤ 1000000
       ·have hd:=jM (Tc 8) kA [b.Data[i]] (by simp; omega) (by simp)
        have ef : ([b.Data[i]] : List (List UInt8)).flatten = b.Data[i]:=by simp
        rw [ef] at hd
        simp only [g1,g1',g2,decide_true,Bool.not_true,Bool.false_eq_true,if_false,hd,Option.bind_some,Bool.false_or,and_self]
        unfold digH
        by_cases g3 : zO (Tc 8) b.Data[i] = b.Keys[i] <;> simp [g3]
       ·simp only [g1,g1',g2,decide_true,decide_false,Bool.not_true,Bool.not_false,Bool.false_eq_true,if_false,if_true,Option.bind_some,Bool.false_or,Bool.true_or]
      ·have g1' : ¬ ((b.Data[i].length : Int) ≤ 2000):=by omega
       simp only [g1,g1',decide_false,Bool.not_false,if_true,Option.bind_some,Bool.true_or]) (by unfold YJ; simp [h2]) 0 (Nat.zero_le _)
     have h5 : Zz (YJ ⟨⟨Xe (Tc 8)⟩⟩ b) 0 = _:=h
     simp only [Bool.not_true,Bool.false_eq_true,if_false,h5,Option.bind_some,Bool.true_and]
     cases (List.range' 0 (b.Keys.length - 0)).any (TN b) <;> rfl
   ·have c2 : ((b.Data.length : Int) != (b.Keys.length : Int)) = false:=by simp [h2]
    have c3 : ((b.Counts.length : Int) != (b.Keys.length : Int)) = true:=by simp; omega
    simp [c1,c2,c3,h3]
  ·have c2 : ((b.Data.length : Int) != (b.Keys.length : Int)) = true:=by simp; omega
   simp [c1,c2,h2]
 ·have c1 : ((b.Keys.length : Int) > 32):=by omega
  simp [c1,h1]
theorem HH (b : GBlobs) (hk : b.Keys.length < 9223372036854775807) : Ue b = some (Vb b):=by
 unfold Ue Uo
 rw [k8 8 (by omega),Option.bind_some,Option.bind_some,y9 b hk]; rfl
theorem qs (b : GBlobs) (hk : b.Keys.length < 9223372036854775807) : U9 b = some (Vb b):=by
 unfold U9 Vb
 by_cases h1 : b.Keys.length ≤ 32
 ·have c1 : ¬ ((b.Keys.length : Int) > 32):=by omega
  by_cases h2 : b.Data.length = b.Keys.length
  ·by_cases h3 : b.Counts.length = b.Keys.length
   ·have c2 : ((b.Data.length : Int) != (b.Keys.length : Int)) = false:=by simp [h2]
    have c3 : ((b.Counts.length : Int) != (b.Keys.length : Int)) = false:=by simp [h3]
    simp only [c1,c2,c3,decide_false,Bool.false_eq_true,if_false,Ba b.Keys hk,Option.bind_some,h1,h2,h3,decide_true,Bool.true_and,bne_self_eq_false]
    cases Bq b.Keys with
    | false=>simp
    | true =>
     have h:=zJ (f:=VS b) b.Keys.length (TN b) false hk (fun i hi=>by
      have d1 : i < b.Data.length:=by omega
      have d2 : i < b.Counts.length:=by omega
      unfold VS TN
      simp only [Int.ofNat_lt,hi,decide_true,if_true,Ye,List.getElem?_eq_getElem d1,List.getElem?_eq_getElem d2,List.getElem?_eq_getElem hi,Option.bind_some,List.getD_eq_getElem?_getD,Option.getD_some]
      by_cases g1 : b.Data[i].length ≤ 2000
      ·have g1' : ¬ ((b.Data[i].length : Int) > 2000):=by omega
       by_cases g2 : (1 : Int) ≤ b.Counts[i]
       ·have g2' : ¬ (b.Counts[i] < 1):=by omega
        by_cases g4 : b.Counts[i] ≤ 1000000
        ·have g4' : ¬ (b.Counts[i] > 1000000):=by omega
         simp only [g1,g1',g2,g2',g4,g4',decide_true,decide_false,Bool.not_true,Bool.false_eq_true,if_false,zg b.Data[i] (by omega),Option.bind_some,Bool.false_or,and_self]
         by_cases g3 : digH b.Data[i] = b.Keys[i] <;> simp [g3]
        ·have g4' : b.Counts[i] > 1000000:=by omega
         simp [g1,g1',g2,g2',g4,g4']
       ·have g2' : b.Counts[i] < 1:=by omega
        simp [g1,g1',g2,g2']
      ·have g1' : ((b.Data[i].length : Int) > 2000):=by omega
       simp [g1,g1']) (by unfold VS; simp) 0 (Nat.zero_le _)
     have h5 : Zz (VS b) 0 = _:=h
     simp only [Bool.not_true,Bool.false_eq_true,if_false,h5,Option.bind_some,Bool.true_and]
     cases (List.range' 0 (b.Keys.length - 0)).any (TN b) <;> rfl
   ·have c2 : ((b.Data.length : Int) != (b.Keys.length : Int)) = false:=by simp [h2]
    have c3 : ((b.Counts.length : Int) != (b.Keys.length : Int)) = true:=by simp; omega
    simp [c1,c2,c3,h3]
  ·have c2 : ((b.Data.length : Int) != (b.Keys.length : Int)) = true:=by simp; omega
   simp [c1,c2,h2]
 ·have c1 : ((b.Keys.length : Int) > 32):=by omega
  simp [c1,h1]
theorem KQ {b : GBlobs} (h : Vb b = true) : b.Keys.length ≤ 32 ∧ b.Data.length = b.Keys.length ∧ b.Counts.length = b.Keys.length ∧ Bq b.Keys = true ∧ ∀ i (hi : i < b.Data.length),b.Data[i].length ≤ 2000:=by
 unfold Vb at h
 simp only [Bool.and_eq_true,decide_eq_true_eq,Bool.not_eq_true',List.any_eq_false,List.mem_range'_1] at h
 refine ⟨h.1.1.1.1,h.1.1.1.2,h.1.1.2,h.1.2,fun i hi=>?_⟩
 have:=h.2 i (by omega)
 unfold TN at this
 simp only [List.getD_eq_getElem?_getD,List.getElem?_eq_getElem hi,Option.getD_some,Bool.or_eq_true,Bool.not_eq_true',decide_eq_false_iff_not,not_or,Classical.not_not] at this
 exact this.1.1

instance : Wt GBlobs:=⟨fun x=>Wt.wt x.Keys + (Wt.wt x.Data + Wt.wt x.Counts),fun x=>Wt.ln x.Keys ∧ Wt.ln x.Data ∧ Wt.ln x.Counts,fun x h=>⟨Wt.bdln x.Keys h.1,Wt.bdln x.Data h.2.1,Wt.bdln x.Counts h.2.2⟩,
 fun x h=>⟨Wt.wtln x.Keys (by omega),Wt.wtln x.Data (by omega),Wt.wtln x.Counts (by omega)⟩⟩
theorem Qf (x : GBlobs) : Wt.wt x = Wt.wt x.Keys + (Wt.wt x.Data + Wt.wt x.Counts):=rfl
theorem zb (l : List Dig) (h : Wt.wt l ≤ 1048576) : Vl l = some l:=by
 have:=HD l
 unfold Vl
 have:=Q4 l YU id 32 (Vector.replicate 32 0) (V0 l) (fun s=>by unfold V0; rfl) (fun x _=>Bb x) (by omega) (by omega)
 simpa using this
theorem yi (l : List Int) (h : Wt.wt l ≤ 1048576) : VJ l = some l:=by
 have:=HD l
 unfold VJ
 have:=Q4 l (fun x=>some x) id 8 0 (UB l) (fun s=>by unfold UB; rfl) (fun _ _=>rfl) (by omega) (by omega)
 simpa using this
theorem AW (l : List Dig) (h : Wt.ln l) : Vn l l = some true:=by
 unfold Vn
 exact Hw l (fun x y=>(WU x y).bind fun r=>some (!r)) (VY l l) (fun s=>by unfold VY; rfl) (fun x _=>by simp [zZ x]) (UD h)
theorem A6 (l : List Dig) (h : Wt.ln l) : Tm Wr l :=
 Km (fun _=>rfl) Wr (fun left=>by unfold Wr; rfl) (UD h)
theorem yd (l : List Int) (h : Wt.ln l) : Tm Xp l :=
 Km (fun _=>rfl) Xp (fun left=>by unfold Xp; rfl) (UD h)
theorem jf (x : GBlobs) (h : Wt.wt x ≤ 1048576) : XO x = some x:=by
 rw [Qf] at h
 unfold XO
 simp [zb x.Keys (by omega),yE x.Data (by omega),yi x.Counts (by omega)]
theorem BS (x : GBlobs) (h : Wt.ln x) : XH x x = some true:=by
 unfold XH
 simp [AW x.Keys h.1,ya x.Data h.2.1,yh x.Counts h.2.2]
theorem ju (x : GBlobs) (h : Wt.ln x) : Tm U5 x:=by
 intro left h1 h2
 have h3 : Tm (fun (y : List Int) r=>(Xp y r).bind fun r=>if decide (r < 0) = true then some (-1) else some r) x.Counts:=fun left h1 h2=>y8 (yd x.Counts h.2.2 left h1 h2)
 have h4 : Tm (α:=List (List UInt8) × List Int) (fun y r=>(X3 y.1 r).bind fun r=>if decide (r < 0) = true then some (-1) else (Xp y.2 r).bind fun r=>if decide (r < 0) = true then some (-1) else some r) (x.Data,x.Counts):=fun left h1 h2=>HN (yj x.Data h.2.1) h3 left h1 h2
 exact HN (A6 x.Keys h.1) h4 left h1 h2
theorem BA (l : List (Vector UInt8 32)) (h : Wt.ln l) : Jn YW l (l.map fun _=>32).sum :=
 Hr YW Yt (fun _=>32) (fun _ _=>rfl) l (UD h) (fun l' i k hi _ _ h0 hk=>by
  unfold Yt
  have h1:=zt (n:=32) (fun x : Vector UInt8 32=>x) (fun _ v=>v) i i rfl (Xg (l',k,(i : Int))) (fun s=>by unfold Xg; rfl) (fun _ _=>rfl) (fun _ _ _=>rfl) (fun _=>rfl) (by omega) l' hi k h0 (by omega)
  refine ⟨JM 32 k,?_⟩
  simp only [Int.ofNat_lt,hi,decide_true,if_true,h1,Option.bind_some]
  try rfl) (fun l' k=>by unfold Yt; simp)
theorem AB (l : List Int) (h : Wt.ln l) : Jn Y8 l (l.map fun _=>1).sum :=
 Hr Y8 YA (fun _=>1) (fun _ _=>rfl) l (UD h) (fun l' i k hi _ _ h0 hk=>by
  have e:=wr_k (k:=k) h0 (by omega)
  refine ⟨k,?_⟩
  unfold YA
  simp only [Int.ofNat_lt,hi,decide_true,if_true,Ye,List.getElem?_eq_getElem hi,Option.bind_some,Int.toNat_natCast,e]; rfl) (fun l' k=>by unfold YA; simp)
theorem AG (l : List (List UInt8)) (h : Wt.ln l) : Jn Xf l (l.map fun x=>(x.map fun _=>1).sum).sum :=
 Hr Xf YF (fun x=>(x.map fun _=>1).sum) (fun _ _=>rfl) l (UD h) (fun l' i k hi hx _ h0 hk=>by
  obtain ⟨d',d1⟩:=zH l'[i] (Am h hx) k h0 hk
  refine ⟨d',?_⟩
  unfold YF
  simp only [Int.ofNat_lt,hi,decide_true,if_true,Ye,List.getElem?_eq_getElem hi,Option.bind_some,Int.toNat_natCast,d1]) (fun l' k=>by unfold YF; simp)
def Un (x : GBlobs) : Nat:=(x.Keys.map fun _=>32).sum + ((x.Data.map fun x=>(x.map fun _=>1).sum).sum + (x.Counts.map fun _=>1).sum)
theorem Bo (x : GBlobs) : Un x ≤ 50 * Wt.wt x:=by
 have h1:=JH (fun _ : Vector UInt8 32=>32) 50 (fun _=>by omega) x.Keys
 have h2:=JH (fun x : List UInt8=>(x.map fun _=>1).sum) 50 (fun x=>by rw [qg,jF]; omega) x.Data
 have h3:=JH (fun _ : Int=>1) 50 (fun _=>by omega) x.Counts
 rw [Qf]; unfold Un; omega
theorem zS (x : GBlobs) (h : Wt.ln x) : Jn Y2 x (Un x):=by
 intro k h0 hk
 unfold Un at hk
 obtain ⟨a,h1⟩:=BA x.Keys h.1 k h0 (by omega)
 obtain ⟨b,h2⟩:=AG x.Data h.2.1 _ (by omega : (0 : Int) ≤ k + ((x.Keys.map fun _=>32).sum : Nat)) (by omega)
 obtain ⟨c,h3⟩:=AB x.Counts h.2.2 _ (by omega : (0 : Int) ≤ k + ((x.Keys.map fun _=>32).sum : Nat) + ((x.Data.map fun x=>(x.map fun _=>1).sum).sum : Nat)) (by omega)
 refine ⟨⟨a,b,c⟩,?_⟩
 unfold Y2 Un
 simp only [h1,h2,h3,Option.bind_some]
 refine congrArg (fun z=>some (_,z)) ?_
 omega
theorem Al {α : Type} {l : List α} {i : Nat} (h : i < l.length) : zR l (i : Int) ((i : Int) + 1) = some (l.take i ++ l.drop (i + 1)):=by
 unfold zR
 rw [if_pos (by omega)]
 have : ((i : Int) + 1).toNat = i + 1:=by omega
 rw [this,Int.toNat_natCast]
theorem yH {α : Type} {l : List α} {i : Nat} (h : i ≤ l.length) : slc l (0 : Int) (i : Int) = some (l.take i):=by
 unfold slc; rw [if_pos (by omega)]; simp
theorem kS {α : Type} {l : List α} {i : Nat} (h : i ≤ l.length) : slc l (i : Int) (l.length : Int) = some (l.drop i):=by
 unfold slc; rw [if_pos (by omega)]; simp
theorem JB {α : Type} {l : List α} {i : Nat} (h : i < l.length) : slc l ((i : Int) + 1) (l.length : Int) = some (l.drop (i + 1)):=kS (i:=i + 1) h
def cutAt {α : Type} (l : List α) (i : Nat) : List α:=l.take i ++ l.drop (i + 1)
theorem ji {α : Type} (l : List α) (i : Nat) (x : α) : cutAt (l.set i x) i = cutAt l i:=by
 unfold cutAt
 rw [List.take_set_of_le (Nat.le_refl _),List.drop_set_of_lt (Nat.lt_succ_self _)]
def z7 (b : GBlobs) : Prop:=b.Keys.length ≤ 1000 ∧ b.Counts.length ≤ 1000 ∧ b.Data.length ≤ 1000 ∧ ∀ d ∈ b.Data,d.length ≤ 1000000
theorem kI (b : GBlobs) (h : z7 b) : WH b = some b:=by
 obtain ⟨h1,h2,h3,h4⟩:=h
 have hl:=zI (f:=X9 b) b.Data (fun r=>r) (t:=b.Data) (by omega) (fun i hi=>by
  have a1:=h4 _ (List.getElem_mem hi)
  unfold X9
  simp only [Int.ofNat_lt,hi,decide_true,if_true,Ye,List.getElem?_eq_getElem hi,Option.bind_some,JP _ (show b.Data[i].length ≤ 140737488355328 by omega)]
  rw [X7 (by simp; omega)]; rfl) (by
  unfold X9
  simp)
 unfold WH Yh Xa
 rw [X7 (by simp; omega),Option.bind_some,Option.bind_some,X7 (by simp; omega),Option.bind_some,Option.bind_some,hl]; rfl
theorem kH (b : GBlobs) (h : z7 b) : UK b = some b:=by
 obtain ⟨h1,h2,h3,h4⟩:=h
 have hl:=zI (f:=V6 b) b.Data (fun r=>r) (t:=b.Data) (by omega) (fun i hi=>by
  have a1:=h4 _ (List.getElem_mem hi)
  unfold V6
  simp only [Int.ofNat_lt,hi,decide_true,if_true,Ye,List.getElem?_eq_getElem hi,Option.bind_some,BX _ (show b.Data[i].length ≤ 140737488355328 by omega)]
  rw [X7 (by simp; omega)]; rfl) (by
  unfold V6
  simp)
 unfold UK Tr
 rw [X7 (by simp; omega),Option.bind_some,X7 (by simp; omega),Option.bind_some,Option.bind_some,hl]; rfl
theorem JS {b : GBlobs} (h : Vb b = true) : z7 b:=by
 obtain ⟨h1,h2,h3,h4,h5⟩:=KQ h
 refine ⟨by omega,by omega,by omega,fun d hd=>?_⟩
 obtain ⟨i,hi,rfl⟩:=List.mem_iff_getElem.1 hd
 have:=h5 i hi
 omega
theorem JT {b : GBlobs} (h : Vb b = true) {i : Nat} (hi : i < b.Counts.length) : 1 ≤ b.Counts[i] ∧ b.Counts[i] ≤ 1000000:=by
 obtain ⟨h1,h2,h3,h4,h5⟩:=KQ h
 unfold Vb at h
 simp only [Bool.and_eq_true,decide_eq_true_eq,Bool.not_eq_true',List.any_eq_false,List.mem_range'_1] at h
 have:=h.2 i (by omega)
 unfold TN at this
 simp only [List.getD_eq_getElem?_getD,List.getElem?_eq_getElem hi,Option.getD_some,Bool.or_eq_true,Bool.not_eq_true',decide_eq_false_iff_not,not_or,Classical.not_not] at this
 exact this.1.2
def jE : GBlobs:=⟨[],[],[]⟩
def Qu (b : GBlobs) (d : Dig) : GBlobs × Int :=
 if Vb b then (if Qy b.Keys d then (if b.Counts.getD (W3 b.Keys d) 0 = 1 then (⟨cutAt b.Keys (W3 b.Keys d),cutAt b.Data (W3 b.Keys d),cutAt b.Counts (W3 b.Keys d)⟩,0)
  else (⟨b.Keys,b.Data,b.Counts.set (W3 b.Keys d) (b.Counts.getD (W3 b.Keys d) 0 - 1)⟩,0)) else (jE,4)) else (jE,1)
theorem Hl (b : GBlobs) (hk : b.Keys.length < 9223372036854775807) (d : Dig) : WP b d = some (Qu b d):=by
 unfold WP VZ Qu
 rw [HH b hk,Option.bind_some]
 cases hb : Vb b with
 | false=>rfl
 | true =>
  obtain ⟨h1,h2,h3,h4,h5⟩:=KQ hb
  simp only [Bool.not_true,Bool.false_eq_true,if_false,kK b.Keys (kL h4) d (by omega),Option.bind_some,if_true]
  cases hf : Qy b.Keys d with
  | false=>rfl
  | true =>
   have hi:=zw hf
   generalize W3 b.Keys d = i at hi
   have hiD : i < b.Data.length:=by omega
   have hiC : i < b.Counts.length:=by omega
   obtain ⟨c1,c2⟩:=JT hb hiC
   have hw : wr (b.Counts[i] - 1) = b.Counts[i] - 1:=YD (by omega)
   have hw2 : wr ((i : Int) + 1) = (i : Int) + 1:=YD (by omega)
   have hset : (b.Counts.set i (b.Counts[i] - 1))[i]? = some (b.Counts[i] - 1):=by rw [List.getElem?_set_self hiC]
   simp only [Bool.not_true,Bool.false_eq_true,if_false,Option.bind_some,bne_self_eq_false,if_true,kI b (JS hb),Ye,List.getElem?_eq_getElem hiC,Int.toNat_natCast,hw,hw2,hset,List.getD_eq_getElem?_getD,Option.getD_some]
   by_cases hc : b.Counts[i] = 1
   ·unfold Yx Wf WM
    rw [Al hi,Al (by simpa using hiC),Al hiD]
    have e1 : (b.Counts[i] - 1 == 0) = true:=by rw [hc]; rfl
    simp only [e1,if_true,Option.bind_some,hc]
    have:=ji b.Counts i (1 - 1)
    unfold cutAt at this ⊢
    rw [this]
    rfl
   ·have e1 : (b.Counts[i] - 1 == 0) = false:=by rw [beq_eq_false_iff_ne]; omega
    simp only [e1,Bool.false_eq_true,if_false,Option.bind_some,hc]
theorem Hj (b : GBlobs) (hk : b.Keys.length < 9223372036854775807) (d : Dig) : VM b d = some (Qu b d):=by
 unfold VM Qu
 rw [qs b hk,Option.bind_some]
 cases hb : Vb b with
 | false=>rfl
 | true =>
  obtain ⟨h1,h2,h3,h4,h5⟩:=KQ hb
  simp only [Bool.not_true,Bool.false_eq_true,if_false,jD b d (by omega),Option.bind_some,if_true]
  cases hf : Qy b.Keys d with
  | false=>rfl
  | true =>
   have hi:=zw hf
   generalize W3 b.Keys d = i at hi
   have hiD : i < b.Data.length:=by omega
   have hiC : i < b.Counts.length:=by omega
   obtain ⟨c1,c2⟩:=JT hb hiC
   have hneg : ¬ ((i : Int) < 0):=by omega
   have hw : wr (b.Counts[i] - 1) = b.Counts[i] - 1:=YD (by omega)
   have hw2 : wr ((i : Int) + 1) = (i : Int) + 1:=YD (by omega)
   simp only [if_true,hneg,decide_false,Bool.false_eq_true,if_false,Option.bind_some,kH b (JS hb),Ye,List.getElem?_eq_getElem hiC,Int.toNat_natCast,hw,hw2,List.getD_eq_getElem?_getD,Option.getD_some]
   by_cases hc : b.Counts[i] = 1
   ·have e1 : decide (b.Counts[i] > 1) = false:=by rw [hc]; rfl
    have hnn : Xd ((i : Int) + 1 - i) = some ():=by unfold Xd; rw [if_pos (by omega)]
    simp only [e1,Bool.false_eq_true,if_false,yH (Nat.le_of_lt hi),yH (Nat.le_of_lt hiC),yH (Nat.le_of_lt hiD),JB hi,JB hiC,JB hiD,Option.bind_some,hnn]
    rw [X7 (by simp; omega),X7 (by simp; omega),X7 (by simp; omega),X7 (by simp; omega),X7 (by simp; omega),X7 (by simp; omega)]
    simp only [Option.bind_some,hc,if_true,List.nil_append]
    rfl
   ·have e1 : decide (b.Counts[i] > 1) = true:=by rw [decide_eq_true_eq]; omega
    simp only [e1,if_true,Option.bind_some,hc,if_false]
theorem Br (l : List (Vector UInt8 32)) (h : Wt.ln l) : Be YW WC l (l.map fun _=>32).sum :=
 Q8 YW WC Yt Wb (fun _=>32) (fun _ _=>rfl) (fun _ _=>rfl) l (UD h) (fun l' i k hi _ _ h0 hk=>by
  refine ⟨JM 32 k,?_,fun m hm=>?_⟩
  ·unfold Yt
   have h1:=zt (n:=32) (fun x : Vector UInt8 32=>x) (fun _ v=>v) i i rfl (Xg (l',k,(i : Int))) (fun s=>by unfold Xg; rfl) (fun _ _=>rfl) (fun _ _ _=>rfl) (fun _=>rfl) (by omega) l' hi k h0 (by omega)
   simp only [Int.ofNat_lt,hi,decide_true,if_true,h1,Option.bind_some]
  ·have hi':=(List.getElem?_eq_some_iff.1 hm).1
   unfold Wb
   have h1:=jO (n:=32) (fun x : Vector UInt8 32=>x) m i i rfl (W6 m (k,(i : Int))) (fun s=>by unfold W6; rfl) hm k h0 (by omega) rfl
   simp only [Int.ofNat_lt,hi',decide_true,if_true,h1,Option.bind_some,Fl.el]
   try rfl) (fun l' k=>by unfold Yt; simp) (fun m k=>by unfold Wb; simp)
theorem AM (l : List (List UInt8)) (h : Wt.ln l) : Be Xf WV l (l.map fun x=>(x.map fun _=>1).sum).sum :=
 Q8 Xf WV YF WA (fun x=>(x.map fun _=>1).sum) (fun _ _=>rfl) (fun _ _=>rfl) l (UD h) (fun l' i k hi hx _ h0 hk=>by
  obtain ⟨d',d1,d2⟩:=zi l'[i] (Am h hx) k h0 hk
  refine ⟨d',?_,fun m hm=>?_⟩
  ·unfold YF
   simp only [Int.ofNat_lt,hi,decide_true,if_true,Ye,List.getElem?_eq_getElem hi,Option.bind_some,Int.toNat_natCast,d1]
  ·have hi':=(List.getElem?_eq_some_iff.1 hm).1
   have e3 : ¬ (k + ((l'[i].map fun _=>1).sum : Nat) < 0):=by omega
   unfold WA
   simp only [Int.ofNat_lt,hi',decide_true,if_true,Ye,hm,Option.bind_some,d2,e3,decide_false,Bool.false_eq_true,if_false]) (fun l' k=>by unfold YF; simp) (fun m k=>by unfold WA; simp)
theorem A4 (x : GBlobs) (h : Wt.ln x) (k : Int) (h0 : 0 ≤ k) (hk : k + (Un x : Nat) ≤ 4611686018427387904) :
  ∃ x',Y2 x k = some (x',k + (Un x : Nat)) ∧ Wn x' k = some (k + (Un x : Nat)):=by
 unfold Un at hk
 obtain ⟨a,a1,a2⟩:=Br x.Keys h.1 k h0 (by omega)
 obtain ⟨b,b1,b2⟩:=AM x.Data h.2.1 _ (by omega : (0 : Int) ≤ k + ((x.Keys.map fun _=>32).sum : Nat)) (by omega)
 obtain ⟨c,c1,c2⟩:=Av x.Counts h.2.2 _ (by omega : (0 : Int) ≤ k + ((x.Keys.map fun _=>32).sum : Nat) + ((x.Data.map fun x=>(x.map fun _=>1).sum).sum : Nat)) (by omega)
 refine ⟨⟨a,b,c⟩,?_,?_⟩
 ·unfold Y2 Un
  simp only [a1,b1,c1,Option.bind_some]
  refine congrArg (fun z=>some (_,z)) ?_
  omega
 ·have d1 : ¬ (k + ((x.Keys.map fun _=>32).sum : Nat) < 0):=by omega
  have d2 : ¬ (k + ((x.Keys.map fun _=>32).sum : Nat) + ((x.Data.map fun x=>(x.map fun _=>1).sum).sum : Nat) < 0):=by omega
  have d3 : ¬ (k + ((x.Keys.map fun _=>32).sum : Nat) + ((x.Data.map fun x=>(x.map fun _=>1).sum).sum : Nat) + ((x.Counts.map fun _=>1).sum : Nat) < 0):=by omega
  unfold Wn Un
  simp only [a2,b2,c2,d1,d2,d3,decide_false,Bool.false_eq_true,if_false,Option.bind_some]
  refine congrArg some ?_
  omega
theorem H2 {α : Type} [Dat α] [Wt α] (l : List α) (i : Nat) : Wt.wt (cutAt l i) ≤ Wt.wt l:=by
 unfold cutAt
 rw [TL,TL]
 have h : ((l.take i ++ l.drop (i + 1)).map Wt.wt).sum ≤ (l.map Wt.wt).sum ∧ (l.take i ++ l.drop (i + 1)).length ≤ l.length:=by
  induction l generalizing i with
  | nil=>simp
  | cons x l ih =>
   cases i with
   | zero=>simp
   | succ i=>have:=ih i; simp only [List.take_succ_cons,List.drop_succ_cons,List.cons_append,List.map_cons,List.sum_cons,List.length_cons]; omega
 omega
theorem jC (b : GBlobs) (d : Dig) (hw : Wt.wt b ≤ 1048576) : Wt.wt (Qu b d).1 ≤ 1048576:=by
 have hz : Wt.wt jE = 0:=rfl
 unfold Qu
 rw [Qf] at hw
 split
 ·split
  ·split
   ·have e1:=H2 b.Keys (W3 b.Keys d)
    have e2:=H2 b.Data (W3 b.Keys d)
    have e3:=H2 b.Counts (W3 b.Keys d)
    rw [Qf]; simp only; omega
   ·rw [Qf]
    simp only
    rw [yV,List.length_set,← yV]; omega
  ·simp only [hz]; omega
 ·simp only [hz]; omega
theorem Ka (b : GBlobs) (d : Dig) (h : Dat.bd b) (_ : Dat.bd d) : We b d = some true:=by
 unfold We
 refine qr (ju b (Wt.bdln b h)) (by omega) (by omega) fun r _ _ hw=>?_
 have hw : Wt.wt b ≤ 1048576:=by omega
 have hl:=Wt.wtln b hw
 have hkl : b.Keys.length < 9223372036854775807:=by
  have:=HD b.Keys
  rw [Qf] at hw
  omega
 have hwr:=jC b d hw
 have hln:=Wt.wtln _ hwr
 have hle:=Bo b
 have hle2:=Bo (Qu b d).1
 obtain ⟨x',m1⟩:=zS b hl 1 (by omega) (by omega)
 obtain ⟨r',m2,m3⟩:=A4 (Qu b d).1 hln 1 (by omega) (by omega)
 have e1 : ¬ ((1 : Int) + (Un b : Nat) < 0):=by omega
 have e2 : ¬ ((1 : Int) + (Un (Qu b d).1 : Nat) < 0):=by omega
 simp [jf b hw,Bb,Hj b hkl,Hl b hkl,BS b hl,BS _ hln,m1,m2,m3,e1,e2]
end Go.Proofs.YtpibglnacohdkaaGreat
