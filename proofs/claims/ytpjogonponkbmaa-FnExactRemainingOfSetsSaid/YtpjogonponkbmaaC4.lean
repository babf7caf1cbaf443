/- Plain laws, no program in sight. -/
import Derived.Test.YtpjogonponkbmaaC3
set_option linter.unusedVariables false
set_option linter.unusedSimpArgs false
set_option maxRecDepth 20000
set_option maxHeartbeats 400000
namespace Go.Proofs.Ytpjogonponkbmaa
open Go
open Flat (enc)
theorem JN {α : Type} {l : List α} {i : Nat} (h : i < l.length) : idx l (i : Int) = some l[i]:=by
 unfold idx
 rw [if_pos (by omega)]
 simp
theorem Yg {i : Nat} (h : i < 9223372036854775807) : wr ((i : Int) + 1) = ((i + 1 : Nat) : Int):=by
 rw [VB (by omega)]; rfl

section
variable {S T : Type} {f : S → Option (Fl S T)}
theorem A9 (g : Nat → S) (m n : Nat) (hmn : m ≤ n) (h : ∀ i, m ≤ i → i < n → f (g i) = some (.nx (g (i + 1)))) : ZE f (g m) = ZE f (g n) := by
  induction n with
  | zero => have : m = 0 := by omega
            subst this; rfl
  | succ n ih =>
    rcases Nat.lt_or_ge m (n + 1) with h1 | h1
    · rw [ih (by omega) (fun i h2 h3 => h i h2 (by omega)), Wg (h n (by omega) (by omega))]
    · have : m = n + 1 := by omega
      subst this; rfl
theorem ZS (g : Nat → S) (m n : Nat) (hmn : m ≤ n) {t : T} (h : ∀ i,m ≤ i → i < n → f (g i) = some (.nx (g (i + 1)))) (he : f (g n) = some (.ex t)) : ZE f (g m) = some t:=by
 rw [A9 g m n hmn h,XE he]
theorem Uy (g : Nat → S) (p : Nat → Bool) (t : Nat → T) {e : T} (n : Nat) : ∀ (k m : Nat),m + k = n → (∀ i,m ≤ i → i < n → f (g i) = some (if p i then .ex (t i) else .nx (g (i + 1)))) → f (g n) = some (.ex e) →
  ZE f (g m) = some (((List.range' m k).find? p).elim e t)
 | 0,m,hk,_,he=>by
  have : m = n:=by omega
  subst this
  rw [XE he]; rfl
 | k + 1,m,hk,h,he=>by
  have h1:=h m (Nat.le_refl _) (by omega)
  rw [List.range'_succ,List.find?_cons]
  cases hp : p m with
  | true=>rw [hp] at h1; rw [XE h1]; rfl
  | false =>
   rw [hp] at h1
   rw [Wg h1,Uy g p t n k (m + 1) (by omega) (fun i h2 h3=>h i (by omega) h3) he]
end

theorem Hf {T : Type} {f : Int → Option (Fl Int (Fl Unit T))} (p : Nat → Bool) {t : T} {n m : Nat} (hm : m ≤ n)
  (h : ∀ i,m ≤ i → i < n → f (i : Int) = some (if p i then .ex (.ex t) else .nx ((i + 1 : Nat) : Int))) (he : f (n : Int) = some (.ex (.nx ()))) :
  ZE f (m : Int) = some (if (List.range' m (n - m)).any p then .ex t else .nx ()):=by
 rw [Uy (fun i : Nat=>(i : Int)) p (fun _=>.ex t) n (n - m) m (by omega) h he]
 cases hf : (List.range' m (n - m)).find? p with
 | none =>
  have : (List.range' m (n - m)).any p = false:=by
   rw [List.any_eq_false]
   rw [List.find?_eq_none] at hf
   exact hf
  rw [this]; rfl
 | some i =>
  have : (List.range' m (n - m)).any p = true:=by
   rw [List.any_eq_true]
   exact ⟨i,List.mem_of_find?_eq_some hf,List.find?_some hf⟩
  rw [this]; rfl
theorem WX {p : Nat → Bool} {m n : Nat} : (List.range' m (n - m)).any p = true ↔ ∃ i,m ≤ i ∧ i < n ∧ p i = true:=by
 rw [List.any_eq_true]
 simp only [List.mem_range'_1]
 constructor
 ·rintro ⟨i,⟨h1,h2⟩,h3⟩; exact ⟨i,h1,by omega,h3⟩
 ·rintro ⟨i,h1,h2,h3⟩; exact ⟨i,⟨h1,by omega⟩,h3⟩
class Wt (α : Type) [Dat α] where
 wt : α → Nat
 ln : α → Prop
 bdln : ∀ x,Dat.bd x → ln x
 wtln : ∀ x,wt x ≤ 1048576 → ln x
instance : Wt Int:=⟨fun _=>0,fun _=>True,fun _ _=>trivial,fun _ _=>trivial⟩
instance : Wt UInt8:=⟨fun _=>0,fun _=>True,fun _ _=>trivial,fun _ _=>trivial⟩
instance : Wt Bool:=⟨fun _=>0,fun _=>True,fun _ _=>trivial,fun _ _=>trivial⟩
instance : Wt Str:=⟨fun s=>s.l.length,fun s=>s.l.length ≤ 9223372036854775807,fun _ h=>h,fun _ h=>by omega⟩
instance {n : Nat} : Wt (Vector UInt8 n):=⟨fun _=>0,fun _=>True,fun _ _=>trivial,fun _ _=>trivial⟩
instance {n m : Nat} : Wt (Vector (Vector UInt8 m) n):=⟨fun _=>0,fun _=>True,fun _ _=>trivial,fun _ _=>trivial⟩
theorem zk {α : Type} {f : α → Nat} {l : List α} {x : α} (h : x ∈ l) : f x ≤ (l.map f).sum:=by
 induction l with
 | nil=>cases h
 | cons y l ih =>
  rw [List.map_cons,List.sum_cons]
  rcases List.mem_cons.1 h with rfl | h
  ·omega
  ·have:=ih h; omega
instance {α : Type} [Dat α] [Wt α] : Wt (List α):=⟨fun l=>l.length + (l.map Wt.wt).sum,fun l=>l.length ≤ 9223372036854775807 ∧ ∀ x ∈ l,Wt.ln x,fun _ h=>⟨h.1,fun x hx=>Wt.bdln x (h.2 x hx)⟩,
 fun l h=>⟨by omega,fun x hx=>Wt.wtln x (by have:=zk (f:=Wt.wt) hx; omega)⟩⟩
instance {α β : Type} [Dat α] [Dat β] [Wt α] [Wt β] : Wt (α × β):=⟨fun x=>Wt.wt x.1 + Wt.wt x.2,fun x=>Wt.ln x.1 ∧ Wt.ln x.2,fun x h=>⟨Wt.bdln x.1 h.1,Wt.bdln x.2 h.2⟩,fun x h=>⟨Wt.wtln x.1 (by omega),Wt.wtln x.2 (by omega)⟩⟩
theorem J8 {α : Type} [Dat α] [Wt α] (l : List α) : Wt.wt l = l.length + (l.map Wt.wt).sum:=rfl
theorem wt_len {α : Type} [Dat α] [Wt α] (l : List α) : l.length ≤ Wt.wt l:=by rw [J8]; omega
theorem K4 {α : Type} [Dat α] [Wt α] {l : List α} (h : Wt.ln l) : l.length ≤ 9223372036854775807:=h.1
theorem BZ {α β : Type} (p0 : List α) (c : α → Option β) (g : α → β) (by_ : Nat) (z : β) (L : List β × Int → Option (Fl (List β × Int) (List β)))
  (hL : ∀ s,L s = if (decide (s.2 < (p0.length : Int))) = true then ((idx p0 s.2).bind fun x=>(c x).bind fun r=>(idx s.1 s.2).bind fun _=>some (Fl.nx ((s.1.set (s.2).toNat r),wr (s.2 + 1)))) else (some (Fl.ex s.1)))
  (hc : ∀ x ∈ p0,c x = some (g x)) (hl : p0.length * by_ ≤ 140737488355328) (hl' : p0.length < 9223372036854775807) :
  ((mkS by_ z (p0.length : Int)).bind fun l1=>(ZE L (l1,0) : Option (List β)).bind fun j=>some j) = some (p0.map g):=by
 have hm : mkS by_ z (p0.length : Int) = some (List.replicate p0.length z):=by
  have h3 : ((p0.length * by_ : Nat) : Int) ≤ ((140737488355328 : Nat) : Int):=Int.ofNat_le.2 hl
  rw [Int.natCast_mul] at h3
  unfold mkS
  rw [if_pos ⟨by omega,h3⟩,Int.toNat_natCast]
 rw [hm]
 simp only [Option.bind_some]
 have hrun:=ZS (f:=L) (fun i : Nat=>((p0.take i).map g ++ List.replicate (p0.length - i) z,(i : Int))) 0 p0.length (Nat.zero_le _) (t:=p0.map g) (fun i _ hi=>by
  rw [hL]
  simp only [Int.ofNat_lt,hi,decide_true,if_true,JN hi,Option.bind_some,hc _ (List.getElem_mem hi)]
  rw [JN (by simp; omega)]
  simp only [Option.bind_some,Yg (show i < 9223372036854775807 by omega),Int.toNat_natCast]
  congr 3
  rw [List.set_append_right _ _ (by simp; omega)]
  have e1 : p0.length - i = (p0.length - (i + 1)) + 1:=by omega
  have e2 : i - ((p0.take i).map g).length = 0:=by simp; omega
  rw [e1,List.replicate_succ,e2,List.set_cons_zero]
  rw [List.take_succ_eq_append_getElem hi,List.map_append,List.append_assoc]
  rfl) (by
  rw [hL]
  simp)
 simp at hrun
 simp [hrun]

theorem BH {α : Type} (p0 : List α) (ne : α → α → Option Bool) (L : Int → Option (Fl Int (Fl Unit Bool)))
  (hL : ∀ s,L s = if (decide (s < (p0.length : Int))) = true then (((idx p0 s).bind fun x=>(idx p0 s).bind fun y=>ne x y : Option Bool).bind fun j=>if j = true then (some (Fl.ex (Fl.ex false))) else (some (Fl.nx (wr (s + 1))))) else (some (Fl.ex (Fl.nx ()))))
  (hn : ∀ x ∈ p0,ne x x = some false) (hl : p0.length ≤ 9223372036854775807) :
  (if ((p0.length : Int) != (p0.length : Int)) = true then (some false) else ((ZE L 0 : Option (Fl Unit Bool)).bind fun j2=>j2.el (fun _=>some true) (fun r=>some r))) = some true:=by
 have:=ZS (f:=L) (fun i : Nat=>(i : Int)) 0 p0.length (Nat.zero_le _) (t:=.nx ()) (fun i _ hi=>by
  rw [hL]
  simp only [Int.ofNat_lt,hi,decide_true,if_true,JN hi,Option.bind_some,hn _ (List.getElem_mem hi)]
  simp [Yg (show i < 9223372036854775807 by omega)]) (by
  rw [hL]; simp)
 have h2 : ZE L 0 = some (.nx ()):=this
 simp [h2,Fl.el]

def Bn {α : Type} [Dat α] [Wt α] (f : α → Int → Option Int) (x : α) : Prop:=∀ left : Int,0 ≤ left → left ≤ 1048576 → ∃ r,f x left = some r ∧ r ≤ 1048576 ∧ (0 ≤ r → r + Wt.wt x ≤ left)
theorem H4 {α : Type} [Dat α] [Wt α] {l : List α} (h0 : ∀ x : α,Wt.wt x = 0) (f : List α → Int → Option Int)
  (hf : ∀ left,f l left = if (decide ((wr (left - (l.length : Int))) < 0)) = true then (some (-1)) else (some (wr (left - (l.length : Int))))) (hl : l.length ≤ 9223372036854775807) : Bn f l:=by
 intro left h1 h2
 have hs : (l.map Wt.wt).sum = 0:=by
  clear hf hl
  induction l with
  | nil=>rfl
  | cons x l ih=>rw [List.map_cons,List.sum_cons,h0,ih]
 have hw : Wt.wt l = l.length:=by rw [J8,hs]; rfl
 rw [hf,VB (by omega),hw]
 by_cases h : left - (l.length : Int) < 0
 ·exact ⟨-1,by simp [h],by omega,by omega⟩
 ·exact ⟨left - l.length,by simp [h],by omega,by omega⟩
@[simp] theorem We {α : Type} (l : List α) (i : Nat) : idx l (i : Int) = l[i]?:=by unfold idx; simp
@[simp] theorem Aq {α : Type} (l : List α) : idx l (0 : Int) = l[0]?:=We l 0
theorem Q3 {T : Type} {f : Int → Option (Fl Int (Fl Unit T))} (n : Nat) (p : Nat → Bool) (t : Nat → T) (hn : n < 9223372036854775807)
  (h : ∀ i,i < n → f (i : Int) = some (if p i then .ex (.ex (t i)) else .nx (wr ((i : Int) + 1)))) (he : f (n : Int) = some (.ex (.nx ()))) (m : Nat) (hm : m ≤ n) :
  ZE f (m : Int) = some (match (List.range' m (n - m)).find? p with | some i=>.ex (t i) | none=>.nx ()):=by
 rw [Uy (fun i : Nat=>(i : Int)) p (fun i=>.ex (t i)) n (n - m) m (by omega) (fun i _ hi=>by rw [h i hi,Yg (by omega)]) he]
 cases (List.range' m (n - m)).find? p <;> rfl
theorem Hu {T : Type} {f : Int → Option (Fl Int (Fl Unit T))} (n : Nat) (p : Nat → Bool) (t : T) (hn : n < 9223372036854775807)
  (h : ∀ i,i < n → f (i : Int) = some (if p i then .ex (.ex t) else .nx (wr ((i : Int) + 1)))) (he : f (n : Int) = some (.ex (.nx ()))) (m : Nat) (hm : m ≤ n) :
  ZE f (m : Int) = some (if (List.range' m (n - m)).any p then .ex t else .nx ()) :=
 Hf p hm (fun i _ hi=>by rw [h i hi,Yg (by omega)]) he
theorem QJ {T : Type} {f : Int → Option (Fl Int (Fl Unit T))} (n : Nat) (p : Nat → Bool) (t : T) (hn : n < 9223372036854775807) (m : Nat) (hm : m ≤ n)
  (h : ∀ i,m ≤ i → i < n → f (i : Int) = some (if p i then .ex (.ex t) else .nx (wr ((i : Int) + 1)))) (he : f (n : Int) = some (.ex (.nx ()))) :
  ZE f (m : Int) = some (if (List.range' m (n - m)).any p then .ex t else .nx ()) :=
 Hf p hm (fun i hmi hi=>by rw [h i hmi hi,Yg (by omega)]) he
theorem Jn {α β S T : Type} {f : S → Option (Fl S T)} (l : List α) (pack : β → Int → S) (g : β → α → β) (b0 : β) {t : T} (hn : l.length < 9223372036854775807)
  (h : ∀ i (hi : i < l.length),f (pack ((l.take i).foldl g b0) (i : Int)) = some (.nx (pack (g ((l.take i).foldl g b0) l[i]) (wr ((i : Int) + 1))))) (he : f (pack (l.foldl g b0) (l.length : Int)) = some (.ex t)) :
  ZE f (pack b0 0) = some t:=by
 have:=ZS (f:=f) (fun i : Nat=>pack ((l.take i).foldl g b0) (i : Int)) 0 l.length (Nat.zero_le _) (t:=t) (fun i _ hi=>by
  rw [h i hi,Yg (by omega)]
  congr 3
  rw [List.take_succ_eq_append_getElem hi,List.foldl_append]; rfl) (by rw [List.take_length]; exact he)
 simpa using this
theorem KI {α : Type} {by_ : Nat} {l m : List α} (h : (l.length + m.length) * by_ ≤ 140737488355328) : app by_ l m = some (l ++ m):=by unfold app; rw [if_pos h]
theorem QH {α : Type} {l : List α} {i j : Nat} (h : i ≤ j) (h2 : j ≤ l.length) : slc l (i : Int) (j : Int) = some ((l.take j).drop i):=by
 unfold slc; rw [if_pos (by omega)]; simp

theorem Ua {α : Type} {n : Nat} {v w : Vector α n} (h : ∀ i (hi : i < n),v[i] = w[i]) : v = w:=Vector.ext h
@[simp] theorem Wv {α : Type} {n : Nat} (v : Vector α n) (i : Nat) : Zy v (i : Int) = v[i]?:=by unfold Zy; simp
theorem Qe {n : Nat} (p0 : Vector UInt8 n) (L : Vector UInt8 n × Int → Option (Fl (Vector UInt8 n × Int) (Vector UInt8 n)))
  (hL : ∀ s,L s = if decide (s.2 < (n : Int)) = true then ((Zy p0 s.2).bind fun x=>(Zy s.1 s.2).bind fun _=>some (Fl.nx (s.1.setIfInBounds (s.2).toNat x,wr (s.2 + 1)))) else (some (Fl.ex s.1))) (hn : n < 9223372036854775807) (z : Vector UInt8 n) :
  ZE L (z,0) = some p0:=by
 have:=ZS (f:=L) (fun i : Nat=>(Vector.ofFn fun j : Fin n=>if j.1 < i then p0[j] else z[j],(i : Int))) 0 n (Nat.zero_le _) (t:=p0) (fun i _ hi=>by
  rw [hL]
  simp only [Int.ofNat_lt,hi,decide_true,if_true,Wv,Vector.getElem?_eq_getElem hi,Option.bind_some,Int.toNat_natCast,Yg (show i < 9223372036854775807 by omega)]
  congr 3
  apply Ua
  intro j hj
  rw [Vector.getElem_setIfInBounds]
  simp only [Vector.getElem_ofFn,Fin.getElem_fin]
  by_cases h : i = j
  ·subst h; simp
  ·by_cases h2 : j < i
   ·simp [h,h2,show j < i + 1 by omega]
   ·simp [h,h2,show ¬ j < i + 1 by omega]) (by
  rw [hL]
  simp only [Int.ofNat_lt,Nat.lt_irrefl,decide_false,Bool.false_eq_true,if_false]
  congr 2
  apply Ua
  intro j hj
  simp [hj])
 have h0 : (Vector.ofFn fun j : Fin n=>if j.1 < 0 then p0[j] else z[j]) = z:=by
  apply Ua
  intro j hj
  simp
 rw [h0] at this
 exact this
theorem eq_arr {n : Nat} (p0 : Vector UInt8 n) (L : Int → Option (Fl Int (Fl Unit Bool)))
  (hL : ∀ s,L s = if decide (s < (n : Int)) = true then (((Zy p0 s).bind fun x=>(Zy p0 s).bind fun y=>some (x != y) : Option Bool).bind fun j=>if j = true then (some (Fl.ex (Fl.ex false))) else (some (Fl.nx (wr (s + 1))))) else (some (Fl.ex (Fl.nx ())))) (hn : n < 9223372036854775807) :
  ((ZE L 0 : Option (Fl Unit Bool)).bind fun j5=>j5.el (fun _=>some true) (fun r=>some r)) = some true:=by
 have:=ZS (f:=L) (fun i : Nat=>(i : Int)) 0 n (Nat.zero_le _) (t:=.nx ()) (fun i _ hi=>by
  rw [hL]
  simp only [Int.ofNat_lt,hi,decide_true,if_true,Wv,Vector.getElem?_eq_getElem hi,Option.bind_some]
  simp [Yg (show i < 9223372036854775807 by omega)]) (by rw [hL]; simp)
 have h2 : ZE L 0 = some (.nx ()):=this
 rw [h2]; rfl

def Hv (n : Nat) (k : Int) : Vector UInt8 n:=Vector.ofFn fun j=>ZI (k + j)
theorem wr_k {k : Int} (h : 0 ≤ k) (h2 : k < 9223372036854775807) : wr (k + 1) = k + 1:=VB (by omega)
theorem AE {α : Type} {n : Nat} (get : α → Vector UInt8 n) (put : α → Vector UInt8 n → α) (i : Nat) (I : Int) (hI : I = i) (L : List α × Int × Int → Option (Fl (List α × Int × Int) (List α × Int)))
  (hL : ∀ s,L s = if decide (s.2.2 < (n : Int)) = true then ((idx s.1 I).bind fun x=>(Zy (get x) s.2.2).bind fun _=>some (Fl.nx (s.1.set (I).toNat (put x ((get x).setIfInBounds (s.2.2).toNat (ZI s.2.1))),wr (s.2.1 + 1),wr (s.2.2 + 1)))) else (some (Fl.ex (s.1,s.2.1))))
  (hgp : ∀ x v,get (put x v) = v) (hpp : ∀ x v w,put (put x v) w = put x w) (hpg : ∀ x,put x (get x) = x) (hn : n < 9223372036854775807)
  (l : List α) (hi : i < l.length) (k : Int) (h0 : 0 ≤ k) (hk : k + n ≤ 4611686018427387904) : ZE L (l,k,0) = some (l.set i (put l[i] (Hv n k)),k + n):=by
 subst hI
 have:=ZS (f:=L) (fun j : Nat=>(l.set i (put l[i] (Vector.ofFn fun q : Fin n=>if q.1 < j then ZI (k + q) else (get l[i])[q])),k + j,(j : Int))) 0 n (Nat.zero_le _) (t:=(l.set i (put l[i] (Hv n k)),k + n)) (fun j _ hj=>by
  rw [hL]
  have hi' : i < (l.set i (put l[i] (Vector.ofFn fun q : Fin n=>if q.1 < j then ZI (k + q) else (get l[i])[q]))).length:=by simpa using hi
  simp only [Int.ofNat_lt,hj,decide_true,if_true,We,Wv,List.getElem?_eq_getElem hi',Vector.getElem?_eq_getElem hj,Option.bind_some,Int.toNat_natCast,Yg (show j < 9223372036854775807 by omega),List.getElem_set_self,hgp,hpp,List.set_set]
  rw [wr_k (by omega) (by omega)]
  congr 3
  ·congr 2
   apply Ua
   intro q hq
   rw [Vector.getElem_setIfInBounds]
   simp only [Vector.getElem_ofFn,Fin.getElem_fin]
   by_cases h : j = q
   ·subst h; simp
   ·by_cases h2 : q < j
    ·simp [h,h2,show q < j + 1 by omega]
    ·simp [h,h2,show ¬ q < j + 1 by omega]
  ·congr 1
   omega) (by
  rw [hL]
  simp only [Int.ofNat_lt,Nat.lt_irrefl,decide_false,Bool.false_eq_true,if_false]
  have e : (Vector.ofFn fun q : Fin n=>if q.1 < n then ZI (k + q) else (get l[i])[q]) = Hv n k:=by
   unfold Hv
   apply Ua
   intro j hj
   simp [hj]
  rw [e])
 have h0' : (Vector.ofFn fun q : Fin n=>if q.1 < 0 then ZI (k + q) else (get l[i])[q]) = get l[i]:=by
  apply Ua
  intro j hj
  simp
 rw [h0',hpg,List.set_getElem_self] at this
 simpa using this
def Aj {α : Type} (Fm : α → Int → Option (α × Int)) (Fh : α → Int → Option Int) (x : α) (n : Nat) : Prop :=
 ∀ k : Int,0 ≤ k → k + n ≤ 4611686018427387904 → ∃ x',Fm x k = some (x',k + n) ∧ Fh x' k = some (k + n)
theorem BV {α : Type} (Fm : List α → Int → Option (List α × Int)) (Fh : List α → Int → Option Int) (Lm : List α × Int × Int → Option (Fl (List α × Int × Int) (List α × Int))) (Lh : List α → Int × Int → Option (Fl (Int × Int) (Fl Int Int))) (mk : α → Nat)
  (hFm : ∀ l k,Fm l k = (ZE Lm (l,k,0) : Option (List α × Int)).bind fun j1=>some (j1.1,j1.2)) (hFh : ∀ l k,Fh l k = (ZE (Lh l) (k,0) : Option (Fl Int Int)).bind fun j1=>j1.el (fun s=>some s) (fun r=>some r))
  (l : List α) (hl : l.length ≤ 9223372036854775807)
  (hm : ∀ (l' : List α) (i : Nat) (k : Int) (hi : i < l'.length),l'[i] ∈ l → i < 9223372036854775807 → 0 ≤ k → k + mk l'[i] ≤ 4611686018427387904 → ∃ x',Lm (l',k,(i : Int)) = some (.nx (l'.set i x',k + mk l'[i],wr ((i : Int) + 1))) ∧
   ∀ (m : List α),m[i]? = some x' → Lh m (k,(i : Int)) = some (.nx (k + mk l'[i],wr ((i : Int) + 1))))
  (hme : ∀ (l' : List α) k,Lm (l',k,(l'.length : Int)) = some (.ex (l',k))) (hhe : ∀ (m : List α) k,Lh m (k,(m.length : Int)) = some (.ex (.nx k))) : Aj Fm Fh l (l.map mk).sum:=by
 have aux : ∀ (n i : Nat) (l' : List α) (k : Int),i + n = l'.length → l'.length = l.length → l'.drop i = l.drop i → 0 ≤ k → k + (((l.drop i).map mk).sum : Nat) ≤ 4611686018427387904 →
   ∃ l'',ZE Lm (l',k,(i : Int)) = some (l'',k + (((l.drop i).map mk).sum : Nat)) ∧ l''.length = l'.length ∧ (∀ j,j < i → l''[j]? = l'[j]?) ∧ ZE (Lh l'') (k,(i : Int)) = some (.nx (k + (((l.drop i).map mk).sum : Nat))):=by
  intro n
  induction n with
  | zero =>
   intro i l' k hi hll hd h0 hk
   have hi : i = l'.length:=by omega
   subst hi
   have e : l.drop l'.length = []:=by rw [hll]; simp
   rw [e]
   refine ⟨l',?_,rfl,fun _ _=>rfl,?_⟩
   ·rw [XE (hme l' k)]; simp
   ·rw [XE (hhe l' k)]; simp
  | succ n ih =>
   intro i l' k hi hll hd h0 hk
   have hil : i < l'.length:=by omega
   have hil2 : i < l.length:=by omega
   have e1 : l'[i] = l[i]:=by
    have h1:=List.drop_eq_getElem_cons hil
    have h2:=List.drop_eq_getElem_cons hil2
    rw [h1,h2] at hd
    exact (List.cons.inj hd).1
   have e2 : l.drop i = l[i] :: l.drop (i + 1):=List.drop_eq_getElem_cons hil2
   rw [e2,List.map_cons,List.sum_cons] at hk ⊢
   obtain ⟨x',h1,h2⟩:=hm l' i k hil (by rw [e1]; exact List.getElem_mem hil2) (by omega) h0 (by rw [e1]; omega)
   rw [e1] at h1 h2
   rw [Yg (by omega)] at h1 h2
   obtain ⟨l'',k1,k2,k3,k4⟩:=ih (i + 1) (l'.set i x') (k + mk l[i]) (by simp; omega) (by simpa using hll) (by
    rw [List.drop_set_of_lt (by omega)]
    have h1:=List.drop_eq_getElem_cons hil
    rw [h1,e2] at hd
    exact (List.cons.inj hd).2) (by omega) (by omega)
   refine ⟨l'',?_,by simpa using k2,fun j hj=>?_,?_⟩
   ·rw [Wg h1,k1]; congr 2; omega
   ·rw [k3 j (by omega),List.getElem?_set_ne (by omega)]
   ·rw [Wg (h2 l'' (by rw [k3 i (by omega)]; simp [hil])),k4]; congr 2; omega
 intro k h0 hk
 obtain ⟨l'',k1,k2,k3,k4⟩:=aux l.length 0 l k (by omega) rfl rfl h0 (by simpa using hk)
 simp only [List.drop_zero] at k1 k4
 refine ⟨l'',?_,?_⟩
 ·rw [hFm]
  have : ZE Lm (l,k,0) = _:=k1
  rw [this]; rfl
 ·rw [hFh]
  have : ZE (Lh l'') (k,0) = _:=k4
  rw [this]; rfl
theorem Bd (l : List Int) (h : Wt.ln l) : Xz l l = some true:=by
 unfold Xz
 exact BH l (fun x y=>some (x != y)) (Vn l l) (fun s=>by unfold Vn; rfl) (fun x _=>by simp) (K4 h)
theorem JQ (l : List Int) (h : Wt.ln l) : Aj Wh Xv l (l.map fun _=>1).sum :=
 BV Wh Xv XR XW (fun _=>1) (fun _ _=>rfl) (fun _ _=>rfl) l (K4 h) (fun l' i k hi _ _ h0 hk=>by
  have e:=wr_k (k:=k) h0 (by omega)
  refine ⟨k,?_,fun m hm=>?_⟩
  ·unfold XR
   simp only [Int.ofNat_lt,hi,decide_true,if_true,We,List.getElem?_eq_getElem hi,Option.bind_some,Int.toNat_natCast,e]; rfl
  ·have hi':=(List.getElem?_eq_some_iff.1 hm).1
   unfold XW
   simp only [Int.ofNat_lt,hi',decide_true,if_true,We,hm,Option.bind_some,bne_self_eq_false,Bool.false_eq_true,if_false,e]; rfl) (fun l' k=>by unfold XR; simp) (fun m k=>by unfold XW; simp)
theorem Jy (x : Vector UInt8 16) : YJ x = some x:=by
 unfold YJ
 rw [Qe x (VF x) (fun s=>by unfold VF; rfl) (by omega)]; rfl
theorem BX (x : Vector UInt8 16) : WB x x = some true:=by
 unfold WB
 exact eq_arr x (VG x x) (fun s=>by unfold VG; rfl) (by omega)
theorem H9 (l : List (Vector UInt8 16)) (h : Wt.wt l ≤ 1048576) : YX l = some l:=by
 have:=wt_len l
 unfold YX
 have:=BZ l YJ id 16 (Vector.replicate 16 0) (Vr l) (fun s=>by unfold Vr; rfl) (fun x _=>Jy x) (by omega) (by omega)
 simpa using this
theorem Bp (l : List (Vector UInt8 16)) (h : Wt.ln l) : WP l l = some true:=by
 unfold WP
 exact BH l (fun x y=>(WB x y).bind fun r=>some (!r)) (Vp l l) (fun s=>by unfold Vp; rfl) (fun x _=>by simp [BX x]) (K4 h)
theorem Bb (l : List (Vector UInt8 16)) (h : Wt.ln l) : Bn X7 l :=
 H4 (fun _=>rfl) X7 (fun left=>by unfold X7; rfl) (K4 h)
theorem Jf (l' : List (Vector UInt8 16)) (i : Nat) (k : Int) (hi : i < l'.length) (h0 : 0 ≤ k) (hk : k + 16 ≤ 4611686018427387904) :
  Y6 (l',k,(i : Int)) = some (.nx (l'.set i (Hv 16 k),k + 16,wr ((i : Int) + 1))):=by
 unfold Y6
 have h1:=AE (n:=16) (fun x : Vector UInt8 16=>x) (fun _ v=>v) i i rfl (WM (l',k,(i : Int))) (fun s=>by unfold WM; rfl) (fun _ _=>rfl) (fun _ _ _=>rfl) (fun _=>rfl) (by omega) l' hi k h0 hk
 simp only [Int.ofNat_lt,hi,decide_true,if_true,h1,Option.bind_some]
 rfl
def AN {α : Type} (Fm : α → Int → Option (α × Int)) (x : α) (n : Nat) : Prop :=
 ∀ k : Int,0 ≤ k → k + n ≤ 4611686018427387904 → ∃ x',Fm x k = some (x',k + n)
theorem AZ {α : Type} (Fm : List α → Int → Option (List α × Int)) (Lm : List α × Int × Int → Option (Fl (List α × Int × Int) (List α × Int))) (mk : α → Nat)
  (hFm : ∀ l k,Fm l k = (ZE Lm (l,k,0) : Option (List α × Int)).bind fun j1=>some (j1.1,j1.2)) (l : List α) (hl : l.length ≤ 9223372036854775807)
  (hm : ∀ (l' : List α) (i : Nat) (k : Int) (hi : i < l'.length),l'[i] ∈ l → i < 9223372036854775807 → 0 ≤ k → k + mk l'[i] ≤ 4611686018427387904 → ∃ x',Lm (l',k,(i : Int)) = some (.nx (l'.set i x',k + mk l'[i],wr ((i : Int) + 1))))
  (hme : ∀ (l' : List α) k,Lm (l',k,(l'.length : Int)) = some (.ex (l',k))) : AN Fm l (l.map mk).sum:=by
 intro k h0 hk
 have aux : ∀ (n i : Nat) (l' : List α) (k : Int),i + n = l'.length → l'.length = l.length → l'.drop i = l.drop i → 0 ≤ k → k + (((l.drop i).map mk).sum : Nat) ≤ 4611686018427387904 →
   ∃ l'',ZE Lm (l',k,(i : Int)) = some (l'',k + (((l.drop i).map mk).sum : Nat)):=by
  intro n
  induction n with
  | zero =>
   intro i l' k hi hll hd h0 hk
   have hi : i = l'.length:=by omega
   subst hi
   have e : l.drop l'.length = []:=by rw [hll]; simp
   rw [e]
   exact ⟨l',by rw [XE (hme l' k)]; simp⟩
  | succ n ih =>
   intro i l' k hi hll hd h0 hk
   have hil : i < l'.length:=by omega
   have hil2 : i < l.length:=by omega
   have h1:=List.drop_eq_getElem_cons hil
   have e2 : l.drop i = l[i] :: l.drop (i + 1):=List.drop_eq_getElem_cons hil2
   rw [h1,e2] at hd
   have e1:=(List.cons.inj hd).1
   rw [e2,List.map_cons,List.sum_cons] at hk ⊢
   obtain ⟨x',h1⟩:=hm l' i k hil (by rw [e1]; exact List.getElem_mem hil2) (by omega) h0 (by rw [e1]; omega)
   rw [e1,Yg (by omega)] at h1
   obtain ⟨l'',k1⟩:=ih (i + 1) (l'.set i x') (k + mk l[i]) (by simp; omega) (by simpa using hll) (by
    rw [List.drop_set_of_lt (by omega)]
    exact (List.cons.inj hd).2) (by omega) (by omega)
   exact ⟨l'',by rw [Wg h1,k1]; congr 2; omega⟩
 obtain ⟨l'',k1⟩:=aux l.length 0 l k (by omega) rfl rfl h0 (by simpa using hk)
 simp only [List.drop_zero] at k1
 refine ⟨l'',?_⟩
 rw [hFm]
 have : ZE Lm (l,k,0) = _:=k1
 rw [this]; rfl
theorem JJ (l : List (Vector UInt8 16)) (h : Wt.ln l) : AN X9 l (l.map fun _=>16).sum :=
 AZ X9 Y6 (fun _=>16) (fun _ _=>rfl) l (K4 h) (fun l' i k hi _ _ h0 hk=>⟨_,Jf l' i k hi h0 (by omega)⟩) (fun l' k=>by unfold Y6; simp)
theorem TG (n a b : Int) : YO n a b = some (decide (a ≤ n ∧ n ≤ b)):=by
 unfold YO
 by_cases h1 : a ≤ n <;> by_cases h2 : n ≤ b <;> simp [h1,h2]
theorem Ks (n a b : Int) : Xe n a b = some (decide (a ≤ n ∧ n ≤ b)):=by
 unfold Xe
 by_cases h1 : a ≤ n <;> by_cases h2 : n ≤ b <;> simp [h1,h2]
theorem Bv {α : Type} (l : List α) (p : α → Option Bool) (q : α → Bool) (L : Int → Option (Fl Int (Fl Unit Int)))
  (hL : ∀ s,L s = if (decide (s < (l.length : Int))) = true then ((idx l s).bind fun x=>((p x)).bind fun r=>if r = true then (some (Fl.ex (Fl.ex s))) else (some (Fl.nx (wr (s + 1))))) else (some (Fl.ex (Fl.nx ()))))
  (hl : l.length < 9223372036854775807) (hp : ∀ x ∈ l,p x = some (q x)) :
  ((ZE L 0 : Option (Fl Unit Int)).bind fun j1=>j1.el (fun _=>some (-1)) (fun r=>some r)) = some (match l.findIdx? q with | some i=>(i : Int) | none=>-1):=by
 have h:=Q3 (f:=L) l.length (fun i=>(l[i]?.map q).getD false) (fun i=>(i : Int)) hl (fun i hi=>by
  rw [hL]
  simp only [Int.ofNat_lt,hi,decide_true,if_true,We,List.getElem?_eq_getElem hi,Option.bind_some,Option.map_some,Option.getD_some,hp _ (List.getElem_mem hi)]
  split <;> rfl) (by rw [hL]; simp) 0 (Nat.zero_le _)
 have h3 : ZE L 0 = _:=h
 rw [h3]
 have key : (List.range' 0 (l.length - 0)).find? (fun i=>(l[i]?.map q).getD false) = l.findIdx? q:=by
  rw [Nat.sub_zero,← List.range_eq_range']
  clear h h3 hL hp hl
  induction l with
  | nil=>rfl
  | cons x l ih =>
   rw [List.length_cons,List.range_succ_eq_map,List.find?_cons,List.findIdx?_cons]
   simp only [List.getElem?_cons_zero,Option.map_some,Option.getD_some]
   cases q x with
   | true=>rfl
   | false =>
    simp only [Bool.false_eq_true,if_false]
    rw [List.find?_map,← ih]
    congr 1
 rw [key]
 cases l.findIdx? q <;> rfl
theorem has_of {α : Type} (l : List α) (q : α → Bool) : decide ((match l.findIdx? q with | some i=>(i : Int) | none=>-1) ≥ 0) = l.any q:=by
 rw [Bool.eq_iff_iff,decide_eq_true_eq]
 cases h : l.findIdx? q with
 | none =>
  have:=List.findIdx?_eq_none_iff.1 h
  simp
  exact this
 | some i =>
  have h2:=List.findIdx?_eq_some_iff_getElem.1 h
  obtain ⟨hi,hq,_⟩:=h2
  simp
  exact ⟨_,List.getElem_mem hi,hq⟩
theorem A5 {α : Type} [Dat α] [Wt α] {f : α → Int → Option Int} {x : α} {left : Int} {G : Int → Option Bool} (hf : Bn f x) (h1 : 0 ≤ left) (h2 : left ≤ 1048576) (hG : ∀ r,0 ≤ r → r ≤ 1048576 → r + (Wt.wt x : Nat) ≤ left → G r = some true) :
  ((f x left).bind fun r=>if decide (r < 0) = true then some true else G r) = some true:=by
 obtain ⟨r,e1,e2,e3⟩:=hf left h1 h2
 rw [e1]
 by_cases hr : r < 0
 ·simp [hr]
 ·have:=hG r (by omega) e2 (e3 (by omega))
  simp [hr,this]
theorem A1 {l : List Int} (h : l.length ≤ 9223372036854775807) : Wt.ln l:=⟨h,fun _ _=>trivial⟩
theorem AK (l : List Int) : (l.map fun _=>1).sum = l.length:=by
 induction l with
 | nil=>rfl
 | cons x l ih=>rw [List.map_cons,List.sum_cons,ih,List.length_cons]; omega
theorem QQ (a : Nat) (h : a < 9223372036854775808) : (BitVec.ofInt 64 (a : Int)).toNat = a:=by
 rw [BitVec.toNat_ofInt]
 omega
theorem TD (a b : Nat) (ha : a < 9223372036854775808) (hb : b < 9223372036854775808) : JS (a : Int) (b : Int) = ((a ^^^ b : Nat) : Int):=by
 unfold JS
 rw [BitVec.toNat_xor,QQ a ha,QQ b hb]
 have : a ^^^ b < 2 ^ 63:=Nat.xor_lt_two_pow ha hb
 exact VB (by omega)
theorem Ac (a b : Nat) (ha : a < 9223372036854775808) (hb : b < 9223372036854775808) : andI (a : Int) (b : Int) = ((a &&& b : Nat) : Int):=by
 unfold andI
 rw [BitVec.toNat_and,QQ a ha,QQ b hb]
 have : a &&& b < 2 ^ 63:=Nat.and_lt_two_pow _ hb
 exact VB (by omega)
theorem Tv (a i : Nat) (hi : i ≤ 63) (h : a <<< i < 9223372036854775808) : QM (a : Int) (i : Int) = ((a <<< i : Nat) : Int):=by
 unfold QM
 rw [show min ((i : Int)).toNat 64 = i by omega]
 have : ((a : Int) * 2 ^ i) = ((a <<< i : Nat) : Int):=by rw [Nat.shiftLeft_eq]; simp
 rw [this]
 generalize a <<< i = x at h ⊢
 exact VB (by omega)
theorem Av (a i : Nat) (hi : i ≤ 63) : shrI (a : Int) (i : Int) = ((a >>> i : Nat) : Int):=by
 unfold shrI
 rw [show min ((i : Int)).toNat 64 = i by omega,Nat.shiftRight_eq_div_pow,Int.fdiv_eq_ediv_of_nonneg _ (by exact_mod_cast Nat.zero_le _)]
 simp
theorem J0 (a i : Nat) : ((a >>> i) &&& 1 = 1) ↔ a.testBit i = true:=by
 rw [Nat.testBit,Nat.and_comm]
 have h:=Nat.and_one_is_mod (a >>> i)
 rw [Nat.and_comm] at h
 rw [h]
 rcases Nat.mod_two_eq_zero_or_one (a >>> i) with h | h <;> simp [h]
theorem tmod2 (a : Nat) : Int.tmod (a : Int) 2 = ((a % 2 : Nat) : Int):=by
 rw [Int.tmod_eq_emod_of_nonneg (by omega)]; simp
theorem AO (a : Nat) : Int.tdiv (a : Int) 2 = ((a / 2 : Nat) : Int):=by
 rw [Int.tdiv_eq_ediv_of_nonneg (by omega)]; simp
theorem Hy (a : Nat) (h : a < 9223372036854775808) : wr (a : Int) = (a : Int):=VB (by omega)
theorem wru_nn (a : Nat) (h : a < 9223372036854775808) : IntKind.u64.wrap (a : Int) = (a : Int):=by
 simp only [IntKind.wrap,IntKind.bits,IntKind.signed]
 simp
 omega

def Ye (m deg : Nat) : Nat → Nat → Nat
 | 0,a=>a
 | k + 1,a=>Ye m deg k (if a.testBit (deg + k) then a ^^^ (m <<< k) else a)
theorem Tf {m k n : Nat} (h : m < 2 ^ n) : m <<< k < 2 ^ (n + k):=by
 rw [Nat.shiftLeft_eq,Nat.pow_add]
 exact Nat.mul_lt_mul_of_pos_right h (Nat.two_pow_pos _)
theorem QK {a n : Nat} (h : a < 2 ^ (n + 1)) (hb : a.testBit n = false) : a < 2 ^ n:=by
 apply Nat.lt_pow_two_of_testBit
 intro i hi
 rcases Nat.eq_or_lt_of_le hi with rfl | hi
 ·exact hb
 ·exact Nat.testBit_lt_two_pow (Nat.lt_of_lt_of_le h (Nat.pow_le_pow_right (by omega) hi))
theorem BG {m d : Nat} (h1 : 2 ^ d ≤ m) (h2 : m < 2 ^ (d + 1)) : m.testBit d = true:=by
 rw [Nat.testBit,Nat.shiftRight_eq_div_pow]
 have : m / 2 ^ d = 1:=by
  apply Nat.div_eq_of_lt_le
  ·simpa using h1
  ·rw [Nat.pow_succ] at h2; omega
 rw [this]; rfl
theorem BF {m d k a : Nat} (h1 : 2 ^ d ≤ m) (h2 : m < 2 ^ (d + 1)) (ha : a < 2 ^ (d + (k + 1))) (hb : a.testBit (d + k) = true) : a ^^^ (m <<< k) < 2 ^ (d + k):=by
 have hm : m <<< k < 2 ^ (d + (k + 1)):=by have:=Tf (k:=k) h2; rwa [show d + 1 + k = d + (k + 1) by omega] at this
 refine QK (Nat.xor_lt_two_pow (by rwa [show d + k + 1 = d + (k + 1) by omega]) (by rwa [show d + k + 1 = d + (k + 1) by omega])) ?_
 rw [Nat.testBit_xor,hb,Nat.testBit_shiftLeft]
 simp [BG h1 h2]
theorem Qf {m d : Nat} (h1 : 2 ^ d ≤ m) (h2 : m < 2 ^ (d + 1)) : ∀ (k a : Nat),a < 2 ^ (d + k) → Ye m d k a < 2 ^ d
 | 0,a,h=>by simpa [Ye] using h
 | k + 1,a,h=>by
  unfold Ye
  cases hb : a.testBit (d + k) with
  | true=>simp only [if_true]; exact Qf h1 h2 k _ (BF h1 h2 h hb)
  | false=>simp only [Bool.false_eq_true,if_false]; exact Qf h1 h2 k a (QK h hb)
theorem Uw (m d : Nat) : ∀ (k a b : Nat),Ye m d k (a ^^^ b) = Ye m d k a ^^^ Ye m d k b
 | 0,_,_=>rfl
 | k + 1,a,b=>by
  simp only [Ye]
  rw [Nat.testBit_xor]
  cases a.testBit (d + k) <;> cases b.testBit (d + k) <;> simp only [Bool.xor_false,Bool.false_xor,Bool.xor_self,Bool.xor_true,Bool.not_false,Bool.not_true,Bool.false_eq_true,if_true,if_false]
  ·exact Uw m d k a b
  ·rw [Nat.xor_assoc]; exact Uw m d k a _
  ·rw [← Uw m d k]; congr 1; rw [Nat.xor_assoc,Nat.xor_comm b,← Nat.xor_assoc]
  ·rw [← Uw m d k]; congr 1
   rw [Nat.xor_assoc,← Nat.xor_assoc (m <<< k),Nat.xor_comm (m <<< k) b,Nat.xor_assoc,Nat.xor_self,Nat.xor_zero]
theorem Vt {m d : Nat} : ∀ (k a : Nat),a < 2 ^ d → Ye m d k a = a
 | 0,_,_=>rfl
 | k + 1,a,h=>by
  unfold Ye
  rw [Nat.testBit_lt_two_pow (Nat.lt_of_lt_of_le h (Nat.pow_le_pow_right (by omega) (by omega)))]
  simp only [Bool.false_eq_true,if_false]
  exact Vt k a h
theorem QW {m d k a : Nat} (h : a < 2 ^ (d + k)) : Ye m d (k + 1) a = Ye m d k a:=by
 conv=>lhs; unfold Ye
 rw [Nat.testBit_lt_two_pow h]; rfl
theorem UN (m d : Nat) : ∀ (k x : Nat),Ye m d (k + 1) (x <<< 1) = (if ((Ye m d k x) <<< 1).testBit d then ((Ye m d k x) <<< 1) ^^^ m else (Ye m d k x) <<< 1)
 | 0,x=>by simp [Ye]
 | k + 1,x=>by
  conv=>lhs; unfold Ye
  conv=>rhs; unfold Ye
  have e : (x <<< 1).testBit (d + (k + 1)) = x.testBit (d + k):=by
   rw [Nat.testBit_shiftLeft]
   have : d + (k + 1) ≥ 1:=by omega
   simp only [this,decide_true,Bool.true_and]
   congr 1
  rw [e]
  cases x.testBit (d + k) with
  | false=>simp only [Bool.false_eq_true,if_false]; exact UN m d k x
  | true =>
   simp only [if_true]
   have e2 : x <<< 1 ^^^ m <<< (k + 1) = (x ^^^ m <<< k) <<< 1:=by
    rw [Nat.shiftLeft_xor_distrib,← Nat.shiftLeft_add]
   rw [e2]
   exact UN m d k _

def U2 (n : Nat) : Nat:=if n = 0 then 0 else n.log2 + 1
theorem B1 (n : Nat) (h : 0 < n) : U2 n = U2 (n / 2) + 1:=by
 unfold U2
 rw [if_neg (by omega)]
 by_cases h2 : n / 2 = 0
 ·have : n = 1:=by omega
  subst this; rfl
 ·rw [if_neg h2]
  conv=>lhs; rw [Nat.log2_def]
  rw [if_pos (by omega)]
theorem Kv {n p : Nat} (h1 : 2 ^ p ≤ n) (h2 : n < 2 ^ (p + 1)) : U2 n = p + 1:=by
 have h0 : n ≠ 0:=by have:=Nat.two_pow_pos p; omega
 unfold U2
 rw [if_neg h0,(Nat.log2_eq_iff h0).2 ⟨h1,h2⟩]
theorem AT {n p : Nat} (h : n < 2 ^ p) : U2 n ≤ p:=by
 unfold U2
 split
 ·omega
 ·rename_i h0
  have:=(Nat.log2_lt h0).2 h
  omega
theorem Tu (n : Nat) (h : n < 9223372036854775808) : Y9 (n : Int) = some ((U2 n : Nat) : Int):=by
 have key : ∀ (f n c : Nat),n < 2 ^ f → f ≤ 63 → c + f ≤ 1000 → ZE Yy ((n : Int),(c : Int)) = some ((c + U2 n : Nat) : Int):=by
  intro f
  induction f with
  | zero =>
   intro n c hn _ _
   have : n = 0:=by simpa using hn
   subst this
   rw [XE (t:=(c : Int))]
   ·simp [U2]
   ·unfold Yy; simp
  | succ f ih =>
   intro n c hn hf hc
   by_cases h0 : n = 0
   ·subst h0
    rw [XE (t:=(c : Int))]
    ·simp [U2]
    ·unfold Yy; simp
   ·have hp : 0 < n:=by omega
    have hlt : n < 9223372036854775808:=Nat.lt_of_lt_of_le hn (Nat.pow_le_pow_right (by omega : 0 < 2) hf)
    have hst : Yy ((n : Int),(c : Int)) = some (.nx (((n / 2 : Nat) : Int),((c + 1 : Nat) : Int))):=by
     unfold Yy
     have : (n : Int) > 0:=by omega
     simp only [this,decide_true,if_true,AO]
     rw [Hy _ (by omega),Yg (by omega)]
    rw [Wg hst,ih (n / 2) (c + 1) (by rw [Nat.pow_succ] at hn; omega) (by omega) (by omega),B1 n hp]
    congr 2; omega
 unfold Y9
 have:=key 63 n 0 h (by omega) (by omega)
 have h2 : ZE Yy ((n : Int),0) = _:=this
 rw [h2]
 simp
theorem BR (a b d k : Nat) (hd : d ≤ 20) (hk : k ≤ 20) (h1 : 2 ^ d ≤ b) (h2 : b < 2 ^ (d + 1)) (ha : a < 2 ^ (d + k)) : Vh (a : Int) (b : Int) = some ((Ye b d k a : Nat) : Int):=by
 have big : ∀ n,n ≤ 62 → ∀ x : Nat,x < 2 ^ n → x < 9223372036854775808:=fun n hn x hx=>Nat.lt_of_lt_of_le hx (Nat.pow_le_pow_right (by omega : 0 < 2) (by omega : n ≤ 63))
 have key : ∀ (k a : Nat),k ≤ 20 → a < 2 ^ (d + k) → ZE (X8 (b : Int) ((d + 1 : Nat) : Int)) ((a : Int),((U2 a : Nat) : Int)) = some ((Ye b d k a : Nat) : Int):=by
  intro k
  induction k with
  | zero =>
   intro a _ ha
   have hl:=AT (p:=d) ha
   rw [XE (t:=(a : Int))]
   ·rfl
   ·unfold X8
    have : ¬ (((U2 a : Nat) : Int) ≥ ((d + 1 : Nat) : Int)):=by omega
    simp only [this,decide_false,Bool.false_eq_true,if_false]
  | succ k ih =>
   intro a hk ha
   cases hb : a.testBit (d + k) with
   | false =>
    have ha':=QK (by rwa [show d + k + 1 = d + (k + 1) by omega]) hb
    rw [ih a (by omega) ha',QW ha']
   | true =>
    have hge : 2 ^ (d + k) ≤ a:=Nat.ge_two_pow_of_testBit hb
    have hl : U2 a = d + k + 1:=Kv hge (by rwa [show d + k + 1 = d + (k + 1) by omega])
    have hx:=BF h1 h2 ha hb
    have hshl : b <<< k < 2 ^ (d + 1 + k):=Tf h2
    have hst : X8 (b : Int) ((d + 1 : Nat) : Int) ((a : Int),((U2 a : Nat) : Int)) = some (.nx (((a ^^^ b <<< k : Nat) : Int),((U2 (a ^^^ b <<< k) : Nat) : Int))):=by
     unfold X8
     have c1 : ((U2 a : Nat) : Int) ≥ ((d + 1 : Nat) : Int):=by rw [hl]; omega
     have c2 : IntKind.u64.wrap (wr (((U2 a : Nat) : Int) - ((d + 1 : Nat) : Int))) = ((k : Nat) : Int):=by
      rw [hl,show ((d + k + 1 : Nat) : Int) - ((d + 1 : Nat) : Int) = ((k : Nat) : Int) by omega,Hy _ (by omega),wru_nn _ (by omega)]
     simp only [c1,decide_true,if_true,c2]
     have c3 : Wm ((k : Nat) : Int) = some ():=by unfold Wm; rw [if_pos (by omega)]
     rw [c3,Tv b k (by omega) (big _ (by omega) _ hshl),TD a _ (big _ (by omega) _ ha) (big _ (by omega) _ hshl)]
     simp only [Option.bind_some]
     rw [Tu _ (big _ (by omega) _ hx)]
     rfl
    rw [Wg hst,ih _ (by omega) hx]
    conv=>rhs; unfold Ye
    rw [hb]; rfl
 unfold Vh
 rw [Tu b (big _ (by omega) _ h2),Tu a (big _ (by omega) _ ha)]
 simp only [Option.bind_some]
 rw [Kv h1 h2,key k a hk ha]
 rfl
theorem AG (a m d : Nat) (hd : d ≤ 15) (ha : a < 2 ^ 16) (hm : m < 2 ^ 20) : W8 (a : Int) (m : Int) (d : Int) = some ((Ye m d (16 - d) a : Nat) : Int):=by
 have key : ∀ (k a : Nat),d + k ≤ 16 → a < 2 ^ 40 → ZE (Vu (m : Int) (d : Int)) ((a : Int),((d + k : Nat) : Int) - 1) = some ((Ye m d k a : Nat) : Int):=by
  intro k
  induction k with
  | zero =>
   intro a _ _
   rw [XE (t:=(a : Int))]
   ·rfl
   ·unfold Vu
    have : ¬ (((d + 0 : Nat) : Int) - 1 ≥ (d : Int)):=by omega
    simp only [this,decide_false,Bool.false_eq_true,if_false]
  | succ k ih =>
   intro a hk ha
   have e0 : ((d + (k + 1) : Nat) : Int) - 1 = ((d + k : Nat) : Int):=by omega
   have hsh : m <<< k < 2 ^ (20 + k):=Tf hm
   have hsh2 : m <<< k < 2 ^ 40:=Nat.lt_of_lt_of_le hsh (Nat.pow_le_pow_right (by omega) (by omega))
   have hst : Vu (m : Int) (d : Int) ((a : Int),((d + (k + 1) : Nat) : Int) - 1) = some (.nx (((if a.testBit (d + k) then a ^^^ (m <<< k) else a : Nat) : Int),((d + k : Nat) : Int) - 1)):=by
    rw [e0]
    unfold Vu
    have c1 : ((d + k : Nat) : Int) ≥ (d : Int):=by omega
    have c2 : Wm ((d + k : Nat) : Int) = some ():=by unfold Wm; rw [if_pos (by omega)]
    have c3 : wr (((d + k : Nat) : Int) - (d : Int)) = ((k : Nat) : Int):=by rw [show ((d + k : Nat) : Int) - (d : Int) = ((k : Nat) : Int) by omega,Hy _ (by omega)]
    have c4 : Wm ((k : Nat) : Int) = some ():=by unfold Wm; rw [if_pos (by omega)]
    have c5 : wr (((d + k : Nat) : Int) - 1) = ((d + k : Nat) : Int) - 1:=VB (by omega)
    simp only [c1,decide_true,if_true,c2,c3,c4,c5,Option.bind_some]
    have c6 : andI (shrI (a : Int) ((d + k : Nat) : Int)) 1 = (((a >>> (d + k)) &&& 1 : Nat) : Int):=by
     rw [Av a (d + k) (by omega)]
     exact Ac _ 1 (Nat.lt_of_le_of_lt (Nat.shiftRight_le _ _) (by omega)) (by omega)
    rw [c6,Tv m k (by omega) (by omega),TD a _ (by omega) (by omega)]
    cases hb : a.testBit (d + k) with
    | true =>
     have:=(J0 a (d + k)).2 hb
     rw [this]; rfl
    | false =>
     have : ¬ ((a >>> (d + k)) &&& 1 = 1):=fun h=>by rw [(J0 a (d + k)).1 h] at hb; cases hb
     have h2 : (((((a >>> (d + k)) &&& 1 : Nat) : Int)) == 1) = false:=by
      rw [beq_eq_false_iff_ne]; omega
     rw [h2]; rfl
   rw [Wg hst,ih _ (by omega) ?_]
   ·conv=>rhs; unfold Ye
   ·split
    ·exact Nat.xor_lt_two_pow ha hsh2
    ·exact ha
 unfold W8
 have:=key (16 - d) a (by omega) (by omega)
 rw [show ((d + (16 - d) : Nat) : Int) - 1 = 15 by omega] at this
 rw [this]; rfl

def Qp : Nat → Nat → Nat → Nat
 | 0,_,_=>0
 | n + 1,a,b=>(if b % 2 = 1 then a else 0) ^^^ Qp n (a <<< 1) (b / 2)
theorem QO : ∀ (n a : Nat),Qp n a 0 = 0
 | 0,_=>rfl
 | n + 1,a=>by simp [Qp,QO n]
theorem By : ∀ (n a b p : Nat),a < 2 ^ p → Qp n a b < 2 ^ (p + n)
 | 0,_,_,_,_=>by simp [Qp]; exact Nat.two_pow_pos _
 | n + 1,a,b,p,h=>by
  unfold Qp
  have h1 : a <<< 1 < 2 ^ (p + 1):=Tf h
  have h2:=By n (a <<< 1) (b / 2) (p + 1) h1
  rw [show p + 1 + n = p + (n + 1) by omega] at h2
  refine Nat.xor_lt_two_pow ?_ h2
  have h3 : 2 ^ p ≤ 2 ^ (p + (n + 1)):=Nat.pow_le_pow_right (by omega) (by omega)
  have h4:=Nat.two_pow_pos (p + (n + 1))
  split <;> omega
def prC : Nat → Nat → Nat → Nat
 | 0,_,_=>0
 | i + 1,a,b=>prC i a b ^^^ (if b.testBit i then a <<< i else 0)
theorem Hn : ∀ (n a b : Nat),prC (n + 1) a b = (if b % 2 = 1 then a else 0) ^^^ prC n (a <<< 1) (b / 2)
 | 0,a,b=>by
  simp only [prC,Nat.zero_xor,Nat.xor_zero,Nat.shiftLeft_zero]
  have : b.testBit 0 = decide (b % 2 = 1):=by simp [Nat.testBit_zero]
  rw [this]; simp
 | n + 1,a,b=>by
  conv=>lhs; unfold prC
  rw [Hn n a b]
  conv=>rhs; unfold prC
  rw [← Nat.xor_assoc]
  congr 1
  rw [Nat.testBit_succ,← Nat.shiftLeft_add,Nat.add_comm 1 n]
theorem Ai : ∀ (n a b : Nat),prC n a b = Qp n a b
 | 0,_,_=>rfl
 | n + 1,a,b=>by rw [Hn,Ai n]; rfl
theorem Bl (a b : Nat) (h : a < 256) : ∀ i,i ≤ 8 → prC i a b < 2 ^ 16
 | 0,_=>by simp [prC]
 | i + 1,hi=>by
  unfold prC
  have h1 : a <<< i < 2 ^ (8 + i):=Tf h
  have h2 : 2 ^ (8 + i) ≤ 2 ^ 16:=Nat.pow_le_pow_right (by omega) (by omega)
  refine Nat.xor_lt_two_pow (Bl a b h i (by omega)) ?_
  split
  ·omega
  ·omega
def ZR (m : Nat) (a b : UInt8) : UInt8:=ZI ((Ye m 8 8 (Qp 8 a.toNat b.toNat) : Nat) : Int)
theorem VC (m : Nat) (hm : m < 512) (a b : UInt8) : ZV (m : Int) a b = some (ZR m a b):=by
 have ha : a.toNat < 256:=a.toNat_lt
 have hb : b.toNat < 256:=b.toNat_lt
 have h:=ZS (f:=YR a b) (fun i : Nat=>(((prC i a.toNat b.toNat : Nat) : Int),(i : Int))) 0 8 (Nat.zero_le _) (t:=((prC 8 a.toNat b.toNat : Nat) : Int)) (fun i _ hi=>by
  unfold YR
  have c1 : ((i : Int) < 8):=by omega
  have c2 : Wm (i : Int) = some ():=by unfold Wm; rw [if_pos (by omega)]
  have c3 : prC i a.toNat b.toNat < 2 ^ 16:=Bl _ _ ha i (by omega)
  have c4 : a.toNat <<< i < 2 ^ (8 + i):=Tf ha
  have c5 : 2 ^ (8 + i) ≤ 2 ^ 16:=Nat.pow_le_pow_right (by omega) (by omega)
  have c6 : (((HN b (i : Int)) &&& 1) == 1) = b.toNat.testBit i:=by
   have e1 : (HN b (i : Int)).toNat = b.toNat >>> i:=by
    unfold HN ZI
    rw [show min ((i : Int)).toNat 8 = i by omega,Int.fdiv_eq_ediv_of_nonneg _ (by exact_mod_cast Nat.zero_le _)]
    have : ((b.toNat : Int) / 2 ^ i) = ((b.toNat >>> i : Nat) : Int):=by rw [Nat.shiftRight_eq_div_pow]; simp
    rw [this]
    have h3 : b.toNat >>> i ≤ b.toNat:=Nat.shiftRight_le _ _
    generalize b.toNat >>> i = q at h3 ⊢
    have h4 : (((q : Nat) : Int) % 256).toNat = q:=by omega
    rw [h4]
    simp
    omega
   rw [Bool.eq_iff_iff,beq_iff_eq,← J0,← UInt8.toNat_inj,UInt8.toNat_and,e1]
   simp
  simp only [c1,decide_true,if_true,c2,Option.bind_some,c6,Yg (show i < 9223372036854775807 by omega)]
  rw [Tv _ i (by omega) (by omega),TD _ _ (by omega) (by omega)]
  cases hbit : b.toNat.testBit i with
  | true=>simp [prC,hbit]
  | false=>simp [prC,hbit]) (by unfold YR; simp)
 have h2 : ZE (YR a b) (0,0) = _:=h
 unfold ZV
 rw [h2]
 simp only [Option.bind_some]
 have h3:=AG (prC 8 a.toNat b.toNat) m 8 (by omega) (Bl _ _ ha 8 (by omega)) (by omega)
 have h4 : W8 ((prC 8 a.toNat b.toNat : Nat) : Int) (m : Int) 8 = _:=h3
 rw [h4,Ai]
 rfl
theorem UG (m : Nat) (hm : m < 512) (hm2 : 256 ≤ m) (a b : UInt8) : Z8 (m : Int) a b = some (ZR m a b):=by
 have ha : a.toNat < 256:=a.toNat_lt
 have hb : b.toNat < 256:=b.toNat_lt
 have h1 : 2 ^ 8 ≤ m:=hm2
 have h2 : m < 2 ^ (8 + 1):=hm
 have hR : ∀ i,i ≤ 8 → Ye m 8 8 (a.toNat <<< i) < 256:=fun i hi=>Qf h1 h2 8 _ (by
  have:=Tf (k:=i) (show a.toNat < 2 ^ 8 from ha)
  exact Nat.lt_of_lt_of_le this (Nat.pow_le_pow_right (by omega) (by omega)))
 have hdbl : ∀ i,i ≤ 7 → Ye m 8 8 (a.toNat <<< (i + 1)) = if 256 ≤ (Ye m 8 8 (a.toNat <<< i)) * 2 then (Ye m 8 8 (a.toNat <<< i)) * 2 ^^^ m else (Ye m 8 8 (a.toNat <<< i)) * 2:=by
  intro i hi
  have hx : a.toNat <<< i < 2 ^ (8 + 7):=Nat.lt_of_lt_of_le (Tf (show a.toNat < 2 ^ 8 from ha)) (Nat.pow_le_pow_right (by omega) (by omega))
  have e : a.toNat <<< (i + 1) = (a.toNat <<< i) <<< 1:=by rw [← Nat.shiftLeft_add]
  rw [e,UN m 8 7,← QW hx]
  have hlt:=hR i (by omega)
  generalize Ye m 8 8 (a.toNat <<< i) = y at hlt ⊢
  have e2 : y <<< 1 = y * 2:=by rw [Nat.shiftLeft_eq]
  rw [e2]
  have e3 : (y * 2).testBit 8 = decide (256 ≤ y * 2):=by
   by_cases hy : 256 ≤ y * 2
   ·rw [BG (d:=8) hy (by omega)]; simp [hy]
   ·rw [Nat.testBit_lt_two_pow (by omega : y * 2 < 2 ^ 8)]; simp [hy]
  rw [e3]
  by_cases hy : 256 ≤ y * 2 <;> simp [hy]
 have key : ∀ (n i o r : Nat),i + n ≤ 8 → r < 2 ^ n → o < 256 → ZE (YD (m : Int)) ((o : Int),((Ye m 8 8 (a.toNat <<< i) : Nat) : Int),(r : Int)) = some ((o ^^^ Ye m 8 8 (Qp n (a.toNat <<< i) r) : Nat) : Int):=by
  intro n
  induction n with
  | zero =>
   intro i o r _ hr ho
   have : r = 0:=by simpa using hr
   subst this
   rw [XE (t:=(o : Int))]
   ·rw [QO,Vt 8 0 (by omega),Nat.xor_zero]
   ·unfold YD; simp
  | succ n ih =>
   intro i o r hi hr ho
   by_cases h0 : r = 0
   ·subst h0
    rw [XE (t:=(o : Int))]
    ·rw [QO,Vt 8 0 (by omega),Nat.xor_zero]
    ·unfold YD; simp
   ·have hy:=hR i (by omega)
    have hst : YD (m : Int) ((o : Int),((Ye m 8 8 (a.toNat <<< i) : Nat) : Int),(r : Int)) = some (.nx (((o ^^^ Ye m 8 8 (if r % 2 = 1 then a.toNat <<< i else 0) : Nat) : Int),((Ye m 8 8 (a.toNat <<< (i + 1)) : Nat) : Int),((r / 2 : Nat) : Int))):=by
     rw [hdbl i (by omega)]
     unfold YD
     have c1 : (r : Int) > 0:=by omega
     have hr2 : r < 512:=Nat.lt_of_lt_of_le hr (Nat.le_trans (Nat.pow_le_pow_right (by omega) (by omega : n + 1 ≤ 9)) (by omega))
     simp only [c1,decide_true,if_true,tmod2,AO]
     have e1 : wr (((Ye m 8 8 (a.toNat <<< i) : Nat) : Int) * 2) = (((Ye m 8 8 (a.toNat <<< i)) * 2 : Nat) : Int):=by rw [VB (by omega)]; omega
     have e2 : wr ((r / 2 : Nat) : Int) = ((r / 2 : Nat) : Int):=Hy _ (by omega)
     rw [e1,e2,TD _ _ (by omega) (by omega),TD _ _ (by omega) (by omega)]
     have e3 : ((((r % 2 : Nat) : Int)) == 1) = decide (r % 2 = 1):=by
      rw [Bool.eq_iff_iff,beq_iff_eq,decide_eq_true_eq]; omega
     rw [e3]
     have e4 : decide ((((Ye m 8 8 (a.toNat <<< i)) * 2 : Nat) : Int) ≥ 256) = decide (256 ≤ (Ye m 8 8 (a.toNat <<< i)) * 2):=by rw [decide_eq_decide]; omega
     rw [e4]
     have e5 : Ye m 8 8 0 = 0:=Vt 8 0 (by omega)
     by_cases c2 : r % 2 = 1 <;> by_cases c3 : 256 ≤ (Ye m 8 8 (a.toNat <<< i)) * 2 <;> simp only [c2,c3,decide_true,decide_false,Bool.false_eq_true,if_true,if_false,Option.bind_some,e5,Nat.xor_zero]
    rw [Wg hst,ih (i + 1) _ (r / 2) (by omega) (by rw [Nat.pow_succ] at hr; omega) ?_]
    ·conv=>rhs; unfold Qp
     rw [Uw,Nat.xor_assoc,Nat.shiftLeft_add]
    ·refine Nat.xor_lt_two_pow (n:=8) ho ?_
     split
     ·exact hR i (by omega)
     ·rw [Vt 8 0 (by omega)]; omega
 have:=key 8 0 0 b.toNat (by omega) hb (by omega)
 rw [Nat.shiftLeft_zero,Vt 8 a.toNat ha,Nat.zero_xor] at this
 have h3 : ZE (YD (m : Int)) (0,bI a,bI b) = _:=this
 unfold Z8
 rw [h3]
 rfl

def Hl (m : Nat) : Nat → UInt8 → Nat → UInt8 → UInt8
 | 0,_,_,o=>o
 | f + 1,a,k,o=>if k = 0 then o else Hl m f (ZR m a a) (k / 2) (if k % 2 = 1 then ZR m o a else o)
theorem HT (m : Nat) (L : UInt8 × Int × UInt8 → Option (Fl (UInt8 × Int × UInt8) UInt8)) (T : UInt8 → UInt8 → Option UInt8) (hT : ∀ a b,T a b = some (ZR m a b))
  (hL : ∀ s,L s = if (decide (s.2.1 > 0)) = true then (((if ((Int.tmod s.2.1 2) == 1) = true then ((T s.2.2 s.1).bind fun r=>some r) else (some s.2.2) : Option UInt8).bind fun j12=>(T s.1 s.1).bind fun r20=>some (r20,j12) : Option (UInt8 × UInt8)).bind fun j9=>some (Fl.nx (j9.1,wr (Int.tdiv s.2.1 2),j9.2))) else (some (Fl.ex s.2.2))) :
  ∀ (f k : Nat) (a o : UInt8),k < 2 ^ f → f ≤ 62 → ZE L (a,(k : Int),o) = some (Hl m f a k o):=by
 intro f
 induction f with
 | zero =>
  intro k a o hk _
  have : k = 0:=by simpa using hk
  subst this
  exact XE (by rw [hL]; simp [Hl])
 | succ f ih =>
  intro k a o hk hf
  by_cases h0 : k = 0
  ·subst h0
   exact XE (by rw [hL]; simp [Hl])
  ·have hlt : k < 9223372036854775808:=Nat.lt_of_lt_of_le hk (Nat.pow_le_pow_right (by omega : 0 < 2) (by omega : f + 1 ≤ 63))
   have hst : L (a,(k : Int),o) = some (.nx (ZR m a a,((k / 2 : Nat) : Int),if k % 2 = 1 then ZR m o a else o)):=by
    rw [hL]
    have c1 : (k : Int) > 0:=by omega
    have e3 : ((((k % 2 : Nat) : Int)) == 1) = decide (k % 2 = 1):=by
     rw [Bool.eq_iff_iff,beq_iff_eq,decide_eq_true_eq]; omega
    simp only [c1,decide_true,if_true,tmod2,AO,hT,e3,Option.bind_some,Hy (k / 2) (by omega)]
    by_cases c2 : k % 2 = 1 <;> simp [c2]
   rw [Wg hst,ih (k / 2) _ _ (by rw [Nat.pow_succ] at hk; omega) (by omega)]
   conv=>rhs; unfold Hl
   rw [if_neg h0]
theorem Ji (m : Nat) (hm : m < 512) (a : UInt8) (k f : Nat) (hk : k < 2 ^ f) (hf : f ≤ 62) : Xb (m : Int) a (k : Int) = some (Hl m f a k 1):=by
 unfold Xb
 rw [HT m (Wq (m : Int)) _ (VC m hm) (fun s=>by unfold Wq; rfl) f k a 1 hk hf]; rfl
theorem Bg (m : Nat) (hm : m < 512) (hm2 : 256 ≤ m) (a : UInt8) (k f : Nat) (hk : k < 2 ^ f) (hf : f ≤ 62) : X6 (m : Int) a (k : Int) = some (Hl m f a k 1):=by
 unfold X6
 rw [HT m (Vs (m : Int)) _ (UG m hm hm2) (fun s=>by unfold Vs; rfl) f k a 1 hk hf]; rfl
def invC (m : Nat) (a : UInt8) : UInt8:=Hl m 8 a 254 1
theorem Ke (m : Nat) (hm : m < 512) (a : UInt8) : Xi (m : Int) a = some (invC m a):=by
 unfold Xi
 have:=Ji m hm a 254 8 (by omega) (by omega)
 have h2 : Xb (m : Int) a 254 = _:=this
 rw [h2]; rfl
theorem AH (m : Nat) (hm : m < 512) (hm2 : 256 ≤ m) (a : UInt8) : VD (m : Int) a = some (invC m a):=by
 unfold VD
 have:=Bg m hm hm2 a 254 8 (by omega) (by omega)
 have h2 : X6 (m : Int) a 254 = _:=this
 rw [h2]; rfl

def Km (m d : Nat) : Bool:=Ye d (U2 d - 1) (16 - (U2 d - 1)) m == 0
def VO (m : Int) : Bool:=decide (256 ≤ m ∧ m ≤ 511) && !((List.range' 2 30).any (Km m.toNat))
theorem H7 (m : Int) : WU m = some (VO m):=by
 unfold WU VO
 rw [Ks]
 by_cases hm : 256 ≤ m ∧ m ≤ 511
 ·obtain ⟨n,rfl⟩:=Int.eq_ofNat_of_zero_le (show 0 ≤ m by omega)
  have hn : n < 512:=by omega
  have h:=QJ (f:=XL (n : Int)) 32 (Km n) false (by omega) 2 (by omega) (fun d h2 hd=>by
   unfold XL
   have c1 : (d : Int) < 32:=by omega
   have hp : ∃ p,p ≤ 4 ∧ 2 ^ p ≤ d ∧ d < 2 ^ (p + 1):=by
    refine ⟨d.log2,?_,Nat.log2_self_le (by omega),Nat.lt_log2_self⟩
    have:=(Nat.log2_lt (n:=d) (by omega)).2 (show d < 2 ^ 5 by omega)
    omega
   obtain ⟨p,h3,h4,h5⟩:=hp
   have hl:=Kv h4 h5
   rw [BR n d p (16 - p) (by omega) (by omega) h4 h5 (by rw [show p + (16 - p) = 16 by omega]; omega)]
   simp only [c1,decide_true,if_true,Option.bind_some]
   unfold Km
   rw [hl,show p + 1 - 1 = p by omega]
   generalize Ye d p (16 - p) n = q
   have : ((((q : Nat) : Int)) == 0) = (q == 0):=by rw [Bool.eq_iff_iff,beq_iff_eq,beq_iff_eq]; omega
   rw [this]
   cases q == 0 <;> simp) (by unfold XL; simp)
  have h2 : ZE (XL (n : Int)) 2 = _:=h
  rw [h2]
  simp only [hm,decide_true,and_self,Bool.not_true,Bool.false_eq_true,if_false,Option.bind_some,Bool.true_and,Int.toNat_natCast]
  cases (List.range' 2 30).any (Km n) <;> rfl
 ·simp [hm]
theorem BO (m : Int) : Vm m = some (VO m):=by
 unfold Vm VO
 rw [TG]
 by_cases hm : 256 ≤ m ∧ m ≤ 511
 ·obtain ⟨n,rfl⟩:=Int.eq_ofNat_of_zero_le (show 0 ≤ m by omega)
  have hn : n < 512:=by omega
  have inner : ∀ p : Nat,p ≤ 4 → ZE (X1 (n : Int) (p : Int)) ((2 ^ p : Nat) : Int) = some (if (List.range' (2 ^ p) (2 ^ p)).any (Km n) then Fl.ex false else Fl.nx ()):=by
   intro p hp
   have c2 : Wm (p : Int) = some ():=by unfold Wm; rw [if_pos (by omega)]
   have hpow : 2 ^ p ≤ 2 ^ 4:=Nat.pow_le_pow_right (by omega) hp
   have hpp:=Nat.two_pow_pos p
   have c3 : QM 2 (p : Int) = ((2 ^ (p + 1) : Nat) : Int):=by
    have:=Tv 2 p (by omega) (by rw [Nat.shiftLeft_eq]; omega)
    rw [Nat.shiftLeft_eq] at this
    rw [show (2 : Int) = ((2 : Nat) : Int) from rfl,this,Nat.pow_succ,Nat.mul_comm]
   have h:=QJ (f:=X1 (n : Int) (p : Int)) (2 ^ (p + 1)) (Km n) false (by rw [Nat.pow_succ]; omega) (2 ^ p) (by rw [Nat.pow_succ]; omega) (fun d h4 h5=>by
    unfold X1
    have c1 : (d : Int) < ((2 ^ (p + 1) : Nat) : Int):=by omega
    have hd : d < 32:=by rw [Nat.pow_succ] at h5; omega
    have hl:=Kv h4 h5
    rw [c2,c3,AG n d p (by omega) (by omega) (by omega)]
    simp only [c1,decide_true,if_true,Option.bind_some]
    unfold Km
    rw [hl,show p + 1 - 1 = p by omega]
    generalize Ye d p (16 - p) n = q
    have : ((((q : Nat) : Int)) == 0) = (q == 0):=by rw [Bool.eq_iff_iff,beq_iff_eq,beq_iff_eq]; omega
    rw [this]
    cases q == 0 <;> simp) (by
     unfold X1
     rw [c2,c3]; simp)
   rw [show 2 ^ (p + 1) - 2 ^ p = 2 ^ p by rw [Nat.pow_succ]; omega] at h
   exact h
  have h:=QJ (f:=X5 (n : Int)) 5 (fun p=>(List.range' (2 ^ p) (2 ^ p)).any (Km n)) false (by omega) 1 (by omega) (fun p _ hp=>by
   unfold X5
   have c1 : (p : Int) ≤ 4:=by omega
   have c2 : Wm (p : Int) = some ():=by unfold Wm; rw [if_pos (by omega)]
   have c3 : QM 1 (p : Int) = ((2 ^ p : Nat) : Int):=by
    have hpow : 2 ^ p ≤ 2 ^ 4:=Nat.pow_le_pow_right (by omega) (by omega)
    have:=Tv 1 p (by omega) (by rw [Nat.shiftLeft_eq]; omega)
    rw [Nat.shiftLeft_eq,Nat.one_mul] at this
    exact this
   rw [c2,c3,inner p (by omega)]
   simp only [c1,decide_true,if_true,Option.bind_some]
   cases (List.range' (2 ^ p) (2 ^ p)).any (Km n) <;> rfl) (by unfold X5; simp)
  have h2 : ZE (X5 (n : Int)) 1 = _:=h
  rw [h2]
  have e : ((List.range' 1 (5 - 1)).any fun p=>(List.range' (2 ^ p) (2 ^ p)).any (Km n)) = (List.range' 2 30).any (Km n):=by
   have e1 : List.range' 2 30 = List.range' 2 2 ++ (List.range' 4 4 ++ (List.range' 8 8 ++ List.range' 16 16)):=by decide
   have e2 : List.range' 1 (5 - 1) = [1,2,3,4]:=by decide
   rw [e1,e2]
   simp only [List.any_append,List.any_cons,List.any_nil,Bool.or_false,Nat.reducePow]
  rw [e]
  simp only [hm,decide_true,and_self,Bool.not_true,Bool.false_eq_true,if_false,Option.bind_some,Bool.true_and,Int.toNat_natCast]
  cases (List.range' 2 30).any (Km n) <;> rfl
 ·simp [hm]
theorem TC {m : Int} (h : VO m = true) : ∃ n : Nat,m = n ∧ 256 ≤ n ∧ n < 512:=by
 unfold VO at h
 simp only [Bool.and_eq_true,decide_eq_true_eq] at h
 exact ⟨m.toNat,by omega,by omega,by omega⟩
def Us (l : List UInt8) : Bool:=decide l.Nodup
theorem Jx (l : List UInt8) : ((List.range' 0 (l.length - 0)).any fun i=>(List.range' 0 (i - 0)).any fun k=>l[i]? == l[k]?) = !Us l:=by
 rw [Bool.eq_iff_iff,WX]
 rw [Us,Bool.not_eq_true',decide_eq_false_iff_not]
 unfold List.Nodup
 rw [List.pairwise_iff_getElem]
 simp only [WX,beq_iff_eq]
 constructor
 ·rintro ⟨i,_,hi,k,_,hk,h⟩ hn
  have hk' : k < l.length:=by omega
  rw [List.getElem?_eq_getElem hi,List.getElem?_eq_getElem hk'] at h
  exact hn k i hk' hi hk (by simpa using h.symm)
 ·intro h
  simp only [Classical.not_forall,ne_eq,Decidable.not_not] at h
  obtain ⟨k,i,hk,hi,hki,h⟩:=h
  exact ⟨i,Nat.zero_le _,hi,k,Nat.zero_le _,hki,by rw [List.getElem?_eq_getElem hi,List.getElem?_eq_getElem hk,h]⟩
theorem Jc (l : List UInt8) (c : UInt8) : decide (indexByte l c ≥ 0) = l.contains c:=by
 induction l with
 | nil=>rfl
 | cons b l ih =>
  have hge:=Lib.indexByte_ge l c
  show decide (Lib.indexByte (b :: l) c ≥ 0) = _
  unfold Lib.indexByte
  rw [List.contains_cons,← ih]
  by_cases hb : b = c
  ·subst hb; simp
  ·have hb' : (c == b) = false:=by simpa using fun h=>hb h.symm
   simp only [beq_eq_false_iff_ne.2 hb,hb',Bool.false_eq_true,if_false,Bool.false_or]
   rw [decide_eq_decide]
   show _ ↔ Lib.indexByte l c ≥ 0
   by_cases h1 : Lib.indexByte l c = -1
   ·simp [h1]
   ·rw [if_neg (by simpa using h1)]; omega
theorem KK (l : List UInt8) (h : l.length < 9223372036854775807) : XB l = some (Us l):=by
 unfold XB
 have:=Hu (f:=YC l) l.length (fun i=>(l.take i).any fun x=>l[i]? == some x) false h (fun i hi=>by
  unfold YC
  have e1 : slc l (0 : Int) (i : Int) = some (l.take i):=by have:=QH (l:=l) (i:=0) (j:=i) (Nat.zero_le _) (by omega); simpa using this
  simp only [Int.ofNat_lt,hi,decide_true,if_true,We,List.getElem?_eq_getElem hi,Option.bind_some,e1]
  unfold W0
  simp only [Option.bind_some,Jc]
  have e2 : (l.take i).contains l[i] = (l.take i).any fun x=>some l[i] == some x:=by
   rw [Bool.eq_iff_iff]; simp [List.any_eq_true]
  rw [e2]
  split <;> rfl) (by unfold YC; simp) 0 (Nat.zero_le _)
 have h3 : ZE (YC l) 0 = _:=this
 have key : ((List.range' 0 (l.length - 0)).any fun i=>(l.take i).any fun x=>l[i]? == some x) = !Us l:=by
  rw [← Jx,Bool.eq_iff_iff,WX,WX]
  refine exists_congr fun i=>and_congr_right fun _=>and_congr_right fun hi=>?_
  rw [WX,List.any_eq_true]
  constructor
  ·rintro ⟨x,hx,h⟩
   obtain ⟨k,hk,rfl⟩:=List.mem_iff_getElem.1 hx
   have hk2 : k < i ∧ k < l.length:=by simp at hk; omega
   exact ⟨k,Nat.zero_le _,hk2.1,by rw [List.getElem?_eq_getElem hk2.2]; simpa using h⟩
  ·rintro ⟨k,_,hk,h⟩
   have hkl : k < l.length:=by omega
   refine ⟨l[k],List.mem_iff_getElem.2 ⟨k,by simp; omega,by simp⟩,?_⟩
   rw [List.getElem?_eq_getElem hkl] at h; exact h
 rw [h3,key]
 cases Us l <;> simp [Fl.el]
def dbl (m y : Nat) : Nat:=if (y <<< 1).testBit 8 then (y <<< 1) ^^^ m else y <<< 1
theorem HR (a b c d : Nat) : (a ^^^ b) ^^^ (c ^^^ d) = (a ^^^ c) ^^^ (b ^^^ d):=by
 rw [Nat.xor_assoc,Nat.xor_assoc,← Nat.xor_assoc b,← Nat.xor_assoc c,Nat.xor_comm b c]
theorem Bz (m x y : Nat) : dbl m (x ^^^ y) = dbl m x ^^^ dbl m y:=by
 unfold dbl
 rw [Nat.shiftLeft_xor_distrib,Nat.testBit_xor]
 cases (x <<< 1).testBit 8 <;> cases (y <<< 1).testBit 8 <;> simp only [Bool.xor_false,Bool.false_xor,Bool.xor_self,Bool.xor_true,Bool.not_false,Bool.not_true,Bool.false_eq_true,if_true,if_false]
 ·rw [Nat.xor_assoc]
 ·rw [Nat.xor_assoc,Nat.xor_assoc,Nat.xor_comm m]
 ·rw [HR,Nat.xor_self,Nat.xor_zero]
theorem K0 (m : Nat) : dbl m 0 = 0:=by simp [dbl]
def opP (m : Nat) : Nat → Nat → Nat → Nat
 | 0,_,_=>0
 | n + 1,b,x=>(if b % 2 = 1 then x else 0) ^^^ opP m n (b / 2) (dbl m x)
theorem HG (m n b x : Nat) : opP m (n + 1) b x = (if b % 2 = 1 then x else 0) ^^^ opP m n (b / 2) (dbl m x):=rfl
theorem JU (m : Nat) : ∀ (n b x y : Nat),opP m n b (x ^^^ y) = opP m n b x ^^^ opP m n b y
 | 0,_,_,_=>by simp [opP]
 | n + 1,b,x,y=>by
  unfold opP
  rw [Bz,JU m n,HR]
  congr 1
  split <;> simp
theorem Qc (m : Nat) : ∀ (n b : Nat),opP m n b 0 = 0
 | 0,_=>rfl
 | n + 1,b=>by unfold opP; rw [K0,Qc m n]; simp
theorem BA (m : Nat) : ∀ (n b x : Nat),opP m n b (dbl m x) = dbl m (opP m n b x)
 | 0,_,_=>(K0 m).symm
 | n + 1,b,x=>by
  unfold opP
  rw [BA m n,Bz]
  congr 1
  split
  ·rfl
  ·exact (K0 m).symm
theorem HJ (m : Nat) : ∀ (n b k c x : Nat),opP m n b (opP m k c x) = opP m k c (opP m n b x)
 | 0,_,k,c,_=>(Qc m k c).symm
 | n + 1,b,k,c,x=>by
  rw [HG,HG,← BA,HJ m n,JU]
  congr 1
  split
  ·rfl
  ·exact (Qc m k c).symm
theorem BT (a : Nat) : (if a % 2 = 1 then 1 else 0) ^^^ (a / 2) <<< 1 = a:=by
 rw [Nat.shiftLeft_eq]
 have h : (if a % 2 = 1 then 1 else 0) = a % 2:=by split <;> omega
 rw [h]
 apply Nat.eq_of_testBit_eq
 intro i
 rw [Nat.testBit_xor]
 cases i with
 | zero =>
  simp [Nat.testBit_zero]
 | succ i =>
  rw [Nat.testBit_succ,Nat.testBit_succ,Nat.testBit_succ]
  have h1 : a % 2 / 2 = 0:=by omega
  have h2 : a / 2 * 2 ^ 1 / 2 = a / 2:=by omega
  rw [h1,h2]; simp
theorem zi (m i : Nat) (hi : i < 7) : dbl m (1 <<< i) = 1 <<< (i + 1):=by
 unfold dbl
 rw [← Nat.shiftLeft_add]
 have : (1 <<< (i + 1)).testBit 8 = false:=by
  apply Nat.testBit_lt_two_pow
  rw [Nat.shiftLeft_eq,Nat.one_mul]
  exact Nat.pow_lt_pow_right (by omega) (by omega)
 rw [this]; rfl
theorem JE (m : Nat) : ∀ (n i a : Nat), n + i ≤ 8 → a < 2 ^ n → opP m n a (1 <<< i) = a <<< i
  | 0, i, a, _, ha => by
    have : a = 0 := by simpa using ha
    subst this; simp [opP]
  | n + 1, i, a, hn, ha => by
    have e : a <<< i = (if a % 2 = 1 then 1 <<< i else 0) ^^^ (a / 2) <<< (i + 1) := by
      conv => lhs; rw [← BT a]
      rw [Nat.shiftLeft_xor_distrib, ← Nat.shiftLeft_add, Nat.add_comm 1 i]
      congr 1
      split <;> simp
    unfold opP
    rw [e]
    congr 1
    rcases Nat.eq_zero_or_pos n with rfl | hp
    · have : a / 2 = 0 := by have : a < 2 := by simpa using ha
                             omega
      rw [this]; simp [opP]
    · rw [zi m i (by omega)]
      exact JE m n (i + 1) (a / 2) (by omega) (by rw [Nat.pow_succ] at ha; omega)

theorem BQ (m x : Nat) (hx : x < 2 ^ 15) : Ye m 8 8 (x <<< 1) = dbl m (Ye m 8 8 x):=by
 rw [UN m 8 7,← QW (d:=8) (k:=7) hx]; rfl
theorem Ah (m : Nat) : ∀ (n i a b : Nat),i + n ≤ 8 → a < 2 ^ 8 → Ye m 8 8 (Qp n (a <<< i) b) = opP m n b (Ye m 8 8 (a <<< i))
 | 0,_,_,_,_,_=>by simp [Qp,opP,Vt 8 0]
 | n + 1,i,a,b,hn,ha=>by
  unfold Qp opP
  rw [Uw]
  have hx : a <<< i < 2 ^ 15:=Nat.lt_of_lt_of_le (Tf ha) (Nat.pow_le_pow_right (by omega) (by omega))
  rw [← BQ m _ hx,← Nat.shiftLeft_add,Ah m n (i + 1) a (b / 2) (by omega) ha]
  congr 1
  split
  ·rfl
  ·exact Vt 8 0 (by omega)
theorem Ux (m : Nat) (h1 : 256 ≤ m) (h2 : m < 512) (a b : UInt8) : (ZR m a b).toNat = opP m 8 b.toNat a.toNat:=by
 have ha : a.toNat < 2 ^ 8:=a.toNat_lt
 have hr : Ye m 8 8 (Qp 8 a.toNat b.toNat) < 256:=Qf (d:=8) h1 h2 8 _ (By 8 a.toNat b.toNat 8 ha)
 have e:=Ah m 8 0 a.toNat b.toNat (by omega) ha
 rw [Nat.shiftLeft_zero,Vt 8 _ ha] at e
 unfold ZR ZI
 rw [e] at hr ⊢
 generalize opP m 8 b.toNat a.toNat = q at hr ⊢
 have : (((q : Nat) : Int) % 256).toNat = q:=by omega
 rw [this]
 simp
 omega
section
variable {m : Nat} (h1 : 256 ≤ m) (h2 : m < 512)
include h1 h2
theorem Tj (a b : UInt8) : ZR m a b = ZR m b a:=by
 apply UInt8.toNat_inj.1
 rw [Ux m h1 h2,Ux m h1 h2]
 have ea:=JE m 8 0 a.toNat (by omega) a.toNat_lt
 have eb:=JE m 8 0 b.toNat (by omega) b.toNat_lt
 simp only [Nat.shiftLeft_zero] at ea eb
 rw [← ea,HJ,eb,ea]
theorem B4 (a b c : UInt8) : ZR m (a ^^^ b) c = ZR m a c ^^^ ZR m b c:=by
 apply UInt8.toNat_inj.1
 rw [UInt8.toNat_xor,Ux m h1 h2,Ux m h1 h2,Ux m h1 h2,UInt8.toNat_xor,JU]
theorem H5 (a b c : UInt8) : ZR m a (b ^^^ c) = ZR m a b ^^^ ZR m a c:=by
 rw [Tj h1 h2,B4 h1 h2,Tj h1 h2 b,Tj h1 h2 c]
theorem TU (a : UInt8) : ZR m 0 a = 0:=by
 apply UInt8.toNat_inj.1
 rw [Ux m h1 h2]
 exact Qc m 8 _
end
def vf {α : Type} (n : Nat) (f : Nat → α) : Vector α n:=Vector.ofFn fun i=>f i.1
theorem T1 {α : Type} {n i : Nat} (f : Nat → α) (h : i < n) : (vf n f)[i] = f i:=by simp [vf]
theorem Td {α : Type} {n i : Nat} (f : Nat → α) (h : i < n) : (vf n f)[i]? = some (f i):=by rw [Vector.getElem?_eq_getElem h,T1 f h]
theorem ZP {α : Type} {n i : Nat} (f : Nat → α) (h : i < n) : Zy (vf n f) (i : Int) = some (f i):=by rw [Wv,Td f h]
theorem Y0 {α : Type} {n : Nat} {f g : Nat → α} (h : ∀ i,i < n → f i = g i) : vf n f = vf n g:=by
 apply Ua
 intro i hi
 rw [T1 f hi,T1 g hi,h i hi]
theorem Vi {α : Type} {n : Nat} (f : Nat → α) (k : Nat) (x : α) : (vf n f).setIfInBounds k x = vf n (fun i=>if i = k then x else f i):=by
 apply Ua
 intro i hi
 rw [Vector.getElem_setIfInBounds,T1 _ hi,T1 _ hi]
 by_cases h : k = i
 ·subst h; simp
 ·rw [if_neg h,if_neg (fun e=>h e.symm)]
theorem UQ {α : Type} (n : Nat) (x : α) : Vector.replicate n x = vf n (fun _=>x):=by
 apply Ua
 intro i hi
 rw [T1 _ hi]; simp
theorem Hq {α : Type} [Inhabited α] {n : Nat} (v : Vector α n) : v = vf n (fun i=>v[i]?.getD default):=by
 apply Ua
 intro i hi
 rw [T1 _ hi,Vector.getElem?_eq_getElem hi]; rfl
abbrev Mat:=Vector (Vector UInt8 4) 4
def mf (f : Nat → Nat → UInt8) : Mat:=vf 4 fun i=>vf 4 (f i)
theorem XD {f g : Nat → Nat → UInt8} (h : ∀ i,i < 4 → ∀ j,j < 4 → f i j = g i j) : mf f = mf g:=Y0 fun i hi=>Y0 fun j hj=>h i hi j hj
theorem Xd {i : Nat} (f : Nat → Nat → UInt8) (h : i < 4) : Zy (mf f) (i : Int) = some (vf 4 (f i)):=ZP _ h
theorem Tc (f : Nat → Nat → UInt8) (k : Nat) (g : Nat → UInt8) : (mf f).setIfInBounds k (vf 4 g) = mf (fun i j=>if i = k then g j else f i j):=by
 unfold mf
 rw [Vi]
 apply Y0
 intro i hi
 by_cases h : i = k
 ·simp [h]
 ·simp [h]
theorem mf_of (a : Mat) : ∃ f,a = mf f:=by
 refine ⟨fun i j=>(a[i]?.getD default)[j]?.getD default,?_⟩
 calc a = vf 4 (fun i=>a[i]?.getD default):=Hq a
  _ = _:=Y0 fun i _=>Hq _
theorem Ku : Vector.replicate 4 (Vector.replicate 4 (0 : UInt8)) = mf (fun _ _=>0):=by rw [UQ 4 (0 : UInt8),UQ]; rfl
theorem lt4 {i : Nat} (h : i < 4) : decide ((i : Int) < 4) = true:=by simp; omega
theorem lt4' {i : Nat} (h : ¬ i < 4) : decide ((i : Int) < 4) = false:=by simp; omega
theorem wr4 {i : Nat} (h : i < 1000) : wr ((i : Int) + 1) = ((i + 1 : Nat) : Int):=Yg (by omega)

def U1 (i j : Nat) : UInt8:=if i = j then 1 else 0
theorem Jz (L : Mat × Int → Option (Fl (Mat × Int) Mat))
  (hL : ∀ s8,L s8 = if (decide (s8.2 < 4)) = true then ((Zy s8.1 s8.2).bind fun (x14 : (Vector UInt8 4))=>(Zy x14 s8.2).bind fun (x17 : UInt8)=>some (Fl.nx ((s8.1.setIfInBounds (s8.2).toNat (x14.setIfInBounds (s8.2).toNat 1)),wr (s8.2 + 1)))) else (some (Fl.ex s8.1))) :
  ZE L (Vector.replicate 4 (Vector.replicate 4 (0 : UInt8)),0) = some (mf U1):=by
 have:=ZS (f:=L) (fun i : Nat=>(mf fun r c=>if r < i then U1 r c else 0,(i : Int))) 0 4 (by omega) (t:=mf U1) (fun i _ hi=>by
  rw [hL]
  simp only [lt4 hi,if_true,Xd _ hi,ZP _ hi,Option.bind_some,Int.toNat_natCast,Vi,Tc,wr4 (show i < 1000 by omega)]
  congr 3
  apply XD
  intro r hr c hc
  by_cases h1 : r = i
  ·subst h1; simp [U1,eq_comm]
  ·simp only [h1,if_false]
   by_cases h2 : r < i
   ·rw [if_pos h2,if_pos (by omega)]
   ·rw [if_neg h2,if_neg (by omega)]) (by
  rw [hL]
  simp only [lt4' (show ¬ 4 < 4 by omega),Bool.false_eq_true,if_false]
  exact congrArg (fun z=>some (Fl.ex z)) (XD fun r hr c hc=>by rw [if_pos hr]))
 rw [Ku]
 simpa using this
theorem Qz : Wa = some (mf U1):=by
 unfold Wa
 rw [Jz VH fun s=>rfl]; rfl
theorem Qi : Wb = some (mf U1):=by
 unfold Wb
 rw [Jz VI fun s=>rfl]; rfl

abbrev MF:=Nat → Nat → UInt8
def UI (f : MF) (k : Nat) : Nat:=((List.range' k (4 - k)).find? fun i=>!(f i k == 0)).getD 4
def Af (f : MF) (i k : Nat) : MF:=fun r c=>if r = k then f i c else if r = i then f k c else f r c
def QL (m : Nat) (f : MF) (k : Nat) (by_ : UInt8) : MF:=fun r c=>if r = k then ZR m (f k c) by_ else f r c
def XY (m : Nat) (f g : MF) (k : Nat) : MF:=fun r c=>if r = k then g r c else g r c ^^^ ZR m (f r k) (g k c)
structure Red where
 a : MF
 b : MF
 det : UInt8
def Tk (m : Nat) (s : Red) (k : Nat) : Option Red :=
 let i:=UI s.a k
 if i = 4 then none else
  let f:=Af s.a i k
  let g:=Af s.b i k
  let q:=invC m (f k k)
  let f2:=QL m f k q
  let g2:=QL m g k q
  some ⟨XY m f2 f2 k,XY m f2 g2 k,ZR m s.det (f k k)⟩
def TK (m : Nat) : Nat → Nat → Red → Option Red
 | 0,_,s=>some s
 | n + 1,k,s=>(Tk m s k).bind (TK m n (k + 1))
def TM (m : Nat) (a : MF) : UInt8 × Mat:=match TK m 4 0 ⟨a,U1,1⟩ with
 | some s=>(s.det,mf s.b)
 | none=>(0,mf fun _ _=>0)
theorem KX (L : Int → Option (Fl Int Int)) (f : MF) (k : Nat) (hk : k < 4)
  (hL : ∀ s,L s = (if (decide (s < 4)) = true then ((Zy (mf f) s).bind fun (x30 : (Vector UInt8 4))=>(Zy x30 (k : Int)).bind fun (x33 : UInt8)=>some (x33 == 0)) else (some false) : Option (Bool)).bind fun (j25 : Bool)=>if j25 = true then (some (Fl.nx (wr (s + 1)))) else (some (Fl.ex s))) :
  ZE L (k : Int) = some ((UI f k : Nat) : Int):=by
 have:=Uy (f:=L) (fun i : Nat=>(i : Int)) (fun i=>!(f i k == 0)) (fun i=>(i : Int)) (e:=(4 : Int)) 4 (4 - k) k (by omega) (fun i _ hi=>by
  rw [hL]
  simp only [lt4 hi,if_true,Xd _ hi,ZP _ hk,Option.bind_some]
  cases h : (f i k == 0)
  ·simp
  ·simp [wr4 (show i < 1000 by omega)]) (by rw [hL]; simp)
 rw [this]
 unfold UI
 cases (List.range' k (4 - k)).find? fun i=>!(f i k == 0) <;> rfl
theorem HC {f : MF} {k : Nat} (h : UI f k ≠ 4) : UI f k < 4:=by
 unfold UI at h ⊢
 cases hf : (List.range' k (4 - k)).find? fun i=>!(f i k == 0) with
 | none=>rw [hf] at h; exact absurd rfl h
 | some i =>
  have:=List.mem_range'_1.1 (List.mem_of_find?_eq_some hf)
  simp only [Option.getD_some]
  omega
theorem TF (L : Mat × Mat × Int → Option (Fl (Mat × Mat × Int) (Mat × Mat))) (f g : MF) (k : Nat) (hk : k < 4) (p q : Nat → UInt8)
  (hL : ∀ c,c < 4 → ∀ a b : MF,(∀ r,r ≠ k → a r = f r) → (∀ r,r ≠ k → b r = g r) → a k c = f k c → b k c = g k c → L (mf a,mf b,(c : Int)) = some (Fl.nx ((mf a).setIfInBounds k ((vf 4 (a k)).setIfInBounds c (p c)),(mf b).setIfInBounds k ((vf 4 (b k)).setIfInBounds c (q c)),wr ((c : Int) + 1))))
  (he : ∀ a b : Mat,L (a,b,4) = some (Fl.ex (a,b))) :
  ZE L (mf f,mf g,0) = some (mf (fun r c=>if r = k then p c else f r c),mf (fun r c=>if r = k then q c else g r c)):=by
 have k1 : (mf fun r c=>if r = k then (if c < 4 then p c else f k c) else f r c) = mf fun r c=>if r = k then p c else f r c:=XD fun r _ c hc=>by rw [if_pos hc]
 have k2 : (mf fun r c=>if r = k then (if c < 4 then q c else g k c) else g r c) = mf fun r c=>if r = k then q c else g r c:=XD fun r _ c hc=>by rw [if_pos hc]
 have:=ZS (f:=L) (fun i : Nat=>(mf fun r c=>if r = k then (if c < i then p c else f k c) else f r c,mf fun r c=>if r = k then (if c < i then q c else g k c) else g r c,(i : Int))) 0 4 (by omega)
  (t:=(mf (fun r c=>if r = k then p c else f r c),mf (fun r c=>if r = k then q c else g r c))) (fun i _ hi=>by
  rw [hL i hi _ _ (fun r hr=>by funext c; rw [if_neg hr]) (fun r hr=>by funext c; rw [if_neg hr]) (by simp) (by simp)]
  simp only [Vi,Tc,wr4 (show i < 1000 by omega)]
  congr 3
  ·apply XD
   intro r hr c hc
   by_cases h : r = k
   ·simp only [h,if_true]
    by_cases h2 : c = i
    ·subst h2; simp
    ·by_cases h3 : c < i
     ·rw [if_neg h2,if_pos h3,if_pos (by omega)]
     ·rw [if_neg h2,if_neg h3,if_neg (by omega)]
   ·simp only [h,if_false]
  ·congr 1
   apply XD
   intro r hr c hc
   by_cases h : r = k
   ·simp only [h,if_true]
    by_cases h2 : c = i
    ·subst h2; simp
    ·by_cases h3 : c < i
     ·rw [if_neg h2,if_pos h3,if_pos (by omega)]
     ·rw [if_neg h2,if_neg h3,if_neg (by omega)]
   ·simp only [h,if_false]) (by
  simp only [k1,k2]
  exact he _ _)
 have e1 : mf (fun r c=>if r = k then (if c < 0 then p c else f k c) else f r c) = mf f:=XD fun r hr c hc=>by
  by_cases h : r = k
  ·subst h; simp
  ·simp [h]
 have e2 : mf (fun r c=>if r = k then (if c < 0 then q c else g k c) else g r c) = mf g:=XD fun r hr c hc=>by
  by_cases h : r = k
  ·subst h; simp
  ·simp [h]
 simp only [e1,e2] at this
 exact this
theorem KW {S : Type} (m : Nat) (L : S → Option (Fl S (Fl (Mat × UInt8) (UInt8 × Mat)))) (pk : Red → Nat → S)
  (hstep : ∀ k,k < 4 → ∀ s,L (pk s k) = some (match Tk m s k with | none=>.ex (.ex (0,mf fun _ _=>0)) | some s'=>.nx (pk s' (k + 1))))
  (hend : ∀ s,L (pk s 4) = some (.ex (.nx (mf s.b,s.det)))) : ∀ (n k : Nat) (s : Red),k + n = 4 → ZE L (pk s k) = some (match TK m n k s with | some s'=>.nx (mf s'.b,s'.det) | none=>.ex (0,mf fun _ _=>0))
 | 0,k,s,h=>by
  have : k = 4:=by omega
  subst this
  rw [XE (hend s)]; rfl
 | n + 1,k,s,h=>by
  have h1:=hstep k (by omega) s
  unfold TK
  cases hr : Tk m s k with
  | none=>rw [hr] at h1; rw [XE h1]; rfl
  | some s'=>rw [hr] at h1; rw [Wg h1]; exact KW m L pk hstep hend n (k + 1) s' (by omega)
theorem BL {i k : Nat} : (((i : Int)) != ((k : Nat) : Int)) = decide (i ≠ k):=by
 by_cases h : i = k
 ·subst h; simp
 ·have : (i : Int) ≠ (k : Int):=by omega
  simp [h,this]
theorem Jq (m : Nat) (L : Mat × Mat × Int → Option (Fl (Mat × Mat × Int) (Mat × Mat))) (f g : MF) (k : Nat)
  (hL : ∀ i,i < 4 → ∀ a b : MF,(a i = f i) → (b i = g i) → (a k = f k) → (b k = g k) → L (mf a,mf b,(i : Int)) = some (Fl.nx (mf (fun r c=>if r = i then XY m f f k r c else a r c),mf (fun r c=>if r = i then XY m f g k r c else b r c),wr ((i : Int) + 1))))
  (he : ∀ a b : Mat,L (a,b,4) = some (Fl.ex (a,b))) : ZE L (mf f,mf g,0) = some (mf (XY m f f k),mf (XY m f g k)):=by
 have ek : ∀ h : MF,XY m f h k k = h k:=fun h=>by funext c; simp [XY]
 have k1 : (mf fun r c=>if r < 4 then XY m f f k r c else f r c) = mf (XY m f f k):=XD fun r hr c _=>by rw [if_pos hr]
 have k2 : (mf fun r c=>if r < 4 then XY m f g k r c else g r c) = mf (XY m f g k):=XD fun r hr c _=>by rw [if_pos hr]
 have:=ZS (f:=L) (fun i : Nat=>(mf fun r c=>if r < i then XY m f f k r c else f r c,mf fun r c=>if r < i then XY m f g k r c else g r c,(i : Int))) 0 4 (by omega)
  (t:=(mf (XY m f f k),mf (XY m f g k))) (fun i _ hi=>by
  rw [hL i hi _ _ (by funext c; simp) (by funext c; simp) (by funext c; by_cases h : k < i <;> simp [h,ek]) (by funext c; by_cases h : k < i <;> simp [h,ek])]
  rw [wr4 (show i < 1000 by omega)]
  have e : ∀ (x y : MF),(mf fun r c=>if r = i then x r c else if r < i then x r c else y r c) = mf fun r c=>if r < i + 1 then x r c else y r c:=fun x y=>XD fun r _ c _=>by
   by_cases h1 : r = i
   ·subst h1; simp
   ·by_cases h2 : r < i
    ·rw [if_neg h1,if_pos h2,if_pos (by omega)]
    ·rw [if_neg h1,if_neg h2,if_neg (by omega)]
  rw [e,e]) (by
  simp only [k1,k2]
  exact he _ _)
 simpa using this

theorem Hg (f : MF) {i k : Nat} : ((mf f).setIfInBounds i (vf 4 (f k))).setIfInBounds k (vf 4 (f i)) = mf (Af f i k):=by
 rw [Tc,Tc]; rfl
section
variable (m : Nat) (hm : m < 512) (hm2 : 256 ≤ m)
include hm
theorem Bh (A B : Mat) (det : UInt8) (q : UInt8) (f g : MF) (k : Nat) (hk : k < 4) : ZE (Xl (m : Int) (A,B,(k : Int),det) q) (mf f,mf g,0) = some (mf (QL m f k q),mf (QL m g k q)):=by
 refine TF _ f g k hk (fun c=>ZR m (f k c) q) (fun c=>ZR m (g k c) q) (fun c hc a b _ _ ha hb=>?_) (fun a b=>?_)
 ·unfold Xl
  simp only [lt4 hc,if_true,Xd _ hk,ZP _ hc,Option.bind_some,VC m hm,ha,hb,Int.toNat_natCast]
 ·unfold Xl; simp
theorem AD (A B : Mat) (det : UInt8) (s1 : Mat × Mat × Int) (x : UInt8) (f g : MF) (k i : Nat) (hk : k < 4) (hi : i < 4) (hik : i ≠ k) (hs : s1.2.2 = (i : Int)) :
  ZE (Xk (m : Int) (A,B,(k : Int),det) s1 x) (mf f,mf g,0) = some (mf (fun r c=>if r = i then f i c ^^^ ZR m x (f k c) else f r c),mf (fun r c=>if r = i then g i c ^^^ ZR m x (g k c) else g r c)):=by
 refine TF _ f g i hi (fun c=>f i c ^^^ ZR m x (f k c)) (fun c=>g i c ^^^ ZR m x (g k c)) (fun c hc a b ha' hb' ha hb=>?_) (fun a b=>?_)
 ·unfold Xk
  have e1:=ha' k (Ne.symm hik)
  have e2:=hb' k (Ne.symm hik)
  simp only [hs,lt4 hc,if_true,Xd _ hk,Xd _ hi,ZP _ hc,Option.bind_some,VC m hm,ha,hb,e1,e2,Int.toNat_natCast]
 ·unfold Xk; simp
include hm2
theorem B8 (A B : Mat) (det : UInt8) (f g : MF) (k : Nat) (hk : k < 4) : ZE (Xm (m : Int) (A,B,(k : Int),det)) (mf f,mf g,0) = some (mf (XY m f f k),mf (XY m f g k)):=by
 refine Jq m _ f g k (fun i hi a b hai hbi hak hbk=>?_) (fun a b=>by unfold Xm; simp)
 unfold Xm
 have hfi : a i k = f i k:=by rw [hai]
 simp only [lt4 hi,if_true,Xd _ hi,ZP _ hk,Option.bind_some,BL,hfi]
 by_cases h : i = k
 ·subst h
  simp only [ne_eq,not_true_eq_false,decide_false,Bool.false_eq_true,if_false,Option.bind_some]
  congr 3
  ·exact XD fun r _ c _=>by
    by_cases h : r = i
    ·subst h; simp [XY,hai]
    ·simp [h]
  ·congr 1
   exact XD fun r _ c _=>by
    by_cases h : r = i
    ·subst h; simp [XY,hbi]
    ·simp [h]
 ·have hd : decide (i ≠ k) = true:=by simpa using h
  simp only [hd,if_true,Option.bind_some]
  by_cases h0 : f i k = 0
  ·simp only [h0,bne_self_eq_false,Bool.false_eq_true,if_false,Option.bind_some]
   congr 3
   ·exact XD fun r _ c _=>by
     by_cases h2 : r = i
     ·subst h2; simp [XY,hai,h,h0,TU hm2 hm]
     ·simp [h2]
   ·congr 1
    exact XD fun r _ c _=>by
     by_cases h2 : r = i
     ·subst h2; simp [XY,hbi,h,h0,TU hm2 hm]
     ·simp [h2]
  ·have hb0 : (f i k != 0) = true:=by simpa using h0
   simp only [hb0,if_true,Option.bind_some]
   rw [AD m hm A B det _ _ a b k i hk hi h rfl]
   simp only [Option.bind_some]
   congr 3
   ·exact XD fun r _ c _=>by
     by_cases h2 : r = i
     ·subst h2; simp [XY,hai,hak,h]
     ·simp [h2]
   ·congr 1
    exact XD fun r _ c _=>by
     by_cases h2 : r = i
     ·subst h2; simp [XY,hbi,hbk,h]
     ·simp [h2]
theorem B5 (k : Nat) (hk : k < 4) (s : Red) : Ys (m : Int) (mf s.a,mf s.b,(k : Int),s.det) = some (match Tk m s k with | none=>.ex (.ex (0,mf fun _ _=>0)) | some s'=>.nx (mf s'.a,mf s'.b,((k + 1 : Nat) : Int),s'.det)):=by
 unfold Ys
 have hp:=KX (Va (mf s.a,mf s.b,(k : Int),s.det)) s.a k hk (fun x=>rfl)
 simp only [lt4 hk,if_true,hp,Option.bind_some]
 unfold Tk
 by_cases h4 : UI s.a k = 4
 ·have : ((4 : Nat) : Int) = 4:=rfl
  simp only [h4,this,beq_self_eq_true,if_true,Ku]
 ·have hi:=HC h4
  have h5 : (((UI s.a k : Nat) : Int) == 4) = false:=by
   have : ((UI s.a k : Nat) : Int) ≠ 4:=by omega
   simpa using this
  generalize hpi : UI s.a k = i at *
  simp only [h4,h5,Bool.false_eq_true,if_false]
  have x1 : Zy ((mf s.a).setIfInBounds i (vf 4 (s.a k))) (k : Int) = some (vf 4 (fun c=>if k = i then s.a k c else s.a k c)):=by rw [Tc]; exact Xd _ hk
  have x2 : Zy ((mf s.b).setIfInBounds i (vf 4 (s.b k))) (k : Int) = some (vf 4 (fun c=>if k = i then s.b k c else s.b k c)):=by rw [Tc]; exact Xd _ hk
  simp only [Xd _ hk,Xd _ hi,Option.bind_some,Int.toNat_natCast,x1,x2,Hg,ZP _ hk,VC m hm,Ke m hm,Bh m hm _ _ _ _ _ _ k hk,B8 m hm hm2 _ _ _ _ _ k hk,wr4 (show k < 1000 by omega)]
theorem K5 (f : MF) : Yx (m : Int) (mf f) = some (TM m f):=by
 unfold Yx
 have h:=KW m (Ys (m : Int)) (fun s k=>(mf s.a,mf s.b,(k : Int),s.det)) (B5 m hm hm2) (fun s=>by unfold Ys; simp) 4 0 ⟨f,U1,1⟩ rfl
 have h2 : ZE (Ys (m : Int)) (mf f,mf U1,0,1) = _:=h
 rw [Qi,Option.bind_some,h2]
 unfold TM
 cases TK m 4 0 ⟨f,U1,1⟩ <;> rfl
theorem HX (A B : Mat) (det : UInt8) (q : UInt8) (f g : MF) (k : Nat) (hk : k < 4) : ZE (Wf (m : Int) (A,B,det,(k : Int)) q) (mf f,mf g,0) = some (mf (QL m f k q),mf (QL m g k q)):=by
 refine TF _ f g k hk (fun c=>ZR m (f k c) q) (fun c=>ZR m (g k c) q) (fun c hc a b _ _ ha hb=>?_) (fun a b=>?_)
 ·unfold Wf
  simp only [lt4 hc,if_true,Xd _ hk,ZP _ hc,Option.bind_some,UG m hm hm2,ha,hb,Int.toNat_natCast]
 ·unfold Wf; simp
theorem Ag (A B : Mat) (det : UInt8) (s1 : Mat × Mat × Int) (x : UInt8) (f g : MF) (k i : Nat) (hk : k < 4) (hi : i < 4) (hik : i ≠ k) (hs : s1.2.2 = (i : Int)) :
  ZE (YK (m : Int) (A,B,det,(k : Int)) s1 x) (mf f,mf g,0) = some (mf (fun r c=>if r = i then f i c ^^^ ZR m x (f k c) else f r c),mf (fun r c=>if r = i then g i c ^^^ ZR m x (g k c) else g r c)):=by
 have hd : decide (i ≠ k) = true:=by simpa using hik
 refine TF _ f g i hi (fun c=>f i c ^^^ ZR m x (f k c)) (fun c=>g i c ^^^ ZR m x (g k c)) (fun c hc a b ha' hb' ha hb=>?_) (fun a b=>?_)
 ·unfold YK
  have e1:=ha' k (Ne.symm hik)
  have e2:=hb' k (Ne.symm hik)
  simp only [hs,lt4 hc,if_true,BL,hd,Xd _ hk,Xd _ hi,ZP _ hc,Option.bind_some,UG m hm hm2,ha,hb,e1,e2,Int.toNat_natCast]
 ·unfold YK; simp
theorem BW (A B : Mat) (det : UInt8) (f g : MF) (k : Nat) (hk : k < 4) : ZE (Wc (m : Int) (A,B,det,(k : Int))) (mf f,mf g,0) = some (mf (XY m f f k),mf (XY m f g k)):=by
 refine Jq m _ f g k (fun i hi a b hai hbi hak hbk=>?_) (fun a b=>by unfold Wc; simp)
 unfold Wc
 have hfi : a i k = f i k:=by rw [hai]
 simp only [lt4 hi,if_true,Xd _ hi,ZP _ hk,Option.bind_some,hfi]
 by_cases h : i = k
 ·subst h
  have h0 : ZE (YK (m : Int) (A,B,det,(i : Int)) (mf a,mf b,(i : Int)) (f i i)) (mf a,mf b,0) = some (mf a,mf b):=by
   refine XE ?_
   unfold YK
   simp
  rw [h0]
  simp only [Option.bind_some]
  congr 3
  ·exact XD fun r _ c _=>by
    by_cases h : r = i
    ·subst h; simp [XY,hai]
    ·simp [h]
  ·congr 1
   exact XD fun r _ c _=>by
    by_cases h : r = i
    ·subst h; simp [XY,hbi]
    ·simp [h]
 ·rw [Ag m hm hm2 A B det _ _ a b k i hk hi h rfl]
  simp only [Option.bind_some]
  congr 3
  ·exact XD fun r _ c _=>by
    by_cases h2 : r = i
    ·subst h2; simp [XY,hai,hak,h]
    ·simp [h2]
  ·congr 1
   exact XD fun r _ c _=>by
    by_cases h2 : r = i
    ·subst h2; simp [XY,hbi,hbk,h]
    ·simp [h2]
theorem BN (k : Nat) (hk : k < 4) (s : Red) : YL (m : Int) (mf s.a,mf s.b,s.det,(k : Int)) = some (match Tk m s k with | none=>.ex (.ex (0,mf fun _ _=>0)) | some s'=>.nx (mf s'.a,mf s'.b,s'.det,((k + 1 : Nat) : Int))):=by
 unfold YL
 have hp:=KX (VU (mf s.a,mf s.b,s.det,(k : Int))) s.a k hk (fun x=>rfl)
 simp only [lt4 hk,if_true,hp,Option.bind_some]
 unfold Tk
 by_cases h4 : UI s.a k = 4
 ·have : ((4 : Nat) : Int) = 4:=rfl
  simp only [h4,this,beq_self_eq_true,if_true,Ku]
 ·have hi:=HC h4
  have h5 : (((UI s.a k : Nat) : Int) == 4) = false:=by
   have : ((UI s.a k : Nat) : Int) ≠ 4:=by omega
   simpa using this
  generalize hpi : UI s.a k = i at *
  simp only [h4,h5,Bool.false_eq_true,if_false]
  have x1 : Zy ((mf s.a).setIfInBounds i (vf 4 (s.a k))) (k : Int) = some (vf 4 (fun c=>if k = i then s.a k c else s.a k c)):=by rw [Tc]; exact Xd _ hk
  have x2 : Zy ((mf s.b).setIfInBounds i (vf 4 (s.b k))) (k : Int) = some (vf 4 (fun c=>if k = i then s.b k c else s.b k c)):=by rw [Tc]; exact Xd _ hk
  simp only [Xd _ hk,Xd _ hi,Option.bind_some,Int.toNat_natCast,x1,x2,Hg,ZP _ hk,UG m hm hm2,AH m hm hm2,HX m hm hm2 _ _ _ _ _ _ k hk,BW m hm hm2 _ _ _ _ _ k hk,wr4 (show k < 1000 by omega)]
theorem HF (f : MF) : WH (m : Int) (mf f) = some (TM m f):=by
 unfold WH
 have h:=KW m (YL (m : Int)) (fun s k=>(mf s.a,mf s.b,s.det,(k : Int))) (BN m hm hm2) (fun s=>by unfold YL; simp) 4 0 ⟨f,U1,1⟩ rfl
 have h2 : ZE (YL (m : Int)) (mf f,mf U1,1,0) = _:=h
 rw [Qz,Option.bind_some,h2]
 unfold TM
 cases TK m 4 0 ⟨f,U1,1⟩ <;> rfl
end
def WL (l : List UInt8) (i b : Nat) : Bool:=(l.take i).any fun x=>x.toNat == b
theorem QX (l : List UInt8) {i : Nat} (h : i < l.length) : (fun b=>if b = l[i].toNat then true else WL l i b) = WL l (i + 1):=by
 funext b
 unfold WL
 rw [List.take_succ_eq_append_getElem h,List.any_append]
 by_cases hb : b = l[i].toNat
 ·subst hb; simp
 ·have : (l[i].toNat == b) = false:=by simpa using fun e=>hb e.symm
  simp [hb,this]
theorem HD (l : List UInt8) : ((List.range' 0 (l.length - 0)).any fun i=>WL l i (l.getD i 0).toNat) = !Us l:=by
 rw [← Jx,Bool.eq_iff_iff,WX,WX]
 refine exists_congr fun i=>and_congr_right fun _=>and_congr_right fun hi=>?_
 unfold WL
 rw [WX,List.any_eq_true]
 have e0 : l.getD i 0 = l[i]:=by simp [List.getD_eq_getElem?_getD,List.getElem?_eq_getElem hi]
 rw [e0]
 constructor
 ·rintro ⟨x,hx,h⟩
  obtain ⟨k,hk,rfl⟩:=List.mem_iff_getElem.1 hx
  have hk2 : k < i ∧ k < l.length:=by simp at hk; omega
  refine ⟨k,Nat.zero_le _,hk2.1,?_⟩
  rw [List.getElem?_eq_getElem hk2.2,List.getElem?_eq_getElem hi]
  have h' : l[k].toNat = l[i].toNat:=by simpa using h
  simp [UInt8.toNat_inj.1 h']
 ·rintro ⟨k,_,hk,h⟩
  have hkl : k < l.length:=by omega
  refine ⟨l[k],List.mem_iff_getElem.2 ⟨k,by simp; omega,by simp⟩,?_⟩
  rw [List.getElem?_eq_getElem hkl,List.getElem?_eq_getElem hi] at h
  have : l[i] = l[k]:=by simpa using h
  simp [this]
theorem V7 {n i : Nat} (v : Vector UInt8 n) (h : i < n) : Zy v (i : Int) = some (v.toList.getD i 0):=by
 rw [Wv,Vector.getElem?_eq_getElem h]
 simp [List.getD_eq_getElem?_getD,h]
theorem W7 {n i : Nat} (v : Vector UInt8 n) (h : i < n) : v.toList.getD i 0 = v.toList[i]'(by simpa using h):=by
 simp [List.getD_eq_getElem?_getD,h]
theorem QE (n : Nat) (f : Nat → Bool) (x : UInt8) (h : x.toNat < n) : Zy (vf n f) (bI x) = some (f x.toNat):=ZP f h
theorem UW (x : UInt8) : (bI x).toNat = x.toNat:=rfl
theorem QR (n : Nat) (l : List UInt8) : Vector.replicate n false = vf n (WL l 0):=by rw [UQ]; rfl

theorem QY : ∀ (k l : List Nat),k.Nodup → (∀ x ∈ k,x ∈ l) → k.length ≤ l.length
 | [],_,_,_=>by simp
 | x :: k,l,h,hs=>by
  have hx:=hs x (by simp)
  obtain ⟨h1,h2⟩:=List.nodup_cons.1 h
  have:=QY k (l.erase x) h2 (fun y hy=>by
   have hne : y ≠ x:=fun e=>h1 (e ▸ hy)
   exact (List.mem_erase_of_ne hne).2 (hs y (by simp [hy])))
  rw [List.length_erase_of_mem hx] at this
  have hl : 0 < l.length:=List.length_pos_of_mem hx
  simp only [List.length_cons]; omega
theorem HB : ∀ (l : List Nat),¬ l.Nodup → ∃ l' : List Nat,l'.length + 1 = l.length ∧ ∀ x ∈ l,x ∈ l'
 | [],h=>absurd List.nodup_nil h
 | x :: l,h=>by
  by_cases hx : x ∈ l
  ·exact ⟨l,by simp,fun y hy=>by rcases List.mem_cons.1 hy with rfl | hy; exact hx; exact hy⟩
  ·have : ¬ l.Nodup:=fun hn=>h (List.nodup_cons.2 ⟨hx,hn⟩)
   obtain ⟨l',h1,h2⟩:=HB l this
   exact ⟨x :: l',by simp [h1],fun y hy=>by
    rcases List.mem_cons.1 hy with rfl | hy
    ·simp
    ·simp [h2 y hy]⟩
theorem Ax (l : List Nat) (n : Nat) (hl : l.length = n) (hb : ∀ x ∈ l,x < n) : l.Nodup ↔ ∀ b,b < n → b ∈ l:=by
 constructor
 ·intro h b hbn
  refine Classical.byContradiction fun hne=>?_
  have:=QY (b :: l) (List.range n) (List.nodup_cons.2 ⟨hne,h⟩) (fun x hx=>by
   rcases List.mem_cons.1 hx with rfl | hx
   ·simpa using hbn
   ·simpa using hb x hx)
  simp at this; omega
 ·intro h
  refine Classical.byContradiction fun hne=>?_
  obtain ⟨l',h1,h2⟩:=HB l hne
  have:=QY (List.range n) l' List.nodup_range (fun x hx=>h2 x (h x (by simpa using hx)))
  simp at this; omega
theorem Hk (l : List UInt8) : (l.map UInt8.toNat).Nodup ↔ l.Nodup:=by
 unfold List.Nodup
 rw [List.pairwise_map]
 constructor <;> intro h <;> refine h.imp ?_
 ·intro a b hab e; exact hab (by rw [e])
 ·intro a b hab e; exact hab (UInt8.toNat_inj.1 e)

theorem AX (p : Vector UInt8 256) : VY p = some (Us p.toList):=by
 unfold VY
 have hl : p.toList.length = 256:=by simp
 have:=Uy (f:=WW p) (fun i : Nat=>(vf 256 (WL p.toList i),(i : Int))) (fun i=>WL p.toList i (p.toList.getD i 0).toNat) (fun _=>Fl.ex false) (e:=Fl.nx ()) 256 256 0 rfl (fun i _ hi=>by
  unfold WW
  have hd : decide ((i : Int) < 256) = true:=by simp; omega
  have hx:=V7 p hi
  have hs:=QE 256 (WL p.toList i) (p.toList.getD i 0) (UInt8.toNat_lt _)
  simp only [hd,if_true,hx,Option.bind_some,hs]
  have e:=QX p.toList (i:=i) (by simpa using hi)
  rw [← W7 p hi] at e
  cases WL p.toList i (p.toList.getD i 0).toNat
  ·simp only [Bool.false_eq_true,if_false,Option.bind_some,UW,Vi,e,Yg (show i < 9223372036854775807 by omega)]
  ·rfl) (by unfold WW; simp)
 have h2 : ZE (WW p) (vf 256 (WL p.toList 0),0) = _:=this
 rw [QR 256 p.toList,h2]
 have h3:=HD p.toList
 rw [hl] at h3
 cases hf : (List.range' 0 256).find? (fun i=>WL p.toList i (p.toList.getD i 0).toNat) with
 | none =>
  have h4 : ((List.range' 0 (256 - 0)).any fun i=>WL p.toList i (p.toList.getD i 0).toNat) = false:=by rw [List.any_eq_false]; exact List.find?_eq_none.1 hf
  rw [h4] at h3
  have : Us p.toList = true:=by simpa using h3.symm
  rw [this]; rfl
 | some i =>
  have h4 : ((List.range' 0 (256 - 0)).any fun i=>WL p.toList i (p.toList.getD i 0).toNat) = true:=by rw [List.any_eq_true]; exact ⟨i,List.mem_of_find?_eq_some hf,List.find?_some (p:=fun i=>WL p.toList i (p.toList.getD i 0).toNat) hf⟩
  rw [h4] at h3
  have : Us p.toList = false:=by simpa using h3.symm
  rw [this]; rfl
theorem Ht (l : List Bool) (h : l.length < 9223372036854775807) (b : Bool) : Yj l b = some (l.contains b):=by
 unfold Yj Xc
 have:=Q3 (f:=Yd l b) l.length (fun i=>b == l.getD i false) (fun i=>(i : Int)) h (fun i hi=>by
  unfold Yd
  have e0 : l.getD i false = l[i]:=by simp [List.getD_eq_getElem?_getD,List.getElem?_eq_getElem hi]
  simp only [Int.ofNat_lt,hi,decide_true,if_true,We,List.getElem?_eq_getElem hi,Option.bind_some,e0]
  cases b == l[i] <;> rfl) (by unfold Yd; simp) 0 (Nat.zero_le _)
 have h3 : ZE (Yd l b) 0 = _:=this
 rw [h3]
 cases hf : (List.range' 0 (l.length - 0)).find? (fun i=>b == l.getD i false) with
 | none =>
  have : l.contains b = false:=by
   rw [List.contains_eq_any_beq,List.any_eq_false]
   intro x hx
   obtain ⟨i,hi,rfl⟩:=List.mem_iff_getElem.1 hx
   have:=List.find?_eq_none.1 hf i (List.mem_range'_1.2 (by omega))
   simpa [List.getD_eq_getElem?_getD,List.getElem?_eq_getElem hi] using this
  rw [this]; rfl
 | some i =>
  have hi:=List.mem_range'_1.1 (List.mem_of_find?_eq_some hf)
  have hi' : i < l.length:=by omega
  have h4:=List.find?_some hf
  have : l.contains b = true:=by
   rw [List.contains_eq_any_beq,List.any_eq_true]
   exact ⟨l[i],List.getElem_mem hi',by simpa [List.getD_eq_getElem?_getD,List.getElem?_eq_getElem hi'] using h4⟩
  rw [this]
  simp [Fl.el]
theorem Ki (p : Vector UInt8 256) : Xj p = some (Us p.toList):=by
 unfold Xj
 have hl : p.toList.length = 256:=by simp
 have:=ZS (f:=YA p) (fun i : Nat=>(vf 256 (WL p.toList i),(i : Int))) 0 256 (by omega) (t:=vf 256 (WL p.toList 256)) (fun i _ hi=>by
  unfold YA
  have hd : decide ((i : Int) < 256) = true:=by simp; omega
  have hx:=V7 p hi
  have hs:=QE 256 (WL p.toList i) (p.toList.getD i 0) (UInt8.toNat_lt _)
  have e:=QX p.toList (i:=i) (by simpa using hi)
  rw [← W7 p hi] at e
  simp only [hd,if_true,hx,Option.bind_some,hs,UW,Vi,e,Yg (show i < 9223372036854775807 by omega)]) (by unfold YA; simp)
 have h2 : ZE (YA p) (vf 256 (WL p.toList 0),0) = _:=this
 have e1 : slc (vf 256 (WL p.toList 256)).toList (0 : Int) (256 : Int) = some (vf 256 (WL p.toList 256)).toList:=by
  have:=QH (l:=(vf 256 (WL p.toList 256)).toList) (i:=0) (j:=256) (by omega) (by simp)
  simp only [List.drop_zero] at this
  rw [List.take_of_length_le (by simp)] at this
  exact this
 rw [QR 256 p.toList,h2]
 have hlt : (vf 256 (WL p.toList 256)).toList.length < 9223372036854775807:=by rw [Vector.length_toList]; omega
 rw [Option.bind_some,e1,Option.bind_some,Ht _ hlt,Option.bind_some]
 refine congrArg some ?_
 rw [Bool.eq_iff_iff]
 have hp:=Ax (p.toList.map UInt8.toNat) 256 (by simp) (fun x hx=>by obtain ⟨y,_,rfl⟩:=List.mem_map.1 hx; exact UInt8.toNat_lt y)
 rw [Hk] at hp
 unfold Us
 rw [decide_eq_true_iff,hp,Bool.not_eq_true',List.contains_eq_any_beq,List.any_eq_false]
 have hseen : ∀ b,WL p.toList 256 b = true ↔ b ∈ p.toList.map UInt8.toNat:=fun b=>by
  unfold WL
  rw [List.take_of_length_le (by omega),List.any_eq_true,List.mem_map]
  refine exists_congr fun x=>and_congr_right fun _=>?_
  exact beq_iff_eq
 constructor
 ·intro h b hb
  rw [← hseen]
  have e : (vf 256 (WL p.toList 256)).toList[b]? = some (WL p.toList 256 b):=by rw [Vector.getElem?_toList]; exact Td _ hb
  have:=h _ (List.mem_of_getElem? e)
  generalize WL p.toList 256 b = q at this
  cases q
  ·exact absurd rfl this
  ·rfl
 ·intro h x hx
  obtain ⟨b,hb⟩:=List.mem_iff_getElem?.1 hx
  have hb' : b < 256:=by have:=(List.getElem?_eq_some_iff.1 hb).1; rwa [Vector.length_toList] at this
  rw [Vector.getElem?_toList,Td _ hb',(hseen b).2 (h b hb')] at hb
  cases hb
  decide

def Wr (p : Vector UInt8 16) : Bool:=p.toList.all (fun x=>decide (x < 16)) && Us p.toList
def VX (l : List UInt8) (i : Nat) : Bool:=decide (16 ≤ (l.getD i 0).toNat)
theorem HI (p : Vector UInt8 16) : Wz p = some (Wr p):=by
 unfold Wz
 have hl : p.toList.length = 16:=by simp
 have:=Hu (f:=Xn p) 16 (VX p.toList) false (by omega) (fun i hi=>by
  unfold Xn
  have hd : decide ((i : Int) < 16) = true:=by simp; omega
  have hx:=V7 p hi
  simp only [hd,if_true,hx,Option.bind_some]
  unfold VX
  have : (p.toList.getD i 0 > 15) ↔ (16 ≤ (p.toList.getD i 0).toNat):=by rw [gt_iff_lt,UInt8.lt_iff_toNat_lt]; exact Iff.rfl
  simp only [this]
  split <;> rfl) (by unfold Xn; simp) 0 (by omega)
 have h2 : ZE (Xn p) 0 = _:=this
 have e1 : slc p.toList (0 : Int) (16 : Int) = some p.toList:=by
  have:=QH (l:=p.toList) (i:=0) (j:=16) (by omega) (by simp)
  simp only [List.drop_zero] at this
  rw [List.take_of_length_le (by simp)] at this
  exact this
 have key : ((List.range' 0 (16 - 0)).any (VX p.toList)) = !(p.toList.all fun x=>decide (x < 16)):=by
  rw [Bool.eq_iff_iff,WX,Bool.not_eq_true',List.all_eq_false]
  constructor
  ·rintro ⟨i,_,hi,h⟩
   refine ⟨p.toList[i],List.getElem_mem _,?_⟩
   unfold VX at h
   rw [W7 p hi] at h
   simp only [decide_eq_true_eq,UInt8.lt_iff_toNat_lt] at h ⊢
   have : (16 : UInt8).toNat = 16:=rfl
   omega
  ·rintro ⟨x,hx,h⟩
   obtain ⟨i,hi,rfl⟩:=List.mem_iff_getElem.1 hx
   have hi' : i < 16:=by simpa using hi
   refine ⟨i,Nat.zero_le _,hi',?_⟩
   unfold VX
   rw [W7 p hi']
   simp only [decide_eq_true_eq,UInt8.lt_iff_toNat_lt] at h ⊢
   have : (16 : UInt8).toNat = 16:=rfl
   omega
 rw [h2,key]
 unfold Wr
 cases p.toList.all fun x=>decide (x < 16)
 ·rfl
 ·simp [Fl.el,e1,KK p.toList (by omega)]
theorem A7 (p : Vector UInt8 16) : ((List.range' 0 (16 - 0)).any (VX p.toList)) = !(p.toList.all fun x=>decide (x < 16)):=by
 rw [Bool.eq_iff_iff,WX,Bool.not_eq_true',List.all_eq_false]
 have h16 : (16 : UInt8).toNat = 16:=rfl
 have hl : p.toList.length = 16:=by simp
 constructor
 ·rintro ⟨i,_,hi,h⟩
  refine ⟨p.toList[i],List.getElem_mem _,?_⟩
  unfold VX at h
  rw [W7 p hi] at h
  simp only [decide_eq_true_eq,UInt8.lt_iff_toNat_lt] at h ⊢
  omega
 ·rintro ⟨x,hx,h⟩
  obtain ⟨i,hi,rfl⟩:=List.mem_iff_getElem.1 hx
  have hi' : i < 16:=by simpa using hi
  refine ⟨i,Nat.zero_le _,hi',?_⟩
  unfold VX
  rw [W7 p hi']
  simp only [decide_eq_true_eq,UInt8.lt_iff_toNat_lt] at h ⊢
  omega
theorem BP (p : Vector UInt8 16) : W6 p = some (Wr p):=by
 unfold W6
 have hl : p.toList.length = 16:=by simp
 have h16 : (16 : UInt8).toNat = 16:=rfl
 have:=Uy (f:=XZ p) (fun i : Nat=>(vf 16 (WL p.toList i),(i : Int))) (fun i=>VX p.toList i || WL p.toList i (p.toList.getD i 0).toNat) (fun _=>Fl.ex false) (e:=Fl.nx ()) 16 16 0 rfl (fun i _ hi=>by
  unfold XZ
  have hd : decide ((i : Int) < 16) = true:=by simp; omega
  have hx:=V7 p hi
  simp only [hd,if_true,hx,Option.bind_some]
  unfold VX
  by_cases hf : 16 ≤ (p.toList.getD i 0).toNat
  ·have h1 : p.toList.getD i 0 ≥ 16:=by rw [ge_iff_le,UInt8.le_iff_toNat_le]; omega
   simp only [h1,decide_true,if_true,hf,Bool.true_or,Option.bind_some]
  ·have h1 : ¬ p.toList.getD i 0 ≥ 16:=by rw [ge_iff_le,UInt8.le_iff_toNat_le]; omega
   have hs:=QE 16 (WL p.toList i) (p.toList.getD i 0) (by omega)
   have e:=QX p.toList (i:=i) (by simpa using hi)
   rw [← W7 p hi] at e
   simp only [h1,decide_false,Bool.false_eq_true,if_false,hf,Bool.false_or,Option.bind_some,hs]
   cases WL p.toList i (p.toList.getD i 0).toNat
   ·simp only [Bool.false_eq_true,if_false,Option.bind_some,UW,Vi,e,Yg (show i < 9223372036854775807 by omega)]
   ·rfl) (by unfold XZ; simp)
 have h2 : ZE (XZ p) (vf 16 (WL p.toList 0),0) = _:=this
 rw [QR 16 p.toList,h2]
 have h3:=HD p.toList
 rw [hl] at h3
 have h5 : ((List.range' 0 (16 - 0)).any fun i=>VX p.toList i || WL p.toList i (p.toList.getD i 0).toNat) = !Wr p:=by
  have e : ((List.range' 0 (16 - 0)).any fun i=>VX p.toList i || WL p.toList i (p.toList.getD i 0).toNat) = ((List.range' 0 (16 - 0)).any (VX p.toList) || (List.range' 0 (16 - 0)).any fun i=>WL p.toList i (p.toList.getD i 0).toNat):=by
   induction List.range' 0 (16 - 0) with
   | nil=>rfl
   | cons x l ih=>simp only [List.any_cons,ih]; cases VX p.toList x <;> cases l.any (VX p.toList) <;> simp
  rw [e,A7,h3]
  unfold Wr
  cases (p.toList.all fun x=>decide (x < 16)) <;> cases Us p.toList <;> rfl
 cases hf : (List.range' 0 16).find? (fun i=>VX p.toList i || WL p.toList i (p.toList.getD i 0).toNat) with
 | none =>
  have h4 : ((List.range' 0 (16 - 0)).any fun i=>VX p.toList i || WL p.toList i (p.toList.getD i 0).toNat) = false:=by rw [List.any_eq_false]; exact List.find?_eq_none.1 hf
  rw [h4] at h5
  have : Wr p = true:=by simpa using h5.symm
  rw [this]; rfl
 | some i =>
  have h4 : ((List.range' 0 (16 - 0)).any fun i=>VX p.toList i || WL p.toList i (p.toList.getD i 0).toNat) = true:=by rw [List.any_eq_true]; exact ⟨i,List.mem_of_find?_eq_some hf,List.find?_some (p:=fun i=>VX p.toList i || WL p.toList i (p.toList.getD i 0).toNat) hf⟩
  rw [h4] at h5
  have : Wr p = false:=by simpa using h5.symm
  rw [this]; rfl

def QI (a : Mat) : MF:=fun i j=>(a[i]?.getD default)[j]?.getD default
theorem Qd (a : Mat) : a = mf (QI a):=calc a = vf 4 (fun i=>a[i]?.getD default):=Hq a
  _ = _:=Y0 fun i _=>Hq _
def detC (m : Nat) (a : Mat) : UInt8:=(TM m (QI a)).1
def invM (m : Nat) (a : Mat) : Mat:=(TM m (QI a)).2
def Yt (c : GCipher) : Bool:=VO c.Field && Us c.Box.toList && Wr c.Places && decide (1 ≤ c.Rounds ∧ c.Rounds ≤ 20) && (detC c.Field.toNat c.Mix != 0)
theorem Hs (m : Nat) (hm : m < 512) (hm2 : 256 ≤ m) (a : Mat) : Yx (m : Int) a = some (detC m a,invM m a):=by
 have:=K5 m hm hm2 (QI a)
 rw [← Qd] at this
 exact this
theorem JO (m : Nat) (hm : m < 512) (hm2 : 256 ≤ m) (a : Mat) : Wk (m : Int) a = some (invM m a,detC m a != 0):=by
 have:=HF m hm hm2 (QI a)
 rw [← Qd] at this
 unfold Wk
 rw [this]; rfl
theorem H1 (c : GCipher) : WQ c = some (Yt c):=by
 unfold WQ Yt Wp
 rw [BO]
 cases hf : VO c.Field
 ·rfl
 ·obtain ⟨m,hm,h1,h2⟩:=TC hf
  simp only [hm,Option.bind_some,if_true,Ki,Hs m h2 h1,HI,TG,Int.toNat_natCast]
  cases Us c.Box.toList <;> cases (detC m c.Mix != 0) <;> cases Wr c.Places <;> simp
theorem A2 (c : GCipher) : VN c = some (Yt c):=by
 unfold VN Yt
 rw [H7]
 cases hf : VO c.Field
 ·rfl
 ·obtain ⟨m,hm,h1,h2⟩:=TC hf
  simp only [hm,Option.bind_some,Bool.not_true,Bool.false_eq_true,if_false,AX,BP,Ks,JO m h2 h1,Int.toNat_natCast]
  cases Us c.Box.toList <;> cases (detC m c.Mix != 0) <;> cases Wr c.Places <;> cases decide (1 ≤ c.Rounds ∧ c.Rounds ≤ 20) <;> simp
theorem Qa {c : GCipher} (h : Yt c = true) : ∃ m : Nat,c.Field = m ∧ 256 ≤ m ∧ m < 512:=by
 unfold Yt at h
 simp only [Bool.and_eq_true] at h
 exact TC h.1.1.1.1
theorem VJ {n : Nat} (L : Vector UInt8 n × Int → Option (Fl (Vector UInt8 n × Int) (Vector UInt8 n))) (f h : Nat → UInt8) (hn : n < 9223372036854775807) (m : Nat) (hm : m ≤ n) (h0 : ∀ j,j < m → h j = f j)
  (hL : ∀ i,m ≤ i → i < n → ∀ a : Nat → UInt8,(∀ j,j < i → a j = h j) → (∀ j,i ≤ j → a j = f j) → L (vf n a,(i : Int)) = some (.nx ((vf n a).setIfInBounds i (h i),wr ((i : Int) + 1))))
  (he : ∀ v,L (v,(n : Int)) = some (.ex v)) : ZE L (vf n f,(m : Int)) = some (vf n h):=by
 have k1 : (vf n fun j=>if j < n then h j else f j) = vf n h:=Y0 fun j hj=>by rw [if_pos hj]
 have k0 : (vf n fun j=>if j < m then h j else f j) = vf n f:=Y0 fun j hj=>by
  by_cases h1 : j < m
  ·rw [if_pos h1,h0 j h1]
  ·rw [if_neg h1]
 have:=ZS (f:=L) (fun i : Nat=>(vf n fun j=>if j < i then h j else f j,(i : Int))) m n hm (t:=vf n h) (fun i hmi hi=>by
  rw [hL i hmi hi _ (fun j hj=>by rw [if_pos hj]) (fun j hj=>by rw [if_neg (by omega)]),Vi,Yg (show i < 9223372036854775807 by omega)]
  refine congrArg (fun z=>some (Fl.nx (z,((i + 1 : Nat) : Int)))) (Y0 fun j hj=>?_)
  by_cases h1 : j = i
  ·subst h1; simp
  ·by_cases h2 : j < i
   ·rw [if_neg h1,if_pos h2,if_pos (by omega)]
   ·rw [if_neg h1,if_neg h2,if_neg (by omega)]) (by
  simp only [k1]
  exact he _)
 simp only [k0] at this
 exact this
def Qm (b : Vector UInt8 256) (x : UInt8) : UInt8:=b[x.toNat]'(UInt8.toNat_lt x)
theorem Uc (b : Vector UInt8 256) (x : UInt8) : Zy b (bI x) = some (Qm b x):=by
 have : Zy b ((x.toNat : Nat) : Int) = _:=Wv b x.toNat
 rw [Vector.getElem?_eq_getElem (UInt8.toNat_lt x)] at this
 exact this
abbrev Blk:=Vector UInt8 16
def bf (v : Blk) (i : Nat) : UInt8:=v[i]?.getD default
theorem BJ (v : Blk) : v = vf 16 (bf v):=Hq v
theorem Ja {i : Nat} (h : i < 16) : decide ((i : Int) < 16) = true:=by simp; omega
def Jd (f g : Nat → UInt8) : Nat → UInt8:=fun i=>f i ^^^ g i
theorem KT (f g : Nat → UInt8) : WY (vf 16 f) (vf 16 g) = some (vf 16 (Jd f g)):=by
 unfold WY
 have:=VJ (WK (vf 16 g)) f (Jd f g) (by omega) 0 (by omega) (fun j hj=>by omega) (fun i _ hi a _ ha=>by
  unfold WK
  simp only [Ja hi,if_true,ZP _ hi,Option.bind_some,Int.toNat_natCast,ha i (Nat.le_refl _),Jd]) (fun v=>by unfold WK; simp)
 have h2 : ZE (WK (vf 16 g)) (vf 16 f,0) = _:=this
 rw [h2]; rfl
theorem Tw (f g : Nat → UInt8) : XN (vf 16 f) (vf 16 g) = some (vf 16 (Jd f g)):=by
 unfold XN
 have:=VJ (Xq (vf 16 g)) f (Jd f g) (by omega) 0 (by omega) (fun j hj=>by omega) (fun i _ hi a _ ha=>by
  unfold Xq
  simp only [Ja hi,if_true,ZP _ hi,Option.bind_some,Int.toNat_natCast,ha i (Nat.le_refl _),Jd]) (fun v=>by unfold Xq; simp)
 have h2 : ZE (Xq (vf 16 g)) (vf 16 f,0) = _:=this
 rw [h2]; rfl
def KY (b : Vector UInt8 256) (f : Nat → UInt8) : Nat → UInt8:=fun i=>Qm b (f i)
theorem HW (b : Vector UInt8 256) (f : Nat → UInt8) : WT b (vf 16 f) = some (vf 16 (KY b f)):=by
 unfold WT
 have:=VJ (XK b) f (KY b f) (by omega) 0 (by omega) (fun j hj=>by omega) (fun i _ hi a _ ha=>by
  unfold XK
  simp only [Ja hi,if_true,ZP _ hi,Option.bind_some,Int.toNat_natCast,ha i (Nat.le_refl _),Uc,KY]) (fun v=>by unfold XK; simp)
 have h2 : ZE (XK b) (vf 16 f,0) = _:=this
 rw [h2]; rfl
def TR (p : Blk) (f : Nat → UInt8) : Nat → UInt8:=fun i=>f (bf p i).toNat
theorem QB {p : Blk} (h : Wr p = true) {i : Nat} (hi : i < 16) : (bf p i).toNat < 16:=by
 unfold Wr at h
 simp only [Bool.and_eq_true,List.all_eq_true,decide_eq_true_eq] at h
 have e : bf p i = p[i]:=by unfold bf; rw [Vector.getElem?_eq_getElem hi]; rfl
 have:=h.1 p[i] (by simp)
 rw [UInt8.lt_iff_toNat_lt] at this
 rw [e]; exact this
theorem Tg (p : Blk) {i : Nat} (h : i < 16) : Zy p (i : Int) = some (bf p i):=by
 rw [Wv]; unfold bf; rw [Vector.getElem?_eq_getElem h]; rfl
theorem Hr (f : Nat → UInt8) {x : UInt8} (h : x.toNat < 16) : Zy (vf 16 f) (bI x) = some (f x.toNat):=ZP f h
theorem B0 (p : Blk) (hp : Wr p = true) (f : Nat → UInt8) : Vk p (vf 16 f) = some (vf 16 (TR p f)):=by
 unfold Vk
 have:=VJ (X0 p (vf 16 f)) (fun _=>0) (TR p f) (by omega) 0 (by omega) (fun j hj=>by omega) (fun i _ hi a _ ha=>by
  unfold X0
  simp only [Ja hi,if_true,ZP _ hi,Tg _ hi,Option.bind_some,Int.toNat_natCast,Hr f (QB hp hi),TR]) (fun v=>by unfold X0; simp)
 have h2 : ZE (X0 p (vf 16 f)) (vf 16 (fun _=>0),0) = _:=this
 rw [UQ 16 (0 : UInt8),h2]; rfl
theorem v_move (p : Blk) (hp : Wr p = true) (f : Nat → UInt8) : XT p (vf 16 f) = some (vf 16 (TR p f)):=by
 unfold XT
 have:=VJ (YU p (vf 16 f)) (fun _=>0) (TR p f) (by omega) 0 (by omega) (fun j hj=>by omega) (fun i _ hi a _ ha=>by
  unfold YU
  simp only [Ja hi,if_true,ZP _ hi,Tg _ hi,Option.bind_some,Int.toNat_natCast,Hr f (QB hp hi),TR]) (fun v=>by unfold YU; simp)
 have h2 : ZE (YU p (vf 16 f)) (vf 16 (fun _=>0),0) = _:=this
 rw [UQ 16 (0 : UInt8),h2]; rfl

def U3 (b : Vector UInt8 256) (f : Nat → UInt8) (r : Int) : Nat → UInt8
 | 0=>f 0 ^^^ Qm b (f 15 ^^^ ZI r)
 | i + 1=>f (i + 1) ^^^ Qm b (U3 b f r i)
theorem B6 (b : Vector UInt8 256) (f : Nat → UInt8) (r : Int) : W5 b (vf 16 f) r = some (vf 16 (U3 b f r)) := by
  unfold W5
  have := VJ (X2 b r) f (U3 b f r) (by omega) 0 (by omega) (fun j hj => by omega) (fun i _ hi a hb ha => by
    unfold X2
    cases i with
    | zero =>
      have e1 : Int.tmod (wr (((0 : Nat) : Int) + 15)) 16 = ((15 : Nat) : Int) := by decide
      simp only [e1, Ja hi, if_true, ZP a (show 15 < 16 by omega), Option.bind_some]
      have e2 : (((0 : Nat) : Int) == 0) = true := rfl
      simp only [e2, if_true, Option.bind_some, Uc, ZP a hi, Int.toNat_natCast, ha 0 (by omega), ha 15 (by omega), U3]
    | succ i =>
      have e1 : Int.tmod (wr (((i + 1 : Nat) : Int) + 15)) 16 = ((i : Nat) : Int) := by
        rw [VB (by omega)]
        have : (((i + 1 : Nat) : Int) + 15) = ((i + 16 : Nat) : Int) := by omega
        rw [this]
        have : Int.tmod ((i + 16 : Nat) : Int) 16 = (((i + 16) % 16 : Nat) : Int) := rfl
        rw [this]
        omega
      have e2 : (((i + 1 : Nat) : Int) == 0) = false := by have : ((i + 1 : Nat) : Int) ≠ 0 := by omega
                                                           simpa using this
      simp only [e1, e2, Ja hi, if_true, ZP a (show i < 16 by omega), Option.bind_some, Bool.false_eq_true, if_false, Uc, ZP a hi, Int.toNat_natCast, ha (i + 1) (Nat.le_refl _), hb i (by omega), U3]) (fun v => by unfold X2; simp)
  have h2 : ZE (X2 b r) (vf 16 f, 0) = _ := this
  rw [h2]; rfl
theorem BU (e : Ref Gengine) (f : Nat → UInt8) (r : Int) : Y2 e (vf 16 f) r = some (vf 16 (U3 e.v.box f r)):=by
 unfold Y2
 have x0 : Zy (vf 16 f) (0 : Int) = some (f 0):=ZP f (show 0 < 16 by omega)
 have x15 : Zy (vf 16 f) (15 : Int) = some (f 15):=ZP f (show 15 < 16 by omega)
 have z : (0 : Int).toNat = 0:=rfl
 simp only [x0,x15,Option.bind_some,Uc,z,Vi]
 have:=VJ (Yu e) (fun i=>if i = 0 then f 0 ^^^ Qm e.v.box (f 15 ^^^ ZI r) else f i) (U3 e.v.box f r) (by omega) 1 (by omega) (fun j hj=>by
  have : j = 0:=by omega
  subst this; simp [U3]) (fun i h1 hi a hb ha=>by
  unfold Yu
  obtain ⟨i,rfl⟩ : ∃ k,i = k + 1:=⟨i - 1,by omega⟩
  have e1 : wr (((i + 1 : Nat) : Int) - 1) = ((i : Nat) : Int):=by rw [VB (by omega)]; omega
  simp only [e1,Ja hi,if_true,ZP a (show i < 16 by omega),ZP a hi,Option.bind_some,Uc,Int.toNat_natCast,ha (i + 1) (Nat.le_refl _),hb i (by omega),U3]
  simp) (fun v=>by unfold Yu; simp)
 have h2 : ZE (Yu e) (vf 16 (fun i=>if i = 0 then f 0 ^^^ Qm e.v.box (f 15 ^^^ ZI r) else f i),1) = _:=this
 rw [h2]; rfl
def J6 (b : Vector UInt8 256) (k : Nat → UInt8) : Nat → Nat → UInt8
 | 0=>k
 | r + 1=>U3 b (J6 b k r) ((r + 1 : Nat) : Int)
def XF (b : Vector UInt8 256) (k : Nat → UInt8) (n : Nat) : List Blk:=(List.range (n + 1)).map fun r=>vf 16 (J6 b k r)
theorem Jp (b : Vector UInt8 256) (k : Nat → UInt8) (n : Nat) : XF b k (n + 1) = XF b k n ++ [vf 16 (U3 b (J6 b k n) ((n + 1 : Nat) : Int))]:=by
 unfold XF
 rw [List.range_succ,List.map_append]; rfl
theorem TB (b : Vector UInt8 256) (k : Nat → UInt8) (n : Nat) : (XF b k n).length = n + 1:=by simp [XF]
theorem Qu (b : Vector UInt8 256) (k : Nat → UInt8) {n r : Nat} (h : r ≤ n) : idx (XF b k n) (r : Int) = some (vf 16 (J6 b k r)):=by
 rw [We]; unfold XF; rw [List.getElem?_map,List.getElem?_range (by omega)]; rfl
theorem BS (c : GCipher) (k : Nat → UInt8) (n : Nat) (hn : n ≤ 1000) : Vj c (vf 16 k) (n : Int) = some (XF c.Box k n):=by
 unfold Vj
 have:=ZS (f:=X4 c (n : Int)) (fun i : Nat=>(vf 16 (J6 c.Box k (i - 1)),XF c.Box k (i - 1),(i : Int))) 1 (n + 1) (by omega) (t:=XF c.Box k n) (fun i h1 hi=>by
  unfold X4
  obtain ⟨i,rfl⟩ : ∃ q,i = q + 1:=⟨i - 1,by omega⟩
  have e1 : decide (((i + 1 : Nat) : Int) ≤ (n : Int)) = true:=by simp; omega
  have e2 : app 16 (XF c.Box k i) [vf 16 (U3 c.Box (J6 c.Box k i) ((i + 1 : Nat) : Int))] = _:=KI (by rw [TB]; simp; omega)
  simp only [Nat.add_sub_cancel,e1,if_true,B6,Option.bind_some,e2,Yg (show i + 1 < 9223372036854775807 by omega),Jp]
  rfl) (by
  unfold X4
  have e1 : decide (((n + 1 : Nat) : Int) ≤ (n : Int)) = false:=by simp; omega
  simp only [e1,Bool.false_eq_true,if_false,Nat.add_sub_cancel])
 have h2 : ZE (X4 c (n : Int)) (vf 16 k,[vf 16 k],1) = _:=this
 rw [h2]; rfl
theorem v_keys (e : Ref Gengine) (k : Nat → UInt8) (n : Nat) (hn : n ≤ 1000) : Y4 e (vf 16 k) (n : Int) = some (XF e.v.box k n):=by
 unfold Y4
 have:=ZS (f:=YS e (n : Int)) (fun i : Nat=>(vf 16 (J6 e.v.box k (i - 1)),XF e.v.box k (i - 1),(i : Int))) 1 (n + 1) (by omega) (t:=XF e.v.box k n) (fun i h1 hi=>by
  unfold YS
  obtain ⟨i,rfl⟩ : ∃ q,i = q + 1:=⟨i - 1,by omega⟩
  have e1 : decide (((i + 1 : Nat) : Int) ≤ (n : Int)) = true:=by simp; omega
  have e2 : app 16 (XF e.v.box k i) [vf 16 (U3 e.v.box (J6 e.v.box k i) ((i + 1 : Nat) : Int))] = _:=KI (by rw [TB]; simp; omega)
  simp only [Nat.add_sub_cancel,e1,if_true,BU,Option.bind_some,e2,Yg (show i + 1 < 9223372036854775807 by omega),Jp]
  rfl) (by
  unfold YS
  have e1 : decide (((n + 1 : Nat) : Int) ≤ (n : Int)) = false:=by simp; omega
  simp only [e1,Bool.false_eq_true,if_false,Nat.add_sub_cancel])
 have h2 : ZE (YS e (n : Int)) (vf 16 k,[vf 16 k],1) = _:=this
 rw [h2]; rfl

def rowF (m : Nat) (a : MF) (f : Nat → UInt8) (c r : Nat) : UInt8:=((ZR m (a r 0) (f c) ^^^ ZR m (a r 1) (f (c + 1))) ^^^ ZR m (a r 2) (f (c + 2))) ^^^ ZR m (a r 3) (f (c + 3))
def W4 (m : Nat) (a : MF) (f : Nat → UInt8) : Nat → UInt8:=fun i=>rowF m a f (i / 4 * 4) (i % 4)
theorem set_set (f : Nat → UInt8) (k : Nat) (x y : UInt8) : (fun i=>if i = k then y else if i = k then x else f i) = fun i=>if i = k then y else f i:=by
 funext i; by_cases h : i = k <;> simp [h]
theorem wr_at {c r : Nat} (hc : c < 4) (hr : r < 4) : wr (wr (4 * (c : Int)) + (r : Int)) = ((c * 4 + r : Nat) : Int):=by
 rw [VB (x:=4 * (c : Int)) (by omega),VB (by omega)]; omega
theorem zn (m : Nat) (hm : m < 512) (hm2 : 256 ≤ m) (a : MF) (f g : Nat → UInt8) (c r : Nat) (hc : c < 4) (hr : r < 4) (s1 s2 : Blk × Int) (h1 : s1.2 = (c : Int)) (h2 : s2.2 = (r : Int)) (hg : g (c * 4 + r) = 0) :
  ZE (Xg (m : Int) (mf a) (vf 16 f) s1 s2) (vf 16 g,0) = some (vf 16 fun i=>if i = c * 4 + r then rowF m a f (c * 4) r else g i):=by
 have hcr : c * 4 + r < 16:=by omega
 have step : ∀ (j : Nat) (h : Nat → UInt8),j < 4 → Xg (m : Int) (mf a) (vf 16 f) s1 s2 (vf 16 h,(j : Int)) = some (.nx (vf 16 (fun i=>if i = c * 4 + r then h (c * 4 + r) ^^^ ZR m (a r j) (f (c * 4 + j)) else h i),((j + 1 : Nat) : Int))):=fun j h hj=>by
  unfold Xg
  simp only [h1,h2,lt4 hj,if_true,wr_at hc hr,wr_at hc hj,ZP _ hcr,Xd _ hr,ZP _ hj,ZP f (show c * 4 + j < 16 by omega),Option.bind_some,UG m hm hm2,Int.toNat_natCast,Vi,wr4 (show j < 1000 by omega)]
 have e0:=step 0 g (by omega)
 have e1:=step 1 (fun i=>if i = c * 4 + r then g (c * 4 + r) ^^^ ZR m (a r 0) (f (c * 4 + 0)) else g i) (by omega)
 have e2:=step 2 (fun i=>if i = c * 4 + r then (g (c * 4 + r) ^^^ ZR m (a r 0) (f (c * 4 + 0))) ^^^ ZR m (a r 1) (f (c * 4 + 1)) else g i) (by omega)
 have e3:=step 3 (fun i=>if i = c * 4 + r then ((g (c * 4 + r) ^^^ ZR m (a r 0) (f (c * 4 + 0))) ^^^ ZR m (a r 1) (f (c * 4 + 1))) ^^^ ZR m (a r 2) (f (c * 4 + 2)) else g i) (by omega)
 have e4 : ∀ v : Blk,Xg (m : Int) (mf a) (vf 16 f) s1 s2 (v,((4 : Nat) : Int)) = some (.ex v):=fun v=>by unfold Xg; simp
 simp only [if_true,set_set] at e1 e2 e3
 have e0' : Xg (m : Int) (mf a) (vf 16 f) s1 s2 (vf 16 g,0) = _:=e0
 rw [Wg e0',Wg e1,Wg e2,Wg e3,XE (e4 _)]
 refine congrArg some (Y0 fun i _=>?_)
 by_cases h : i = c * 4 + r
 ·simp [h,hg,rowF]
 ·simp [h]
theorem AM (m : Nat) (hm : m < 512) (hm2 : 256 ≤ m) (a : MF) (f : Nat → UInt8) : Vx (m : Int) (mf a) (vf 16 f) = some (vf 16 (W4 m a f)):=by
 unfold Vx
 -- after c columns and r rows of the next
 have inner : ∀ c : Nat,c < 4 → ∀ s1 : Blk × Int,s1.2 = (c : Int) → ZE (WA (m : Int) (mf a) (vf 16 f) s1) (vf 16 (fun i=>if i < c * 4 then W4 m a f i else 0),0) = some (vf 16 fun i=>if i < (c + 1) * 4 then W4 m a f i else 0):=fun c hc s1 h1=>by
  have k1 : (vf 16 fun i=>if i < c * 4 + 4 then W4 m a f i else 0) = vf 16 fun i=>if i < (c + 1) * 4 then W4 m a f i else 0:=by rw [show c * 4 + 4 = (c + 1) * 4 by omega]
  have:=ZS (f:=WA (m : Int) (mf a) (vf 16 f) s1) (fun r : Nat=>(vf 16 fun i=>if i < c * 4 + r then W4 m a f i else 0,(r : Int))) 0 4 (by omega) (t:=vf 16 fun i=>if i < (c + 1) * 4 then W4 m a f i else 0) (fun r _ hr=>by
   unfold WA
   have h2:=zn m hm hm2 a f (fun i=>if i < c * 4 + r then W4 m a f i else 0) c r hc hr s1 (vf 16 fun i=>if i < c * 4 + r then W4 m a f i else 0,(r : Int)) h1 rfl (by simp)
   simp only [lt4 hr,if_true,h2,Option.bind_some,wr4 (show r < 1000 by omega)]
   refine congrArg (fun z=>some (Fl.nx (z,((r + 1 : Nat) : Int)))) (Y0 fun i _=>?_)
   by_cases h : i = c * 4 + r
   ·subst h
    have q1 : (c * 4 + r) / 4 = c:=by omega
    have q2 : (c * 4 + r) % 4 = r:=by omega
    rw [if_pos rfl,if_pos (by omega)]
    unfold W4; rw [q1,q2]
   ·by_cases h3 : i < c * 4 + r
    ·rw [if_neg h,if_pos h3,if_pos (by omega)]
    ·rw [if_neg h,if_neg h3,if_neg (by omega)]) (by
   unfold WA
   simp only [k1]
   simp)
  exact this
 have:=ZS (f:=Ww (m : Int) (mf a) (vf 16 f)) (fun c : Nat=>(vf 16 fun i=>if i < c * 4 then W4 m a f i else 0,(c : Int))) 0 4 (by omega) (t:=vf 16 (W4 m a f)) (fun c _ hc=>by
  unfold Ww
  have h2:=inner c hc (vf 16 fun i=>if i < c * 4 then W4 m a f i else 0,(c : Int)) rfl
  simp only [lt4 hc,if_true,h2,Option.bind_some,wr4 (show c < 1000 by omega)]) (by
  unfold Ww
  have : (vf 16 fun i=>if i < 4 * 4 then W4 m a f i else 0) = vf 16 (W4 m a f):=Y0 fun i hi=>by rw [if_pos (by omega)]
  simp only [this]
  simp)
 have e0 : (vf 16 fun i=>if i < 0 * 4 then W4 m a f i else 0) = vf 16 fun _=>(0 : UInt8):=Y0 fun i _=>by rw [if_neg (by omega)]
 simp only [e0] at this
 have h2 : ZE (Ww (m : Int) (mf a) (vf 16 f)) (vf 16 fun _=>(0 : UInt8),0) = _:=this
 rw [UQ 16 (0 : UInt8),h2]; rfl

abbrev Tab:=Vector (Vector (Vector UInt8 256) 4) 4
def Kl (m : Nat) (a : MF) : Tab:=vf 4 fun i=>vf 4 fun j=>vf 256 fun x=>ZR m (a i j) (UInt8.ofNat x)
theorem As (m : Nat) (a : MF) (i j : Nat) (x : UInt8) : Zy (vf 256 fun x=>ZR m (a i j) (UInt8.ofNat x)) (bI x) = some (ZR m (a i j) x):=by
 rw [show bI x = ((x.toNat : Nat) : Int) from rfl,ZP _ (UInt8.toNat_lt x)]
 simp
theorem v_mix (m : Nat) (a : MF) (f : Nat → UInt8) : WC ⟨Kl m a⟩ (vf 16 f) = some (vf 16 (W4 m a f)):=by
 unfold WC
 have i0 : ∀ (v : Vector (Vector UInt8 256) 4),Zy v (0 : Int) = v[0]?:=fun v=>Wv v 0
 have i1 : ∀ (v : Vector (Vector UInt8 256) 4),Zy v (1 : Int) = v[1]?:=fun v=>Wv v 1
 have i2 : ∀ (v : Vector (Vector UInt8 256) 4),Zy v (2 : Int) = v[2]?:=fun v=>Wv v 2
 have i3 : ∀ (v : Vector (Vector UInt8 256) 4),Zy v (3 : Int) = v[3]?:=fun v=>Wv v 3
 have inner : ∀ c : Nat,c < 4 → ∀ s1 : Blk × Int,s1.2 = ((c * 4 : Nat) : Int) → ZE (Xw ⟨Kl m a⟩ s1 (f (c * 4),f (c * 4 + 1),f (c * 4 + 2),f (c * 4 + 3))) (vf 16 (fun i=>if i < c * 4 then W4 m a f i else f i),0) = some (vf 16 fun i=>if i < (c + 1) * 4 then W4 m a f i else f i):=fun c hc s1 h1=>by
  have k1 : (vf 16 fun i=>if i < c * 4 + 4 then W4 m a f i else f i) = vf 16 fun i=>if i < (c + 1) * 4 then W4 m a f i else f i:=by rw [show c * 4 + 4 = (c + 1) * 4 by omega]
  have:=ZS (f:=Xw ⟨Kl m a⟩ s1 (f (c * 4),f (c * 4 + 1),f (c * 4 + 2),f (c * 4 + 3))) (fun r : Nat=>(vf 16 fun i=>if i < c * 4 + r then W4 m a f i else f i,(r : Int))) 0 4 (by omega) (t:=vf 16 fun i=>if i < (c + 1) * 4 then W4 m a f i else f i) (fun r _ hr=>by
   unfold Xw
   have e1 : wr (s1.2 + (r : Int)) = ((c * 4 + r : Nat) : Int):=by rw [h1,VB (by omega)]; omega
   have et : Zy (Kl m a) (r : Int) = some (vf 4 fun j=>vf 256 fun x=>ZR m (a r j) (UInt8.ofNat x)):=ZP _ hr
   simp only [lt4 hr,if_true,et,i0,i1,i2,i3,Td _ (show 0 < 4 by omega),Td _ (show 1 < 4 by omega),Td _ (show 2 < 4 by omega),Td _ (show 3 < 4 by omega),As,e1,ZP _ (show c * 4 + r < 16 by omega),Option.bind_some,Int.toNat_natCast,Vi,wr4 (show r < 1000 by omega)]
   refine congrArg (fun z=>some (Fl.nx (z,((r + 1 : Nat) : Int)))) (Y0 fun i _=>?_)
   by_cases h : i = c * 4 + r
   ·subst h
    have q1 : (c * 4 + r) / 4 = c:=by omega
    have q2 : (c * 4 + r) % 4 = r:=by omega
    rw [if_pos rfl,if_pos (by omega)]
    unfold W4; rw [q1,q2]; rfl
   ·by_cases h3 : i < c * 4 + r
    ·rw [if_neg h,if_pos h3,if_pos (by omega)]
    ·rw [if_neg h,if_neg h3,if_neg (by omega)]) (by
   unfold Xw
   simp only [k1]
   simp)
  exact this
 have:=ZS (f:=Xx ⟨Kl m a⟩) (fun c : Nat=>(vf 16 fun i=>if i < c * 4 then W4 m a f i else f i,((c * 4 : Nat) : Int))) 0 4 (by omega) (t:=vf 16 (W4 m a f)) (fun c _ hc=>by
  unfold Xx
  have hd : decide (((c * 4 : Nat) : Int) < ((vf 16 fun i=>if i < c * 4 then W4 m a f i else f i).toList.length : Int)) = true:=by rw [Vector.length_toList]; simp; omega
  have x0:=ZP (n:=16) (fun i=>if i < c * 4 then W4 m a f i else f i) (show c * 4 < 16 by omega)
  have x1:=ZP (n:=16) (fun i=>if i < c * 4 then W4 m a f i else f i) (show c * 4 + 1 < 16 by omega)
  have x2:=ZP (n:=16) (fun i=>if i < c * 4 then W4 m a f i else f i) (show c * 4 + 2 < 16 by omega)
  have x3:=ZP (n:=16) (fun i=>if i < c * 4 then W4 m a f i else f i) (show c * 4 + 3 < 16 by omega)
  have w1 : wr (((c * 4 : Nat) : Int) + 1) = ((c * 4 + 1 : Nat) : Int):=by rw [VB (by omega)]; omega
  have w2 : wr (((c * 4 : Nat) : Int) + 2) = ((c * 4 + 2 : Nat) : Int):=by rw [VB (by omega)]; omega
  have w3 : wr (((c * 4 : Nat) : Int) + 3) = ((c * 4 + 3 : Nat) : Int):=by rw [VB (by omega)]; omega
  have w4 : wr (((c * 4 : Nat) : Int) + 4) = (((c + 1) * 4 : Nat) : Int):=by rw [VB (by omega)]; omega
  rw [if_neg (by omega)] at x0 x1 x2 x3
  have h2:=inner c hc (vf 16 fun i=>if i < c * 4 then W4 m a f i else f i,((c * 4 : Nat) : Int)) rfl
  simp only [hd,if_true,x0,w1,x1,w2,x2,w3,x3,Option.bind_some,h2,w4]) (by
  unfold Xx
  have : (vf 16 fun i=>if i < 4 * 4 then W4 m a f i else f i) = vf 16 (W4 m a f):=Y0 fun i hi=>by rw [if_pos (by omega)]
  simp only [this]
  simp)
 have e0 : (vf 16 fun i=>if i < 0 * 4 then W4 m a f i else f i) = vf 16 f:=Y0 fun i _=>by rw [if_neg (by omega)]
 simp only [e0] at this
 have h2 : ZE (Xx ⟨Kl m a⟩) (vf 16 f,0) = _:=this
 rw [h2]; rfl

def tb (g : Nat → Nat → Nat → UInt8) : Tab:=vf 4 fun i=>vf 4 fun j=>vf 256 (g i j)
theorem QA {g h : Nat → Nat → Nat → UInt8} (e : ∀ i,i < 4 → ∀ j,j < 4 → ∀ x,x < 256 → g i j x = h i j x) : tb g = tb h :=
 Y0 fun i hi=>Y0 fun j hj=>Y0 fun x hx=>e i hi j hj x hx
theorem zc (g : Nat → Nat → Nat → UInt8) {i : Nat} (hi : i < 4) : Zy (tb g) (i : Int) = some (vf 4 fun j=>vf 256 (g i j)):=ZP _ hi
theorem AS (g : Nat → Nat → Nat → UInt8) (i : Nat) {j : Nat} (hj : j < 4) : Zy (vf 4 fun j=>vf 256 (g i j)) (j : Int) = some (vf 256 (g i j)):=ZP _ hj
theorem tb_set (g : Nat → Nat → Nat → UInt8) (i j : Nat) (h : Nat → UInt8) : (tb g).setIfInBounds i ((vf 4 fun j=>vf 256 (g i j)).setIfInBounds j (vf 256 h)) = tb (fun i' j'=>if i' = i ∧ j' = j then h else g i' j'):=by
 unfold tb
 rw [Vi,Vi]
 refine Y0 fun i' _=>?_
 by_cases h1 : i' = i
 ·subst h1
  rw [if_pos rfl]
  refine Y0 fun j' _=>?_
  by_cases h2 : j' = j
  ·subst h2; simp
  ·simp [h2]
 ·rw [if_neg h1]
  refine Y0 fun j' _=>?_
  simp [h1]
theorem zg (a b : Nat) (ha : a < 9223372036854775808) (hb : b < 9223372036854775808) : orI (a : Int) (b : Int) = ((a ||| b : Nat) : Int):=by
 unfold orI
 rw [BitVec.toNat_or,QQ a ha,QQ b hb]
 have : a ||| b < 2 ^ 63:=Nat.or_lt_two_pow ha hb
 exact VB (by omega)
theorem HH (n : Nat) : ZI (n : Int) = UInt8.ofNat n:=by
 unfold ZI
 have : ((n : Int) % 256).toNat = n % 256:=by omega
 rw [this]
 apply UInt8.toNat_inj.1
 simp
theorem zm (g : Nat → Nat → Nat → UInt8) (i j : Nat) (h : Nat → UInt8) : (tb g).setIfInBounds i (vf 4 fun j'=>if j' = j then vf 256 h else vf 256 (g i j')) = tb (fun i' j'=>if i' = i ∧ j' = j then h else g i' j'):=by
 have:=tb_set g i j h
 rw [Vi] at this
 exact this
theorem Au {p low : Nat} (h : low < 2 ^ p) : 2 ^ p ||| low = 2 ^ p + low:=by
 have:=Nat.two_pow_add_eq_or_of_lt h 1
 simpa using this.symm
theorem An {p low : Nat} (hp : p < 8) (h : low < 2 ^ p) : UInt8.ofNat (2 ^ p + low) = UInt8.ofNat (2 ^ p) ^^^ UInt8.ofNat low:=by
 apply UInt8.toNat_inj.1
 have h7 : 2 ^ p ≤ 2 ^ 7:=Nat.pow_le_pow_right (by omega) (by omega)
 rw [UInt8.toNat_xor]
 simp only [UInt8.toNat_ofNat']
 rw [Nat.mod_eq_of_lt (by omega),Nat.mod_eq_of_lt (by omega),Nat.mod_eq_of_lt (by omega)]
 rw [← Au h]
 apply Nat.eq_of_testBit_eq
 intro i
 rw [Nat.testBit_or,Nat.testBit_xor,Nat.testBit_two_pow]
 by_cases hi : p = i
 ·subst hi
  rw [Nat.testBit_lt_two_pow h]; simp
 ·simp [hi]
section
variable (m : Nat) (hm : m < 512) (hm2 : 256 ≤ m) (a : MF)
include hm hm2
def Tt (m : Nat) (a : MF) (i j n : Nat) (g : Nat → Nat → Nat → UInt8) : Nat → Nat → Nat → UInt8:=fun i' j'=>if i' = i ∧ j' = j then (fun x=>if x < n then ZR m (a i j) (UInt8.ofNat x) else 0) else g i' j'
theorem AF (i j p : Nat) (hi : i < 4) (hj : j < 4) (hp : p < 8) (g : Nat → Nat → Nat → UInt8) (s0 s1 s2 : Tab × Int) (h0 : s0.2 = (i : Int)) (h1 : s1.2 = (j : Int)) (h2 : s2.2 = ((2 ^ p : Nat) : Int)) :
  ZE (XM s0 s1 s2 (ZR m (a i j) (UInt8.ofNat (2 ^ p)))) (tb (Tt m a i j (2 ^ p) g),0) = some (tb (Tt m a i j (2 ^ (p + 1)) g)):=by
 have h7 : 2 ^ p ≤ 2 ^ 7:=Nat.pow_le_pow_right (by omega) (by omega)
 have k1 : 2 ^ p + 2 ^ p = 2 ^ (p + 1):=by rw [Nat.pow_succ]; omega
 have:=ZS (f:=XM s0 s1 s2 (ZR m (a i j) (UInt8.ofNat (2 ^ p)))) (fun low : Nat=>(tb (Tt m a i j (2 ^ p + low) g),(low : Int))) 0 (2 ^ p) (Nat.zero_le _) (t:=tb (Tt m a i j (2 ^ (p + 1)) g)) (fun low _ hl=>by
  unfold XM
  have hd : decide ((low : Int) < ((2 ^ p : Nat) : Int)) = true:=by simp only [decide_eq_true_eq]; omega
  have ho : orI ((2 ^ p : Nat) : Int) (low : Int) = ((2 ^ p + low : Nat) : Int):=by rw [zg _ _ (by omega) (by omega),Au hl]
  have eg : Tt m a i j (2 ^ p + low) g i j = fun x=>if x < 2 ^ p + low then ZR m (a i j) (UInt8.ofNat x) else 0:=by simp [Tt]
  simp only [h0,h1,h2,hd,if_true,zc _ hi,AS _ i hj,eg,ZP _ (show low < 256 by omega),ho,ZP _ (show 2 ^ p + low < 256 by omega),Option.bind_some,Int.toNat_natCast,Vi,Yg (show low < 9223372036854775807 by omega)]
  rw [if_pos (show low < 2 ^ p + low from Nat.lt_add_of_pos_left (Nat.two_pow_pos p)),← H5 hm2 hm,← An hp hl]
  have:=zm (Tt m a i j (2 ^ p + low) g) i j (fun x=>if x = 2 ^ p + low then ZR m (a i j) (UInt8.ofNat (2 ^ p + low)) else if x < 2 ^ p + low then ZR m (a i j) (UInt8.ofNat x) else 0)
  rw [this]
  refine congrArg (fun z=>some (Fl.nx (z,((low + 1 : Nat) : Int)))) (QA fun i' _ j' _ x _=>?_)
  unfold Tt
  by_cases h : i' = i ∧ j' = j
  ·simp only [h,and_self,if_true]
   by_cases hx : x = 2 ^ p + low
   ·subst hx; simp
   ·by_cases hx2 : x < 2 ^ p + low
    ·rw [if_neg hx,if_pos hx2,if_pos (by omega)]
    ·rw [if_neg hx,if_neg hx2,if_neg (by omega)]
  ·simp only [h,if_false]) (by
  unfold XM
  simp only [h2,k1]
  simp)
 exact this
theorem Am (i j : Nat) (hi : i < 4) (hj : j < 4) (g : Nat → Nat → Nat → UInt8) (s0 s1 : Tab × Int) (h0 : s0.2 = (i : Int)) (h1 : s1.2 = (j : Int)) :
  ZE (XO (m : Int) s0 s1 (a i j)) (tb (Tt m a i j 1 g),1) = some (tb (Tt m a i j 256 g)):=by
 have:=ZS (f:=XO (m : Int) s0 s1 (a i j)) (fun p : Nat=>(tb (Tt m a i j (2 ^ p) g),((2 ^ p : Nat) : Int))) 0 8 (by omega) (t:=tb (Tt m a i j 256 g)) (fun p _ hp=>by
  unfold XO
  have h7 : 2 ^ p ≤ 2 ^ 7:=Nat.pow_le_pow_right (by omega) (by omega)
  have hd : decide (((2 ^ p : Nat) : Int) < 256) = true:=by simp only [decide_eq_true_eq]; omega
  have hb : ZI ((2 ^ p : Nat) : Int) = UInt8.ofNat (2 ^ p):=by rw [HH]
  have hw : wr (((2 ^ p : Nat) : Int) * 2) = ((2 ^ (p + 1) : Nat) : Int):=by
   rw [Nat.pow_succ]
   generalize 2 ^ p = q at h7 ⊢
   rw [VB (by omega)]; omega
  have h3:=AF m hm hm2 a i j p hi hj hp g s0 s1 (tb (Tt m a i j (2 ^ p) g),((2 ^ p : Nat) : Int)) h0 h1 rfl
  simp only [hd,if_true,hb,VC m hm,Option.bind_some,h3,hw]) (by unfold XO; simp)
 exact this
theorem K2 (A : Mat) (hA : A = mf a) : X3 (m : Int) A = some ⟨Kl m a⟩:=by
 subst hA
 unfold X3
 let G : Nat → Nat → Nat → Nat → Nat → UInt8:=fun r c i j x=>if i < r ∨ (i = r ∧ j < c) then ZR m (a i j) (UInt8.ofNat x) else 0
 have hGt : ∀ r c i j x,(i < r ∨ (i = r ∧ j < c)) → G r c i j x = ZR m (a i j) (UInt8.ofNat x):=fun r c i j x h=>if_pos h
 have hGf : ∀ r c i j x,¬ (i < r ∨ (i = r ∧ j < c)) → G r c i j x = 0:=fun r c i j x h=>if_neg h
 have hGe : ∀ r c r' c' i j x,((i < r ∨ (i = r ∧ j < c)) ↔ (i < r' ∨ (i = r' ∧ j < c'))) → G r c i j x = G r' c' i j x:=fun r c r' c' i j x h=>by show (if _ then _ else _) = (if _ then _ else _); simp only [h]
 have z0 : ∀ i j,ZR m (a i j) (UInt8.ofNat 0) = 0:=fun i j=>by rw [Tj hm2 hm]; exact TU hm2 hm _
 have col : ∀ r : Nat,r < 4 → ∀ s0 : Tab × Int,s0.2 = (r : Int) → ZE (XI (m : Int) s0 (vf 4 (a r))) (tb (G r 0),0) = some (tb (G (r + 1) 0)):=fun r hr s0 h0=>by
  have k1 : tb (G r 4) = tb (G (r + 1) 0):=QA fun i hi j hj x _=>by
   exact hGe _ _ _ _ _ _ _ (by omega)
  have:=ZS (f:=XI (m : Int) s0 (vf 4 (a r))) (fun c : Nat=>(tb (G r c),(c : Int))) 0 4 (by omega) (t:=tb (G (r + 1) 0)) (fun c _ hc=>by
   unfold XI
   have e1 : tb (G r c) = tb (Tt m a r c 1 (G r c)):=QA fun i _ j _ x _=>by
    unfold Tt
    by_cases h : i = r ∧ j = c
    ·obtain ⟨rfl,rfl⟩:=h
     simp only [and_self,if_true]
     rw [hGf _ _ _ _ _ (by omega)]
     by_cases hx : x < 1
     ·have : x = 0:=by omega
      subst this; rw [if_pos hx,z0]
     ·rw [if_neg hx]
    ·simp only [h,if_false]
   have e2 : tb (Tt m a r c 256 (G r c)) = tb (G r (c + 1)):=QA fun i _ j _ x hx=>by
    unfold Tt
    by_cases h : i = r ∧ j = c
    ·obtain ⟨rfl,rfl⟩:=h
     simp only [and_self,if_true,hx]
     rw [hGt _ _ _ _ _ (by omega)]
    ·simp only [h,if_false]
     exact hGe _ _ _ _ _ _ _ (by omega)
   have h3:=Am m hm hm2 a r c hr hc (G r c) s0 (tb (G r c),(c : Int)) h0 rfl
   rw [← e1,e2] at h3
   simp only [lt4 hc,if_true,ZP _ hc,h3,Option.bind_some,wr4 (show c < 1000 by omega)]) (by
   unfold XI
   simp only [k1]
   simp)
  exact this
 have kz : tb (G 0 0) = Vector.replicate 4 (Vector.replicate 4 (Vector.replicate 256 (0 : UInt8))):=by
  rw [UQ 256 (0 : UInt8),UQ 4,UQ 4]
  exact QA fun i _ j _ x _=>by
   exact hGf _ _ _ _ _ (by omega)
 have k4 : tb (G 4 0) = Kl m a:=QA fun i hi j _ x _=>by
  exact hGt _ _ _ _ _ (by omega)
 have:=ZS (f:=XJ (m : Int) (mf a)) (fun r : Nat=>(tb (G r 0),(r : Int))) 0 4 (by omega) (t:=Kl m a) (fun r _ hr=>by
  unfold XJ
  have h3:=col r hr (tb (G r 0),(r : Int)) rfl
  simp only [lt4 hr,if_true,Xd _ hr,h3,Option.bind_some,wr4 (show r < 1000 by omega)]) (by
  unfold XJ
  simp only [k4]
  simp)
 have h2 : ZE (XJ (m : Int) (mf a)) (tb (G 0 0),0) = _:=this
 rw [← kz,h2]; rfl
end

def Ue (n : Nat) (p : Vector UInt8 n) : Nat → Vector UInt8 n
 | 0=>Vector.replicate n 0
 | i + 1=>(Ue n p i).setIfInBounds (p.toList.getD i 0).toNat (ZI (i : Int))
theorem K9 (p : Vector UInt8 256) : XS p = some (Ue 256 p 256):=by
 unfold XS
 have:=ZS (f:=YQ p) (fun i : Nat=>(Ue 256 p i,(i : Int))) 0 256 (by omega) (t:=Ue 256 p 256) (fun i _ hi=>by
  unfold YQ
  have hd : decide ((i : Int) < 256) = true:=by simp; omega
  simp only [hd,if_true,V7 p hi,Uc,Option.bind_some,UW,Yg (show i < 9223372036854775807 by omega)]
  rfl) (by unfold YQ; simp)
 have h2 : ZE (YQ p) (Vector.replicate 256 0,0) = _:=this
 rw [h2]; rfl
theorem JI (p : Vector UInt8 256) : Wd p = some (Ue 256 p 256):=by
 unfold Wd
 have:=ZS (f:=Y8 p) (fun i : Nat=>(Ue 256 p i,(i : Int))) 0 256 (by omega) (t:=Ue 256 p 256) (fun i _ hi=>by
  unfold Y8
  have hd : decide ((i : Int) < 256) = true:=by simp; omega
  simp only [hd,if_true,V7 p hi,Uc,Option.bind_some,UW,Yg (show i < 9223372036854775807 by omega)]
  rfl) (by unfold Y8; simp)
 have h2 : ZE (Y8 p) (Vector.replicate 256 0,0) = _:=this
 rw [h2]; rfl
theorem AY (p : Blk) {i : Nat} (h : i < 16) : p.toList.getD i 0 = bf p i:=by
 have h1:=V7 p h
 rw [Tg p h] at h1
 exact (Option.some.inj h1).symm
theorem QG (p : Blk) (hp : Wr p = true) : Y1 p = some (Ue 16 p 16):=by
 unfold Y1
 have:=ZS (f:=Yv p) (fun i : Nat=>(Ue 16 p i,(i : Int))) 0 16 (by omega) (t:=Ue 16 p 16) (fun i _ hi=>by
  unfold Yv
  have hlt:=QB hp hi
  have hv : Zy (Ue 16 p i) (bI (bf p i)) = some (bf (Ue 16 p i) (bf p i).toNat):=Tg _ hlt
  simp only [Ja hi,if_true,Tg p hi,hv,Option.bind_some,UW,Yg (show i < 9223372036854775807 by omega)]
  rw [← AY p hi]
  rfl) (by unfold Yv; simp)
 have h2 : ZE (Yv p) (Vector.replicate 16 0,0) = _:=this
 rw [h2]; rfl

def XC (c : GCipher) : Gengine:=⟨c.Box,Ue 256 c.Box 256,c.Places,Ue 16 c.Places 16,⟨Kl c.Field.toNat (QI c.Mix)⟩,⟨Kl c.Field.toNat (QI (invM c.Field.toNat c.Mix))⟩,c.Rounds⟩
theorem UR {c : GCipher} (h : Yt c = true) : Wr c.Places = true:=by
 unfold Yt at h
 simp only [Bool.and_eq_true] at h
 exact h.1.1.2
theorem Jm {c : GCipher} (h : Yt c = true) : 1 ≤ c.Rounds ∧ c.Rounds ≤ 20:=by
 unfold Yt at h
 simp only [Bool.and_eq_true,decide_eq_true_eq] at h
 exact h.1.2
theorem HP (c : GCipher) (h : Yt c = true) : WE c = some ⟨XC c⟩:=by
 obtain ⟨m,hm,h1,h2⟩:=Qa h
 have e : c.Field.toNat = m:=by omega
 unfold WE XC
 rw [e]
 simp only [hm,Hs m h2 h1,Option.bind_some,K9,QG _ (UR h),K2 m h2 h1 (QI c.Mix) c.Mix (Qd _),K2 m h2 h1 (QI (invM m c.Mix)) (invM m c.Mix) (Qd _)]

def KU (c : GCipher) (n r : Nat) (k f : Nat → UInt8) : Nat → UInt8 :=
 Jd (if r < n then W4 c.Field.toNat (QI c.Mix) (TR c.Places (KY c.Box f)) else TR c.Places (KY c.Box f)) k
def QD (c : GCipher) (k f : Nat → UInt8) (n : Nat) : Nat → Nat → UInt8
 | 0=>Jd f k
 | r + 1=>KU c n (r + 1) (J6 c.Box k (r + 1)) (QD c k f n r)
def Jh (c : GCipher) (k f : Nat → UInt8) (n : Nat) : Nat → UInt8:=QD c k f n n
theorem Jj (c : GCipher) (h : Yt c = true) (k f : Nat → UInt8) (n : Nat) (hn : n ≤ 1000) : XP c (vf 16 k) (vf 16 f) (n : Int) = some (vf 16 (Jh c k f n)):=by
 obtain ⟨m,hm,h1,h2⟩:=Qa h
 have e : c.Field.toNat = m:=by omega
 have hp:=UR h
 unfold XP
 have i0 : idx (XF c.Box k n) (0 : Int) = some (vf 16 k):=Qu c.Box k (Nat.zero_le n)
 simp only [BS c k n hn,Option.bind_some,i0,KT]
 have:=ZS (f:=YT c (n : Int) (XF c.Box k n)) (fun i : Nat=>(vf 16 (QD c k f n (i - 1)),(i : Int))) 1 (n + 1) (by omega) (t:=vf 16 (Jh c k f n)) (fun i hi1 hi=>by
  unfold YT
  obtain ⟨r,rfl⟩ : ∃ q,i = q + 1:=⟨i - 1,by omega⟩
  have e1 : decide (((r + 1 : Nat) : Int) ≤ (n : Int)) = true:=by simp only [decide_eq_true_eq]; omega
  have Wl:=AM m h2 h1 (QI c.Mix) (TR c.Places (KY c.Box (QD c k f n r)))
  rw [← Qd] at Wl
  simp only [Nat.add_sub_cancel,e1,if_true,HW,Option.bind_some,B0 c.Places hp,hm,Wl,Qu c.Box k (show r + 1 ≤ n by omega),Yg (show r + 1 < 9223372036854775807 by omega)]
  by_cases hr : r + 1 < n
  ·have e2 : decide (((r + 1 : Nat) : Int) < (n : Int)) = true:=by simp only [decide_eq_true_eq]; omega
   simp only [e2,if_true,Option.bind_some,KT,QD,KU,hr,e]
  ·have e2 : decide (((r + 1 : Nat) : Int) < (n : Int)) = false:=by simp only [decide_eq_false_iff_not]; omega
   simp only [e2,Bool.false_eq_true,if_false,Option.bind_some,KT,QD,KU,hr]) (by
  unfold YT
  have e1 : decide (((n + 1 : Nat) : Int) ≤ (n : Int)) = false:=by simp only [decide_eq_false_iff_not]; omega
  simp only [e1,Bool.false_eq_true,if_false,Nat.add_sub_cancel,Jh])
 have h3 : ZE (YT c (n : Int) (XF c.Box k n)) (vf 16 (Jd f k),1) = _:=this
 rw [h3]; rfl
theorem Bi (e : Ref Gengine) (s : Blk × Int) (f : Nat → UInt8) (hs : s.1 = vf 16 f) : ZE (Z4 e s) (vf 16 f,0) = some (vf 16 (KY e.v.box f)):=by
 have:=VJ (Z4 e s) f (KY e.v.box f) (by omega) 0 (by omega) (fun j hj=>by omega) (fun i _ hi a _ ha=>by
  unfold Z4
  simp only [hs,Ja hi,if_true,ZP _ hi,Option.bind_some,Int.toNat_natCast,Uc,KY]) (fun v=>by unfold Z4; simp)
 exact this
theorem K3 (c : GCipher) (h : Yt c = true) (k f : Nat → UInt8) (n : Nat) (hn : n ≤ 1000) : Yq ⟨XC c⟩ (XF c.Box k n) (vf 16 f) = some (vf 16 (Jh c k f n)):=by
 have hp:=UR h
 unfold Yq
 have i0 : idx (XF c.Box k n) (0 : Int) = some (vf 16 k):=Qu c.Box k (Nat.zero_le n)
 simp only [Option.bind_some,i0,Tw]
 have:=ZS (f:=Z5 ⟨XC c⟩ (XF c.Box k n)) (fun i : Nat=>(vf 16 (QD c k f n (i - 1)),(i : Int))) 1 (n + 1) (by omega) (t:=vf 16 (Jh c k f n)) (fun i hi1 hi=>by
  unfold Z5
  obtain ⟨r,rfl⟩ : ∃ q,i = q + 1:=⟨i - 1,by omega⟩
  have e1 : decide (((r + 1 : Nat) : Int) < ((XF c.Box k n).length : Int)) = true:=by rw [TB]; simp only [decide_eq_true_eq]; omega
  have e3 : wr (((XF c.Box k n).length : Int) - 1) = (n : Int):=by rw [TB,VB (by omega)]; omega
  have hb:=Bi ⟨XC c⟩ (vf 16 (QD c k f n r),((r + 1 : Nat) : Int)) (QD c k f n r) rfl
  have hmv:=v_move c.Places hp (KY c.Box (QD c k f n r))
  have Wl:=v_mix c.Field.toNat (QI c.Mix) (TR c.Places (KY c.Box (QD c k f n r)))
  have hsl : ∀ g : Nat → UInt8,slc (vf 16 g).toList (0 : Int) (16 : Int) = some (vf 16 g).toList:=fun g=>by
   have:=QH (l:=(vf 16 g).toList) (i:=0) (j:=16) (by omega) (by simp)
   simp only [List.drop_zero] at this
   rw [List.take_of_length_le (by simp)] at this
   exact this
  have q1 : (XC c).box = c.Box:=rfl
  have q2 : (XC c).places = c.Places:=rfl
  have q3 : (XC c).mixer = ⟨Kl c.Field.toNat (QI c.Mix)⟩:=rfl
  simp only [q1] at hb
  simp only [Nat.add_sub_cancel,e1,if_true,hb,Option.bind_some,q2,q3,hmv,e3,hsl,Wl,Qu c.Box k (show r + 1 ≤ n by omega),Yg (show r + 1 < 9223372036854775807 by omega)]
  by_cases hr : r + 1 < n
  ·have e2 : decide (((r + 1 : Nat) : Int) < (n : Int)) = true:=by simp only [decide_eq_true_eq]; omega
   simp only [e2,if_true,Option.bind_some,Tw,QD,KU,hr]
  ·have e2 : decide (((r + 1 : Nat) : Int) < (n : Int)) = false:=by simp only [decide_eq_false_iff_not]; omega
   simp only [e2,Bool.false_eq_true,if_false,Option.bind_some,Tw,QD,KU,hr]) (by
  unfold Z5
  have e1 : decide (((n + 1 : Nat) : Int) < ((XF c.Box k n).length : Int)) = false:=by rw [TB]; simp only [decide_eq_false_iff_not]; omega
  simp only [e1,Bool.false_eq_true,if_false,Nat.add_sub_cancel,Jh])
 have h3 : ZE (Z5 ⟨XC c⟩ (XF c.Box k n)) (vf 16 (Jd f k),1) = _:=this
 rw [h3]; rfl
theorem zb (x : Vector UInt8 256) : VS x = some x:=by
 unfold VS
 rw [Qe x (Ud x) (fun s=>by unfold Ud; rfl) (by omega)]; rfl
theorem Bu (x : Vector UInt8 16) : WN x = some x:=by
 unfold WN
 rw [Qe x (Vv x) (fun s=>by unfold Vv; rfl) (by omega)]; rfl
theorem H0 (x : Vector UInt8 4) : WR x = some x:=by
 unfold WR
 rw [Qe x (Vo x) (fun s=>by unfold Vo; rfl) (by omega)]; rfl
theorem Ba (x : Mat) : WV x = some x:=by
 unfold WV
 obtain ⟨f,rfl⟩:=mf_of x
 have k0 : (mf fun r c=>if r < 0 then f r c else 0) = mf fun _ _=>0:=XD fun r _ c _=>by rw [if_neg (by omega)]
 have k4 : (mf fun r c=>if r < 4 then f r c else 0) = mf f:=XD fun r hr c _=>by rw [if_pos hr]
 have:=ZS (f:=XG (mf f)) (fun i : Nat=>(mf fun r c=>if r < i then f r c else 0,(i : Int))) 0 4 (by omega) (t:=mf f) (fun i _ hi=>by
  unfold XG
  simp only [lt4 hi,if_true,Xd _ hi,H0,Option.bind_some,Int.toNat_natCast,Tc,wr4 (show i < 1000 by omega)]
  refine congrArg (fun z=>some (Fl.nx (z,((i + 1 : Nat) : Int)))) (XD fun r _ c _=>?_)
  by_cases h : r = i
  ·subst h; simp
  ·by_cases h2 : r < i
   ·rw [if_neg h,if_pos h2,if_pos (by omega)]
   ·rw [if_neg h,if_neg h2,if_neg (by omega)]) (by
  unfold XG
  simp only [k4]
  simp)
 simp only [k0] at this
 have h2 : ZE (XG (mf f)) (mf fun _ _=>0,0) = _:=this
 rw [Ku,h2]; rfl
theorem Br (c : GCipher) : XA c = some c:=by
 unfold XA
 simp only [zb,Ba,Bu,Option.bind_some]
def Xt (c : GCipher) (i n : Int) : Int:=if Yt c then (if decide (0 ≤ n ∧ n ≤ c.Rounds) && decide (0 ≤ i ∧ i ≤ 15) then 0 else 2) else 1
theorem HY (c : GCipher) (i n : Int) : WS c i n = some (Xt c i n):=by
 unfold WS W1 WI Xt
 simp only [H1,TG,Option.bind_some]
 cases Yt c
 ·rfl
 ·cases decide (0 ≤ n ∧ n ≤ c.Rounds)
  ·rfl
  ·cases decide (0 ≤ i ∧ i ≤ 15) <;> rfl
theorem Ab (c : GCipher) (i n : Int) : Vg c i n = some (Xt c i n):=by
 unfold Vg V1 Xt
 simp only [A2,Ks,Option.bind_some]
 cases Yt c
 ·rfl
 ·cases decide (0 ≤ n ∧ n ≤ c.Rounds)
  ·cases decide (0 ≤ i ∧ i ≤ 15) <;> rfl
  ·cases decide (0 ≤ i ∧ i ≤ 15) <;> rfl
theorem KG {c : GCipher} {i n : Int} (h : Xt c i n = 0) : Yt c = true ∧ (∃ p : Nat,i = p ∧ p < 16) ∧ ∃ r : Nat,n = r ∧ r ≤ 20:=by
 unfold Xt at h
 split at h
 ·rename_i hc
  split at h
  ·rename_i hx
   simp only [Bool.and_eq_true,decide_eq_true_eq] at hx
   have:=Jm hc
   exact ⟨hc,⟨i.toNat,by omega,by omega⟩,n.toNat,by omega,by omega⟩
  ·cases h
 ·cases h

def Ho (f : Nat → UInt8) (i y : Nat) : Nat → UInt8:=fun j=>if j = i then ZI (y : Int) else f j
def T7 (c : GCipher) (k f : Nat → UInt8) (i n m : Nat) : List Blk:=(List.range m).map fun y=>vf 16 (Jh c k (Ho f i y) n)
theorem KZ (c : GCipher) (k f : Nat → UInt8) (i n m : Nat) : (T7 c k f i n m).length = m:=by simp [T7]
theorem JB (c : GCipher) (k f : Nat → UInt8) (i n m : Nat) : T7 c k f i n (m + 1) = T7 c k f i n m ++ [vf 16 (Jh c k (Ho f i m) n)]:=by
 unfold T7
 rw [List.range_succ,List.map_append]; rfl
def preF (f : Nat → UInt8) (i : Nat) : Nat → Nat → UInt8
 | 0=>f
 | y + 1=>Ho f i y
theorem Bx (f : Nat → UInt8) (i y : Nat) : (vf 16 (preF f i y)).setIfInBounds i (ZI (y : Int)) = vf 16 (Ho f i y):=by
 rw [Vi]
 refine Y0 fun j _=>?_
 cases y with
 | zero=>rfl
 | succ y =>
  by_cases h : j = i
  ·simp [Ho,h]
  ·simp [Ho,preF,h]
theorem Js {i : Nat} (h : i < 256) : decide ((i : Int) < 256) = true:=by simp; omega
theorem JZ (c : GCipher) (h : Yt c = true) (k f : Nat → UInt8) (i n : Nat) (hi : i < 16) (hn : n ≤ 1000) : Xr ⟨XC c⟩ (XF c.Box k n) (vf 16 f) (i : Int) = some (T7 c k f i n 256):=by
 unfold Xr
 have:=ZS (f:=Y5 ⟨XC c⟩ (XF c.Box k n) (i : Int)) (fun y : Nat=>(vf 16 (preF f i y),(y : Int),T7 c k f i n y)) 0 256 (by omega) (t:=T7 c k f i n 256) (fun y _ hy=>by
  unfold Y5
  have e2 : app 16 (T7 c k f i n y) [vf 16 (Jh c k (Ho f i y) n)] = _:=KI (by rw [KZ]; simp; omega)
  simp only [Js hy,if_true,ZP _ hi,Option.bind_some,Int.toNat_natCast,Bx,K3 c h k _ n hn,e2,Yg (show y < 9223372036854775807 by omega),JB]
  rfl) (by unfold Y5; simp)
 have h2 : ZE (Y5 ⟨XC c⟩ (XF c.Box k n) (i : Int)) (vf 16 f,0,[]) = _:=this
 rw [h2]; rfl
theorem AC (c : GCipher) (h : Yt c = true) (k f : Nat → UInt8) (i n : Nat) (hi : i < 16) (hn : n ≤ 1000) : Wn c (vf 16 k) (vf 16 f) (i : Int) (n : Int) = some (T7 c k f i n 256):=by
 unfold Wn
 have:=ZS (f:=Wx c (vf 16 k) (i : Int) (n : Int)) (fun y : Nat=>(vf 16 (preF f i y),T7 c k f i n y,(y : Int))) 0 256 (by omega) (t:=T7 c k f i n 256) (fun y _ hy=>by
  unfold Wx
  have e2 : app 16 (T7 c k f i n y) [vf 16 (Jh c k (Ho f i y) n)] = _:=KI (by rw [KZ]; simp; omega)
  simp only [Js hy,if_true,ZP _ hi,Option.bind_some,Int.toNat_natCast,Bx,Jj c h k _ n hn,e2,Yg (show y < 9223372036854775807 by omega),JB]
  rfl) (by unfold Wx; simp)
 have h2 : ZE (Wx c (vf 16 k) (i : Int) (n : Int)) (vf 16 f,[],0) = _:=this
 rw [h2]; rfl
theorem AJ (c : GCipher) (k : Nat → UInt8) (n : Nat) (hn : n ≤ 1000) : Y4 ⟨XC c⟩ (vf 16 k) (n : Int) = some (XF c.Box k n):=v_keys ⟨XC c⟩ k n hn
def UF (c : GCipher) (key block : Blk) (i n : Int) : List Blk:=T7 c (bf key) (bf block) i.toNat n.toNat 256
theorem HU {c : GCipher} {key block : Blk} {i n : Int} (h : Xt c i n = 0) : Wn c key block i n = some (UF c key block i n):=by
 obtain ⟨hc,⟨p,rfl,hp⟩,r,rfl,hr⟩:=KG h
 have:=AC c hc (bf key) (bf block) p r hp (by omega)
 rw [← BJ,← BJ] at this
 exact this
theorem A4 (l : List Blk) : Wt.wt l = l.length:=by
 rw [J8]
 have : (l.map Wt.wt).sum = 0:=by
  induction l with
  | nil=>rfl
  | cons x l ih=>rw [List.map_cons,List.sum_cons,ih]; rfl
 omega
theorem sum_16 (l : List Blk) : (l.map fun _=>16).sum = 16 * l.length:=by
 induction l with
 | nil=>rfl
 | cons x l ih=>rw [List.map_cons,List.sum_cons,ih,List.length_cons]; omega
theorem Jo (c : GCipher) (key block : Blk) (i n : Int) : (UF c key block i n).length = 256:=KZ _ _ _ _ _ _
def Y3 (p : Nat → Bool) (n : Nat) : List Int:=((List.range n).filter p).map fun i : Nat=>(i : Int)
theorem Tb (p : Nat → Bool) (n : Nat) : Y3 p (n + 1) = if p n then Y3 p n ++ [(n : Int)] else Y3 p n:=by
 unfold Y3
 rw [List.range_succ,List.filter_append,List.map_append]
 cases h : p n <;> simp [h]
theorem U4 (p : Nat → Bool) (n : Nat) : (Y3 p n).length ≤ n:=by
 unfold Y3
 rw [List.length_map]
 have:=List.length_filter_le p (List.range n)
 simpa using this
theorem HS (p : Nat → Bool) (n : Nat) (h : n ≤ 1000000) : app 8 (Y3 p n) [(n : Int)] = some (Y3 p n ++ [(n : Int)]):=KI (by have:=U4 p n; simp; omega)

def remS (inv : Vector UInt8 256) (l : List Blk) (j g : Nat) : UInt8:=l.foldl (fun s b=>s ^^^ Qm inv (bf b j ^^^ ZI (g : Int))) 0
def TY (inv : Vector UInt8 256) (l : List Blk) (j g : Nat) : Bool:=remS inv l j g == 0
theorem Ak (e : Ref Gengine) (l : List Blk) (j : Nat) (hj : j < 16) (hl : l.length < 9223372036854775807) (o : List Int) (g : Nat) : ZE (YB e l (j : Int) ((g : Int),o)) (0,0) = some (remS e.v.backBox l j g) :=
 Jn l (fun b i=>(i,b)) (fun s b=>s ^^^ Qm e.v.backBox (bf b j ^^^ ZI (g : Int))) 0 hl (fun i hi=>by
  unfold YB
  simp only [Int.ofNat_lt,hi,decide_true,if_true,We,List.getElem?_eq_getElem hi,Option.bind_some,Tg _ hj,Uc]) (by unfold YB; simp [remS])
theorem Hw (e : Ref Gengine) (l : List Blk) (j : Nat) (hj : j < 16) (hl : l.length < 9223372036854775807) : Yo e l (j : Int) = some (Y3 (TY e.v.backBox l j) 256):=by
 unfold Yo
 have:=ZS (f:=Yh e l (j : Int)) (fun g : Nat=>((g : Int),Y3 (TY e.v.backBox l j) g)) 0 256 (by omega) (t:=Y3 (TY e.v.backBox l j) 256) (fun g _ hg=>by
  unfold Yh
  simp only [Js hg,if_true,Ak e l j hj hl _ g,Option.bind_some,HS _ g (by omega),Yg (show g < 9223372036854775807 by omega),Tb]
  have e0 : (remS e.v.backBox l j g == 0) = TY e.v.backBox l j g:=rfl
  rw [e0]
  cases TY e.v.backBox l j g <;> rfl) (by unfold Yh; simp)
 have h2 : ZE (Yh e l (j : Int)) (0,[]) = _:=this
 rw [h2]; rfl
theorem AR (inv : Vector UInt8 256) (l : List Blk) (j : Nat) (hj : j < 16) (hl : l.length < 9223372036854775807) (o : Vector Bool 256) (g : Nat) : ZE (Wj l (j : Int) inv (o,(g : Int))) (0,0) = some (remS inv l j g) :=
 Jn l (fun b i=>(b,i)) (fun s b=>s ^^^ Qm inv (bf b j ^^^ ZI (g : Int))) 0 hl (fun i hi=>by
  unfold Wj
  simp only [Int.ofNat_lt,hi,decide_true,if_true,We,List.getElem?_eq_getElem hi,Option.bind_some,Tg _ hj,Uc]) (by unfold Wj; simp [remS])
theorem HV (c : GCipher) (l : List Blk) (j : Nat) (hj : j < 16) (hl : l.length < 9223372036854775807) : Xa c l (j : Int) = some (vf 256 (TY (Ue 256 c.Box 256) l j)):=by
 unfold Xa
 have:=ZS (f:=Xu l (j : Int) (Ue 256 c.Box 256)) (fun g : Nat=>(vf 256 (fun x=>if x < g then TY (Ue 256 c.Box 256) l j x else false),(g : Int))) 0 256 (by omega) (t:=vf 256 (TY (Ue 256 c.Box 256) l j)) (fun g _ hg=>by
  unfold Xu
  simp only [Js hg,if_true,AR (Ue 256 c.Box 256) l j hj hl _ g,Option.bind_some,ZP _ hg,Int.toNat_natCast,Vi,Yg (show g < 9223372036854775807 by omega)]
  refine congrArg (fun z=>some (Fl.nx (z,((g + 1 : Nat) : Int)))) (Y0 fun x _=>?_)
  by_cases h : x = g
  ·subst h; simp [TY]
  ·by_cases h2 : x < g
   ·rw [if_neg h,if_pos h2,if_pos (by omega)]
   ·rw [if_neg h,if_neg h2,if_neg (by omega)]) (by
  unfold Xu
  have e : (vf 256 fun x=>if x < 256 then TY (Ue 256 c.Box 256) l j x else false) = vf 256 (TY (Ue 256 c.Box 256) l j):=Y0 fun x hx=>by rw [if_pos hx]
  simp only [e]; simp)
 have e0 : (vf 256 fun x=>if x < 0 then TY (Ue 256 c.Box 256) l j x else false) = Vector.replicate 256 false:=by rw [UQ]; exact Y0 fun x _=>by rw [if_neg (by omega)]
 simp only [e0] at this
 have h2 : ZE (Xu l (j : Int) (Ue 256 c.Box 256)) (Vector.replicate 256 false,0) = _:=this
 rw [JI,Option.bind_some,h2]; rfl
theorem HZ (p : Nat → Bool) : WO (vf 256 p) = some (Y3 p 256):=by
 unfold WO
 have:=ZS (f:=XH (vf 256 p)) (fun g : Nat=>(Y3 p g,(g : Int))) 0 256 (by omega) (t:=Y3 p 256) (fun g _ hg=>by
  unfold XH
  simp only [Js hg,if_true,ZP _ hg,Option.bind_some,HS _ g (by omega),Yg (show g < 9223372036854775807 by omega),Tb]
  cases p g <;> rfl) (by unfold XH; simp)
 have h2 : ZE (XH (vf 256 p)) ([],0) = _:=this
 rw [h2]; rfl
theorem Jl (l : List Blk) : Xf l = some (l.length : Int):=rfl
def tab (n : Nat) (f : Nat → UInt8) : List UInt8:=(List.range n).map f
@[simp] theorem tab_len (n : Nat) (f : Nat → UInt8) : (tab n f).length = n:=by simp [tab]
theorem Jk (l : List Int) (h : l.length < 9223372036854775807) (b : Int) : Yc l b = some (l.any fun x=>b == x):=by
 unfold Yc YI
 rw [Bv l (fun x=>some (b == x)) (fun x=>b == x) (YE l b) (fun s=>by
  unfold YE
  by_cases hs : (decide (s < (l.length : Int))) = true
  ·rw [if_pos hs,if_pos hs]
   cases idx l s <;> rfl
  ·rw [if_neg hs,if_neg hs]) h (fun x _=>rfl)]
 simp only [Option.bind_some,has_of]
theorem Jv (l : List Int) (p : Int → Option Bool) (q : Int → Bool) (h : l.length < 9223372036854775807) (hp : ∀ x ∈ l,p x = some (q x)) : ZX l p = some (match l.findIdx? q with | some i=>(i : Int) | none=>-1):=by
 unfold ZX
 exact Bv l p q _ (fun s=>by unfold YY; rfl) h hp
theorem Aa (l : List Int) (p : Int → Option Bool) (q : Int → Bool) (h : l.length < 9223372036854775807) (hp : ∀ x ∈ l,p x = some (q x)) (hq : ∀ x ∈ l,q x = false) : Z2 l p = some ():=by
 unfold Z2
 have : l.findIdx? q = none:=by rw [List.findIdx?_eq_none_iff]; exact hq
 rw [Jv l p q h hp,this]; rfl
theorem Bm (l : List Int) (p : Int → Option Bool) (q : Int → Bool) (h : l.length < 9223372036854775807) (hp : ∀ x ∈ l,p x = some (q x)) : ∀ (k i j : Nat) (m : List Int),j + k = l.length → m.length = l.length → i < j → m.take i = (l.take j).filter (fun x=>!q x) → m.drop j = l.drop j →
  ∃ (m' : List Int) (i' : Nat),ZE (ZU p) (m,(i : Int),(j : Int)) = some (m',(i' : Int)) ∧ i' < m'.length ∧ m'.length = l.length ∧ m'.take i' = l.filter (fun x=>!q x)
 | 0,i,j,m,hj,hm,hi,ht,hd=>by
  refine ⟨m,i,XE ?_,by omega,hm,?_⟩
  ·unfold ZU
   have e : decide ((j : Int) < (m.length : Int)) = false:=by simp only [decide_eq_false_iff_not]; omega
   simp only [e,Bool.false_eq_true,if_false]
  ·rw [ht,List.take_of_length_le (by omega)]
 | k + 1,i,j,m,hj,hm,hi,ht,hd=>by
  have hjm : j < m.length:=by omega
  have hjl : j < l.length:=by omega
  have e1 : m[j] = l[j]:=by
   have h1:=List.drop_eq_getElem_cons hjm
   have h2:=List.drop_eq_getElem_cons hjl
   rw [h1,h2] at hd
   exact (List.cons.inj hd).1
  have hd' : m.drop (j + 1) = l.drop (j + 1):=by
   have h1:=List.drop_eq_getElem_cons hjm
   have h2:=List.drop_eq_getElem_cons hjl
   rw [h1,h2] at hd
   exact (List.cons.inj hd).2
  have e2 : l.take (j + 1) = l.take j ++ [l[j]]:=List.take_succ_eq_append_getElem hjl
  have him : i < m.length:=by omega
  have hd1 : decide ((j : Int) < (m.length : Int)) = true:=by simp only [decide_eq_true_eq]; omega
  have hpj:=hp l[j] (List.getElem_mem hjl)
  cases hq : q l[j] with
  | true =>
   obtain ⟨m',i',r1,r2,r3,r4⟩:=Bm l p q h hp k i (j + 1) m (by omega) hm (by omega) (by rw [e2,List.filter_append,ht]; simp [hq]) hd'
   refine ⟨m',i',?_,r2,r3,r4⟩
   rw [Wg (s':=(m,(i : Int),((j + 1 : Nat) : Int)))]
   ·exact r1
   ·unfold ZU
    simp only [hd1,if_true,We,List.getElem?_eq_getElem hjm,Option.bind_some,e1,hpj,hq,Bool.not_true,Bool.false_eq_true,if_false,Yg (show j < 9223372036854775807 by omega)]
  | false =>
   obtain ⟨m',i',r1,r2,r3,r4⟩:=Bm l p q h hp k (i + 1) (j + 1) (m.set i l[j]) (by omega) (by simpa using hm) (by omega) (by
    rw [e2,List.filter_append,← ht]
    have : (m.set i l[j]).take (i + 1) = m.take i ++ [l[j]]:=by
     rw [List.take_succ_eq_append_getElem (by simpa using him),List.take_set_of_le (Nat.le_refl i),List.getElem_set_self]
    rw [this]; simp [hq]) (by rw [List.drop_set_of_lt (by omega)]; exact hd')
   refine ⟨m',i',?_,r2,r3,r4⟩
   rw [Wg (s':=(m.set i l[j],((i + 1 : Nat) : Int),((j + 1 : Nat) : Int)))]
   ·exact r1
   ·unfold ZU
    simp only [hd1,if_true,We,List.getElem?_eq_getElem hjm,List.getElem?_eq_getElem him,Option.bind_some,e1,hpj,hq,Bool.not_false,Int.toNat_natCast,Yg (show j < 9223372036854775807 by omega),Yg (show i < 9223372036854775807 by omega)]
theorem B9 (l : List Int) (p : Int → Option Bool) (q : Int → Bool) (h : l.length < 9223372036854775807) (hp : ∀ x ∈ l,p x = some (q x)) : Z6 l p = some (l.filter fun x=>!q x):=by
 unfold Z6
 rw [Jv l p q h hp]
 cases hf : l.findIdx? q with
 | none =>
  have h0:=List.findIdx?_eq_none_iff.1 hf
  have : l.filter (fun x=>!q x) = l:=List.filter_eq_self.2 fun x hx=>by simp [h0 x hx]
  simp [this]
 | some i =>
  obtain ⟨hi,hq,hlt⟩:=List.findIdx?_eq_some_iff_getElem.1 hf
  have ht : l.take i = (l.take (i + 1)).filter (fun x=>!q x):=by
   rw [List.take_succ_eq_append_getElem hi,List.filter_append]
   have : (l.take i).filter (fun x=>!q x) = l.take i:=List.filter_eq_self.2 fun x hx=>by
    obtain ⟨j,hj,rfl⟩:=List.mem_iff_getElem.1 hx
    have hj' : j < i:=by simp at hj; omega
    have:=hlt j hj'
    simp only [List.getElem_take]
    simpa using this
   rw [this]; simp [hq]
  obtain ⟨m',i',r1,r2,r3,r4⟩:=Bm l p q h hp (l.length - (i + 1)) i (i + 1) l (by omega) rfl (by omega) ht rfl
  have e0 : ((i : Int) == -1) = false:=by simp
  have e1 : wr ((i : Int) + 1) = ((i + 1 : Nat) : Int):=Yg (by omega)
  have e2 : slc m' (i' : Int) (m'.length : Int) = _:=QH (by omega) (Nat.le_refl _)
  have e3 : clr m' (i' : Int) 0 = some (m'.take i' ++ List.replicate (m'.length - i') 0):=by
   unfold clr; rw [if_pos (by omega),Int.toNat_natCast]
  have e4 : slc (m'.take i' ++ List.replicate (m'.length - i') (0 : Int)) (0 : Int) (i' : Int) = some (m'.take i'):=by
   have:=QH (l:=m'.take i' ++ List.replicate (m'.length - i') (0 : Int)) (i:=0) (j:=i') (by omega) (by simp; omega)
   rw [List.drop_zero,List.take_left' (by simp; omega)] at this
   exact this
  simp only [Option.bind_some,e0,Bool.false_eq_true,if_false,e1,r1,e2,e3,e4]
  rw [r4]

theorem Jr (Q : Nat → Bool) (n x : Nat) (h : x < n) : ((Y3 Q n).any fun y=>(x : Int) == y) = Q x:=by
 unfold Y3
 rw [List.any_map,Bool.eq_iff_iff,List.any_eq_true]
 constructor
 ·rintro ⟨y,hy,hxy⟩
  have hxy : (x : Int) = (y : Int):=by simpa using hxy
  have : x = y:=by omega
  subst this
  exact (List.mem_filter.1 hy).2
 ·intro hq
  exact ⟨x,List.mem_filter.2 ⟨List.mem_range.2 h,hq⟩,by simp⟩
theorem B2 {Q : Nat → Bool} {n : Nat} {x : Int} (h : x ∈ Y3 Q n) : ∃ y : Nat,x = y ∧ y < n ∧ Q y = true:=by
 obtain ⟨y,hy,rfl⟩:=List.mem_map.1 h
 exact ⟨y,rfl,List.mem_range.1 (List.mem_filter.1 hy).1,(List.mem_filter.1 hy).2⟩
theorem J2 (P Q : Nat → Bool) (n : Nat) : ((Y3 P n).filter fun x=>!!((Y3 Q n).any fun y=>x == y)) = Y3 (fun g=>P g && Q g) n:=by
 have key : ∀ m,m ≤ n → ((Y3 P m).filter fun x=>!!((Y3 Q n).any fun y=>x == y)) = Y3 (fun g=>P g && Q g) m:=by
  intro m
  induction m with
  | zero=>intro _; rfl
  | succ m ih =>
   intro hm
   have ih:=ih (by omega)
   have hq:=Jr Q n m (by omega)
   rw [Tb,Tb]
   cases hp : P m
   ·simp only [Bool.false_eq_true,if_false,Bool.false_and]; exact ih
   ·rw [if_pos rfl,List.filter_append,ih,List.filter_cons,hq]
    cases Q m <;> simp
 exact key n (Nat.le_refl _)
def KD (P : Nat → Nat → Bool) : Nat → Nat → Bool
 | 0=>fun _=>true
 | k + 1=>fun g=>KD P k g && P k g
theorem BI (P : Nat → Nat → Bool) : KD P 1 = P 0:=by funext g; simp [KD]
def VK (c : GCipher) (key : Blk) (l : List Blk) (i j n : Int) (k : Nat) : Nat → Bool:=TY (Ue 256 c.Box 256) (UF c key (l.getD k (Vector.replicate 16 0)) i n) j.toNat
def WZ (c : GCipher) (l : List Blk) (i j n : Int) : Int:=if Xt c i n != 0 then Xt c i n else if 1 ≤ l.length ∧ l.length ≤ 8 ∧ (0 ≤ j ∧ j ≤ 15) ∧ 1 ≤ n then 0 else 2
def JH (c : GCipher) (key : Blk) (l : List Blk) (i j n : Int) : List Int × Int:=if WZ c l i j n != 0 then ([],WZ c l i j n) else (Y3 (KD (VK c key l i j n) l.length) 256,0)
theorem Ar (a b : Nat → Bool) : ZE (Yp (vf 256 b)) (vf 256 a,0) = some (vf 256 fun g=>a g && b g):=by
 have k0 : (vf 256 fun g=>if g < 0 then (a g && b g) else a g) = vf 256 a:=Y0 fun g _=>by rw [if_neg (by omega)]
 have k1 : (vf 256 fun g=>if g < 256 then (a g && b g) else a g) = vf 256 fun g=>a g && b g:=Y0 fun g hg=>by rw [if_pos hg]
 have:=ZS (f:=Yp (vf 256 b)) (fun i : Nat=>(vf 256 fun g=>if g < i then (a g && b g) else a g,(i : Int))) 0 256 (by omega) (t:=vf 256 fun g=>a g && b g) (fun i _ hi=>by
  unfold Yp
  have nn : ¬ i < i:=Nat.lt_irrefl i
  have stp : ∀ x : Bool,x = (a i && b i) → (vf 256 fun g=>if g = i then x else if g < i then (a g && b g) else a g) = vf 256 fun g=>if g < i + 1 then (a g && b g) else a g:=fun x hx=>Y0 fun g _=>by
   by_cases h : g = i
   ·subst h; rw [if_pos rfl,if_pos (by omega),hx]
   ·by_cases h2 : g < i
    ·rw [if_neg h,if_pos h2,if_pos (by omega)]
    ·rw [if_neg h,if_neg h2,if_neg (by omega)]
  simp only [Js hi,if_true,ZP _ hi,Option.bind_some,nn,if_false,Int.toNat_natCast,Vi,Yg (show i < 9223372036854775807 by omega)]
  cases ha : a i
  ·simp only [Bool.false_eq_true,if_false,Option.bind_some]
   rw [stp false (by rw [ha]; rfl)]
  ·simp only [if_true,Option.bind_some]
   rw [stp (b i) (by rw [ha]; rfl)]) (by
  unfold Yp
  simp only [k1]
  simp)
 simp only [k0] at this
 exact this
theorem ros_ok {c : GCipher} {l : List Blk} {i j n : Int} (h : WZ c l i j n = 0) : Xt c i n = 0 ∧ 1 ≤ l.length ∧ l.length ≤ 8 ∧ (0 ≤ j ∧ j ≤ 15) ∧ 1 ≤ n:=by
 unfold WZ at h
 by_cases h0 : Xt c i n = 0
 ·rw [if_neg (by simp [h0])] at h
  split at h
  ·rename_i h1; exact ⟨h0,h1⟩
  ·cases h
 ·rw [if_pos (by simpa using h0)] at h
  exact absurd h h0
theorem BE {l : List Blk} {k : Nat} (h : k < l.length) : l.getD k (Vector.replicate 16 0) = l[k]:=by simp [List.getD_eq_getElem?_getD,List.getElem?_eq_getElem h]
theorem U5 (c : GCipher) (key : Blk) (l : List Blk) (i j n : Int) (hl : l.length ≤ 1048576) : YP c key l i j n = some (JH c key l i j n):=by
 unfold YP
 have hcode : ((if (Xt c i n != 1) = true then (if (decide ((l.length : Int) < 1)) = true then (some true) else (if (decide ((l.length : Int) > 8)) = true then (some true) else ((Xe j 0 15).bind fun (r18 : Bool)=>if (!r18) = true then (some true) else (some (decide (n < 1)))))) else (some false) : Option (Bool)).bind fun (j10 : Bool)=>if j10 = true then (some 2) else (some (Xt c i n)) : Option (Int)) = some (WZ c l i j n):=by
  rw [Ks]
  unfold WZ
  have hs : Xt c i n = 0 ∨ Xt c i n = 1 ∨ Xt c i n = 2:=by
   unfold Xt
   split
   ·split
    ·exact .inl rfl
    ·exact .inr (.inr rfl)
   ·exact .inr (.inl rfl)
  by_cases h1 : (l.length : Int) < 1
  ·have : ¬ (1 ≤ l.length ∧ l.length ≤ 8 ∧ (0 ≤ j ∧ j ≤ 15) ∧ 1 ≤ n):=by omega
   rcases hs with hs | hs | hs <;> simp [hs,h1,this]
  ·by_cases h2 : (l.length : Int) > 8
   ·have : ¬ (1 ≤ l.length ∧ l.length ≤ 8 ∧ (0 ≤ j ∧ j ≤ 15) ∧ 1 ≤ n):=by omega
    rcases hs with hs | hs | hs <;> simp [hs,h1,h2,this]
   ·by_cases h3 : 0 ≤ j ∧ j ≤ 15
    ·by_cases h4 : n < 1
     ·have : ¬ (1 ≤ l.length ∧ l.length ≤ 8 ∧ (0 ≤ j ∧ j ≤ 15) ∧ 1 ≤ n):=by omega
      rcases hs with hs | hs | hs <;> simp [hs,h1,h2,h3,h4,this]
     ·have : 1 ≤ l.length ∧ l.length ≤ 8 ∧ (0 ≤ j ∧ j ≤ 15) ∧ 1 ≤ n:=by omega
      rcases hs with hs | hs | hs <;> simp [hs,h1,h2,h3,h4,this]
    ·have : ¬ (1 ≤ l.length ∧ l.length ≤ 8 ∧ (0 ≤ j ∧ j ≤ 15) ∧ 1 ≤ n):=fun h=>h3 h.2.2.1
     rcases hs with hs | hs | hs <;> simp [hs,h1,h2,h3,this]
 rw [Ab,Option.bind_some,hcode,Option.bind_some]
 unfold JH
 by_cases h0 : WZ c l i j n = 0
 ·obtain ⟨k0,k1,k2,k3,k4⟩:=ros_ok h0
  obtain ⟨q,hq⟩ : ∃ q : Nat,j = q:=⟨j.toNat,by omega⟩
  have hrem : ∀ k,k < l.length → Xa c (UF c key l[k]! i n) j = some (vf 256 (VK c key l i j n k)):=fun k hk=>by
   have:=HV c (UF c key l[k]! i n) q (by omega) (by rw [Jo]; omega)
   rw [← hq] at this
   rw [this]
   unfold VK
   have e : l[k]! = l.getD k (Vector.replicate 16 0):=by rw [BE hk]; simp [hk]
   rw [e,hq,Int.toNat_natCast]
  have hx : ∀ k,k < l.length → l[k]? = some l[k]!:=fun k hk=>by simp [hk]
  have loop:=ZS (f:=Yn c key l i j n) (fun k : Nat=>(vf 256 (KD (VK c key l i j n) k),(k : Int))) 1 l.length k1 (t:=vf 256 (KD (VK c key l i j n) l.length)) (fun k _ hk=>by
   unfold Yn
   simp only [Int.ofNat_lt,hk,decide_true,if_true,We,hx k hk,Option.bind_some,HU k0,hrem k hk,Ar,Yg (show k < 9223372036854775807 by omega)]
   rfl) (by unfold Yn; simp)
  rw [BI] at loop
  have loop' : ZE (Yn c key l i j n) (vf 256 (VK c key l i j n 0),1) = _:=loop
  simp only [h0,bne_self_eq_false,Bool.false_eq_true,if_false,Aq,hx 0 k1,Option.bind_some,HU k0,hrem 0 k1,loop',HZ]
 ·have : (WZ c l i j n != 0) = true:=by simpa using h0
  simp only [this,if_true]
theorem U8 (c : GCipher) (key : Blk) (l : List Blk) (i j n : Int) (hl : l.length ≤ 1048576) : Yw c key l i j n = some (JH c key l i j n):=by
 unfold Yw JH WI
 simp only [HY,Jl,TG,Option.bind_some]
 by_cases hs : Xt c i n = 0
 ·by_cases hk : 1 ≤ l.length ∧ l.length ≤ 8 ∧ (0 ≤ j ∧ j ≤ 15) ∧ 1 ≤ n
  ·have h0 : WZ c l i j n = 0:=by unfold WZ; rw [if_neg (by simp [hs]),if_pos hk]
   obtain ⟨k1,k2,k3,k4⟩:=hk
   obtain ⟨hc,⟨p,hp,hp16⟩,r,hr,hr20⟩:=KG hs
   obtain ⟨q,hq⟩ : ∃ q : Nat,j = q:=⟨j.toNat,by omega⟩
   have d1 : decide ((1 : Int) ≤ (l.length : Int) ∧ (l.length : Int) ≤ 8) = true:=by simp only [decide_eq_true_eq]; omega
   have d2 : decide (0 ≤ j ∧ j ≤ 15) = true:=by simp only [decide_eq_true_eq]; omega
   have d3 : decide (n < 1) = false:=by simp only [decide_eq_false_iff_not]; omega
   have hkey:=AJ c (bf key) r (by omega)
   rw [← BJ,← hr] at hkey
   have hset : ∀ b : Blk,Xr ⟨XC c⟩ (XF c.Box (bf key) r) b i = some (UF c key b i n):=fun b=>by
    have:=JZ c hc (bf key) (bf b) p r hp16 (by omega)
    rw [← BJ,← hp] at this
    rw [this]
    unfold UF
    rw [hp,hr,Int.toNat_natCast,Int.toNat_natCast]
   have hrem : ∀ b : Blk,Yo ⟨XC c⟩ (UF c key b i n) j = some (Y3 (TY (Ue 256 c.Box 256) (UF c key b i n) q) 256):=fun b=>by
    have:=Hw ⟨XC c⟩ (UF c key b i n) q (by omega) (by rw [Jo]; omega)
    rw [← hq] at this
    exact this
   have hP : ∀ k (hk : k < l.length),Y3 (TY (Ue 256 c.Box 256) (UF c key l[k] i n) q) 256 = Y3 (VK c key l i j n k) 256:=fun k hk=>by
    unfold VK; rw [BE hk,hq,Int.toNat_natCast]
   have hcl : ∀ (Q : Nat → Bool) (z : Int),ZN z (Y3 Q 256) = some (!((Y3 Q 256).any fun y=>z == y)):=fun Q z=>by
    unfold ZN
    rw [Jk _ (by have:=U4 Q 256; omega)]; rfl
   have loop:=ZS (f:=Ym l i j ⟨XC c⟩ (XF c.Box (bf key) r)) (fun k : Nat=>(if k = 0 then ([] : List Int) else Y3 (KD (VK c key l i j n) k) 256,(k : Int))) 0 l.length (Nat.zero_le _) (t:=Y3 (KD (VK c key l i j n) l.length) 256) (fun k _ hk=>by
    unfold Ym
    simp only [Int.ofNat_lt,hk,decide_true,if_true,We,List.getElem?_eq_getElem hk,Option.bind_some,hset,hrem,hP k hk,Yg (show k < 9223372036854775807 by omega),show ¬ k + 1 = 0 by omega,if_false]
    by_cases hk0 : k = 0
    ·subst hk0
     have hdel:=Aa (Y3 (VK c key l i j n 0) 256) (fun z0=>ZN z0 (Y3 (VK c key l i j n 0) 256)) (fun z=>!((Y3 (VK c key l i j n 0) 256).any fun y=>z == y)) (by have:=U4 (VK c key l i j n 0) 256; omega) (fun x _=>hcl _ x) (fun x hx=>by
      obtain ⟨y,rfl,hy,hQ⟩:=B2 hx
      rw [Jr _ _ _ hy,hQ]; rfl)
     have e0 : (((0 : Nat) : Int) == 0) = true:=rfl
     have e9 : KD (VK c key l i j n) (0 + 1) = VK c key l i j n 0:=BI _
     simp only [e0,if_true,hdel,Option.bind_some,e9]
    ·have e0 : ((k : Int) == 0) = false:=by simp; omega
     have hdel:=B9 (Y3 (KD (VK c key l i j n) k) 256) (fun z0=>ZN z0 (Y3 (VK c key l i j n k) 256)) (fun z=>!((Y3 (VK c key l i j n k) 256).any fun y=>z == y)) (by have:=U4 (KD (VK c key l i j n) k) 256; omega) (fun x _=>hcl _ x)
     rw [J2] at hdel
     simp only [e0,Bool.false_eq_true,if_false,hk0,hdel,Option.bind_some]
     rfl) (by
    unfold Ym
    simp [show ¬ l.length = 0 by omega])
   have loop' : ZE (Ym l i j ⟨XC c⟩ (XF c.Box (bf key) r)) ([],0) = _:=loop
   simp only [hs,bne_self_eq_false,Bool.false_eq_true,if_false,d1,d2,d3,Bool.not_true,Option.bind_some,HP c hc,hkey,loop',h0]
  ·have h0 : WZ c l i j n = 2:=by unfold WZ; rw [if_neg (by simp [hs]),if_neg hk]
   simp only [hs,h0,bne_self_eq_false,Bool.false_eq_true,if_false]
   by_cases h1 : (1 : Int) ≤ (l.length : Int) ∧ (l.length : Int) ≤ 8
   ·by_cases h2 : 0 ≤ j ∧ j ≤ 15
    ·have : n < 1:=by omega
     simp [h1,h2,this]
    ·simp [h1,h2]
   ·simp [h1]
 ·have h0 : WZ c l i j n = Xt c i n:=by unfold WZ; rw [if_pos (by simpa using hs)]
  have h1 : (Xt c i n != 0) = true:=by simpa using hs
  simp only [h0,h1,if_true]
theorem AQ (c : GCipher) (key : Blk) (l : List Blk) (i j n : Int) : (JH c key l i j n).1.length ≤ 256:=by
 unfold JH
 split
 ·simp
 ·exact U4 _ _
theorem UD (c : GCipher) (key : Blk) (l : List Blk) (i j n : Int) (_ : Dat.bd c) (_ : Dat.bd key) (h : Dat.bd l) (_ : Dat.bd i) (_ : Dat.bd j) (_ : Dat.bd n) : Yz c key l i j n = some true:=by
 unfold Yz
 refine A5 (Bb l (Wt.bdln l h)) (by omega) (by omega) fun r _ _ hw=>?_
 have hw : Wt.wt l ≤ 1048576:=by omega
 have hwl:=hw
 rw [A4] at hwl
 have hln:=Wt.wtln l hw
 have hr:=AQ c key l i j n
 have hrl : Wt.ln (JH c key l i j n).1:=A1 (by omega)
 obtain ⟨x',m1⟩:=JJ l hln 1 (by omega) (by rw [sum_16]; omega)
 obtain ⟨r',m2,m3⟩:=JQ (JH c key l i j n).1 hrl 1 (by omega) (by rw [AK]; omega)
 have e1 : ¬ ((1 : Int) + ((l.map fun _=>16).sum : Nat) < 0):=by omega
 have e2 : ¬ ((1 : Int) + (((JH c key l i j n).1.map fun _=>1).sum : Nat) < 0):=by omega
 simp [Br,Jy,H9 l hw,U5 c key l i j n (by omega),U8 c key l i j n (by omega),Bd _ hrl,Bp l hln,m1,m2,m3,e1,e2]
end Go.Proofs.Ytpjogonponkbmaa
