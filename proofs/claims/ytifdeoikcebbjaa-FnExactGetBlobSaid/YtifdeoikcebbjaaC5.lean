/- Plain laws, no program in sight. -/
import Derived.Test.YtifdeoikcebbjaaC4
set_option linter.unusedVariables false
set_option linter.unusedSimpArgs false
set_option maxRecDepth 20000
set_option maxHeartbeats 400000
namespace Go.Proofs.Ytifdeoikcebbjaa
open Go
theorem idx_nat {α : Type} {l : List α} {i : Nat} (h : i < l.length) : idx l (i : Int) = some l[i] := by
 unfold idx
 rw [if_pos (by omega)]
 simp
theorem YX {i : Nat} (h : i < 9223372036854775807) : wr ((i : Int) + 1) = ((i + 1 : Nat) : Int) := by
 rw [YG (by omega)]; rfl

section
variable {S T : Type} {f : S → Option (Fl S T)}
/-- Rounds that go on. -/
theorem iter_to (g : Nat → S) (m n : Nat) (hmn : m ≤ n) (h : ∀ i, m ≤ i → i < n → f (g i) = some (.nx (g (i + 1)))) : ZF f (g m) = ZF f (g n) := by
  induction n with
  | zero => have : m = 0 := by omega
            subst this; rfl
  | succ n ih =>
    rcases Nat.lt_or_ge m (n + 1) with h1 | h1
    · rw [ih (by omega) (fun i h2 h3 => h i h2 (by omega)), Xi (h n (by omega) (by omega))]
    · have : m = n + 1 := by omega
      subst this; rfl
/-- A loop that runs to its end. -/
theorem Z1 (g : Nat → S) (m n : Nat) (hmn : m ≤ n) {t : T} (h : ∀ i, m ≤ i → i < n → f (g i) = some (.nx (g (i + 1)))) (he : f (g n) = some (.ex t)) : ZF f (g m) = some t := by
 rw [iter_to g m n hmn h, YQ he]
/-- A loop that may leave early: at the first round of which p holds. -/
theorem iter_find (g : Nat → S) (p : Nat → Bool) (t : Nat → T) {e : T} (n : Nat) : ∀ (k m : Nat), m + k = n → (∀ i, m ≤ i → i < n → f (g i) = some (if p i then .ex (t i) else .nx (g (i + 1)))) → f (g n) = some (.ex e) →
  ZF f (g m) = some (((List.range' m k).find? p).elim e t)
 | 0, m, hk, _, he => by
  have : m = n := by omega
  subst this
  rw [YQ he]; rfl
 | k + 1, m, hk, h, he => by
  have h1 := h m (Nat.le_refl _) (by omega)
  rw [List.range'_succ, List.find?_cons]
  cases hp : p m with
  | true => rw [hp] at h1; rw [YQ h1]; rfl
  | false =>
   rw [hp] at h1
   rw [Xi h1, iter_find g p t n k (m + 1) (by omega) (fun i h2 h3 => h i (by omega) h3) he]
end

/-- A search through indices: it leaves with t where p holds of one of them. -/
theorem iter_any {T : Type} {f : Int → Option (Fl Int (Fl Unit T))} (p : Nat → Bool) {t : T} {n m : Nat} (hm : m ≤ n)
  (h : ∀ i, m ≤ i → i < n → f (i : Int) = some (if p i then .ex (.ex t) else .nx ((i + 1 : Nat) : Int))) (he : f (n : Int) = some (.ex (.nx ()))) :
  ZF f (m : Int) = some (if (List.range' m (n - m)).any p then .ex t else .nx ()) := by
 rw [iter_find (fun i : Nat => (i : Int)) p (fun _ => .ex t) n (n - m) m (by omega) h he]
 cases hf : (List.range' m (n - m)).find? p with
 | none =>
  have : (List.range' m (n - m)).any p = false := by
   rw [List.any_eq_false]
   rw [List.find?_eq_none] at hf
   exact hf
  rw [this]; rfl
 | some i =>
  have : (List.range' m (n - m)).any p = true := by
   rw [List.any_eq_true]
   exact ⟨i, List.mem_of_find?_eq_some hf, List.find?_some hf⟩
  rw [this]; rfl
/-- How much data hold, beside what is of one size; that all lengths are numbers. -/
class Wt (α : Type) [Dat α] where
 wt : α → Nat
 ln : α → Prop
 bdln : ∀ x, Dat.bd x → ln x
 wtln : ∀ x, wt x ≤ 1048576 → ln x
instance : Wt Int := ⟨fun _ => 0, fun _ => True, fun _ _ => trivial, fun _ _ => trivial⟩
instance : Wt UInt8 := ⟨fun _ => 0, fun _ => True, fun _ _ => trivial, fun _ _ => trivial⟩
instance : Wt Bool := ⟨fun _ => 0, fun _ => True, fun _ _ => trivial, fun _ _ => trivial⟩
instance : Wt Str := ⟨fun s => s.l.length, fun s => s.l.length ≤ 9223372036854775807, fun _ h => h, fun _ h => by omega⟩
instance {n : Nat} : Wt (Vector UInt8 n) := ⟨fun _ => 0, fun _ => True, fun _ _ => trivial, fun _ _ => trivial⟩
instance {n m : Nat} : Wt (Vector (Vector UInt8 m) n) := ⟨fun _ => 0, fun _ => True, fun _ _ => trivial, fun _ _ => trivial⟩
theorem sum_mem {α : Type} {f : α → Nat} {l : List α} {x : α} (h : x ∈ l) : f x ≤ (l.map f).sum := by
 induction l with
 | nil => cases h
 | cons y l ih =>
  rw [List.map_cons, List.sum_cons]
  rcases List.mem_cons.1 h with rfl | h
  ·omega
  ·have := ih h; omega
instance {α : Type} [Dat α] [Wt α] : Wt (List α) := ⟨fun l => l.length + (l.map Wt.wt).sum, fun l => l.length ≤ 9223372036854775807 ∧ ∀ x ∈ l, Wt.ln x, fun _ h => ⟨h.1, fun x hx => Wt.bdln x (h.2 x hx)⟩,
 fun l h => ⟨by omega, fun x hx => Wt.wtln x (by have := sum_mem (f := Wt.wt) hx; omega)⟩⟩
instance {α β : Type} [Dat α] [Dat β] [Wt α] [Wt β] : Wt (α × β) := ⟨fun x => Wt.wt x.1 + Wt.wt x.2, fun x => Wt.ln x.1 ∧ Wt.ln x.2, fun x h => ⟨Wt.bdln x.1 h.1, Wt.bdln x.2 h.2⟩, fun x h => ⟨Wt.wtln x.1 (by omega), Wt.wtln x.2 (by omega)⟩⟩
theorem wt_list {α : Type} [Dat α] [Wt α] (l : List α) : Wt.wt l = l.length + (l.map Wt.wt).sum := rfl
theorem wt_mem {α : Type} [Dat α] [Wt α] {l : List α} {x : α} (h : x ∈ l) : Wt.wt x ≤ (l.map Wt.wt).sum := sum_mem h
theorem wt_memL {α : Type} [Dat α] [Wt α] {l : List α} {x : α} (h : x ∈ l) : Wt.wt x ≤ Wt.wt l := by
 have := wt_mem h; rw [wt_list]; omega
theorem wt_len {α : Type} [Dat α] [Wt α] (l : List α) : l.length ≤ Wt.wt l := by rw [wt_list]; omega
theorem ln_len {α : Type} [Dat α] [Wt α] {l : List α} (h : Wt.ln l) : l.length ≤ 9223372036854775807 := h.1
theorem ln_mem {α : Type} [Dat α] [Wt α] {l : List α} {x : α} (h : Wt.ln l) (hx : x ∈ l) : Wt.ln x := h.2 x hx

theorem copy_loop {α β : Type} (p0 : List α) (c : α → Option β) (g : α → β) (by_ : Nat) (z : β) (L : List β × Int → Option (Fl (List β × Int) (List β)))
  (hL : ∀ s, L s = if (decide (s.2 < (p0.length : Int))) = true then ((idx p0 s.2).bind fun x => (c x).bind fun r => (idx s.1 s.2).bind fun _ => some (Fl.nx ((s.1.set (s.2).toNat r), wr (s.2 + 1)))) else (some (Fl.ex s.1)))
  (hc : ∀ x ∈ p0, c x = some (g x)) (hl : p0.length * by_ ≤ 140737488355328) (hl' : p0.length < 9223372036854775807) :
  ((mkS by_ z (p0.length : Int)).bind fun l1 => (ZF L (l1, 0) : Option (List β)).bind fun j => some j) = some (p0.map g) := by
 have hm : mkS by_ z (p0.length : Int) = some (List.replicate p0.length z) := by
  have h3 : ((p0.length * by_ : Nat) : Int) ≤ ((140737488355328 : Nat) : Int) := Int.ofNat_le.2 hl
  rw [Int.natCast_mul] at h3
  unfold mkS
  rw [if_pos ⟨by omega, h3⟩, Int.toNat_natCast]
 rw [hm]
 simp only [Option.bind_some]
 have hrun := Z1 (f := L) (fun i : Nat => ((p0.take i).map g ++ List.replicate (p0.length - i) z, (i : Int))) 0 p0.length (Nat.zero_le _) (t := p0.map g) (fun i _ hi => by
  rw [hL]
  simp only [Int.ofNat_lt, hi, decide_true, if_true, idx_nat hi, Option.bind_some, hc _ (List.getElem_mem hi)]
  rw [idx_nat (by simp; omega)]
  simp only [Option.bind_some, YX (show i < 9223372036854775807 by omega), Int.toNat_natCast]
  congr 3
  rw [List.set_append_right _ _ (by simp; omega)]
  have e1 : p0.length - i = (p0.length - (i + 1)) + 1 := by omega
  have e2 : i - ((p0.take i).map g).length = 0 := by simp; omega
  rw [e1, List.replicate_succ, e2, List.set_cons_zero]
  rw [List.take_succ_eq_append_getElem hi, List.map_append, List.append_assoc]
  rfl) (by
  rw [hL]
  simp)
 simp at hrun
 simp [hrun]

theorem eq_loop {α : Type} (p0 : List α) (ne : α → α → Option Bool) (L : Int → Option (Fl Int (Fl Unit Bool)))
  (hL : ∀ s, L s = if (decide (s < (p0.length : Int))) = true then (((idx p0 s).bind fun x => (idx p0 s).bind fun y => ne x y : Option Bool).bind fun j => if j = true then (some (Fl.ex (Fl.ex false))) else (some (Fl.nx (wr (s + 1))))) else (some (Fl.ex (Fl.nx ()))))
  (hn : ∀ x ∈ p0, ne x x = some false) (hl : p0.length ≤ 9223372036854775807) :
  (if ((p0.length : Int) != (p0.length : Int)) = true then (some false) else ((ZF L 0 : Option (Fl Unit Bool)).bind fun j2 => j2.el (fun _ => some true) (fun r => some r))) = some true := by
 have := Z1 (f := L) (fun i : Nat => (i : Int)) 0 p0.length (Nat.zero_le _) (t := .nx ()) (fun i _ hi => by
  rw [hL]
  simp only [Int.ofNat_lt, hi, decide_true, if_true, idx_nat hi, Option.bind_some, hn _ (List.getElem_mem hi)]
  simp [YX (show i < 9223372036854775807 by omega)]) (by
  rw [hL]; simp)
 have h2 : ZF L 0 = some (.nx ()) := this
 simp [h2, Fl.el]

/-- Weighing: what is left, or less than nothing. -/
def Weighs {α : Type} [Dat α] [Wt α] (f : α → Int → Option Int) (x : α) : Prop := ∀ left : Int, 0 ≤ left → left ≤ 1048576 → ∃ r, f x left = some r ∧ r ≤ 1048576 ∧ (0 ≤ r → r + Wt.wt x ≤ left)
theorem weigh_flat {α : Type} [Dat α] [Wt α] {l : List α} (h0 : ∀ x : α, Wt.wt x = 0) (f : List α → Int → Option Int)
  (hf : ∀ left, f l left = if (decide ((wr (left - (l.length : Int))) < 0)) = true then (some (-1)) else (some (wr (left - (l.length : Int))))) (hl : l.length ≤ 9223372036854775807) : Weighs f l := by
 intro left h1 h2
 have hs : (l.map Wt.wt).sum = 0 := by
  clear hf hl
  induction l with
  | nil => rfl
  | cons x l ih => rw [List.map_cons, List.sum_cons, h0, ih]
 have hw : Wt.wt l = l.length := by rw [wt_list, hs]; rfl
 rw [hf, YG (by omega), hw]
 by_cases h : left - (l.length : Int) < 0
 ·exact ⟨-1, by simp [h], by omega, by omega⟩
 ·exact ⟨left - l.length, by simp [h], by omega, by omega⟩
theorem weigh_list {α : Type} [Dat α] [Wt α] {p0 : List α} (f : List α → Int → Option Int) (c : α → Int → Option Int) (L : Int × Int → Option (Fl (Int × Int) (Fl Int Int)))
  (hL : ∀ s, L s = if (decide (s.2 < (p0.length : Int))) = true then ((idx p0 s.2).bind fun x => (c x s.1).bind fun r => if (decide (r < 0)) = true then (some (Fl.ex (Fl.ex (-1)))) else (some (Fl.nx (r, wr (s.2 + 1))))) else (some (Fl.ex (Fl.nx s.1))))
  (hf : ∀ left, f p0 left = if (decide ((wr (left - (p0.length : Int))) < 0)) = true then (some (-1)) else ((ZF L (wr (left - (p0.length : Int)), 0) : Option (Fl Int Int)).bind fun j2 => j2.el (fun s => some s) (fun r => some r)))
  (hl : p0.length ≤ 9223372036854775807) (hc : ∀ x ∈ p0, Weighs c x) : Weighs f p0 := by
 intro left h1 h2
 rw [hf, YG (by omega)]
 by_cases h : left - (p0.length : Int) < 0
 ·exact ⟨-1, by simp [h], by omega, by omega⟩
 simp only [h, decide_false, Bool.false_eq_true, if_false]
 have key : ∀ (k m : Nat) (a : Int), m + k = p0.length → 0 ≤ a → a ≤ 1048576 → ∃ o : Fl Int Int, ZF L (a, (m : Int)) = some o ∧ ((o = .ex (-1)) ∨ ∃ r, o = .nx r ∧ 0 ≤ r ∧ r + (((p0.drop m).map Wt.wt).sum : Nat) ≤ a) := by
  intro k
  induction k with
  | zero =>
   intro m a hm h0 h3
   have : m = p0.length := by omega
   subst this
   refine ⟨.nx a, ?_, .inr ⟨a, rfl, h0, ?_⟩⟩
   ·rw [YQ (t := .nx a)]; rw [hL]; simp
   ·simp
  | succ k ih =>
   intro m a hm h0 h3
   have hi : m < p0.length := by omega
   obtain ⟨r, e1, e2, e3⟩ := hc _ (List.getElem_mem hi) a h0 h3
   have hst : L (a, (m : Int)) = (if (decide (r < 0)) = true then (some (Fl.ex (Fl.ex (-1)))) else (some (Fl.nx (r, ((m + 1 : Nat) : Int))))) := by
    rw [hL]
    simp only [Int.ofNat_lt, hi, decide_true, if_true, idx_nat hi, Option.bind_some, e1, YX (show m < 9223372036854775807 by omega)]
   by_cases hr : r < 0
   ·simp only [hr, decide_true, if_true] at hst
    exact ⟨_, YQ hst, .inl rfl⟩
   ·simp only [hr, decide_false, Bool.false_eq_true, if_false] at hst
    obtain ⟨o, k1, k2⟩ := ih (m + 1) r (by omega) (by omega) e2
    refine ⟨o, by rw [Xi hst]; exact k1, k2.imp id ?_⟩
    rintro ⟨q, rfl, q1, q2⟩
    refine ⟨q, rfl, q1, ?_⟩
    have e3 := e3 (by omega)
    rw [List.drop_eq_getElem_cons hi, List.map_cons, List.sum_cons]
    omega
 obtain ⟨o, k1, k2⟩ := key p0.length 0 (left - p0.length) (by omega) (by omega) (by omega)
 have k1' : ZF L (left - (p0.length : Int), 0) = some o := k1
 rw [k1']
 rcases k2 with rfl | ⟨r, rfl, q1, q2⟩
 ·exact ⟨-1, rfl, by omega, by omega⟩
 ·refine ⟨r, rfl, by omega, fun _ => ?_⟩
  rw [List.drop_zero] at q2
  rw [wt_list]; omega
@[simp] theorem YC {α : Type} (l : List α) (i : Nat) : idx l (i : Int) = l[i]? := by unfold idx; simp
@[simp] theorem idx_zero {α : Type} (l : List α) : idx l (0 : Int) = l[0]? := YC l 0
/-- A search that answers one thing. -/
theorem iter_has {T : Type} {f : Int → Option (Fl Int (Fl Unit T))} (n : Nat) (p : Nat → Bool) (t : T) (hn : n < 9223372036854775807)
  (h : ∀ i, i < n → f (i : Int) = some (if p i then .ex (.ex t) else .nx (wr ((i : Int) + 1)))) (he : f (n : Int) = some (.ex (.nx ()))) (m : Nat) (hm : m ≤ n) :
  ZF f (m : Int) = some (if (List.range' m (n - m)).any p then .ex t else .nx ()) :=
 iter_any p hm (fun i _ hi => by rw [h i hi, YX (by omega)]) he
theorem iter_hasM {T : Type} {f : Int → Option (Fl Int (Fl Unit T))} (n : Nat) (p : Nat → Bool) (t : T) (hn : n < 9223372036854775807) (m : Nat) (hm : m ≤ n)
  (h : ∀ i, m ≤ i → i < n → f (i : Int) = some (if p i then .ex (.ex t) else .nx (wr ((i : Int) + 1)))) (he : f (n : Int) = some (.ex (.nx ()))) :
  ZF f (m : Int) = some (if (List.range' m (n - m)).any p then .ex t else .nx ()) :=
 iter_any p hm (fun i hmi hi => by rw [h i hmi hi, YX (by omega)]) he
/-- A loop over the elements of a list that carries a value. -/
theorem iter_fold {α β S T : Type} {f : S → Option (Fl S T)} (l : List α) (pack : β → Int → S) (g : β → α → β) (b0 : β) {t : T} (hn : l.length < 9223372036854775807)
  (h : ∀ i (hi : i < l.length), f (pack ((l.take i).foldl g b0) (i : Int)) = some (.nx (pack (g ((l.take i).foldl g b0) l[i]) (wr ((i : Int) + 1))))) (he : f (pack (l.foldl g b0) (l.length : Int)) = some (.ex t)) :
  ZF f (pack b0 0) = some t := by
 have := Z1 (f := f) (fun i : Nat => pack ((l.take i).foldl g b0) (i : Int)) 0 l.length (Nat.zero_le _) (t := t) (fun i _ hi => by
  rw [h i hi, YX (by omega)]
  congr 3
  rw [List.take_succ_eq_append_getElem hi, List.foldl_append]; rfl) (by rw [List.take_length]; exact he)
 simpa using this
theorem app_ok {α : Type} {by_ : Nat} {l m : List α} (h : (l.length + m.length) * by_ ≤ 140737488355328) : app by_ l m = some (l ++ m) := by unfold app; rw [if_pos h]
theorem slc_ok {α : Type} {l : List α} {i j : Nat} (h : i ≤ j) (h2 : j ≤ l.length) : slc l (i : Int) (j : Int) = some ((l.take j).drop i) := by
 unfold slc; rw [if_pos (by omega)]; simp

theorem UF {α : Type} {n : Nat} {v w : Vector α n} (h : ∀ i (hi : i < n), v[i] = w[i]) : v = w := Vector.ext h
@[simp] theorem We {α : Type} {n : Nat} (v : Vector α n) (i : Nat) : ZM v (i : Int) = v[i]? := by unfold ZM; simp
theorem copy_arr {n : Nat} (p0 : Vector UInt8 n) (L : Vector UInt8 n × Int → Option (Fl (Vector UInt8 n × Int) (Vector UInt8 n)))
  (hL : ∀ s, L s = if decide (s.2 < (n : Int)) = true then ((ZM p0 s.2).bind fun x => (ZM s.1 s.2).bind fun _ => some (Fl.nx (s.1.setIfInBounds (s.2).toNat x, wr (s.2 + 1)))) else (some (Fl.ex s.1))) (hn : n < 9223372036854775807) (z : Vector UInt8 n) :
  ZF L (z, 0) = some p0 := by
 have := Z1 (f := L) (fun i : Nat => (Vector.ofFn fun j : Fin n => if j.1 < i then p0[j] else z[j], (i : Int))) 0 n (Nat.zero_le _) (t := p0) (fun i _ hi => by
  rw [hL]
  simp only [Int.ofNat_lt, hi, decide_true, if_true, We, Vector.getElem?_eq_getElem hi, Option.bind_some, Int.toNat_natCast, YX (show i < 9223372036854775807 by omega)]
  congr 3
  apply UF
  intro j hj
  rw [Vector.getElem_setIfInBounds]
  simp only [Vector.getElem_ofFn, Fin.getElem_fin]
  by_cases h : i = j
  ·subst h; simp
  ·by_cases h2 : j < i
   ·simp [h, h2, show j < i + 1 by omega]
   ·simp [h, h2, show ¬ j < i + 1 by omega]) (by
  rw [hL]
  simp only [Int.ofNat_lt, Nat.lt_irrefl, decide_false, Bool.false_eq_true, if_false]
  congr 2
  apply UF
  intro j hj
  simp [hj])
 have h0 : (Vector.ofFn fun j : Fin n => if j.1 < 0 then p0[j] else z[j]) = z := by
  apply UF
  intro j hj
  simp
 rw [h0] at this
 exact this
theorem eq_arr {n : Nat} (p0 : Vector UInt8 n) (L : Int → Option (Fl Int (Fl Unit Bool)))
  (hL : ∀ s, L s = if decide (s < (n : Int)) = true then (((ZM p0 s).bind fun x => (ZM p0 s).bind fun y => some (x != y) : Option Bool).bind fun j => if j = true then (some (Fl.ex (Fl.ex false))) else (some (Fl.nx (wr (s + 1))))) else (some (Fl.ex (Fl.nx ())))) (hn : n < 9223372036854775807) :
  ((ZF L 0 : Option (Fl Unit Bool)).bind fun j5 => j5.el (fun _ => some true) (fun r => some r)) = some true := by
 have := Z1 (f := L) (fun i : Nat => (i : Int)) 0 n (Nat.zero_le _) (t := .nx ()) (fun i _ hi => by
  rw [hL]
  simp only [Int.ofNat_lt, hi, decide_true, if_true, We, Vector.getElem?_eq_getElem hi, Option.bind_some]
  simp [YX (show i < 9223372036854775807 by omega)]) (by rw [hL]; simp)
 have h2 : ZF L 0 = some (.nx ()) := this
 rw [h2]; rfl

/-- What is written when numbers are written one after the other from k on. -/
def markV (n : Nat) (k : Int) : Vector UInt8 n := Vector.ofFn fun j => ZG (k + j)
theorem wr_k {k : Int} (h : 0 ≤ k) (h2 : k < 9223372036854775807) : wr (k + 1) = k + 1 := YG (by omega)
theorem mark_arr {α : Type} {n : Nat} (get : α → Vector UInt8 n) (put : α → Vector UInt8 n → α) (i : Nat) (I : Int) (hI : I = i) (L : List α × Int × Int → Option (Fl (List α × Int × Int) (List α × Int)))
  (hL : ∀ s, L s = if decide (s.2.2 < (n : Int)) = true then ((idx s.1 I).bind fun x => (ZM (get x) s.2.2).bind fun _ => some (Fl.nx (s.1.set (I).toNat (put x ((get x).setIfInBounds (s.2.2).toNat (ZG s.2.1))), wr (s.2.1 + 1), wr (s.2.2 + 1)))) else (some (Fl.ex (s.1, s.2.1))))
  (hgp : ∀ x v, get (put x v) = v) (hpp : ∀ x v w, put (put x v) w = put x w) (hpg : ∀ x, put x (get x) = x) (hn : n < 9223372036854775807)
  (l : List α) (hi : i < l.length) (k : Int) (h0 : 0 ≤ k) (hk : k + n ≤ 4611686018427387904) : ZF L (l, k, 0) = some (l.set i (put l[i] (markV n k)), k + n) := by
 subst hI
 have := Z1 (f := L) (fun j : Nat => (l.set i (put l[i] (Vector.ofFn fun q : Fin n => if q.1 < j then ZG (k + q) else (get l[i])[q])), k + j, (j : Int))) 0 n (Nat.zero_le _) (t := (l.set i (put l[i] (markV n k)), k + n)) (fun j _ hj => by
  rw [hL]
  have hi' : i < (l.set i (put l[i] (Vector.ofFn fun q : Fin n => if q.1 < j then ZG (k + q) else (get l[i])[q]))).length := by simpa using hi
  simp only [Int.ofNat_lt, hj, decide_true, if_true, YC, We, List.getElem?_eq_getElem hi', Vector.getElem?_eq_getElem hj, Option.bind_some, Int.toNat_natCast, YX (show j < 9223372036854775807 by omega), List.getElem_set_self, hgp, hpp, List.set_set]
  rw [wr_k (by omega) (by omega)]
  congr 3
  ·congr 2
   apply UF
   intro q hq
   rw [Vector.getElem_setIfInBounds]
   simp only [Vector.getElem_ofFn, Fin.getElem_fin]
   by_cases h : j = q
   ·subst h; simp
   ·by_cases h2 : q < j
    ·simp [h, h2, show q < j + 1 by omega]
    ·simp [h, h2, show ¬ q < j + 1 by omega]
  ·congr 1
   omega) (by
  rw [hL]
  simp only [Int.ofNat_lt, Nat.lt_irrefl, decide_false, Bool.false_eq_true, if_false]
  have e : (Vector.ofFn fun q : Fin n => if q.1 < n then ZG (k + q) else (get l[i])[q]) = markV n k := by
   unfold markV
   apply UF
   intro j hj
   simp [hj]
  rw [e])
 have h0' : (Vector.ofFn fun q : Fin n => if q.1 < 0 then ZG (k + q) else (get l[i])[q]) = get l[i] := by
  apply UF
  intro j hj
  simp
 rw [h0', hpg, List.set_getElem_self] at this
 simpa using this
/-- A mark of n numbers from k on, and the look that finds it. -/
def MarkOk {α : Type} (Fm : α → Int → Option (α × Int)) (Fh : α → Int → Option Int) (x : α) (n : Nat) : Prop :=
 ∀ k : Int, 0 ≤ k → k + n ≤ 4611686018427387904 → ∃ x', Fm x k = some (x', k + n) ∧ Fh x' k = some (k + n)
theorem mark_list {α : Type} (Fm : List α → Int → Option (List α × Int)) (Fh : List α → Int → Option Int) (Lm : List α × Int × Int → Option (Fl (List α × Int × Int) (List α × Int))) (Lh : List α → Int × Int → Option (Fl (Int × Int) (Fl Int Int))) (mk : α → Nat)
  (hFm : ∀ l k, Fm l k = (ZF Lm (l, k, 0) : Option (List α × Int)).bind fun j1 => some (j1.1, j1.2)) (hFh : ∀ l k, Fh l k = (ZF (Lh l) (k, 0) : Option (Fl Int Int)).bind fun j1 => j1.el (fun s => some s) (fun r => some r))
  (l : List α) (hl : l.length ≤ 9223372036854775807)
  (hm : ∀ (l' : List α) (i : Nat) (k : Int) (hi : i < l'.length), l'[i] ∈ l → i < 9223372036854775807 → 0 ≤ k → k + mk l'[i] ≤ 4611686018427387904 → ∃ x', Lm (l', k, (i : Int)) = some (.nx (l'.set i x', k + mk l'[i], wr ((i : Int) + 1))) ∧
   ∀ (m : List α), m[i]? = some x' → Lh m (k, (i : Int)) = some (.nx (k + mk l'[i], wr ((i : Int) + 1))))
  (hme : ∀ (l' : List α) k, Lm (l', k, (l'.length : Int)) = some (.ex (l', k))) (hhe : ∀ (m : List α) k, Lh m (k, (m.length : Int)) = some (.ex (.nx k))) : MarkOk Fm Fh l (l.map mk).sum := by
 have aux : ∀ (n i : Nat) (l' : List α) (k : Int), i + n = l'.length → l'.length = l.length → l'.drop i = l.drop i → 0 ≤ k → k + (((l.drop i).map mk).sum : Nat) ≤ 4611686018427387904 →
   ∃ l'', ZF Lm (l', k, (i : Int)) = some (l'', k + (((l.drop i).map mk).sum : Nat)) ∧ l''.length = l'.length ∧ (∀ j, j < i → l''[j]? = l'[j]?) ∧ ZF (Lh l'') (k, (i : Int)) = some (.nx (k + (((l.drop i).map mk).sum : Nat))) := by
  intro n
  induction n with
  | zero =>
   intro i l' k hi hll hd h0 hk
   have hi : i = l'.length := by omega
   subst hi
   have e : l.drop l'.length = [] := by rw [hll]; simp
   rw [e]
   refine ⟨l', ?_, rfl, fun _ _ => rfl, ?_⟩
   ·rw [YQ (hme l' k)]; simp
   ·rw [YQ (hhe l' k)]; simp
  | succ n ih =>
   intro i l' k hi hll hd h0 hk
   have hil : i < l'.length := by omega
   have hil2 : i < l.length := by omega
   have e1 : l'[i] = l[i] := by
    have h1 := List.drop_eq_getElem_cons hil
    have h2 := List.drop_eq_getElem_cons hil2
    rw [h1, h2] at hd
    exact (List.cons.inj hd).1
   have e2 : l.drop i = l[i] :: l.drop (i + 1) := List.drop_eq_getElem_cons hil2
   rw [e2, List.map_cons, List.sum_cons] at hk ⊢
   obtain ⟨x', h1, h2⟩ := hm l' i k hil (by rw [e1]; exact List.getElem_mem hil2) (by omega) h0 (by rw [e1]; omega)
   rw [e1] at h1 h2
   rw [YX (by omega)] at h1 h2
   obtain ⟨l'', k1, k2, k3, k4⟩ := ih (i + 1) (l'.set i x') (k + mk l[i]) (by simp; omega) (by simpa using hll) (by
    rw [List.drop_set_of_lt (by omega)]
    have h1 := List.drop_eq_getElem_cons hil
    rw [h1, e2] at hd
    exact (List.cons.inj hd).2) (by omega) (by omega)
   refine ⟨l'', ?_, by simpa using k2, fun j hj => ?_, ?_⟩
   ·rw [Xi h1, k1]; congr 2; omega
   ·rw [k3 j (by omega), List.getElem?_set_ne (by omega)]
   ·rw [Xi (h2 l'' (by rw [k3 i (by omega)]; simp [hil])), k4]; congr 2; omega
 intro k h0 hk
 obtain ⟨l'', k1, k2, k3, k4⟩ := aux l.length 0 l k (by omega) rfl rfl h0 (by simpa using hk)
 simp only [List.drop_zero] at k1 k4
 refine ⟨l'', ?_, ?_⟩
 ·rw [hFm]
  have : ZF Lm (l, k, 0) = _ := k1
  rw [this]; rfl
 ·rw [hFh]
  have : ZF (Lh l'') (k, 0) = _ := k4
  rw [this]; rfl
theorem sum_le_wt {α : Type} [Dat α] [Wt α] (mk : α → Nat) (c : Nat) (h : ∀ x, mk x ≤ c * (1 + Wt.wt x)) (l : List α) : (l.map mk).sum ≤ c * Wt.wt l := by
 rw [wt_list]
 induction l with
 | nil => simp
 | cons x l ih =>
  have := h x
  simp only [List.map_cons, List.sum_cons, List.length_cons]
  have e : c * (l.length + 1 + (Wt.wt x + (l.map Wt.wt).sum)) = c * (1 + Wt.wt x) + c * (l.length + (l.map Wt.wt).sum) := by
   rw [← Nat.mul_add]; congr 1; omega
  omega
theorem wt_bytes (l : List UInt8) : Wt.wt l = l.length := by
 rw [wt_list]
 have : (l.map Wt.wt).sum = 0 := by
  induction l with
  | nil => rfl
  | cons x l ih => rw [List.map_cons, List.sum_cons, ih]; rfl
 omega
theorem v_toByteS (l : List UInt8) (h : Wt.wt l ≤ 1048576) : WK l = some l := by
 have := wt_len l
 unfold WK
 have := copy_loop l (fun x => some x) id 1 0 (Uj l) (fun s => by unfold Uj; rfl) (fun _ _ => rfl) (by omega) (by omega)
 simpa using this
theorem v_eqByteS (l : List UInt8) (h : Wt.ln l) : YY l l = some true := by
 unfold YY
 exact eq_loop l (fun x y => some (x != y)) (Ui l l) (fun s => by unfold Ui; rfl) (fun x _ => by simp) (ln_len h)
theorem v_szByteS (l : List UInt8) (h : Wt.ln l) : Weighs X7 l :=
 weigh_flat (fun _ => rfl) X7 (fun left => by unfold X7; rfl) (ln_len h)
theorem v_markByteS (l : List UInt8) (h : Wt.ln l) : MarkOk YO XV l (l.map fun _ => 1).sum :=
 mark_list YO XV YD Wn (fun _ => 1) (fun _ _ => rfl) (fun _ _ => rfl) l (ln_len h) (fun l' i k hi _ _ h0 hk => by
  have e := wr_k (k := k) h0 (by omega)
  refine ⟨ZG k, ?_, fun m hm => ?_⟩
  ·unfold YD
   simp only [Int.ofNat_lt, hi, decide_true, if_true, YC, List.getElem?_eq_getElem hi, Option.bind_some, Int.toNat_natCast, e]; rfl
  ·have hi' := (List.getElem?_eq_some_iff.1 hm).1
   unfold Wn
   simp only [Int.ofNat_lt, hi', decide_true, if_true, YC, hm, Option.bind_some, bne_self_eq_false, Bool.false_eq_true, if_false, e]; rfl) (fun l' k => by unfold YD; simp) (fun m k => by unfold Wn; simp)
theorem v_eqInt64S (l : List Int) (h : Wt.ln l) : Vj l l = some true := by
 unfold Vj
 exact eq_loop l (fun x y => some (x != y)) (VQ l l) (fun s => by unfold VQ; rfl) (fun x _ => by simp) (ln_len h)
theorem v_toByteSS (l : List (List UInt8)) (h : Wt.wt l ≤ 1048576) : Vg l = some l := by
 have := wt_len l
 unfold Vg
 have := copy_loop l WK id 24 [] (V0 l) (fun s => by unfold V0; rfl) (fun x hx => v_toByteS x (Nat.le_trans (wt_memL hx) h)) (by omega) (by omega)
 simpa using this
theorem v_eqByteSS (l : List (List UInt8)) (h : Wt.ln l) : W6 l l = some true := by
 unfold W6
 exact eq_loop l (fun x y => (YY x y).bind fun r => some (!r)) (V2 l l) (fun s => by unfold V2; rfl) (fun x hx => by simp [v_eqByteS x (ln_mem h hx)]) (ln_len h)
theorem v_szByteSS (l : List (List UInt8)) (h : Wt.ln l) : Weighs XE l :=
 weigh_list XE X7 (VX l) (fun s => by unfold VX; rfl) (fun left => by unfold XE; rfl) (ln_len h) (fun x hx => v_szByteS x (ln_mem h hx))
theorem v_toDigest (x : Vector UInt8 32) : YH x = some x := by
 unfold YH
 rw [copy_arr x (V3 x) (fun s => by unfold V3; rfl) (by omega)]; rfl
theorem v_eqDigest (x : Vector UInt8 32) : Wd x x = some true := by
 unfold Wd
 exact eq_arr x (VZ x x) (fun s => by unfold VZ; rfl) (by omega)
/-- Two weighings, one after the other. -/
theorem weigh_then {α β : Type} [Dat α] [Wt α] [Dat β] [Wt β] {f : α → Int → Option Int} {g : β → Int → Option Int} {x : α} {y : β} (hf : Weighs f x) (hg : Weighs g y) (left : Int) (h1 : 0 ≤ left) (h2 : left ≤ 1048576) :
  ∃ r, ((f x left).bind fun r => if decide (r < 0) = true then some (-1) else g y r) = some r ∧ r ≤ 1048576 ∧ (0 ≤ r → r + (Wt.wt x + Wt.wt y : Nat) ≤ left) := by
 obtain ⟨r, e1, e2, e3⟩ := hf left h1 h2
 rw [e1]
 by_cases hr : r < 0
 ·exact ⟨-1, by simp [hr], by omega, by omega⟩
 ·have e3 := e3 (by omega)
  obtain ⟨q, k1, k2, k3⟩ := hg r (by omega) e2
  refine ⟨q, by simp [hr, k1], k2, fun hq => ?_⟩
  have := k3 hq
  omega
theorem weigh_end {f : Option Int} {left w : Int} (h : ∃ r, f = some r ∧ r ≤ 1048576 ∧ (0 ≤ r → r + w ≤ left)) : ∃ r, (f.bind fun r => if decide (r < 0) = true then some (-1) else some r) = some r ∧ r ≤ 1048576 ∧ (0 ≤ r → r + w ≤ left) := by
 obtain ⟨r, e1, e2, e3⟩ := h
 by_cases hr : r < 0
 ·exact ⟨-1, by simp [e1, hr], by omega, by omega⟩
 ·exact ⟨r, by simp [e1, hr], e2, e3⟩
/-- Only a mark. -/
def MarkGo {α : Type} (Fm : α → Int → Option (α × Int)) (x : α) (n : Nat) : Prop :=
 ∀ k : Int, 0 ≤ k → k + n ≤ 4611686018427387904 → ∃ x', Fm x k = some (x', k + n)
theorem mark_go {α : Type} (Fm : List α → Int → Option (List α × Int)) (Lm : List α × Int × Int → Option (Fl (List α × Int × Int) (List α × Int))) (mk : α → Nat)
  (hFm : ∀ l k, Fm l k = (ZF Lm (l, k, 0) : Option (List α × Int)).bind fun j1 => some (j1.1, j1.2)) (l : List α) (hl : l.length ≤ 9223372036854775807)
  (hm : ∀ (l' : List α) (i : Nat) (k : Int) (hi : i < l'.length), l'[i] ∈ l → i < 9223372036854775807 → 0 ≤ k → k + mk l'[i] ≤ 4611686018427387904 → ∃ x', Lm (l', k, (i : Int)) = some (.nx (l'.set i x', k + mk l'[i], wr ((i : Int) + 1))))
  (hme : ∀ (l' : List α) k, Lm (l', k, (l'.length : Int)) = some (.ex (l', k))) : MarkGo Fm l (l.map mk).sum := by
 intro k h0 hk
 have aux : ∀ (n i : Nat) (l' : List α) (k : Int), i + n = l'.length → l'.length = l.length → l'.drop i = l.drop i → 0 ≤ k → k + (((l.drop i).map mk).sum : Nat) ≤ 4611686018427387904 →
   ∃ l'', ZF Lm (l', k, (i : Int)) = some (l'', k + (((l.drop i).map mk).sum : Nat)) := by
  intro n
  induction n with
  | zero =>
   intro i l' k hi hll hd h0 hk
   have hi : i = l'.length := by omega
   subst hi
   have e : l.drop l'.length = [] := by rw [hll]; simp
   rw [e]
   exact ⟨l', by rw [YQ (hme l' k)]; simp⟩
  | succ n ih =>
   intro i l' k hi hll hd h0 hk
   have hil : i < l'.length := by omega
   have hil2 : i < l.length := by omega
   have h1 := List.drop_eq_getElem_cons hil
   have e2 : l.drop i = l[i] :: l.drop (i + 1) := List.drop_eq_getElem_cons hil2
   rw [h1, e2] at hd
   have e1 := (List.cons.inj hd).1
   rw [e2, List.map_cons, List.sum_cons] at hk ⊢
   obtain ⟨x', h1⟩ := hm l' i k hil (by rw [e1]; exact List.getElem_mem hil2) (by omega) h0 (by rw [e1]; omega)
   rw [e1, YX (by omega)] at h1
   obtain ⟨l'', k1⟩ := ih (i + 1) (l'.set i x') (k + mk l[i]) (by simp; omega) (by simpa using hll) (by
    rw [List.drop_set_of_lt (by omega)]
    exact (List.cons.inj hd).2) (by omega) (by omega)
   exact ⟨l'', by rw [Xi h1, k1]; congr 2; omega⟩
 obtain ⟨l'', k1⟩ := aux l.length 0 l k (by omega) rfl rfl h0 (by simpa using hk)
 simp only [List.drop_zero] at k1
 refine ⟨l'', ?_⟩
 rw [hFm]
 have : ZF Lm (l, k, 0) = _ := k1
 rw [this]; rfl
theorem g_markByteS (l : List UInt8) (h : Wt.ln l) : MarkGo YO l (l.map fun _ => 1).sum :=
 mark_go YO YD (fun _ => 1) (fun _ _ => rfl) l (ln_len h) (fun l' i k hi _ _ h0 hk => by
  have e := wr_k (k := k) h0 (by omega)
  refine ⟨ZG k, ?_⟩
  unfold YD
  simp only [Int.ofNat_lt, hi, decide_true, if_true, YC, List.getElem?_eq_getElem hi, Option.bind_some, Int.toNat_natCast, e]; rfl) (fun l' k => by unfold YD; simp)
theorem sum_one (l : List UInt8) : (l.map fun _ => 1).sum = l.length := by
 induction l with
 | nil => rfl
 | cons x l ih => rw [List.map_cons, List.sum_cons, ih, List.length_cons]; omega
theorem v_inRange (n a b : Int) : Vy n a b = some (decide (a ≤ n ∧ n ≤ b)) := by
 unfold Vy
 by_cases h1 : a ≤ n <;> by_cases h2 : n ≤ b <;> simp [h1, h2]
/-- After the weighing: too much, or all lengths are small. -/
theorem weighed {α : Type} [Dat α] [Wt α] {f : α → Int → Option Int} {x : α} {left : Int} {G : Int → Option Bool} (hf : Weighs f x) (h1 : 0 ≤ left) (h2 : left ≤ 1048576) (hG : ∀ r, 0 ≤ r → r ≤ 1048576 → r + (Wt.wt x : Nat) ≤ left → G r = some true) :
  ((f x left).bind fun r => if decide (r < 0) = true then some true else G r) = some true := by
 obtain ⟨r, e1, e2, e3⟩ := hf left h1 h2
 rw [e1]
 by_cases hr : r < 0
 ·simp [hr]
 ·have := hG r (by omega) e2 (e3 (by omega))
  simp [hr, this]
theorem bv_nat (a : Nat) (h : a < 9223372036854775808) : (BitVec.ofInt 64 (a : Int)).toNat = a := by
 rw [BitVec.toNat_ofInt]
 omega
theorem xorI_nat (a b : Nat) (ha : a < 9223372036854775808) (hb : b < 9223372036854775808) : xorI (a : Int) (b : Int) = ((a ^^^ b : Nat) : Int) := by
 unfold xorI
 rw [BitVec.toNat_xor, bv_nat a ha, bv_nat b hb]
 have : a ^^^ b < 2 ^ 63 := Nat.xor_lt_two_pow ha hb
 exact YG (by omega)
theorem andI_nat (a b : Nat) (ha : a < 9223372036854775808) (hb : b < 9223372036854775808) : andI (a : Int) (b : Int) = ((a &&& b : Nat) : Int) := by
 unfold andI
 rw [BitVec.toNat_and, bv_nat a ha, bv_nat b hb]
 have : a &&& b < 2 ^ 63 := Nat.and_lt_two_pow _ hb
 exact YG (by omega)
theorem shlI_nat (a i : Nat) (hi : i ≤ 63) (h : a <<< i < 9223372036854775808) : shlI (a : Int) (i : Int) = ((a <<< i : Nat) : Int) := by
 unfold shlI
 rw [show min ((i : Int)).toNat 64 = i by omega]
 have : ((a : Int) * 2 ^ i) = ((a <<< i : Nat) : Int) := by rw [Nat.shiftLeft_eq]; simp
 rw [this]
 generalize a <<< i = x at h ⊢
 exact YG (by omega)
theorem shrI_nat (a i : Nat) (hi : i ≤ 63) : V9 (a : Int) (i : Int) = ((a >>> i : Nat) : Int) := by
 unfold V9
 rw [show min ((i : Int)).toNat 64 = i by omega, Nat.shiftRight_eq_div_pow, Int.fdiv_eq_ediv_of_nonneg _ (by exact_mod_cast Nat.zero_le _)]
 simp
theorem bit_and (a i : Nat) : ((a >>> i) &&& 1 = 1) ↔ a.testBit i = true := by
 rw [Nat.testBit, Nat.and_comm]
 have h := Nat.and_one_is_mod (a >>> i)
 rw [Nat.and_comm] at h
 rw [h]
 rcases Nat.mod_two_eq_zero_or_one (a >>> i) with h | h <;> simp [h]
theorem tmod2 (a : Nat) : Int.tmod (a : Int) 2 = ((a % 2 : Nat) : Int) := by
 rw [Int.tmod_eq_emod_of_nonneg (by omega)]; simp
theorem tdiv2 (a : Nat) : Int.tdiv (a : Int) 2 = ((a / 2 : Nat) : Int) := by
 rw [Int.tdiv_eq_ediv_of_nonneg (by omega)]; simp
theorem wr_nn (a : Nat) (h : a < 9223372036854775808) : wr (a : Int) = (a : Int) := YG (by omega)
theorem wru_nn (a : Nat) (h : a < 9223372036854775808) : IntKind.u64.wrap (a : Int) = (a : Int) := by
 simp only [IntKind.wrap, IntKind.bits, IntKind.signed]
 simp
 omega

/-- The remainder, bit by bit from the top: k bits are looked at. -/
def Yr (m deg : Nat) : Nat → Nat → Nat
 | 0, a => a
 | k + 1, a => Yr m deg k (if a.testBit (deg + k) then a ^^^ (m <<< k) else a)
theorem shl_lt {m k n : Nat} (h : m < 2 ^ n) : m <<< k < 2 ^ (n + k) := by
 rw [Nat.shiftLeft_eq, Nat.pow_add]
 exact Nat.mul_lt_mul_of_pos_right h (Nat.two_pow_pos _)
theorem lt_of_bit {a n : Nat} (h : a < 2 ^ (n + 1)) (hb : a.testBit n = false) : a < 2 ^ n := by
 apply Nat.lt_pow_two_of_testBit
 intro i hi
 rcases Nat.eq_or_lt_of_le hi with rfl | hi
 ·exact hb
 ·exact Nat.testBit_lt_two_pow (Nat.lt_of_lt_of_le h (Nat.pow_le_pow_right (by omega) hi))
theorem top_bit {m d : Nat} (h1 : 2 ^ d ≤ m) (h2 : m < 2 ^ (d + 1)) : m.testBit d = true := by
 rw [Nat.testBit, Nat.shiftRight_eq_div_pow]
 have : m / 2 ^ d = 1 := by
  apply Nat.div_eq_of_lt_le
  ·simpa using h1
  ·rw [Nat.pow_succ] at h2; omega
 rw [this]; rfl
theorem step_lt {m d k a : Nat} (h1 : 2 ^ d ≤ m) (h2 : m < 2 ^ (d + 1)) (ha : a < 2 ^ (d + (k + 1))) (hb : a.testBit (d + k) = true) : a ^^^ (m <<< k) < 2 ^ (d + k) := by
 have hm : m <<< k < 2 ^ (d + (k + 1)) := by have := shl_lt (k := k) h2; rwa [show d + 1 + k = d + (k + 1) by omega] at this
 refine lt_of_bit (Nat.xor_lt_two_pow (by rwa [show d + k + 1 = d + (k + 1) by omega]) (by rwa [show d + k + 1 = d + (k + 1) by omega])) ?_
 rw [Nat.testBit_xor, hb, Nat.testBit_shiftLeft]
 simp [top_bit h1 h2]
theorem restR_lt {m d : Nat} (h1 : 2 ^ d ≤ m) (h2 : m < 2 ^ (d + 1)) : ∀ (k a : Nat), a < 2 ^ (d + k) → Yr m d k a < 2 ^ d
 | 0, a, h => by simpa [Yr] using h
 | k + 1, a, h => by
  unfold Yr
  cases hb : a.testBit (d + k) with
  | true => simp only [if_true]; exact restR_lt h1 h2 k _ (step_lt h1 h2 h hb)
  | false => simp only [Bool.false_eq_true, if_false]; exact restR_lt h1 h2 k a (lt_of_bit h hb)
theorem restR_xor (m d : Nat) : ∀ (k a b : Nat), Yr m d k (a ^^^ b) = Yr m d k a ^^^ Yr m d k b
 | 0, _, _ => rfl
 | k + 1, a, b => by
  simp only [Yr]
  rw [Nat.testBit_xor]
  cases a.testBit (d + k) <;> cases b.testBit (d + k) <;> simp only [Bool.xor_false, Bool.false_xor, Bool.xor_self, Bool.xor_true, Bool.not_false, Bool.not_true, Bool.false_eq_true, if_true, if_false]
  ·exact restR_xor m d k a b
  ·rw [Nat.xor_assoc]; exact restR_xor m d k a _
  ·rw [← restR_xor m d k]; congr 1; rw [Nat.xor_assoc, Nat.xor_comm b, ← Nat.xor_assoc]
  ·rw [← restR_xor m d k]; congr 1
   rw [Nat.xor_assoc, ← Nat.xor_assoc (m <<< k), Nat.xor_comm (m <<< k) b, Nat.xor_assoc, Nat.xor_self, Nat.xor_zero]
theorem V4 {m d : Nat} : ∀ (k a : Nat), a < 2 ^ d → Yr m d k a = a
 | 0, _, _ => rfl
 | k + 1, a, h => by
  unfold Yr
  rw [Nat.testBit_lt_two_pow (Nat.lt_of_lt_of_le h (Nat.pow_le_pow_right (by omega) (by omega)))]
  simp only [Bool.false_eq_true, if_false]
  exact V4 k a h
theorem restR_top {m d k a : Nat} (h : a < 2 ^ (d + k)) : Yr m d (k + 1) a = Yr m d k a := by
 conv => lhs; unfold Yr
 rw [Nat.testBit_lt_two_pow h]; rfl
theorem restR_shift (m d : Nat) : ∀ (k x : Nat), Yr m d (k + 1) (x <<< 1) = (if ((Yr m d k x) <<< 1).testBit d then ((Yr m d k x) <<< 1) ^^^ m else (Yr m d k x) <<< 1)
 | 0, x => by simp [Yr]
 | k + 1, x => by
  conv => lhs; unfold Yr
  conv => rhs; unfold Yr
  have e : (x <<< 1).testBit (d + (k + 1)) = x.testBit (d + k) := by
   rw [Nat.testBit_shiftLeft]
   have : d + (k + 1) ≥ 1 := by omega
   simp only [this, decide_true, Bool.true_and]
   congr 1
  rw [e]
  cases x.testBit (d + k) with
  | false => simp only [Bool.false_eq_true, if_false]; exact restR_shift m d k x
  | true =>
   simp only [if_true]
   have e2 : x <<< 1 ^^^ m <<< (k + 1) = (x ^^^ m <<< k) <<< 1 := by
    rw [Nat.shiftLeft_xor_distrib, ← Nat.shiftLeft_add]
   rw [e2]
   exact restR_shift m d k _

/-- The number of binary digits. -/
def lenN (n : Nat) : Nat := if n = 0 then 0 else n.log2 + 1
theorem v_rest (a m d : Nat) (hd : d ≤ 15) (ha : a < 2 ^ 16) (hm : m < 2 ^ 20) : Uq (a : Int) (m : Int) (d : Int) = some ((Yr m d (16 - d) a : Nat) : Int) := by
 have key : ∀ (k a : Nat), d + k ≤ 16 → a < 2 ^ 40 → ZF (VU (m : Int) (d : Int)) ((a : Int), ((d + k : Nat) : Int) - 1) = some ((Yr m d k a : Nat) : Int) := by
  intro k
  induction k with
  | zero =>
   intro a _ _
   rw [YQ (t := (a : Int))]
   ·rfl
   ·unfold VU
    have : ¬ (((d + 0 : Nat) : Int) - 1 ≥ (d : Int)) := by omega
    simp only [this, decide_false, Bool.false_eq_true, if_false]
  | succ k ih =>
   intro a hk ha
   have e0 : ((d + (k + 1) : Nat) : Int) - 1 = ((d + k : Nat) : Int) := by omega
   have hsh : m <<< k < 2 ^ (20 + k) := shl_lt hm
   have hsh2 : m <<< k < 2 ^ 40 := Nat.lt_of_lt_of_le hsh (Nat.pow_le_pow_right (by omega) (by omega))
   have hst : VU (m : Int) (d : Int) ((a : Int), ((d + (k + 1) : Nat) : Int) - 1) = some (.nx (((if a.testBit (d + k) then a ^^^ (m <<< k) else a : Nat) : Int), ((d + k : Nat) : Int) - 1)) := by
    rw [e0]
    unfold VU
    have c1 : ((d + k : Nat) : Int) ≥ (d : Int) := by omega
    have c2 : Xk ((d + k : Nat) : Int) = some () := by unfold Xk; rw [if_pos (by omega)]
    have c3 : wr (((d + k : Nat) : Int) - (d : Int)) = ((k : Nat) : Int) := by rw [show ((d + k : Nat) : Int) - (d : Int) = ((k : Nat) : Int) by omega, wr_nn _ (by omega)]
    have c4 : Xk ((k : Nat) : Int) = some () := by unfold Xk; rw [if_pos (by omega)]
    have c5 : wr (((d + k : Nat) : Int) - 1) = ((d + k : Nat) : Int) - 1 := YG (by omega)
    simp only [c1, decide_true, if_true, c2, c3, c4, c5, Option.bind_some]
    have c6 : andI (V9 (a : Int) ((d + k : Nat) : Int)) 1 = (((a >>> (d + k)) &&& 1 : Nat) : Int) := by
     rw [shrI_nat a (d + k) (by omega)]
     exact andI_nat _ 1 (Nat.lt_of_le_of_lt (Nat.shiftRight_le _ _) (by omega)) (by omega)
    rw [c6, shlI_nat m k (by omega) (by omega), xorI_nat a _ (by omega) (by omega)]
    cases hb : a.testBit (d + k) with
    | true =>
     have := (bit_and a (d + k)).2 hb
     rw [this]; rfl
    | false =>
     have : ¬ ((a >>> (d + k)) &&& 1 = 1) := fun h => by rw [(bit_and a (d + k)).1 h] at hb; cases hb
     have h2 : (((((a >>> (d + k)) &&& 1 : Nat) : Int)) == 1) = false := by
      rw [beq_eq_false_iff_ne]; omega
     rw [h2]; rfl
   rw [Xi hst, ih _ (by omega) ?_]
   ·conv => rhs; unfold Yr
   ·split
    ·exact Nat.xor_lt_two_pow ha hsh2
    ·exact ha
 unfold Uq
 have := key (16 - d) a (by omega) (by omega)
 rw [show ((d + (16 - d) : Nat) : Int) - 1 = 15 by omega] at this
 rw [this]; rfl

/-- A product without carry, by the bits of the second from the lowest. -/
def mulC : Nat → Nat → Nat → Nat
 | 0, _, _ => 0
 | n + 1, a, b => (if b % 2 = 1 then a else 0) ^^^ mulC n (a <<< 1) (b / 2)
theorem mulC_zero : ∀ (n a : Nat), mulC n a 0 = 0
 | 0, _ => rfl
 | n + 1, a => by simp [mulC, mulC_zero n]
theorem mulC_lt : ∀ (n a b p : Nat), a < 2 ^ p → mulC n a b < 2 ^ (p + n)
 | 0, _, _, _, _ => by simp [mulC]; exact Nat.two_pow_pos _
 | n + 1, a, b, p, h => by
  unfold mulC
  have h1 : a <<< 1 < 2 ^ (p + 1) := shl_lt h
  have h2 := mulC_lt n (a <<< 1) (b / 2) (p + 1) h1
  rw [show p + 1 + n = p + (n + 1) by omega] at h2
  refine Nat.xor_lt_two_pow ?_ h2
  have h3 : 2 ^ p ≤ 2 ^ (p + (n + 1)) := Nat.pow_le_pow_right (by omega) (by omega)
  have h4 := Nat.two_pow_pos (p + (n + 1))
  split <;> omega
/-- The product up to a bit. -/
def prC : Nat → Nat → Nat → Nat
 | 0, _, _ => 0
 | i + 1, a, b => prC i a b ^^^ (if b.testBit i then a <<< i else 0)
theorem prC_succ : ∀ (n a b : Nat), prC (n + 1) a b = (if b % 2 = 1 then a else 0) ^^^ prC n (a <<< 1) (b / 2)
 | 0, a, b => by
  simp only [prC, Nat.zero_xor, Nat.xor_zero, Nat.shiftLeft_zero]
  have : b.testBit 0 = decide (b % 2 = 1) := by simp [Nat.testBit_zero]
  rw [this]; simp
 | n + 1, a, b => by
  conv => lhs; unfold prC
  rw [prC_succ n a b]
  conv => rhs; unfold prC
  rw [← Nat.xor_assoc]
  congr 1
  rw [Nat.testBit_succ, ← Nat.shiftLeft_add, Nat.add_comm 1 n]
theorem prC_eq : ∀ (n a b : Nat), prC n a b = mulC n a b
 | 0, _, _ => rfl
 | n + 1, a, b => by rw [prC_succ, prC_eq n]; rfl
theorem prC_lt (a b : Nat) (h : a < 256) : ∀ i, i ≤ 8 → prC i a b < 2 ^ 16
 | 0, _ => by simp [prC]
 | i + 1, hi => by
  unfold prC
  have h1 : a <<< i < 2 ^ (8 + i) := shl_lt h
  have h2 : 2 ^ (8 + i) ≤ 2 ^ 16 := Nat.pow_le_pow_right (by omega) (by omega)
  refine Nat.xor_lt_two_pow (prC_lt a b h i (by omega)) ?_
  split
  ·omega
  ·omega
/-- The product of two elements. -/
def ZZ (m : Nat) (a b : UInt8) : UInt8 := ZG ((Yr m 8 8 (mulC 8 a.toNat b.toNat) : Nat) : Int)
theorem Uc (m : Nat) (hm : m < 512) (a b : UInt8) : Z3 (m : Int) a b = some (ZZ m a b) := by
 have ha : a.toNat < 256 := a.toNat_lt
 have hb : b.toNat < 256 := b.toNat_lt
 have h := Z1 (f := Y3 a b) (fun i : Nat => (((prC i a.toNat b.toNat : Nat) : Int), (i : Int))) 0 8 (Nat.zero_le _) (t := ((prC 8 a.toNat b.toNat : Nat) : Int)) (fun i _ hi => by
  unfold Y3
  have c1 : ((i : Int) < 8) := by omega
  have c2 : Xk (i : Int) = some () := by unfold Xk; rw [if_pos (by omega)]
  have c3 : prC i a.toNat b.toNat < 2 ^ 16 := prC_lt _ _ ha i (by omega)
  have c4 : a.toNat <<< i < 2 ^ (8 + i) := shl_lt ha
  have c5 : 2 ^ (8 + i) ≤ 2 ^ 16 := Nat.pow_le_pow_right (by omega) (by omega)
  have c6 : (((shrB b (i : Int)) &&& 1) == 1) = b.toNat.testBit i := by
   have e1 : (shrB b (i : Int)).toNat = b.toNat >>> i := by
    unfold shrB ZG
    rw [show min ((i : Int)).toNat 8 = i by omega, Int.fdiv_eq_ediv_of_nonneg _ (by exact_mod_cast Nat.zero_le _)]
    have : ((b.toNat : Int) / 2 ^ i) = ((b.toNat >>> i : Nat) : Int) := by rw [Nat.shiftRight_eq_div_pow]; simp
    rw [this]
    have h3 : b.toNat >>> i ≤ b.toNat := Nat.shiftRight_le _ _
    generalize b.toNat >>> i = q at h3 ⊢
    have h4 : (((q : Nat) : Int) % 256).toNat = q := by omega
    rw [h4]
    simp
    omega
   rw [Bool.eq_iff_iff, beq_iff_eq, ← bit_and, ← UInt8.toNat_inj, UInt8.toNat_and, e1]
   simp
  simp only [c1, decide_true, if_true, c2, Option.bind_some, c6, YX (show i < 9223372036854775807 by omega)]
  rw [shlI_nat _ i (by omega) (by omega), xorI_nat _ _ (by omega) (by omega)]
  cases hbit : b.toNat.testBit i with
  | true => simp [prC, hbit]
  | false => simp [prC, hbit]) (by unfold Y3; simp)
 have h2 : ZF (Y3 a b) (0, 0) = _ := h
 unfold Z3
 rw [h2]
 simp only [Option.bind_some]
 have h3 := v_rest (prC 8 a.toNat b.toNat) m 8 (by omega) (prC_lt _ _ ha 8 (by omega)) (by omega)
 have h4 : Uq ((prC 8 a.toNat b.toNat : Nat) : Int) (m : Int) 8 = _ := h3
 rw [h4, prC_eq]
 rfl
theorem v_l01Times (m : Nat) (hm : m < 512) (hm2 : 256 ≤ m) (a b : UInt8) : Yv (m : Int) a b = some (ZZ m a b) := by
 have ha : a.toNat < 256 := a.toNat_lt
 have hb : b.toNat < 256 := b.toNat_lt
 have h1 : 2 ^ 8 ≤ m := hm2
 have h2 : m < 2 ^ (8 + 1) := hm
 have hR : ∀ i, i ≤ 8 → Yr m 8 8 (a.toNat <<< i) < 256 := fun i hi => restR_lt h1 h2 8 _ (by
  have := shl_lt (k := i) (show a.toNat < 2 ^ 8 from ha)
  exact Nat.lt_of_lt_of_le this (Nat.pow_le_pow_right (by omega) (by omega)))
 have hdbl : ∀ i, i ≤ 7 → Yr m 8 8 (a.toNat <<< (i + 1)) = if 256 ≤ (Yr m 8 8 (a.toNat <<< i)) * 2 then (Yr m 8 8 (a.toNat <<< i)) * 2 ^^^ m else (Yr m 8 8 (a.toNat <<< i)) * 2 := by
  intro i hi
  have hx : a.toNat <<< i < 2 ^ (8 + 7) := Nat.lt_of_lt_of_le (shl_lt (show a.toNat < 2 ^ 8 from ha)) (Nat.pow_le_pow_right (by omega) (by omega))
  have e : a.toNat <<< (i + 1) = (a.toNat <<< i) <<< 1 := by rw [← Nat.shiftLeft_add]
  rw [e, restR_shift m 8 7, ← restR_top hx]
  have hlt := hR i (by omega)
  generalize Yr m 8 8 (a.toNat <<< i) = y at hlt ⊢
  have e2 : y <<< 1 = y * 2 := by rw [Nat.shiftLeft_eq]
  rw [e2]
  have e3 : (y * 2).testBit 8 = decide (256 ≤ y * 2) := by
   by_cases hy : 256 ≤ y * 2
   ·rw [top_bit (d := 8) hy (by omega)]; simp [hy]
   ·rw [Nat.testBit_lt_two_pow (by omega : y * 2 < 2 ^ 8)]; simp [hy]
  rw [e3]
  by_cases hy : 256 ≤ y * 2 <;> simp [hy]
 have key : ∀ (n i o r : Nat), i + n ≤ 8 → r < 2 ^ n → o < 256 → ZF (YL (m : Int)) ((o : Int), ((Yr m 8 8 (a.toNat <<< i) : Nat) : Int), (r : Int)) = some ((o ^^^ Yr m 8 8 (mulC n (a.toNat <<< i) r) : Nat) : Int) := by
  intro n
  induction n with
  | zero =>
   intro i o r _ hr ho
   have : r = 0 := by simpa using hr
   subst this
   rw [YQ (t := (o : Int))]
   ·rw [mulC_zero, V4 8 0 (by omega), Nat.xor_zero]
   ·unfold YL; simp
  | succ n ih =>
   intro i o r hi hr ho
   by_cases h0 : r = 0
   ·subst h0
    rw [YQ (t := (o : Int))]
    ·rw [mulC_zero, V4 8 0 (by omega), Nat.xor_zero]
    ·unfold YL; simp
   ·have hy := hR i (by omega)
    have hst : YL (m : Int) ((o : Int), ((Yr m 8 8 (a.toNat <<< i) : Nat) : Int), (r : Int)) = some (.nx (((o ^^^ Yr m 8 8 (if r % 2 = 1 then a.toNat <<< i else 0) : Nat) : Int), ((Yr m 8 8 (a.toNat <<< (i + 1)) : Nat) : Int), ((r / 2 : Nat) : Int))) := by
     rw [hdbl i (by omega)]
     unfold YL
     have c1 : (r : Int) > 0 := by omega
     have hr2 : r < 512 := Nat.lt_of_lt_of_le hr (Nat.le_trans (Nat.pow_le_pow_right (by omega) (by omega : n + 1 ≤ 9)) (by omega))
     simp only [c1, decide_true, if_true, tmod2, tdiv2]
     have e1 : wr (((Yr m 8 8 (a.toNat <<< i) : Nat) : Int) * 2) = (((Yr m 8 8 (a.toNat <<< i)) * 2 : Nat) : Int) := by rw [YG (by omega)]; omega
     have e2 : wr ((r / 2 : Nat) : Int) = ((r / 2 : Nat) : Int) := wr_nn _ (by omega)
     rw [e1, e2, xorI_nat _ _ (by omega) (by omega), xorI_nat _ _ (by omega) (by omega)]
     have e3 : ((((r % 2 : Nat) : Int)) == 1) = decide (r % 2 = 1) := by
      rw [Bool.eq_iff_iff, beq_iff_eq, decide_eq_true_eq]; omega
     rw [e3]
     have e4 : decide ((((Yr m 8 8 (a.toNat <<< i)) * 2 : Nat) : Int) ≥ 256) = decide (256 ≤ (Yr m 8 8 (a.toNat <<< i)) * 2) := by rw [decide_eq_decide]; omega
     rw [e4]
     have e5 : Yr m 8 8 0 = 0 := V4 8 0 (by omega)
     by_cases c2 : r % 2 = 1 <;> by_cases c3 : 256 ≤ (Yr m 8 8 (a.toNat <<< i)) * 2 <;> simp only [c2, c3, decide_true, decide_false, Bool.false_eq_true, if_true, if_false, Option.bind_some, e5, Nat.xor_zero]
    rw [Xi hst, ih (i + 1) _ (r / 2) (by omega) (by rw [Nat.pow_succ] at hr; omega) ?_]
    ·conv => rhs; unfold mulC
     rw [restR_xor, Nat.xor_assoc, Nat.shiftLeft_add]
    ·refine Nat.xor_lt_two_pow (n := 8) ho ?_
     split
     ·exact hR i (by omega)
     ·rw [V4 8 0 (by omega)]; omega
 have := key 8 0 0 b.toNat (by omega) hb (by omega)
 rw [Nat.shiftLeft_zero, V4 8 a.toNat ha, Nat.zero_xor] at this
 have h3 : ZF (YL (m : Int)) (0, bI a, bI b) = _ := this
 unfold Yv
 rw [h3]
 rfl

def powC (m : Nat) : Nat → UInt8 → Nat → UInt8 → UInt8
 | 0, _, _, o => o
 | f + 1, a, k, o => if k = 0 then o else powC m f (ZZ m a a) (k / 2) (if k % 2 = 1 then ZZ m o a else o)
theorem pow_loop (m : Nat) (L : UInt8 × Int × UInt8 → Option (Fl (UInt8 × Int × UInt8) UInt8)) (T : UInt8 → UInt8 → Option UInt8) (hT : ∀ a b, T a b = some (ZZ m a b))
  (hL : ∀ s, L s = if (decide (s.2.1 > 0)) = true then (((if ((Int.tmod s.2.1 2) == 1) = true then ((T s.2.2 s.1).bind fun r => some r) else (some s.2.2) : Option UInt8).bind fun j12 => (T s.1 s.1).bind fun r20 => some (r20, j12) : Option (UInt8 × UInt8)).bind fun j9 => some (Fl.nx (j9.1, wr (Int.tdiv s.2.1 2), j9.2))) else (some (Fl.ex s.2.2))) :
  ∀ (f k : Nat) (a o : UInt8), k < 2 ^ f → f ≤ 62 → ZF L (a, (k : Int), o) = some (powC m f a k o) := by
 intro f
 induction f with
 | zero =>
  intro k a o hk _
  have : k = 0 := by simpa using hk
  subst this
  exact YQ (by rw [hL]; simp [powC])
 | succ f ih =>
  intro k a o hk hf
  by_cases h0 : k = 0
  ·subst h0
   exact YQ (by rw [hL]; simp [powC])
  ·have hlt : k < 9223372036854775808 := Nat.lt_of_lt_of_le hk (Nat.pow_le_pow_right (by omega : 0 < 2) (by omega : f + 1 ≤ 63))
   have hst : L (a, (k : Int), o) = some (.nx (ZZ m a a, ((k / 2 : Nat) : Int), if k % 2 = 1 then ZZ m o a else o)) := by
    rw [hL]
    have c1 : (k : Int) > 0 := by omega
    have e3 : ((((k % 2 : Nat) : Int)) == 1) = decide (k % 2 = 1) := by
     rw [Bool.eq_iff_iff, beq_iff_eq, decide_eq_true_eq]; omega
    simp only [c1, decide_true, if_true, tmod2, tdiv2, hT, e3, Option.bind_some, wr_nn (k / 2) (by omega)]
    by_cases c2 : k % 2 = 1 <;> simp [c2]
   rw [Xi hst, ih (k / 2) _ _ (by rw [Nat.pow_succ] at hk; omega) (by omega)]
   conv => rhs; unfold powC
   rw [if_neg h0]
theorem v_field_power (m : Nat) (hm : m < 512) (a : UInt8) (k f : Nat) (hk : k < 2 ^ f) (hf : f ≤ 62) : Xd (m : Int) a (k : Int) = some (powC m f a k 1) := by
 unfold Xd
 rw [pow_loop m (WB (m : Int)) _ (Uc m hm) (fun s => by unfold WB; rfl) f k a 1 hk hf]; rfl
theorem v_l01Power (m : Nat) (hm : m < 512) (hm2 : 256 ≤ m) (a : UInt8) (k f : Nat) (hk : k < 2 ^ f) (hf : f ≤ 62) : Wc (m : Int) a (k : Int) = some (powC m f a k 1) := by
 unfold Wc
 rw [pow_loop m (VR (m : Int)) _ (v_l01Times m hm hm2) (fun s => by unfold VR; rfl) f k a 1 hk hf]; rfl
def invC (m : Nat) (a : UInt8) : UInt8 := powC m 8 a 254 1
theorem v_field_inverse (m : Nat) (hm : m < 512) (a : UInt8) : Yc (m : Int) a = some (invC m a) := by
 unfold Yc
 have := v_field_power m hm a 254 8 (by omega) (by omega)
 have h2 : Xd (m : Int) a 254 = _ := this
 rw [h2]; rfl
theorem v_l01Inv (m : Nat) (hm : m < 512) (hm2 : 256 ≤ m) (a : UInt8) : Ww (m : Int) a = some (invC m a) := by
 unfold Ww
 have := v_l01Power m hm hm2 a 254 8 (by omega) (by omega)
 have h2 : Wc (m : Int) a 254 = _ := this
 rw [h2]; rfl

def redB (m d : Nat) : Bool := Yr d (lenN d - 1) (16 - (lenN d - 1)) m == 0
def isFieldB (m : Int) : Bool := decide (256 ≤ m ∧ m ≤ 511) && !((List.range' 2 30).any (redB m.toNat))
theorem field_range {m : Int} (h : isFieldB m = true) : ∃ n : Nat, m = n ∧ 256 ≤ n ∧ n < 512 := by
 unfold isFieldB at h
 simp only [Bool.and_eq_true, decide_eq_true_eq] at h
 exact ⟨m.toNat, by omega, by omega, by omega⟩
/-- All bytes are different. -/
def diffB (l : List UInt8) : Bool := decide l.Nodup
/-- Twice an element. -/
def dbl (m y : Nat) : Nat := if (y <<< 1).testBit 8 then (y <<< 1) ^^^ m else y <<< 1
theorem xor_swap (a b c d : Nat) : (a ^^^ b) ^^^ (c ^^^ d) = (a ^^^ c) ^^^ (b ^^^ d) := by
 rw [Nat.xor_assoc, Nat.xor_assoc, ← Nat.xor_assoc b, ← Nat.xor_assoc c, Nat.xor_comm b c]
theorem dbl_xor (m x y : Nat) : dbl m (x ^^^ y) = dbl m x ^^^ dbl m y := by
 unfold dbl
 rw [Nat.shiftLeft_xor_distrib, Nat.testBit_xor]
 cases (x <<< 1).testBit 8 <;> cases (y <<< 1).testBit 8 <;> simp only [Bool.xor_false, Bool.false_xor, Bool.xor_self, Bool.xor_true, Bool.not_false, Bool.not_true, Bool.false_eq_true, if_true, if_false]
 ·rw [Nat.xor_assoc]
 ·rw [Nat.xor_assoc, Nat.xor_assoc, Nat.xor_comm m]
 ·rw [xor_swap, Nat.xor_self, Nat.xor_zero]
theorem dbl_zero (m : Nat) : dbl m 0 = 0 := by simp [dbl]
/-- A polynomial in dbl, by the bits of b. -/
def opP (m : Nat) : Nat → Nat → Nat → Nat
 | 0, _, _ => 0
 | n + 1, b, x => (if b % 2 = 1 then x else 0) ^^^ opP m n (b / 2) (dbl m x)
theorem opP_succ (m n b x : Nat) : opP m (n + 1) b x = (if b % 2 = 1 then x else 0) ^^^ opP m n (b / 2) (dbl m x) := rfl
theorem opP_xor (m : Nat) : ∀ (n b x y : Nat), opP m n b (x ^^^ y) = opP m n b x ^^^ opP m n b y
 | 0, _, _, _ => by simp [opP]
 | n + 1, b, x, y => by
  unfold opP
  rw [dbl_xor, opP_xor m n, xor_swap]
  congr 1
  split <;> simp
theorem opP_zero (m : Nat) : ∀ (n b : Nat), opP m n b 0 = 0
 | 0, _ => rfl
 | n + 1, b => by unfold opP; rw [dbl_zero, opP_zero m n]; simp
theorem opP_dbl (m : Nat) : ∀ (n b x : Nat), opP m n b (dbl m x) = dbl m (opP m n b x)
 | 0, _, _ => (dbl_zero m).symm
 | n + 1, b, x => by
  unfold opP
  rw [opP_dbl m n, dbl_xor]
  congr 1
  split
  ·rfl
  ·exact (dbl_zero m).symm
theorem opP_comm (m : Nat) : ∀ (n b k c x : Nat), opP m n b (opP m k c x) = opP m k c (opP m n b x)
 | 0, _, k, c, _ => (opP_zero m k c).symm
 | n + 1, b, k, c, x => by
  rw [opP_succ, opP_succ, ← opP_dbl, opP_comm m n, opP_xor]
  congr 1
  split
  ·rfl
  ·exact (opP_zero m k c).symm
theorem half_bits (a : Nat) : (if a % 2 = 1 then 1 else 0) ^^^ (a / 2) <<< 1 = a := by
 rw [Nat.shiftLeft_eq]
 have h : (if a % 2 = 1 then 1 else 0) = a % 2 := by split <;> omega
 rw [h]
 apply Nat.eq_of_testBit_eq
 intro i
 rw [Nat.testBit_xor]
 cases i with
 | zero =>
  simp [Nat.testBit_zero]
 | succ i =>
  rw [Nat.testBit_succ, Nat.testBit_succ, Nat.testBit_succ]
  have h1 : a % 2 / 2 = 0 := by omega
  have h2 : a / 2 * 2 ^ 1 / 2 = a / 2 := by omega
  rw [h1, h2]; simp
theorem dbl_one (m i : Nat) (hi : i < 7) : dbl m (1 <<< i) = 1 <<< (i + 1) := by
 unfold dbl
 rw [← Nat.shiftLeft_add]
 have : (1 <<< (i + 1)).testBit 8 = false := by
  apply Nat.testBit_lt_two_pow
  rw [Nat.shiftLeft_eq, Nat.one_mul]
  exact Nat.pow_lt_pow_right (by omega) (by omega)
 rw [this]; rfl
theorem opP_one (m : Nat) : ∀ (n i a : Nat), n + i ≤ 8 → a < 2 ^ n → opP m n a (1 <<< i) = a <<< i
  | 0, i, a, _, ha => by
    have : a = 0 := by simpa using ha
    subst this; simp [opP]
  | n + 1, i, a, hn, ha => by
    have e : a <<< i = (if a % 2 = 1 then 1 <<< i else 0) ^^^ (a / 2) <<< (i + 1) := by
      conv => lhs; rw [← half_bits a]
      rw [Nat.shiftLeft_xor_distrib, ← Nat.shiftLeft_add, Nat.add_comm 1 i]
      congr 1
      split <;> simp
    unfold opP
    rw [e]
    congr 1
    rcases Nat.eq_zero_or_pos n with rfl | hp
    · have : a / 2 = 0 := by have : a < 2 := by simpa using ha
                             omega
      rw [this]; simp [opP]
    · rw [dbl_one m i (by omega)]
      exact opP_one m n (i + 1) (a / 2) (by omega) (by rw [Nat.pow_succ] at ha; omega)

theorem restR_dbl (m x : Nat) (hx : x < 2 ^ 15) : Yr m 8 8 (x <<< 1) = dbl m (Yr m 8 8 x) := by
 rw [restR_shift m 8 7, ← restR_top (d := 8) (k := 7) hx]; rfl
theorem mul_op (m : Nat) : ∀ (n i a b : Nat), i + n ≤ 8 → a < 2 ^ 8 → Yr m 8 8 (mulC n (a <<< i) b) = opP m n b (Yr m 8 8 (a <<< i))
 | 0, _, _, _, _, _ => by simp [mulC, opP, V4 8 0]
 | n + 1, i, a, b, hn, ha => by
  unfold mulC opP
  rw [restR_xor]
  have hx : a <<< i < 2 ^ 15 := Nat.lt_of_lt_of_le (shl_lt ha) (Nat.pow_le_pow_right (by omega) (by omega))
  rw [← restR_dbl m _ hx, ← Nat.shiftLeft_add, mul_op m n (i + 1) a (b / 2) (by omega) ha]
  congr 1
  split
  ·rfl
  ·exact V4 8 0 (by omega)
/-- The product, as numbers. -/
theorem times_nat (m : Nat) (h1 : 256 ≤ m) (h2 : m < 512) (a b : UInt8) : (ZZ m a b).toNat = opP m 8 b.toNat a.toNat := by
 have ha : a.toNat < 2 ^ 8 := a.toNat_lt
 have hr : Yr m 8 8 (mulC 8 a.toNat b.toNat) < 256 := restR_lt (d := 8) h1 h2 8 _ (mulC_lt 8 a.toNat b.toNat 8 ha)
 have e := mul_op m 8 0 a.toNat b.toNat (by omega) ha
 rw [Nat.shiftLeft_zero, V4 8 _ ha] at e
 unfold ZZ ZG
 rw [e] at hr ⊢
 generalize opP m 8 b.toNat a.toNat = q at hr ⊢
 have : (((q : Nat) : Int) % 256).toNat = q := by omega
 rw [this]
 simp
 omega
section
variable {m : Nat} (h1 : 256 ≤ m) (h2 : m < 512)
include h1 h2
theorem times_comm (a b : UInt8) : ZZ m a b = ZZ m b a := by
 apply UInt8.toNat_inj.1
 rw [times_nat m h1 h2, times_nat m h1 h2]
 have ea := opP_one m 8 0 a.toNat (by omega) a.toNat_lt
 have eb := opP_one m 8 0 b.toNat (by omega) b.toNat_lt
 simp only [Nat.shiftLeft_zero] at ea eb
 rw [← ea, opP_comm, eb, ea]
theorem times_xor (a b c : UInt8) : ZZ m (a ^^^ b) c = ZZ m a c ^^^ ZZ m b c := by
 apply UInt8.toNat_inj.1
 rw [UInt8.toNat_xor, times_nat m h1 h2, times_nat m h1 h2, times_nat m h1 h2, UInt8.toNat_xor, opP_xor]
theorem times_xor' (a b c : UInt8) : ZZ m a (b ^^^ c) = ZZ m a b ^^^ ZZ m a c := by
 rw [times_comm h1 h2, times_xor h1 h2, times_comm h1 h2 b, times_comm h1 h2 c]
theorem times_zero (a : UInt8) : ZZ m 0 a = 0 := by
 apply UInt8.toNat_inj.1
 rw [times_nat m h1 h2]
 exact opP_zero m 8 _
end
def vf {α : Type} (n : Nat) (f : Nat → α) : Vector α n := Vector.ofFn fun i => f i.1
theorem vf_get {α : Type} {n i : Nat} (f : Nat → α) (h : i < n) : (vf n f)[i] = f i := by simp [vf]
theorem vf_getq {α : Type} {n i : Nat} (f : Nat → α) (h : i < n) : (vf n f)[i]? = some (f i) := by rw [Vector.getElem?_eq_getElem h, vf_get f h]
theorem ZU {α : Type} {n i : Nat} (f : Nat → α) (h : i < n) : ZM (vf n f) (i : Int) = some (f i) := by rw [We, vf_getq f h]
theorem YJ {α : Type} {n : Nat} {f g : Nat → α} (h : ∀ i, i < n → f i = g i) : vf n f = vf n g := by
 apply UF
 intro i hi
 rw [vf_get f hi, vf_get g hi, h i hi]
theorem UH {α : Type} {n : Nat} (f : Nat → α) (k : Nat) (x : α) : (vf n f).setIfInBounds k x = vf n (fun i => if i = k then x else f i) := by
 apply UF
 intro i hi
 rw [Vector.getElem_setIfInBounds, vf_get _ hi, vf_get _ hi]
 by_cases h : k = i
 ·subst h; simp
 ·rw [if_neg h, if_neg (fun e => h e.symm)]
theorem Ul {α : Type} (n : Nat) (x : α) : Vector.replicate n x = vf n (fun _ => x) := by
 apply UF
 intro i hi
 rw [vf_get _ hi]; simp
theorem vf_of {α : Type} [Inhabited α] {n : Nat} (v : Vector α n) : v = vf n (fun i => v[i]?.getD default) := by
 apply UF
 intro i hi
 rw [vf_get _ hi, Vector.getElem?_eq_getElem hi]; rfl
abbrev Mat := Vector (Vector UInt8 4) 4
def mf (f : Nat → Nat → UInt8) : Mat := vf 4 fun i => vf 4 (f i)
theorem X9 {f g : Nat → Nat → UInt8} (h : ∀ i, i < 4 → ∀ j, j < 4 → f i j = g i j) : mf f = mf g := YJ fun i hi => YJ fun j hj => h i hi j hj
theorem VY {i : Nat} (f : Nat → Nat → UInt8) (h : i < 4) : ZM (mf f) (i : Int) = some (vf 4 (f i)) := ZU _ h
theorem mf_set (f : Nat → Nat → UInt8) (k : Nat) (g : Nat → UInt8) : (mf f).setIfInBounds k (vf 4 g) = mf (fun i j => if i = k then g j else f i j) := by
 unfold mf
 rw [UH]
 apply YJ
 intro i hi
 by_cases h : i = k
 ·simp [h]
 ·simp [h]
theorem mf_zero : Vector.replicate 4 (Vector.replicate 4 (0 : UInt8)) = mf (fun _ _ => 0) := by rw [Ul 4 (0 : UInt8), Ul]; rfl
theorem lt4 {i : Nat} (h : i < 4) : decide ((i : Int) < 4) = true := by simp; omega
theorem lt4' {i : Nat} (h : ¬ i < 4) : decide ((i : Int) < 4) = false := by simp; omega
theorem wr4 {i : Nat} (h : i < 1000) : wr ((i : Int) + 1) = ((i + 1 : Nat) : Int) := YX (by omega)

def unitF (i j : Nat) : UInt8 := if i = j then 1 else 0
theorem unit_loop (L : Mat × Int → Option (Fl (Mat × Int) Mat))
  (hL : ∀ s8, L s8 = if (decide (s8.2 < 4)) = true then ((ZM s8.1 s8.2).bind fun (x14 : (Vector UInt8 4)) => (ZM x14 s8.2).bind fun (x17 : UInt8) => some (Fl.nx ((s8.1.setIfInBounds (s8.2).toNat (x14.setIfInBounds (s8.2).toNat 1)), wr (s8.2 + 1)))) else (some (Fl.ex s8.1))) :
  ZF L (Vector.replicate 4 (Vector.replicate 4 (0 : UInt8)), 0) = some (mf unitF) := by
 have := Z1 (f := L) (fun i : Nat => (mf fun r c => if r < i then unitF r c else 0, (i : Int))) 0 4 (by omega) (t := mf unitF) (fun i _ hi => by
  rw [hL]
  simp only [lt4 hi, if_true, VY _ hi, ZU _ hi, Option.bind_some, Int.toNat_natCast, UH, mf_set, wr4 (show i < 1000 by omega)]
  congr 3
  apply X9
  intro r hr c hc
  by_cases h1 : r = i
  ·subst h1; simp [unitF, eq_comm]
  ·simp only [h1, if_false]
   by_cases h2 : r < i
   ·rw [if_pos h2, if_pos (by omega)]
   ·rw [if_neg h2, if_neg (by omega)]) (by
  rw [hL]
  simp only [lt4' (show ¬ 4 < 4 by omega), Bool.false_eq_true, if_false]
  exact congrArg (fun z => some (Fl.ex z)) (X9 fun r hr c hc => by rw [if_pos hr]))
 rw [mf_zero]
 simpa using this
theorem v_impl_UnitMatrix : Wr = some (mf unitF) := by
 unfold Wr
 rw [unit_loop Uk fun s => rfl]; rfl

abbrev MF := Nat → Nat → UInt8
def pivot (f : MF) (k : Nat) : Nat := ((List.range' k (4 - k)).find? fun i => !(f i k == 0)).getD 4
def swapF (f : MF) (i k : Nat) : MF := fun r c => if r = k then f i c else if r = i then f k c else f r c
def scaleF (m : Nat) (f : MF) (k : Nat) (by_ : UInt8) : MF := fun r c => if r = k then ZZ m (f k c) by_ else f r c
/-- Rows of g combined with the row k, by the column k of f. -/
def Vu (m : Nat) (f g : MF) (k : Nat) : MF := fun r c => if r = k then g r c else g r c ^^^ ZZ m (f r k) (g k c)
structure Red where
 a : MF
 b : MF
 det : UInt8
def redStep (m : Nat) (s : Red) (k : Nat) : Option Red :=
 let i := pivot s.a k
 if i = 4 then none else
  let f := swapF s.a i k
  let g := swapF s.b i k
  let q := invC m (f k k)
  let f2 := scaleF m f k q
  let g2 := scaleF m g k q
  some ⟨Vu m f2 f2 k, Vu m f2 g2 k, ZZ m s.det (f k k)⟩
def redFrom (m : Nat) : Nat → Nat → Red → Option Red
 | 0, _, s => some s
 | n + 1, k, s => (redStep m s k).bind (redFrom m n (k + 1))
/-- Determinant and inverse. -/
def invertC (m : Nat) (a : MF) : UInt8 × Mat := match redFrom m 4 0 ⟨a, unitF, 1⟩ with
 | some s => (s.det, mf s.b)
 | none => (0, mf fun _ _ => 0)
theorem pivot_loop (L : Int → Option (Fl Int Int)) (f : MF) (k : Nat) (hk : k < 4)
  (hL : ∀ s, L s = (if (decide (s < 4)) = true then ((ZM (mf f) s).bind fun (x30 : (Vector UInt8 4)) => (ZM x30 (k : Int)).bind fun (x33 : UInt8) => some (x33 == 0)) else (some false) : Option (Bool)).bind fun (j25 : Bool) => if j25 = true then (some (Fl.nx (wr (s + 1)))) else (some (Fl.ex s))) :
  ZF L (k : Int) = some ((pivot f k : Nat) : Int) := by
 have := iter_find (f := L) (fun i : Nat => (i : Int)) (fun i => !(f i k == 0)) (fun i => (i : Int)) (e := (4 : Int)) 4 (4 - k) k (by omega) (fun i _ hi => by
  rw [hL]
  simp only [lt4 hi, if_true, VY _ hi, ZU _ hk, Option.bind_some]
  cases h : (f i k == 0)
  ·simp
  ·simp [wr4 (show i < 1000 by omega)]) (by rw [hL]; simp)
 rw [this]
 unfold pivot
 cases (List.range' k (4 - k)).find? fun i => !(f i k == 0) <;> rfl
theorem pivot_lt {f : MF} {k : Nat} (h : pivot f k ≠ 4) : pivot f k < 4 := by
 unfold pivot at h ⊢
 cases hf : (List.range' k (4 - k)).find? fun i => !(f i k == 0) with
 | none => rw [hf] at h; exact absurd rfl h
 | some i =>
  have := List.mem_range'_1.1 (List.mem_of_find?_eq_some hf)
  simp only [Option.getD_some]
  omega
/-- What both ways do to a row and the row of the other matrix, one column after the other. -/
theorem rows_loop (L : Mat × Mat × Int → Option (Fl (Mat × Mat × Int) (Mat × Mat))) (f g : MF) (k : Nat) (hk : k < 4) (p q : Nat → UInt8)
  (hL : ∀ c, c < 4 → ∀ a b : MF, (∀ r, r ≠ k → a r = f r) → (∀ r, r ≠ k → b r = g r) → a k c = f k c → b k c = g k c → L (mf a, mf b, (c : Int)) = some (Fl.nx ((mf a).setIfInBounds k ((vf 4 (a k)).setIfInBounds c (p c)), (mf b).setIfInBounds k ((vf 4 (b k)).setIfInBounds c (q c)), wr ((c : Int) + 1))))
  (he : ∀ a b : Mat, L (a, b, 4) = some (Fl.ex (a, b))) :
  ZF L (mf f, mf g, 0) = some (mf (fun r c => if r = k then p c else f r c), mf (fun r c => if r = k then q c else g r c)) := by
 have k1 : (mf fun r c => if r = k then (if c < 4 then p c else f k c) else f r c) = mf fun r c => if r = k then p c else f r c := X9 fun r _ c hc => by rw [if_pos hc]
 have k2 : (mf fun r c => if r = k then (if c < 4 then q c else g k c) else g r c) = mf fun r c => if r = k then q c else g r c := X9 fun r _ c hc => by rw [if_pos hc]
 have := Z1 (f := L) (fun i : Nat => (mf fun r c => if r = k then (if c < i then p c else f k c) else f r c, mf fun r c => if r = k then (if c < i then q c else g k c) else g r c, (i : Int))) 0 4 (by omega)
  (t := (mf (fun r c => if r = k then p c else f r c), mf (fun r c => if r = k then q c else g r c))) (fun i _ hi => by
  rw [hL i hi _ _ (fun r hr => by funext c; rw [if_neg hr]) (fun r hr => by funext c; rw [if_neg hr]) (by simp) (by simp)]
  simp only [UH, mf_set, wr4 (show i < 1000 by omega)]
  congr 3
  ·apply X9
   intro r hr c hc
   by_cases h : r = k
   ·simp only [h, if_true]
    by_cases h2 : c = i
    ·subst h2; simp
    ·by_cases h3 : c < i
     ·rw [if_neg h2, if_pos h3, if_pos (by omega)]
     ·rw [if_neg h2, if_neg h3, if_neg (by omega)]
   ·simp only [h, if_false]
  ·congr 1
   apply X9
   intro r hr c hc
   by_cases h : r = k
   ·simp only [h, if_true]
    by_cases h2 : c = i
    ·subst h2; simp
    ·by_cases h3 : c < i
     ·rw [if_neg h2, if_pos h3, if_pos (by omega)]
     ·rw [if_neg h2, if_neg h3, if_neg (by omega)]
   ·simp only [h, if_false]) (by
  simp only [k1, k2]
  exact he _ _)
 have e1 : mf (fun r c => if r = k then (if c < 0 then p c else f k c) else f r c) = mf f := X9 fun r hr c hc => by
  by_cases h : r = k
  ·subst h; simp
  ·simp [h]
 have e2 : mf (fun r c => if r = k then (if c < 0 then q c else g k c) else g r c) = mf g := X9 fun r hr c hc => by
  by_cases h : r = k
  ·subst h; simp
  ·simp [h]
 simp only [e1, e2] at this
 exact this
theorem red_loop {S : Type} (m : Nat) (L : S → Option (Fl S (Fl (Mat × UInt8) (UInt8 × Mat)))) (pk : Red → Nat → S)
  (hstep : ∀ k, k < 4 → ∀ s, L (pk s k) = some (match redStep m s k with | none => .ex (.ex (0, mf fun _ _ => 0)) | some s' => .nx (pk s' (k + 1))))
  (hend : ∀ s, L (pk s 4) = some (.ex (.nx (mf s.b, s.det)))) : ∀ (n k : Nat) (s : Red), k + n = 4 → ZF L (pk s k) = some (match redFrom m n k s with | some s' => .nx (mf s'.b, s'.det) | none => .ex (0, mf fun _ _ => 0))
 | 0, k, s, h => by
  have : k = 4 := by omega
  subst this
  rw [YQ (hend s)]; rfl
 | n + 1, k, s, h => by
  have h1 := hstep k (by omega) s
  unfold redFrom
  cases hr : redStep m s k with
  | none => rw [hr] at h1; rw [YQ h1]; rfl
  | some s' => rw [hr] at h1; rw [Xi h1]; exact red_loop m L pk hstep hend n (k + 1) s' (by omega)
theorem ne_cast {i k : Nat} : (((i : Int)) != ((k : Nat) : Int)) = decide (i ≠ k) := by
 by_cases h : i = k
 ·subst h; simp
 ·have : (i : Int) ≠ (k : Int) := by omega
  simp [h, this]
/-- The rows, one after the other. -/
theorem elim_loop (m : Nat) (L : Mat × Mat × Int → Option (Fl (Mat × Mat × Int) (Mat × Mat))) (f g : MF) (k : Nat)
  (hL : ∀ i, i < 4 → ∀ a b : MF, (a i = f i) → (b i = g i) → (a k = f k) → (b k = g k) → L (mf a, mf b, (i : Int)) = some (Fl.nx (mf (fun r c => if r = i then Vu m f f k r c else a r c), mf (fun r c => if r = i then Vu m f g k r c else b r c), wr ((i : Int) + 1))))
  (he : ∀ a b : Mat, L (a, b, 4) = some (Fl.ex (a, b))) : ZF L (mf f, mf g, 0) = some (mf (Vu m f f k), mf (Vu m f g k)) := by
 have ek : ∀ h : MF, Vu m f h k k = h k := fun h => by funext c; simp [Vu]
 have k1 : (mf fun r c => if r < 4 then Vu m f f k r c else f r c) = mf (Vu m f f k) := X9 fun r hr c _ => by rw [if_pos hr]
 have k2 : (mf fun r c => if r < 4 then Vu m f g k r c else g r c) = mf (Vu m f g k) := X9 fun r hr c _ => by rw [if_pos hr]
 have := Z1 (f := L) (fun i : Nat => (mf fun r c => if r < i then Vu m f f k r c else f r c, mf fun r c => if r < i then Vu m f g k r c else g r c, (i : Int))) 0 4 (by omega)
  (t := (mf (Vu m f f k), mf (Vu m f g k))) (fun i _ hi => by
  rw [hL i hi _ _ (by funext c; simp) (by funext c; simp) (by funext c; by_cases h : k < i <;> simp [h, ek]) (by funext c; by_cases h : k < i <;> simp [h, ek])]
  rw [wr4 (show i < 1000 by omega)]
  have e : ∀ (x y : MF), (mf fun r c => if r = i then x r c else if r < i then x r c else y r c) = mf fun r c => if r < i + 1 then x r c else y r c := fun x y => X9 fun r _ c _ => by
   by_cases h1 : r = i
   ·subst h1; simp
   ·by_cases h2 : r < i
    ·rw [if_neg h1, if_pos h2, if_pos (by omega)]
    ·rw [if_neg h1, if_neg h2, if_neg (by omega)]
  rw [e, e]) (by
  simp only [k1, k2]
  exact he _ _)
 simpa using this

theorem swap_set (f : MF) {i k : Nat} : ((mf f).setIfInBounds i (vf 4 (f k))).setIfInBounds k (vf 4 (f i)) = mf (swapF f i k) := by
 rw [mf_set, mf_set]; rfl
section
variable (m : Nat) (hm : m < 512) (hm2 : 256 ≤ m)
include hm
theorem impl_scale (A B : Mat) (det : UInt8) (q : UInt8) (f g : MF) (k : Nat) (hk : k < 4) : ZF (Xo (m : Int) (A, B, (k : Int), det) q) (mf f, mf g, 0) = some (mf (scaleF m f k q), mf (scaleF m g k q)) := by
 refine rows_loop _ f g k hk (fun c => ZZ m (f k c) q) (fun c => ZZ m (g k c) q) (fun c hc a b _ _ ha hb => ?_) (fun a b => ?_)
 ·unfold Xo
  simp only [lt4 hc, if_true, VY _ hk, ZU _ hc, Option.bind_some, Uc m hm, ha, hb, Int.toNat_natCast]
 ·unfold Xo; simp
theorem impl_row (A B : Mat) (det : UInt8) (s1 : Mat × Mat × Int) (x : UInt8) (f g : MF) (k i : Nat) (hk : k < 4) (hi : i < 4) (hik : i ≠ k) (hs : s1.2.2 = (i : Int)) :
  ZF (Xs (m : Int) (A, B, (k : Int), det) s1 x) (mf f, mf g, 0) = some (mf (fun r c => if r = i then f i c ^^^ ZZ m x (f k c) else f r c), mf (fun r c => if r = i then g i c ^^^ ZZ m x (g k c) else g r c)) := by
 refine rows_loop _ f g i hi (fun c => f i c ^^^ ZZ m x (f k c)) (fun c => g i c ^^^ ZZ m x (g k c)) (fun c hc a b ha' hb' ha hb => ?_) (fun a b => ?_)
 ·unfold Xs
  have e1 := ha' k (Ne.symm hik)
  have e2 := hb' k (Ne.symm hik)
  simp only [hs, lt4 hc, if_true, VY _ hk, VY _ hi, ZU _ hc, Option.bind_some, Uc m hm, ha, hb, e1, e2, Int.toNat_natCast]
 ·unfold Xs; simp
include hm2
theorem impl_elim (A B : Mat) (det : UInt8) (f g : MF) (k : Nat) (hk : k < 4) : ZF (Xp (m : Int) (A, B, (k : Int), det)) (mf f, mf g, 0) = some (mf (Vu m f f k), mf (Vu m f g k)) := by
 refine elim_loop m _ f g k (fun i hi a b hai hbi hak hbk => ?_) (fun a b => by unfold Xp; simp)
 unfold Xp
 have hfi : a i k = f i k := by rw [hai]
 simp only [lt4 hi, if_true, VY _ hi, ZU _ hk, Option.bind_some, ne_cast, hfi]
 by_cases h : i = k
 ·subst h
  simp only [ne_eq, not_true_eq_false, decide_false, Bool.false_eq_true, if_false, Option.bind_some]
  congr 3
  ·exact X9 fun r _ c _ => by
    by_cases h : r = i
    ·subst h; simp [Vu, hai]
    ·simp [h]
  ·congr 1
   exact X9 fun r _ c _ => by
    by_cases h : r = i
    ·subst h; simp [Vu, hbi]
    ·simp [h]
 ·have hd : decide (i ≠ k) = true := by simpa using h
  simp only [hd, if_true, Option.bind_some]
  by_cases h0 : f i k = 0
  ·simp only [h0, bne_self_eq_false, Bool.false_eq_true, if_false, Option.bind_some]
   congr 3
   ·exact X9 fun r _ c _ => by
     by_cases h2 : r = i
     ·subst h2; simp [Vu, hai, h, h0, times_zero hm2 hm]
     ·simp [h2]
   ·congr 1
    exact X9 fun r _ c _ => by
     by_cases h2 : r = i
     ·subst h2; simp [Vu, hbi, h, h0, times_zero hm2 hm]
     ·simp [h2]
  ·have hb0 : (f i k != 0) = true := by simpa using h0
   simp only [hb0, if_true, Option.bind_some]
   rw [impl_row m hm A B det _ _ a b k i hk hi h rfl]
   simp only [Option.bind_some]
   congr 3
   ·exact X9 fun r _ c _ => by
     by_cases h2 : r = i
     ·subst h2; simp [Vu, hai, hak, h]
     ·simp [h2]
   ·congr 1
    exact X9 fun r _ c _ => by
     by_cases h2 : r = i
     ·subst h2; simp [Vu, hbi, hbk, h]
     ·simp [h2]
theorem impl_step (k : Nat) (hk : k < 4) (s : Red) : Yq (m : Int) (mf s.a, mf s.b, (k : Int), s.det) = some (match redStep m s k with | none => .ex (.ex (0, mf fun _ _ => 0)) | some s' => .nx (mf s'.a, mf s'.b, ((k + 1 : Nat) : Int), s'.det)) := by
 unfold Yq
 have hp := pivot_loop (VN (mf s.a, mf s.b, (k : Int), s.det)) s.a k hk (fun x => rfl)
 simp only [lt4 hk, if_true, hp, Option.bind_some]
 unfold redStep
 by_cases h4 : pivot s.a k = 4
 ·have : ((4 : Nat) : Int) = 4 := rfl
  simp only [h4, this, beq_self_eq_true, if_true, mf_zero]
 ·have hi := pivot_lt h4
  have h5 : (((pivot s.a k : Nat) : Int) == 4) = false := by
   have : ((pivot s.a k : Nat) : Int) ≠ 4 := by omega
   simpa using this
  generalize hpi : pivot s.a k = i at *
  simp only [h4, h5, Bool.false_eq_true, if_false]
  have x1 : ZM ((mf s.a).setIfInBounds i (vf 4 (s.a k))) (k : Int) = some (vf 4 (fun c => if k = i then s.a k c else s.a k c)) := by rw [mf_set]; exact VY _ hk
  have x2 : ZM ((mf s.b).setIfInBounds i (vf 4 (s.b k))) (k : Int) = some (vf 4 (fun c => if k = i then s.b k c else s.b k c)) := by rw [mf_set]; exact VY _ hk
  simp only [VY _ hk, VY _ hi, Option.bind_some, Int.toNat_natCast, x1, x2, swap_set, ZU _ hk, Uc m hm, v_field_inverse m hm, impl_scale m hm _ _ _ _ _ _ k hk, impl_elim m hm hm2 _ _ _ _ _ k hk, wr4 (show k < 1000 by omega)]
theorem v_field_invert (f : MF) : Y0 (m : Int) (mf f) = some (invertC m f) := by
 unfold Y0
 have h := red_loop m (Yq (m : Int)) (fun s k => (mf s.a, mf s.b, (k : Int), s.det)) (impl_step m hm hm2) (fun s => by unfold Yq; simp) 4 0 ⟨f, unitF, 1⟩ rfl
 have h2 : ZF (Yq (m : Int)) (mf f, mf unitF, 0, 1) = _ := h
 rw [v_impl_UnitMatrix, Option.bind_some, h2]
 unfold invertC
 cases redFrom m 4 0 ⟨f, unitF, 1⟩ <;> rfl
end
theorem vidx_list {n i : Nat} (v : Vector UInt8 n) (h : i < n) : ZM v (i : Int) = some (v.toList.getD i 0) := by
 rw [We, Vector.getElem?_eq_getElem h]
 simp [List.getD_eq_getElem?_getD, h]
theorem bI_toNat (x : UInt8) : (bI x).toNat = x.toNat := rfl
def placesB (p : Vector UInt8 16) : Bool := p.toList.all (fun x => decide (x < 16)) && diffB p.toList
def mfOf (a : Mat) : MF := fun i j => (a[i]?.getD default)[j]?.getD default
theorem mf_mfOf (a : Mat) : a = mf (mfOf a) := calc a = vf 4 (fun i => a[i]?.getD default) := vf_of a
  _ = _ := YJ fun i _ => vf_of _
def detC (m : Nat) (a : Mat) : UInt8 := (invertC m (mfOf a)).1
def invM (m : Nat) (a : Mat) : Mat := (invertC m (mfOf a)).2
def YA (c : GCipher) : Bool := isFieldB c.Field && diffB c.Box.toList && placesB c.Places && decide (1 ≤ c.Rounds ∧ c.Rounds ≤ 20) && (detC c.Field.toNat c.Mix != 0)
theorem v_invert (m : Nat) (hm : m < 512) (hm2 : 256 ≤ m) (a : Mat) : Y0 (m : Int) a = some (detC m a, invM m a) := by
 have := v_field_invert m hm hm2 (mfOf a)
 rw [← mf_mfOf] at this
 exact this
theorem cipher_field {c : GCipher} (h : YA c = true) : ∃ m : Nat, c.Field = m ∧ 256 ≤ m ∧ m < 512 := by
 unfold YA at h
 simp only [Bool.and_eq_true] at h
 exact field_range h.1.1.1.1
/-- A loop that sets one byte after the other, from m on. -/
theorem XP {n : Nat} (L : Vector UInt8 n × Int → Option (Fl (Vector UInt8 n × Int) (Vector UInt8 n))) (f h : Nat → UInt8) (hn : n < 9223372036854775807) (m : Nat) (hm : m ≤ n) (h0 : ∀ j, j < m → h j = f j)
  (hL : ∀ i, m ≤ i → i < n → ∀ a : Nat → UInt8, (∀ j, j < i → a j = h j) → (∀ j, i ≤ j → a j = f j) → L (vf n a, (i : Int)) = some (.nx ((vf n a).setIfInBounds i (h i), wr ((i : Int) + 1))))
  (he : ∀ v, L (v, (n : Int)) = some (.ex v)) : ZF L (vf n f, (m : Int)) = some (vf n h) := by
 have k1 : (vf n fun j => if j < n then h j else f j) = vf n h := YJ fun j hj => by rw [if_pos hj]
 have k0 : (vf n fun j => if j < m then h j else f j) = vf n f := YJ fun j hj => by
  by_cases h1 : j < m
  ·rw [if_pos h1, h0 j h1]
  ·rw [if_neg h1]
 have := Z1 (f := L) (fun i : Nat => (vf n fun j => if j < i then h j else f j, (i : Int))) m n hm (t := vf n h) (fun i hmi hi => by
  rw [hL i hmi hi _ (fun j hj => by rw [if_pos hj]) (fun j hj => by rw [if_neg (by omega)]), UH, YX (show i < 9223372036854775807 by omega)]
  refine congrArg (fun z => some (Fl.nx (z, ((i + 1 : Nat) : Int)))) (YJ fun j hj => ?_)
  by_cases h1 : j = i
  ·subst h1; simp
  ·by_cases h2 : j < i
   ·rw [if_neg h1, if_pos h2, if_pos (by omega)]
   ·rw [if_neg h1, if_neg h2, if_neg (by omega)]) (by
  simp only [k1]
  exact he _)
 simp only [k0] at this
 exact this
def at256 (b : Vector UInt8 256) (x : UInt8) : UInt8 := b[x.toNat]'(UInt8.toNat_lt x)
theorem vidx_at (b : Vector UInt8 256) (x : UInt8) : ZM b (bI x) = some (at256 b x) := by
 have : ZM b ((x.toNat : Nat) : Int) = _ := We b x.toNat
 rw [Vector.getElem?_eq_getElem (UInt8.toNat_lt x)] at this
 exact this
abbrev Blk := Vector UInt8 16
def bf (v : Blk) (i : Nat) : UInt8 := v[i]?.getD default
theorem vf_bf (v : Blk) : v = vf 16 (bf v) := vf_of v
theorem lt16 {i : Nat} (h : i < 16) : decide ((i : Int) < 16) = true := by simp; omega
def xorF (f g : Nat → UInt8) : Nat → UInt8 := fun i => f i ^^^ g i
theorem v_l01Xor (f g : Nat → UInt8) : YS (vf 16 f) (vf 16 g) = some (vf 16 (xorF f g)) := by
 unfold YS
 have := XP (WL (vf 16 g)) f (xorF f g) (by omega) 0 (by omega) (fun j hj => by omega) (fun i _ hi a _ ha => by
  unfold WL
  simp only [lt16 hi, if_true, ZU _ hi, Option.bind_some, Int.toNat_natCast, ha i (Nat.le_refl _), xorF]) (fun v => by unfold WL; simp)
 have h2 : ZF (WL (vf 16 g)) (vf 16 f, 0) = _ := this
 rw [h2]; rfl
theorem Up (f g : Nat → UInt8) : Yl (vf 16 f) (vf 16 g) = some (vf 16 (xorF f g)) := by
 unfold Yl
 have := XP (Xx (vf 16 g)) f (xorF f g) (by omega) 0 (by omega) (fun j hj => by omega) (fun i _ hi a _ ha => by
  unfold Xx
  simp only [lt16 hi, if_true, ZU _ hi, Option.bind_some, Int.toNat_natCast, ha i (Nat.le_refl _), xorF]) (fun v => by unfold Xx; simp)
 have h2 : ZF (Xx (vf 16 g)) (vf 16 f, 0) = _ := this
 rw [h2]; rfl
def boxF (b : Vector UInt8 256) (f : Nat → UInt8) : Nat → UInt8 := fun i => at256 b (f i)
theorem v_l04Boxes (b : Vector UInt8 256) (f : Nat → UInt8) : W8 b (vf 16 f) = some (vf 16 (boxF b f)) := by
 unfold W8
 have := XP (XZ b) f (boxF b f) (by omega) 0 (by omega) (fun j hj => by omega) (fun i _ hi a _ ha => by
  unfold XZ
  simp only [lt16 hi, if_true, ZU _ hi, Option.bind_some, Int.toNat_natCast, ha i (Nat.le_refl _), vidx_at, boxF]) (fun v => by unfold XZ; simp)
 have h2 : ZF (XZ b) (vf 16 f, 0) = _ := this
 rw [h2]; rfl
/-- Places of a permutation of 16. -/
def moveF (p : Blk) (f : Nat → UInt8) : Nat → UInt8 := fun i => f (bf p i).toNat
theorem places_lt {p : Blk} (h : placesB p = true) {i : Nat} (hi : i < 16) : (bf p i).toNat < 16 := by
 unfold placesB at h
 simp only [Bool.and_eq_true, List.all_eq_true, decide_eq_true_eq] at h
 have e : bf p i = p[i] := by unfold bf; rw [Vector.getElem?_eq_getElem hi]; rfl
 have := h.1 p[i] (by simp)
 rw [UInt8.lt_iff_toNat_lt] at this
 rw [e]; exact this
theorem vidx_bf (p : Blk) {i : Nat} (h : i < 16) : ZM p (i : Int) = some (bf p i) := by
 rw [We]; unfold bf; rw [Vector.getElem?_eq_getElem h]; rfl
theorem vidx_b16 (f : Nat → UInt8) {x : UInt8} (h : x.toNat < 16) : ZM (vf 16 f) (bI x) = some (f x.toNat) := ZU f h
theorem v_l03Move (p : Blk) (hp : placesB p = true) (f : Nat → UInt8) : VH p (vf 16 f) = some (vf 16 (moveF p f)) := by
 unfold VH
 have := XP (Wj p (vf 16 f)) (fun _ => 0) (moveF p f) (by omega) 0 (by omega) (fun j hj => by omega) (fun i _ hi a _ ha => by
  unfold Wj
  simp only [lt16 hi, if_true, ZU _ hi, vidx_bf _ hi, Option.bind_some, Int.toNat_natCast, vidx_b16 f (places_lt hp hi), moveF]) (fun v => by unfold Wj; simp)
 have h2 : ZF (Wj p (vf 16 f)) (vf 16 (fun _ => 0), 0) = _ := this
 rw [Ul 16 (0 : UInt8), h2]; rfl
theorem v_move (p : Blk) (hp : placesB p = true) (f : Nat → UInt8) : Wa p (vf 16 f) = some (vf 16 (moveF p f)) := by
 unfold Wa
 have := XP (Y4 p (vf 16 f)) (fun _ => 0) (moveF p f) (by omega) 0 (by omega) (fun j hj => by omega) (fun i _ hi a _ ha => by
  unfold Y4
  simp only [lt16 hi, if_true, ZU _ hi, vidx_bf _ hi, Option.bind_some, Int.toNat_natCast, vidx_b16 f (places_lt hp hi), moveF]) (fun v => by unfold Y4; simp)
 have h2 : ZF (Y4 p (vf 16 f)) (vf 16 (fun _ => 0), 0) = _ := this
 rw [Ul 16 (0 : UInt8), h2]; rfl

def nextF (b : Vector UInt8 256) (f : Nat → UInt8) (r : Int) : Nat → UInt8
 | 0 => f 0 ^^^ at256 b (f 15 ^^^ ZG r)
 | i + 1 => f (i + 1) ^^^ at256 b (nextF b f r i)
theorem v_l04Next (b : Vector UInt8 256) (f : Nat → UInt8) (r : Int) : VA b (vf 16 f) r = some (vf 16 (nextF b f r)) := by
  unfold VA
  have := XP (Wg b r) f (nextF b f r) (by omega) 0 (by omega) (fun j hj => by omega) (fun i _ hi a hb ha => by
    unfold Wg
    cases i with
    | zero =>
      have e1 : Int.tmod (wr (((0 : Nat) : Int) + 15)) 16 = ((15 : Nat) : Int) := by decide
      simp only [e1, lt16 hi, if_true, ZU a (show 15 < 16 by omega), Option.bind_some]
      have e2 : (((0 : Nat) : Int) == 0) = true := rfl
      simp only [e2, if_true, Option.bind_some, vidx_at, ZU a hi, Int.toNat_natCast, ha 0 (by omega), ha 15 (by omega), nextF]
    | succ i =>
      have e1 : Int.tmod (wr (((i + 1 : Nat) : Int) + 15)) 16 = ((i : Nat) : Int) := by
        rw [YG (by omega)]
        have : (((i + 1 : Nat) : Int) + 15) = ((i + 16 : Nat) : Int) := by omega
        rw [this]
        have : Int.tmod ((i + 16 : Nat) : Int) 16 = (((i + 16) % 16 : Nat) : Int) := rfl
        rw [this]
        omega
      have e2 : (((i + 1 : Nat) : Int) == 0) = false := by have : ((i + 1 : Nat) : Int) ≠ 0 := by omega
                                                           simpa using this
      simp only [e1, e2, lt16 hi, if_true, ZU a (show i < 16 by omega), Option.bind_some, Bool.false_eq_true, if_false, vidx_at, ZU a hi, Int.toNat_natCast, ha (i + 1) (Nat.le_refl _), hb i (by omega), nextF]) (fun v => by unfold Wg; simp)
  have h2 : ZF (Wg b r) (vf 16 f, 0) = _ := this
  rw [h2]; rfl
theorem v_nextKey (e : Ref Gengine) (f : Nat → UInt8) (r : Int) : Y9 e (vf 16 f) r = some (vf 16 (nextF e.v.box f r)) := by
 unfold Y9
 have x0 : ZM (vf 16 f) (0 : Int) = some (f 0) := ZU f (show 0 < 16 by omega)
 have x15 : ZM (vf 16 f) (15 : Int) = some (f 15) := ZU f (show 15 < 16 by omega)
 have z : (0 : Int).toNat = 0 := rfl
 simp only [x0, x15, Option.bind_some, vidx_at, z, UH]
 have := XP (Yz e) (fun i => if i = 0 then f 0 ^^^ at256 e.v.box (f 15 ^^^ ZG r) else f i) (nextF e.v.box f r) (by omega) 1 (by omega) (fun j hj => by
  have : j = 0 := by omega
  subst this; simp [nextF]) (fun i h1 hi a hb ha => by
  unfold Yz
  obtain ⟨i, rfl⟩ : ∃ k, i = k + 1 := ⟨i - 1, by omega⟩
  have e1 : wr (((i + 1 : Nat) : Int) - 1) = ((i : Nat) : Int) := by rw [YG (by omega)]; omega
  simp only [e1, lt16 hi, if_true, ZU a (show i < 16 by omega), ZU a hi, Option.bind_some, vidx_at, Int.toNat_natCast, ha (i + 1) (Nat.le_refl _), hb i (by omega), nextF]
  simp) (fun v => by unfold Yz; simp)
 have h2 : ZF (Yz e) (vf 16 (fun i => if i = 0 then f 0 ^^^ at256 e.v.box (f 15 ^^^ ZG r) else f i), 1) = _ := this
 rw [h2]; rfl
def keyN (b : Vector UInt8 256) (k : Nat → UInt8) : Nat → Nat → UInt8
 | 0 => k
 | r + 1 => nextF b (keyN b k r) ((r + 1 : Nat) : Int)
def Vc (b : Vector UInt8 256) (k : Nat → UInt8) (n : Nat) : List Blk := (List.range (n + 1)).map fun r => vf 16 (keyN b k r)
theorem keys_succ (b : Vector UInt8 256) (k : Nat → UInt8) (n : Nat) : Vc b k (n + 1) = Vc b k n ++ [vf 16 (nextF b (keyN b k n) ((n + 1 : Nat) : Int))] := by
 unfold Vc
 rw [List.range_succ, List.map_append]; rfl
theorem keys_len (b : Vector UInt8 256) (k : Nat → UInt8) (n : Nat) : (Vc b k n).length = n + 1 := by simp [Vc]
theorem keys_idx (b : Vector UInt8 256) (k : Nat → UInt8) {n r : Nat} (h : r ≤ n) : idx (Vc b k n) (r : Int) = some (vf 16 (keyN b k r)) := by
 rw [YC]; unfold Vc; rw [List.getElem?_map, List.getElem?_range (by omega)]; rfl
theorem v_l04Keys (c : GCipher) (k : Nat → UInt8) (n : Nat) (hn : n ≤ 1000) : VC c (vf 16 k) (n : Int) = some (Vc c.Box k n) := by
 unfold VC
 have := Z1 (f := Wf c (n : Int)) (fun i : Nat => (vf 16 (keyN c.Box k (i - 1)), Vc c.Box k (i - 1), (i : Int))) 1 (n + 1) (by omega) (t := Vc c.Box k n) (fun i h1 hi => by
  unfold Wf
  obtain ⟨i, rfl⟩ : ∃ q, i = q + 1 := ⟨i - 1, by omega⟩
  have e1 : decide (((i + 1 : Nat) : Int) ≤ (n : Int)) = true := by simp; omega
  have e2 : app 16 (Vc c.Box k i) [vf 16 (nextF c.Box (keyN c.Box k i) ((i + 1 : Nat) : Int))] = _ := app_ok (by rw [keys_len]; simp; omega)
  simp only [Nat.add_sub_cancel, e1, if_true, v_l04Next, Option.bind_some, e2, YX (show i + 1 < 9223372036854775807 by omega), keys_succ]
  rfl) (by
  unfold Wf
  have e1 : decide (((n + 1 : Nat) : Int) ≤ (n : Int)) = false := by simp; omega
  simp only [e1, Bool.false_eq_true, if_false, Nat.add_sub_cancel])
 have h2 : ZF (Wf c (n : Int)) (vf 16 k, [vf 16 k], 1) = _ := this
 rw [h2]; rfl
theorem v_keys (e : Ref Gengine) (k : Nat → UInt8) (n : Nat) (hn : n ≤ 1000) : X5 e (vf 16 k) (n : Int) = some (Vc e.v.box k n) := by
 unfold X5
 have := Z1 (f := Y2 e (n : Int)) (fun i : Nat => (vf 16 (keyN e.v.box k (i - 1)), Vc e.v.box k (i - 1), (i : Int))) 1 (n + 1) (by omega) (t := Vc e.v.box k n) (fun i h1 hi => by
  unfold Y2
  obtain ⟨i, rfl⟩ : ∃ q, i = q + 1 := ⟨i - 1, by omega⟩
  have e1 : decide (((i + 1 : Nat) : Int) ≤ (n : Int)) = true := by simp; omega
  have e2 : app 16 (Vc e.v.box k i) [vf 16 (nextF e.v.box (keyN e.v.box k i) ((i + 1 : Nat) : Int))] = _ := app_ok (by rw [keys_len]; simp; omega)
  simp only [Nat.add_sub_cancel, e1, if_true, v_nextKey, Option.bind_some, e2, YX (show i + 1 < 9223372036854775807 by omega), keys_succ]
  rfl) (by
  unfold Y2
  have e1 : decide (((n + 1 : Nat) : Int) ≤ (n : Int)) = false := by simp; omega
  simp only [e1, Bool.false_eq_true, if_false, Nat.add_sub_cancel])
 have h2 : ZF (Y2 e (n : Int)) (vf 16 k, [vf 16 k], 1) = _ := this
 rw [h2]; rfl

/-- Row r of a matrix times a column that starts at c. -/
def rowF (m : Nat) (a : MF) (f : Nat → UInt8) (c r : Nat) : UInt8 := ((ZZ m (a r 0) (f c) ^^^ ZZ m (a r 1) (f (c + 1))) ^^^ ZZ m (a r 2) (f (c + 2))) ^^^ ZZ m (a r 3) (f (c + 3))
def Vv (m : Nat) (a : MF) (f : Nat → UInt8) : Nat → UInt8 := fun i => rowF m a f (i / 4 * 4) (i % 4)
theorem set_set (f : Nat → UInt8) (k : Nat) (x y : UInt8) : (fun i => if i = k then y else if i = k then x else f i) = fun i => if i = k then y else f i := by
 funext i; by_cases h : i = k <;> simp [h]
theorem wr_at {c r : Nat} (hc : c < 4) (hr : r < 4) : wr (wr (4 * (c : Int)) + (r : Int)) = ((c * 4 + r : Nat) : Int) := by
 rw [YG (x := 4 * (c : Int)) (by omega), YG (by omega)]; omega
theorem mix_row (m : Nat) (hm : m < 512) (hm2 : 256 ≤ m) (a : MF) (f g : Nat → UInt8) (c r : Nat) (hc : c < 4) (hr : r < 4) (s1 s2 : Blk × Int) (h1 : s1.2 = (c : Int)) (h2 : s2.2 = (r : Int)) (hg : g (c * 4 + r) = 0) :
  ZF (Xt (m : Int) (mf a) (vf 16 f) s1 s2) (vf 16 g, 0) = some (vf 16 fun i => if i = c * 4 + r then rowF m a f (c * 4) r else g i) := by
 have hcr : c * 4 + r < 16 := by omega
 have step : ∀ (j : Nat) (h : Nat → UInt8), j < 4 → Xt (m : Int) (mf a) (vf 16 f) s1 s2 (vf 16 h, (j : Int)) = some (.nx (vf 16 (fun i => if i = c * 4 + r then h (c * 4 + r) ^^^ ZZ m (a r j) (f (c * 4 + j)) else h i), ((j + 1 : Nat) : Int))) := fun j h hj => by
  unfold Xt
  simp only [h1, h2, lt4 hj, if_true, wr_at hc hr, wr_at hc hj, ZU _ hcr, VY _ hr, ZU _ hj, ZU f (show c * 4 + j < 16 by omega), Option.bind_some, v_l01Times m hm hm2, Int.toNat_natCast, UH, wr4 (show j < 1000 by omega)]
 have e0 := step 0 g (by omega)
 have e1 := step 1 (fun i => if i = c * 4 + r then g (c * 4 + r) ^^^ ZZ m (a r 0) (f (c * 4 + 0)) else g i) (by omega)
 have e2 := step 2 (fun i => if i = c * 4 + r then (g (c * 4 + r) ^^^ ZZ m (a r 0) (f (c * 4 + 0))) ^^^ ZZ m (a r 1) (f (c * 4 + 1)) else g i) (by omega)
 have e3 := step 3 (fun i => if i = c * 4 + r then ((g (c * 4 + r) ^^^ ZZ m (a r 0) (f (c * 4 + 0))) ^^^ ZZ m (a r 1) (f (c * 4 + 1))) ^^^ ZZ m (a r 2) (f (c * 4 + 2)) else g i) (by omega)
 have e4 : ∀ v : Blk, Xt (m : Int) (mf a) (vf 16 f) s1 s2 (v, ((4 : Nat) : Int)) = some (.ex v) := fun v => by unfold Xt; simp
 simp only [if_true, set_set] at e1 e2 e3
 have e0' : Xt (m : Int) (mf a) (vf 16 f) s1 s2 (vf 16 g, 0) = _ := e0
 rw [Xi e0', Xi e1, Xi e2, Xi e3, YQ (e4 _)]
 refine congrArg some (YJ fun i _ => ?_)
 by_cases h : i = c * 4 + r
 ·simp [h, hg, rowF]
 ·simp [h]
theorem v_l03Mix (m : Nat) (hm : m < 512) (hm2 : 256 ≤ m) (a : MF) (f : Nat → UInt8) : Ub (m : Int) (mf a) (vf 16 f) = some (vf 16 (Vv m a f)) := by
 unfold Ub
 -- after c columns and r rows of the next
 have inner : ∀ c : Nat, c < 4 → ∀ s1 : Blk × Int, s1.2 = (c : Int) → ZF (WV (m : Int) (mf a) (vf 16 f) s1) (vf 16 (fun i => if i < c * 4 then Vv m a f i else 0), 0) = some (vf 16 fun i => if i < (c + 1) * 4 then Vv m a f i else 0) := fun c hc s1 h1 => by
  have k1 : (vf 16 fun i => if i < c * 4 + 4 then Vv m a f i else 0) = vf 16 fun i => if i < (c + 1) * 4 then Vv m a f i else 0 := by rw [show c * 4 + 4 = (c + 1) * 4 by omega]
  have := Z1 (f := WV (m : Int) (mf a) (vf 16 f) s1) (fun r : Nat => (vf 16 fun i => if i < c * 4 + r then Vv m a f i else 0, (r : Int))) 0 4 (by omega) (t := vf 16 fun i => if i < (c + 1) * 4 then Vv m a f i else 0) (fun r _ hr => by
   unfold WV
   have h2 := mix_row m hm hm2 a f (fun i => if i < c * 4 + r then Vv m a f i else 0) c r hc hr s1 (vf 16 fun i => if i < c * 4 + r then Vv m a f i else 0, (r : Int)) h1 rfl (by simp)
   simp only [lt4 hr, if_true, h2, Option.bind_some, wr4 (show r < 1000 by omega)]
   refine congrArg (fun z => some (Fl.nx (z, ((r + 1 : Nat) : Int)))) (YJ fun i _ => ?_)
   by_cases h : i = c * 4 + r
   ·subst h
    have q1 : (c * 4 + r) / 4 = c := by omega
    have q2 : (c * 4 + r) % 4 = r := by omega
    rw [if_pos rfl, if_pos (by omega)]
    unfold Vv; rw [q1, q2]
   ·by_cases h3 : i < c * 4 + r
    ·rw [if_neg h, if_pos h3, if_pos (by omega)]
    ·rw [if_neg h, if_neg h3, if_neg (by omega)]) (by
   unfold WV
   simp only [k1]
   simp)
  exact this
 have := Z1 (f := WI (m : Int) (mf a) (vf 16 f)) (fun c : Nat => (vf 16 fun i => if i < c * 4 then Vv m a f i else 0, (c : Int))) 0 4 (by omega) (t := vf 16 (Vv m a f)) (fun c _ hc => by
  unfold WI
  have h2 := inner c hc (vf 16 fun i => if i < c * 4 then Vv m a f i else 0, (c : Int)) rfl
  simp only [lt4 hc, if_true, h2, Option.bind_some, wr4 (show c < 1000 by omega)]) (by
  unfold WI
  have : (vf 16 fun i => if i < 4 * 4 then Vv m a f i else 0) = vf 16 (Vv m a f) := YJ fun i hi => by rw [if_pos (by omega)]
  simp only [this]
  simp)
 have e0 : (vf 16 fun i => if i < 0 * 4 then Vv m a f i else 0) = vf 16 fun _ => (0 : UInt8) := YJ fun i _ => by rw [if_neg (by omega)]
 simp only [e0] at this
 have h2 : ZF (WI (m : Int) (mf a) (vf 16 f)) (vf 16 fun _ => (0 : UInt8), 0) = _ := this
 rw [Ul 16 (0 : UInt8), h2]; rfl

abbrev Tab := Vector (Vector (Vector UInt8 256) 4) 4
def tabT (m : Nat) (a : MF) : Tab := vf 4 fun i => vf 4 fun j => vf 256 fun x => ZZ m (a i j) (UInt8.ofNat x)
theorem vidx_tab (m : Nat) (a : MF) (i j : Nat) (x : UInt8) : ZM (vf 256 fun x => ZZ m (a i j) (UInt8.ofNat x)) (bI x) = some (ZZ m (a i j) x) := by
 rw [show bI x = ((x.toNat : Nat) : Int) from rfl, ZU _ (UInt8.toNat_lt x)]
 simp
theorem v_mix (m : Nat) (a : MF) (f : Nat → UInt8) : WH ⟨tabT m a⟩ (vf 16 f) = some (vf 16 (Vv m a f)) := by
 unfold WH
 have i0 : ∀ (v : Vector (Vector UInt8 256) 4), ZM v (0 : Int) = v[0]? := fun v => We v 0
 have i1 : ∀ (v : Vector (Vector UInt8 256) 4), ZM v (1 : Int) = v[1]? := fun v => We v 1
 have i2 : ∀ (v : Vector (Vector UInt8 256) 4), ZM v (2 : Int) = v[2]? := fun v => We v 2
 have i3 : ∀ (v : Vector (Vector UInt8 256) 4), ZM v (3 : Int) = v[3]? := fun v => We v 3
 have inner : ∀ c : Nat, c < 4 → ∀ s1 : Blk × Int, s1.2 = ((c * 4 : Nat) : Int) → ZF (Xw ⟨tabT m a⟩ s1 (f (c * 4), f (c * 4 + 1), f (c * 4 + 2), f (c * 4 + 3))) (vf 16 (fun i => if i < c * 4 then Vv m a f i else f i), 0) = some (vf 16 fun i => if i < (c + 1) * 4 then Vv m a f i else f i) := fun c hc s1 h1 => by
  have k1 : (vf 16 fun i => if i < c * 4 + 4 then Vv m a f i else f i) = vf 16 fun i => if i < (c + 1) * 4 then Vv m a f i else f i := by rw [show c * 4 + 4 = (c + 1) * 4 by omega]
  have := Z1 (f := Xw ⟨tabT m a⟩ s1 (f (c * 4), f (c * 4 + 1), f (c * 4 + 2), f (c * 4 + 3))) (fun r : Nat => (vf 16 fun i => if i < c * 4 + r then Vv m a f i else f i, (r : Int))) 0 4 (by omega) (t := vf 16 fun i => if i < (c + 1) * 4 then Vv m a f i else f i) (fun r _ hr => by
   unfold Xw
   have e1 : wr (s1.2 + (r : Int)) = ((c * 4 + r : Nat) : Int) := by rw [h1, YG (by omega)]; omega
   have et : ZM (tabT m a) (r : Int) = some (vf 4 fun j => vf 256 fun x => ZZ m (a r j) (UInt8.ofNat x)) := ZU _ hr
   simp only [lt4 hr, if_true, et, i0, i1, i2, i3, vf_getq _ (show 0 < 4 by omega), vf_getq _ (show 1 < 4 by omega), vf_getq _ (show 2 < 4 by omega), vf_getq _ (show 3 < 4 by omega), vidx_tab, e1, ZU _ (show c * 4 + r < 16 by omega), Option.bind_some, Int.toNat_natCast, UH, wr4 (show r < 1000 by omega)]
   refine congrArg (fun z => some (Fl.nx (z, ((r + 1 : Nat) : Int)))) (YJ fun i _ => ?_)
   by_cases h : i = c * 4 + r
   ·subst h
    have q1 : (c * 4 + r) / 4 = c := by omega
    have q2 : (c * 4 + r) % 4 = r := by omega
    rw [if_pos rfl, if_pos (by omega)]
    unfold Vv; rw [q1, q2]; rfl
   ·by_cases h3 : i < c * 4 + r
    ·rw [if_neg h, if_pos h3, if_pos (by omega)]
    ·rw [if_neg h, if_neg h3, if_neg (by omega)]) (by
   unfold Xw
   simp only [k1]
   simp)
  exact this
 have := Z1 (f := XC ⟨tabT m a⟩) (fun c : Nat => (vf 16 fun i => if i < c * 4 then Vv m a f i else f i, ((c * 4 : Nat) : Int))) 0 4 (by omega) (t := vf 16 (Vv m a f)) (fun c _ hc => by
  unfold XC
  have hd : decide (((c * 4 : Nat) : Int) < ((vf 16 fun i => if i < c * 4 then Vv m a f i else f i).toList.length : Int)) = true := by rw [Vector.length_toList]; simp; omega
  have x0 := ZU (n := 16) (fun i => if i < c * 4 then Vv m a f i else f i) (show c * 4 < 16 by omega)
  have x1 := ZU (n := 16) (fun i => if i < c * 4 then Vv m a f i else f i) (show c * 4 + 1 < 16 by omega)
  have x2 := ZU (n := 16) (fun i => if i < c * 4 then Vv m a f i else f i) (show c * 4 + 2 < 16 by omega)
  have x3 := ZU (n := 16) (fun i => if i < c * 4 then Vv m a f i else f i) (show c * 4 + 3 < 16 by omega)
  have w1 : wr (((c * 4 : Nat) : Int) + 1) = ((c * 4 + 1 : Nat) : Int) := by rw [YG (by omega)]; omega
  have w2 : wr (((c * 4 : Nat) : Int) + 2) = ((c * 4 + 2 : Nat) : Int) := by rw [YG (by omega)]; omega
  have w3 : wr (((c * 4 : Nat) : Int) + 3) = ((c * 4 + 3 : Nat) : Int) := by rw [YG (by omega)]; omega
  have w4 : wr (((c * 4 : Nat) : Int) + 4) = (((c + 1) * 4 : Nat) : Int) := by rw [YG (by omega)]; omega
  rw [if_neg (by omega)] at x0 x1 x2 x3
  have h2 := inner c hc (vf 16 fun i => if i < c * 4 then Vv m a f i else f i, ((c * 4 : Nat) : Int)) rfl
  simp only [hd, if_true, x0, w1, x1, w2, x2, w3, x3, Option.bind_some, h2, w4]) (by
  unfold XC
  have : (vf 16 fun i => if i < 4 * 4 then Vv m a f i else f i) = vf 16 (Vv m a f) := YJ fun i hi => by rw [if_pos (by omega)]
  simp only [this]
  simp)
 have e0 : (vf 16 fun i => if i < 0 * 4 then Vv m a f i else f i) = vf 16 f := YJ fun i _ => by rw [if_neg (by omega)]
 simp only [e0] at this
 have h2 : ZF (XC ⟨tabT m a⟩) (vf 16 f, 0) = _ := this
 rw [h2]; rfl

def tb (g : Nat → Nat → Nat → UInt8) : Tab := vf 4 fun i => vf 4 fun j => vf 256 (g i j)
theorem tb_ext {g h : Nat → Nat → Nat → UInt8} (e : ∀ i, i < 4 → ∀ j, j < 4 → ∀ x, x < 256 → g i j x = h i j x) : tb g = tb h :=
 YJ fun i hi => YJ fun j hj => YJ fun x hx => e i hi j hj x hx
theorem vidx_tb (g : Nat → Nat → Nat → UInt8) {i : Nat} (hi : i < 4) : ZM (tb g) (i : Int) = some (vf 4 fun j => vf 256 (g i j)) := ZU _ hi
theorem vidx_tb2 (g : Nat → Nat → Nat → UInt8) (i : Nat) {j : Nat} (hj : j < 4) : ZM (vf 4 fun j => vf 256 (g i j)) (j : Int) = some (vf 256 (g i j)) := ZU _ hj
theorem tb_set (g : Nat → Nat → Nat → UInt8) (i j : Nat) (h : Nat → UInt8) : (tb g).setIfInBounds i ((vf 4 fun j => vf 256 (g i j)).setIfInBounds j (vf 256 h)) = tb (fun i' j' => if i' = i ∧ j' = j then h else g i' j') := by
 unfold tb
 rw [UH, UH]
 refine YJ fun i' _ => ?_
 by_cases h1 : i' = i
 ·subst h1
  rw [if_pos rfl]
  refine YJ fun j' _ => ?_
  by_cases h2 : j' = j
  ·subst h2; simp
  ·simp [h2]
 ·rw [if_neg h1]
  refine YJ fun j' _ => ?_
  simp [h1]
theorem orI_nat (a b : Nat) (ha : a < 9223372036854775808) (hb : b < 9223372036854775808) : orI (a : Int) (b : Int) = ((a ||| b : Nat) : Int) := by
 unfold orI
 rw [BitVec.toNat_or, bv_nat a ha, bv_nat b hb]
 have : a ||| b < 2 ^ 63 := Nat.or_lt_two_pow ha hb
 exact YG (by omega)
theorem WZ (n : Nat) : ZG (n : Int) = UInt8.ofNat n := by
 unfold ZG
 have : ((n : Int) % 256).toNat = n % 256 := by omega
 rw [this]
 apply UInt8.toNat_inj.1
 simp
theorem tb_set' (g : Nat → Nat → Nat → UInt8) (i j : Nat) (h : Nat → UInt8) : (tb g).setIfInBounds i (vf 4 fun j' => if j' = j then vf 256 h else vf 256 (g i j')) = tb (fun i' j' => if i' = i ∧ j' = j then h else g i' j') := by
 have := tb_set g i j h
 rw [UH] at this
 exact this
theorem or_pow {p low : Nat} (h : low < 2 ^ p) : 2 ^ p ||| low = 2 ^ p + low := by
 have := Nat.two_pow_add_eq_or_of_lt h 1
 simpa using this.symm
theorem byte_pow {p low : Nat} (hp : p < 8) (h : low < 2 ^ p) : UInt8.ofNat (2 ^ p + low) = UInt8.ofNat (2 ^ p) ^^^ UInt8.ofNat low := by
 apply UInt8.toNat_inj.1
 have h7 : 2 ^ p ≤ 2 ^ 7 := Nat.pow_le_pow_right (by omega) (by omega)
 rw [UInt8.toNat_xor]
 simp only [UInt8.toNat_ofNat']
 rw [Nat.mod_eq_of_lt (by omega), Nat.mod_eq_of_lt (by omega), Nat.mod_eq_of_lt (by omega)]
 rw [← or_pow h]
 apply Nat.eq_of_testBit_eq
 intro i
 rw [Nat.testBit_or, Nat.testBit_xor, Nat.testBit_two_pow]
 by_cases hi : p = i
 ·subst hi
  rw [Nat.testBit_lt_two_pow h]; simp
 ·simp [hi]
section
variable (m : Nat) (hm : m < 512) (hm2 : 256 ≤ m) (a : MF)
include hm hm2
/-- The table of one element, as far as it has come. -/
def upTo (m : Nat) (a : MF) (i j n : Nat) (g : Nat → Nat → Nat → UInt8) : Nat → Nat → Nat → UInt8 := fun i' j' => if i' = i ∧ j' = j then (fun x => if x < n then ZZ m (a i j) (UInt8.ofNat x) else 0) else g i' j'
theorem low_loop (i j p : Nat) (hi : i < 4) (hj : j < 4) (hp : p < 8) (g : Nat → Nat → Nat → UInt8) (s0 s1 s2 : Tab × Int) (h0 : s0.2 = (i : Int)) (h1 : s1.2 = (j : Int)) (h2 : s2.2 = ((2 ^ p : Nat) : Int)) :
  ZF (XQ s0 s1 s2 (ZZ m (a i j) (UInt8.ofNat (2 ^ p)))) (tb (upTo m a i j (2 ^ p) g), 0) = some (tb (upTo m a i j (2 ^ (p + 1)) g)) := by
 have h7 : 2 ^ p ≤ 2 ^ 7 := Nat.pow_le_pow_right (by omega) (by omega)
 have k1 : 2 ^ p + 2 ^ p = 2 ^ (p + 1) := by rw [Nat.pow_succ]; omega
 have := Z1 (f := XQ s0 s1 s2 (ZZ m (a i j) (UInt8.ofNat (2 ^ p)))) (fun low : Nat => (tb (upTo m a i j (2 ^ p + low) g), (low : Int))) 0 (2 ^ p) (Nat.zero_le _) (t := tb (upTo m a i j (2 ^ (p + 1)) g)) (fun low _ hl => by
  unfold XQ
  have hd : decide ((low : Int) < ((2 ^ p : Nat) : Int)) = true := by simp only [decide_eq_true_eq]; omega
  have ho : orI ((2 ^ p : Nat) : Int) (low : Int) = ((2 ^ p + low : Nat) : Int) := by rw [orI_nat _ _ (by omega) (by omega), or_pow hl]
  have eg : upTo m a i j (2 ^ p + low) g i j = fun x => if x < 2 ^ p + low then ZZ m (a i j) (UInt8.ofNat x) else 0 := by simp [upTo]
  simp only [h0, h1, h2, hd, if_true, vidx_tb _ hi, vidx_tb2 _ i hj, eg, ZU _ (show low < 256 by omega), ho, ZU _ (show 2 ^ p + low < 256 by omega), Option.bind_some, Int.toNat_natCast, UH, YX (show low < 9223372036854775807 by omega)]
  rw [if_pos (show low < 2 ^ p + low from Nat.lt_add_of_pos_left (Nat.two_pow_pos p)), ← times_xor' hm2 hm, ← byte_pow hp hl]
  have := tb_set' (upTo m a i j (2 ^ p + low) g) i j (fun x => if x = 2 ^ p + low then ZZ m (a i j) (UInt8.ofNat (2 ^ p + low)) else if x < 2 ^ p + low then ZZ m (a i j) (UInt8.ofNat x) else 0)
  rw [this]
  refine congrArg (fun z => some (Fl.nx (z, ((low + 1 : Nat) : Int)))) (tb_ext fun i' _ j' _ x _ => ?_)
  unfold upTo
  by_cases h : i' = i ∧ j' = j
  ·simp only [h, and_self, if_true]
   by_cases hx : x = 2 ^ p + low
   ·subst hx; simp
   ·by_cases hx2 : x < 2 ^ p + low
    ·rw [if_neg hx, if_pos hx2, if_pos (by omega)]
    ·rw [if_neg hx, if_neg hx2, if_neg (by omega)]
  ·simp only [h, if_false]) (by
  unfold XQ
  simp only [h2, k1]
  simp)
 exact this
theorem bit_loop (i j : Nat) (hi : i < 4) (hj : j < 4) (g : Nat → Nat → Nat → UInt8) (s0 s1 : Tab × Int) (h0 : s0.2 = (i : Int)) (h1 : s1.2 = (j : Int)) :
  ZF (XT (m : Int) s0 s1 (a i j)) (tb (upTo m a i j 1 g), 1) = some (tb (upTo m a i j 256 g)) := by
 have := Z1 (f := XT (m : Int) s0 s1 (a i j)) (fun p : Nat => (tb (upTo m a i j (2 ^ p) g), ((2 ^ p : Nat) : Int))) 0 8 (by omega) (t := tb (upTo m a i j 256 g)) (fun p _ hp => by
  unfold XT
  have h7 : 2 ^ p ≤ 2 ^ 7 := Nat.pow_le_pow_right (by omega) (by omega)
  have hd : decide (((2 ^ p : Nat) : Int) < 256) = true := by simp only [decide_eq_true_eq]; omega
  have hb : ZG ((2 ^ p : Nat) : Int) = UInt8.ofNat (2 ^ p) := by rw [WZ]
  have hw : wr (((2 ^ p : Nat) : Int) * 2) = ((2 ^ (p + 1) : Nat) : Int) := by
   rw [Nat.pow_succ]
   generalize 2 ^ p = q at h7 ⊢
   rw [YG (by omega)]; omega
  have h3 := low_loop m hm hm2 a i j p hi hj hp g s0 s1 (tb (upTo m a i j (2 ^ p) g), ((2 ^ p : Nat) : Int)) h0 h1 rfl
  simp only [hd, if_true, hb, Uc m hm, Option.bind_some, h3, hw]) (by unfold XT; simp)
 exact this
theorem v_newMixer (A : Mat) (hA : A = mf a) : Wi (m : Int) A = some ⟨tabT m a⟩ := by
 subst hA
 unfold Wi
 let G : Nat → Nat → Nat → Nat → Nat → UInt8 := fun r c i j x => if i < r ∨ (i = r ∧ j < c) then ZZ m (a i j) (UInt8.ofNat x) else 0
 have hGt : ∀ r c i j x, (i < r ∨ (i = r ∧ j < c)) → G r c i j x = ZZ m (a i j) (UInt8.ofNat x) := fun r c i j x h => if_pos h
 have hGf : ∀ r c i j x, ¬ (i < r ∨ (i = r ∧ j < c)) → G r c i j x = 0 := fun r c i j x h => if_neg h
 have hGe : ∀ r c r' c' i j x, ((i < r ∨ (i = r ∧ j < c)) ↔ (i < r' ∨ (i = r' ∧ j < c'))) → G r c i j x = G r' c' i j x := fun r c r' c' i j x h => by show (if _ then _ else _) = (if _ then _ else _); simp only [h]
 have z0 : ∀ i j, ZZ m (a i j) (UInt8.ofNat 0) = 0 := fun i j => by rw [times_comm hm2 hm]; exact times_zero hm2 hm _
 have col : ∀ r : Nat, r < 4 → ∀ s0 : Tab × Int, s0.2 = (r : Int) → ZF (XO (m : Int) s0 (vf 4 (a r))) (tb (G r 0), 0) = some (tb (G (r + 1) 0)) := fun r hr s0 h0 => by
  have k1 : tb (G r 4) = tb (G (r + 1) 0) := tb_ext fun i hi j hj x _ => by
   exact hGe _ _ _ _ _ _ _ (by omega)
  have := Z1 (f := XO (m : Int) s0 (vf 4 (a r))) (fun c : Nat => (tb (G r c), (c : Int))) 0 4 (by omega) (t := tb (G (r + 1) 0)) (fun c _ hc => by
   unfold XO
   have e1 : tb (G r c) = tb (upTo m a r c 1 (G r c)) := tb_ext fun i _ j _ x _ => by
    unfold upTo
    by_cases h : i = r ∧ j = c
    ·obtain ⟨rfl, rfl⟩ := h
     simp only [and_self, if_true]
     rw [hGf _ _ _ _ _ (by omega)]
     by_cases hx : x < 1
     ·have : x = 0 := by omega
      subst this; rw [if_pos hx, z0]
     ·rw [if_neg hx]
    ·simp only [h, if_false]
   have e2 : tb (upTo m a r c 256 (G r c)) = tb (G r (c + 1)) := tb_ext fun i _ j _ x hx => by
    unfold upTo
    by_cases h : i = r ∧ j = c
    ·obtain ⟨rfl, rfl⟩ := h
     simp only [and_self, if_true, hx]
     rw [hGt _ _ _ _ _ (by omega)]
    ·simp only [h, if_false]
     exact hGe _ _ _ _ _ _ _ (by omega)
   have h3 := bit_loop m hm hm2 a r c hr hc (G r c) s0 (tb (G r c), (c : Int)) h0 rfl
   rw [← e1, e2] at h3
   simp only [lt4 hc, if_true, ZU _ hc, h3, Option.bind_some, wr4 (show c < 1000 by omega)]) (by
   unfold XO
   simp only [k1]
   simp)
  exact this
 have kz : tb (G 0 0) = Vector.replicate 4 (Vector.replicate 4 (Vector.replicate 256 (0 : UInt8))) := by
  rw [Ul 256 (0 : UInt8), Ul 4, Ul 4]
  exact tb_ext fun i _ j _ x _ => by
   exact hGf _ _ _ _ _ (by omega)
 have k4 : tb (G 4 0) = tabT m a := tb_ext fun i hi j _ x _ => by
  exact hGt _ _ _ _ _ (by omega)
 have := Z1 (f := XX (m : Int) (mf a)) (fun r : Nat => (tb (G r 0), (r : Int))) 0 4 (by omega) (t := tabT m a) (fun r _ hr => by
  unfold XX
  have h3 := col r hr (tb (G r 0), (r : Int)) rfl
  simp only [lt4 hr, if_true, VY _ hr, h3, Option.bind_some, wr4 (show r < 1000 by omega)]) (by
  unfold XX
  simp only [k4]
  simp)
 have h2 : ZF (XX (m : Int) (mf a)) (tb (G 0 0), 0) = _ := this
 rw [← kz, h2]; rfl
end

def invB (n : Nat) (p : Vector UInt8 n) : Nat → Vector UInt8 n
 | 0 => Vector.replicate n 0
 | i + 1 => (invB n p i).setIfInBounds (p.toList.getD i 0).toNat (ZG (i : Int))
theorem v_Box_inverse (p : Vector UInt8 256) : X6 p = some (invB 256 p 256) := by
 unfold X6
 have := Z1 (f := YZ p) (fun i : Nat => (invB 256 p i, (i : Int))) 0 256 (by omega) (t := invB 256 p 256) (fun i _ hi => by
  unfold YZ
  have hd : decide ((i : Int) < 256) = true := by simp; omega
  simp only [hd, if_true, vidx_list p hi, vidx_at, Option.bind_some, bI_toNat, YX (show i < 9223372036854775807 by omega)]
  rfl) (by unfold YZ; simp)
 have h2 : ZF (YZ p) (Vector.replicate 256 0, 0) = _ := this
 rw [h2]; rfl
theorem bf_list (p : Blk) {i : Nat} (h : i < 16) : p.toList.getD i 0 = bf p i := by
 have h1 := vidx_list p h
 rw [vidx_bf p h] at h1
 exact (Option.some.inj h1).symm
theorem v_Places_inverse (p : Blk) (hp : placesB p = true) : Y8 p = some (invB 16 p 16) := by
 unfold Y8
 have := Z1 (f := Yw p) (fun i : Nat => (invB 16 p i, (i : Int))) 0 16 (by omega) (t := invB 16 p 16) (fun i _ hi => by
  unfold Yw
  have hlt := places_lt hp hi
  have hv : ZM (invB 16 p i) (bI (bf p i)) = some (bf (invB 16 p i) (bf p i).toNat) := vidx_bf _ hlt
  simp only [lt16 hi, if_true, vidx_bf p hi, hv, Option.bind_some, bI_toNat, YX (show i < 9223372036854775807 by omega)]
  rw [← bf_list p hi]
  rfl) (by unfold Yw; simp)
 have h2 : ZF (Yw p) (Vector.replicate 16 0, 0) = _ := this
 rw [h2]; rfl

def YT (c : GCipher) : Gengine := ⟨c.Box, invB 256 c.Box 256, c.Places, invB 16 c.Places 16, ⟨tabT c.Field.toNat (mfOf c.Mix)⟩, ⟨tabT c.Field.toNat (mfOf (invM c.Field.toNat c.Mix))⟩, c.Rounds⟩
theorem cipher_places {c : GCipher} (h : YA c = true) : placesB c.Places = true := by
 unfold YA at h
 simp only [Bool.and_eq_true] at h
 exact h.1.1.2
theorem cipher_rounds {c : GCipher} (h : YA c = true) : 1 ≤ c.Rounds ∧ c.Rounds ≤ 20 := by
 unfold YA at h
 simp only [Bool.and_eq_true, decide_eq_true_eq] at h
 exact h.1.2
theorem v_newEngine (c : GCipher) (h : YA c = true) : WR c = some ⟨YT c⟩ := by
 obtain ⟨m, hm, h1, h2⟩ := cipher_field h
 have e : c.Field.toNat = m := by omega
 unfold WR YT
 rw [e]
 simp only [hm, v_invert m h2 h1, Option.bind_some, v_Box_inverse, v_Places_inverse _ (cipher_places h), v_newMixer m h2 h1 (mfOf c.Mix) c.Mix (mf_mfOf _), v_newMixer m h2 h1 (mfOf (invM m c.Mix)) (invM m c.Mix) (mf_mfOf _)]

def roundF (c : GCipher) (n r : Nat) (k f : Nat → UInt8) : Nat → UInt8 :=
 xorF (if r < n then Vv c.Field.toNat (mfOf c.Mix) (moveF c.Places (boxF c.Box f)) else moveF c.Places (boxF c.Box f)) k
def encN (c : GCipher) (k f : Nat → UInt8) (n : Nat) : Nat → Nat → UInt8
 | 0 => xorF f k
 | r + 1 => roundF c n (r + 1) (keyN c.Box k (r + 1)) (encN c k f n r)
def encC (c : GCipher) (k f : Nat → UInt8) (n : Nat) : Nat → UInt8 := encN c k f n n
theorem v_l04Encipher (c : GCipher) (h : YA c = true) (k f : Nat → UInt8) (n : Nat) (hn : n ≤ 1000) : YI c (vf 16 k) (vf 16 f) (n : Int) = some (vf 16 (encC c k f n)) := by
 obtain ⟨m, hm, h1, h2⟩ := cipher_field h
 have e : c.Field.toNat = m := by omega
 have hp := cipher_places h
 unfold YI
 have i0 : idx (Vc c.Box k n) (0 : Int) = some (vf 16 k) := keys_idx c.Box k (Nat.zero_le n)
 simp only [v_l04Keys c k n hn, Option.bind_some, i0, v_l01Xor]
 have := Z1 (f := Y1 c (n : Int) (Vc c.Box k n)) (fun i : Nat => (vf 16 (encN c k f n (i - 1)), (i : Int))) 1 (n + 1) (by omega) (t := vf 16 (encC c k f n)) (fun i hi1 hi => by
  unfold Y1
  obtain ⟨r, rfl⟩ : ∃ q, i = q + 1 := ⟨i - 1, by omega⟩
  have e1 : decide (((r + 1 : Nat) : Int) ≤ (n : Int)) = true := by simp only [decide_eq_true_eq]; omega
  have YB := v_l03Mix m h2 h1 (mfOf c.Mix) (moveF c.Places (boxF c.Box (encN c k f n r)))
  rw [← mf_mfOf] at YB
  simp only [Nat.add_sub_cancel, e1, if_true, v_l04Boxes, Option.bind_some, v_l03Move c.Places hp, hm, YB, keys_idx c.Box k (show r + 1 ≤ n by omega), YX (show r + 1 < 9223372036854775807 by omega)]
  by_cases hr : r + 1 < n
  ·have e2 : decide (((r + 1 : Nat) : Int) < (n : Int)) = true := by simp only [decide_eq_true_eq]; omega
   simp only [e2, if_true, Option.bind_some, v_l01Xor, encN, roundF, hr, e]
  ·have e2 : decide (((r + 1 : Nat) : Int) < (n : Int)) = false := by simp only [decide_eq_false_iff_not]; omega
   simp only [e2, Bool.false_eq_true, if_false, Option.bind_some, v_l01Xor, encN, roundF, hr]) (by
  unfold Y1
  have e1 : decide (((n + 1 : Nat) : Int) ≤ (n : Int)) = false := by simp only [decide_eq_false_iff_not]; omega
  simp only [e1, Bool.false_eq_true, if_false, Nat.add_sub_cancel, encC])
 have h3 : ZF (Y1 c (n : Int) (Vc c.Box k n)) (vf 16 (xorF f k), 1) = _ := this
 rw [h3]; rfl
theorem boxes_loop (e : Ref Gengine) (s : Blk × Int) (f : Nat → UInt8) (hs : s.1 = vf 16 f) : ZF (Yg e s) (vf 16 f, 0) = some (vf 16 (boxF e.v.box f)) := by
 have := XP (Yg e s) f (boxF e.v.box f) (by omega) 0 (by omega) (fun j hj => by omega) (fun i _ hi a _ ha => by
  unfold Yg
  simp only [hs, lt16 hi, if_true, ZU _ hi, Option.bind_some, Int.toNat_natCast, vidx_at, boxF]) (fun v => by unfold Yg; simp)
 exact this
theorem v_encipherWith (c : GCipher) (h : YA c = true) (k f : Nat → UInt8) (n : Nat) (hn : n ≤ 1000) : Yu ⟨YT c⟩ (Vc c.Box k n) (vf 16 f) = some (vf 16 (encC c k f n)) := by
 have hp := cipher_places h
 unfold Yu
 have i0 : idx (Vc c.Box k n) (0 : Int) = some (vf 16 k) := keys_idx c.Box k (Nat.zero_le n)
 simp only [Option.bind_some, i0, Up]
 have := Z1 (f := Yh ⟨YT c⟩ (Vc c.Box k n)) (fun i : Nat => (vf 16 (encN c k f n (i - 1)), (i : Int))) 1 (n + 1) (by omega) (t := vf 16 (encC c k f n)) (fun i hi1 hi => by
  unfold Yh
  obtain ⟨r, rfl⟩ : ∃ q, i = q + 1 := ⟨i - 1, by omega⟩
  have e1 : decide (((r + 1 : Nat) : Int) < ((Vc c.Box k n).length : Int)) = true := by rw [keys_len]; simp only [decide_eq_true_eq]; omega
  have e3 : wr (((Vc c.Box k n).length : Int) - 1) = (n : Int) := by rw [keys_len, YG (by omega)]; omega
  have hb := boxes_loop ⟨YT c⟩ (vf 16 (encN c k f n r), ((r + 1 : Nat) : Int)) (encN c k f n r) rfl
  have hmv := v_move c.Places hp (boxF c.Box (encN c k f n r))
  have YB := v_mix c.Field.toNat (mfOf c.Mix) (moveF c.Places (boxF c.Box (encN c k f n r)))
  have hsl : ∀ g : Nat → UInt8, slc (vf 16 g).toList (0 : Int) (16 : Int) = some (vf 16 g).toList := fun g => by
   have := slc_ok (l := (vf 16 g).toList) (i := 0) (j := 16) (by omega) (by simp)
   simp only [List.drop_zero] at this
   rw [List.take_of_length_le (by simp)] at this
   exact this
  have q1 : (YT c).box = c.Box := rfl
  have q2 : (YT c).places = c.Places := rfl
  have q3 : (YT c).mixer = ⟨tabT c.Field.toNat (mfOf c.Mix)⟩ := rfl
  simp only [q1] at hb
  simp only [Nat.add_sub_cancel, e1, if_true, hb, Option.bind_some, q2, q3, hmv, e3, hsl, YB, keys_idx c.Box k (show r + 1 ≤ n by omega), YX (show r + 1 < 9223372036854775807 by omega)]
  by_cases hr : r + 1 < n
  ·have e2 : decide (((r + 1 : Nat) : Int) < (n : Int)) = true := by simp only [decide_eq_true_eq]; omega
   simp only [e2, if_true, Option.bind_some, Up, encN, roundF, hr]
  ·have e2 : decide (((r + 1 : Nat) : Int) < (n : Int)) = false := by simp only [decide_eq_false_iff_not]; omega
   simp only [e2, Bool.false_eq_true, if_false, Option.bind_some, Up, encN, roundF, hr]) (by
  unfold Yh
  have e1 : decide (((n + 1 : Nat) : Int) < ((Vc c.Box k n).length : Int)) = false := by rw [keys_len]; simp only [decide_eq_false_iff_not]; omega
  simp only [e1, Bool.false_eq_true, if_false, Nat.add_sub_cancel, encC])
 have h3 : ZF (Yh ⟨YT c⟩ (Vc c.Box k n)) (vf 16 (xorF f k), 1) = _ := this
 rw [h3]; rfl
theorem v_engine_encipher (c : GCipher) (h : YA c = true) (k f : Nat → UInt8) : Ym ⟨YT c⟩ (vf 16 k) (vf 16 f) = some (vf 16 (encC c k f c.Rounds.toNat)) := by
 have hr := cipher_rounds h
 obtain ⟨n, hn⟩ : ∃ n : Nat, c.Rounds = n := ⟨c.Rounds.toNat, by omega⟩
 have e1 : (YT c).rounds = (n : Int) := hn
 have e2 : (YT c).box = c.Box := rfl
 have hk := v_keys ⟨YT c⟩ k n (by omega)
 rw [e2] at hk
 unfold Ym
 simp only [e1, hk, Option.bind_some, v_encipherWith c h k f n (by omega), hn, Int.toNat_natCast]
theorem v_encipher_rounds (c : GCipher) (h : YA c = true) (k f : Nat → UInt8) : YI c (vf 16 k) (vf 16 f) c.Rounds = some (vf 16 (encC c k f c.Rounds.toNat)) := by
 have hr := cipher_rounds h
 obtain ⟨n, hn⟩ : ∃ n : Nat, c.Rounds = n := ⟨c.Rounds.toNat, by omega⟩
 rw [hn]
 exact v_l04Encipher c h k f n (by omega)
theorem ofNat_mod (x : Nat) : UInt8.ofNat (x % 256) = UInt8.ofNat x := by
 apply UInt8.toNat_inj.1; simp
def tab (n : Nat) (f : Nat → UInt8) : List UInt8 := (List.range n).map f
@[simp] theorem tab_len (n : Nat) (f : Nat → UInt8) : (tab n f).length = n := by simp [tab]
theorem grow_nil {α : Type} (by_ : Nat) (z : α) (n : Nat) (h : n * by_ ≤ 140737488355328) (hby : 0 < by_) :
  ((if (decide ((n : Int) < 0)) = true then (none) else (some ()) : Option (Unit)).bind fun (_ : Unit) => (if (decide ((wr ((n : Int) - (wr (0 - 0)))) > 0)) = true then ((mkS by_ z (wr ((n : Int) - (wr (0 - 0))))).bind fun (l14 : List α) => (slc l14 (0 : Int) (0 : Int)).bind fun (l16 : List α) => some l16) else (some ([])) : Option (List α)).bind fun (j6 : List α) => some j6) = some [] := by
 have hn : n ≤ 140737488355328 := Nat.le_trans (Nat.le_mul_of_pos_right _ hby) h
 have e0 : wr (0 - 0) = 0 := by decide
 have e1 : wr ((n : Int) - (wr (0 - 0))) = (n : Int) := by rw [e0, YG (by omega)]; omega
 have e2 : ¬ ((n : Int) < 0) := by omega
 rw [e1]
 simp only [e2, decide_false, Bool.false_eq_true, if_false, Option.bind_some]
 by_cases h3 : (n : Int) > 0
 ·have hm : mkS by_ z (n : Int) = some (List.replicate n z) := by
   have h4 : ((n * by_ : Nat) : Int) ≤ 140737488355328 := by omega
   rw [Int.natCast_mul] at h4
   unfold mkS
   rw [if_pos ⟨by omega, h4⟩, Int.toNat_natCast]
  have hs : slc (List.replicate n z) (0 : Int) (0 : Int) = some [] := by
   have := slc_ok (l := List.replicate n z) (i := 0) (j := 0) (Nat.le_refl _) (Nat.zero_le _)
   simpa using this
  simp [h3, hm, hs]
 ·have h4 : decide ((n : Int) > 0) = false := by simp only [decide_eq_false_iff_not]; exact h3
  simp only [h4, Bool.false_eq_true, if_false, Option.bind_some]
theorem concat_loops {α : Type} (by_ : Nat) (p0 : List (List α)) (L0 : Int × Int → Option (Fl (Int × Int) Int)) (L1 : Int × List α → Option (Fl (Int × List α) (List α)))
  (h0 : ∀ s, L0 s = if (decide (s.1 < (p0.length : Int))) = true then (((idx p0 s.1).bind fun (x : List α) => (if (decide ((wr (s.2 + (x.length : Int))) < 0)) = true then (none) else (some ()) : Option (Unit)).bind fun (_ : Unit) => some (wr (s.2 + (x.length : Int))) : Option (Int)).bind fun (j : Int) => some (Fl.nx (wr (s.1 + 1), j))) else (some (Fl.ex s.2)))
  (h1 : ∀ s, L1 s = if (decide (s.1 < (p0.length : Int))) = true then ((idx p0 s.1).bind fun (x : List α) => (app by_ s.2 x).bind fun (_ : List α) => some (Fl.nx (wr (s.1 + 1), (s.2 ++ x)))) else (some (Fl.ex s.2)))
  (hl : p0.flatten.length * by_ ≤ 140737488355328) (hby : 0 < by_) (hn : p0.length < 9223372036854775807) :
  ZF L0 (0, 0) = some (p0.flatten.length : Int) ∧ ZF L1 (0, []) = some p0.flatten := by
 have hlen : p0.flatten.length ≤ 140737488355328 := Nat.le_trans (Nat.le_mul_of_pos_right _ hby) hl
 have hstep : ∀ i (hi : i < p0.length), (p0.take (i + 1)).flatten = (p0.take i).flatten ++ p0[i] := fun i hi => by
  rw [List.take_succ_eq_append_getElem hi, List.flatten_append]; simp
 have hle : ∀ i, (p0.take i).flatten.length ≤ p0.flatten.length := fun i => by
  have : p0.flatten = (p0.take i).flatten ++ (p0.drop i).flatten := by rw [← List.flatten_append, List.take_append_drop]
  rw [this, List.length_append]; omega
 constructor
 ·have := Z1 (f := L0) (fun i : Nat => ((i : Int), ((p0.take i).flatten.length : Int))) 0 p0.length (Nat.zero_le _) (t := (p0.flatten.length : Int)) (fun i _ hi => by
   have hs := congrArg List.length (hstep i hi)
   rw [List.length_append] at hs
   have h3 := hle (i + 1)
   have e1 : wr (((p0.take i).flatten.length : Int) + (p0[i].length : Int)) = ((p0.take (i + 1)).flatten.length : Int) := by rw [YG (by omega)]; omega
   have e2 : ¬ (((p0.take (i + 1)).flatten.length : Int) < 0) := by omega
   rw [h0]
   simp only [Int.ofNat_lt, hi, decide_true, if_true, YC, List.getElem?_eq_getElem hi, Option.bind_some, e1, e2, decide_false, Bool.false_eq_true, if_false, YX (show i < 9223372036854775807 by omega)]) (by
   rw [h0]; simp)
  exact this
 ·have := Z1 (f := L1) (fun i : Nat => ((i : Int), (p0.take i).flatten)) 0 p0.length (Nat.zero_le _) (t := p0.flatten) (fun i _ hi => by
   have hs := congrArg List.length (hstep i hi)
   rw [List.length_append] at hs
   have h3 := hle (i + 1)
   have hap : app by_ (p0.take i).flatten p0[i] = some ((p0.take i).flatten ++ p0[i]) := app_ok (by
    have : ((p0.take i).flatten.length + p0[i].length) * by_ ≤ p0.flatten.length * by_ := Nat.mul_le_mul_right _ (by omega)
    omega)
   rw [h1]
   simp only [Int.ofNat_lt, hi, decide_true, if_true, YC, List.getElem?_eq_getElem hi, Option.bind_some, hap, YX (show i < 9223372036854775807 by omega), hstep i hi]) (by
   rw [h1]; simp)
  exact this
def rotB (k : Nat) (b : UInt8) : UInt8 := shlB b (k : Int) ||| shrB b ((8 - k : Nat) : Int)
theorem v_rot1 (b : UInt8) : Yb b 1 = some (rotB 1 b) := by
 have e1 : wru (BitVec.ofInt 64 (IntKind.u64.wrap 1) &&& BitVec.ofInt 64 7).toNat = 1 := by decide +kernel
 have e2 : IntKind.u64.wrap (8 - 1) = 7 := by decide +kernel
 have e3 : Xk 1 = some () := rfl
 have e4 : Xk 7 = some () := rfl
 unfold Yb
 simp only [e1, e2, e3, e4, Option.bind_some]
 rfl
theorem v_rot4 (b : UInt8) : Yb b 4 = some (rotB 4 b) := by
 have e1 : wru (BitVec.ofInt 64 (IntKind.u64.wrap 4) &&& BitVec.ofInt 64 7).toNat = 4 := by decide +kernel
 have e2 : IntKind.u64.wrap (8 - 4) = 4 := by decide +kernel
 have e3 : Xk 4 = some () := rfl
 unfold Yb
 simp only [e1, e2, e3, Option.bind_some]
 rfl
def turnB (k : Nat) (b : UInt8) : UInt8 := ZG (andI (orI (shlI (bI b) (k : Int)) (V9 (shlI (bI b) (k : Int)) 8)) 255)
theorem byte_all {p : UInt8 → Bool} (h : ((List.range 256).all fun n => p (UInt8.ofNat n)) = true) (b : UInt8) : p b = true := by
 have := List.all_eq_true.1 h b.toNat (by simpa using UInt8.toNat_lt b)
 simpa using this
theorem turn0 (b : UInt8) : turnB 0 b = b := by
 have := byte_all (p := fun b => turnB 0 b == b) (by decide +kernel) b
 simpa using this
theorem turn1 (b : UInt8) : turnB 1 b = rotB 1 b := by
 have := byte_all (p := fun b => turnB 1 b == rotB 1 b) (by decide +kernel) b
 simpa using this
theorem turn4 (b : UInt8) : turnB 4 b = rotB 4 b := by
 have := byte_all (p := fun b => turnB 4 b == rotB 4 b) (by decide +kernel) b
 simpa using this
theorem v_turn (b : UInt8) (k : Nat) (h : k < 64) : Xl b (k : Int) = some (turnB k b) := by
 have e1 : IntKind.u64.wrap (k : Int) = (k : Int) := wru_nn k (by omega)
 unfold Xl
 rw [e1]
 have e2 : Xk (k : Int) = some () := by unfold Xk; rw [if_pos (by omega)]
 rw [e2]; rfl
def houseB (x : UInt8) : UInt8 := ((invC 285 x ^^^ rotB 1 (invC 285 x)) ^^^ rotB 4 (invC 285 x)) ^^^ 90
def Ux (n : Int) : GCipher := ⟨285, vf 256 fun x => houseB (UInt8.ofNat x), mf fun i j => invC 285 (UInt8.ofNat (i ^^^ (4 + j))), vf 16 fun i => UInt8.ofNat ((13 * i + 4) % 16), n⟩
theorem lt256n {i : Nat} (h : i < 256) : decide ((i : Int) < 256) = true := by simp; omega
theorem fill256 (L : Vector UInt8 256 × Int → Option (Fl (Vector UInt8 256 × Int) (Vector UInt8 256))) (h : Nat → UInt8) (hL : ∀ i : Nat, i < 256 → ∀ a : Nat → UInt8, L (vf 256 a, (i : Int)) = some (.nx ((vf 256 a).setIfInBounds i (h i), wr ((i : Int) + 1))))
  (he : ∀ v, L (v, 256) = some (.ex v)) : ZF L (Vector.replicate 256 0, 0) = some (vf 256 h) := by
 rw [Ul]
 exact XP L (fun _ => 0) h (by omega) 0 (by omega) (fun j hj => by omega) (fun i _ hi a _ _ => hL i hi a) he
theorem mix_fill (E : UInt8 → Option UInt8) (hE : ∀ a, E a = some (invC 285 a)) (L1 : Mat × Int → Mat × Int → Option (Fl (Mat × Int) Mat)) (L0 : Mat × Int → Option (Fl (Mat × Int) Mat))
  (h1 : ∀ s t, L1 s t = if (decide (t.2 < 4)) = true then ((E (ZG (xorI s.2 (wr (4 + t.2))))).bind fun r => (ZM t.1 s.2).bind fun x => (ZM x t.2).bind fun _ => some (Fl.nx ((t.1.setIfInBounds (s.2).toNat (x.setIfInBounds (t.2).toNat r)), wr (t.2 + 1)))) else (some (Fl.ex t.1)))
  (h0 : ∀ s, L0 s = if (decide (s.2 < 4)) = true then ((ZF (L1 s) (s.1, 0) : Option Mat).bind fun j => some (Fl.nx (j, wr (s.2 + 1)))) else (some (Fl.ex s.1))) :
  ZF L0 (Vector.replicate 4 (Vector.replicate 4 (0 : UInt8)), 0) = some (mf fun i j => invC 285 (UInt8.ofNat (i ^^^ (4 + j)))) := by
 have inner : ∀ (i : Nat) (hi : i < 4) (g : MF), ZF (L1 (mf g, (i : Int))) (mf g, 0) = some (mf fun r c => if r = i then invC 285 (UInt8.ofNat (i ^^^ (4 + c))) else g r c) := by
  intro i hi g
  have := Z1 (f := L1 (mf g, (i : Int))) (fun j : Nat => (mf fun r c => if r = i ∧ c < j then invC 285 (UInt8.ofNat (i ^^^ (4 + c))) else g r c, (j : Int))) 0 4 (by omega) (t := mf fun r c => if r = i then invC 285 (UInt8.ofNat (i ^^^ (4 + c))) else g r c) (fun j _ hj => by
   have e1 : wr (4 + (j : Int)) = ((4 + j : Nat) : Int) := by rw [YG (by omega)]; omega
   rw [h1]
   simp only [lt4 hj, if_true, e1, xorI_nat i (4 + j) (by omega) (by omega), WZ, hE, Option.bind_some, VY _ hi, ZU _ hj, Int.toNat_natCast, UH, mf_set, wr4 (show j < 1000 by omega)]
   refine congrArg (fun z => some (Fl.nx (z, ((j + 1 : Nat) : Int)))) (X9 fun r _ c _ => ?_)
   by_cases hr : r = i
   ·subst hr
    by_cases hc : c = j
    ·subst hc; simp
    ·by_cases hc2 : c < j
     ·simp [hc, hc2, show c < j + 1 by omega]
     ·simp [hc, hc2, show ¬ c < j + 1 by omega]
   ·simp [hr]) (by
   rw [h1]
   simp only [show decide (((4 : Nat) : Int) < 4) = false from rfl, Bool.false_eq_true, if_false]
   refine congrArg (fun z => some (Fl.ex z)) (X9 fun r _ c hc => ?_)
   by_cases hr : r = i <;> simp [hr, hc])
  have e0 : (mf fun r c => if r = i ∧ c < 0 then invC 285 (UInt8.ofNat (i ^^^ (4 + c))) else g r c) = mf g := X9 fun r _ c _ => by simp
  simp only [e0] at this
  exact this
 have := Z1 (f := L0) (fun i : Nat => (mf fun r c => if r < i then invC 285 (UInt8.ofNat (r ^^^ (4 + c))) else 0, (i : Int))) 0 4 (by omega) (t := mf fun i j => invC 285 (UInt8.ofNat (i ^^^ (4 + j)))) (fun i _ hi => by
  rw [h0]
  simp only [lt4 hi, if_true, inner i hi, Option.bind_some, wr4 (show i < 1000 by omega)]
  refine congrArg (fun z => some (Fl.nx (z, ((i + 1 : Nat) : Int)))) (X9 fun r _ c _ => ?_)
  by_cases hr : r = i
  ·subst hr; simp
  ·by_cases hc2 : r < i
   ·simp [hr, hc2, show r < i + 1 by omega]
   ·simp [hr, hc2, show ¬ r < i + 1 by omega]) (by
  rw [h0]
  simp only [show decide (((4 : Nat) : Int) < 4) = false from rfl, Bool.false_eq_true, if_false]
  exact congrArg (fun z => some (Fl.ex z)) (X9 fun r hr c hc => by simp [hr]))
 have e0 : (mf fun r c => if r < 0 then invC 285 (UInt8.ofNat (r ^^^ (4 + c))) else 0) = mf fun _ _ => 0 := X9 fun r _ c _ => by simp
 simp only [e0] at this
 rw [mf_zero]
 exact this
theorem place_fill (L : Blk × Int → Option (Fl (Blk × Int) Blk))
  (hL : ∀ s, L s = if (decide (s.2 < 16)) = true then ((ZM s.1 s.2).bind fun _ => some (Fl.nx ((s.1.setIfInBounds (s.2).toNat (ZG (Int.tmod (wr ((wr (13 * s.2)) + 4)) 16))), wr (s.2 + 1)))) else (some (Fl.ex s.1))) :
  ZF L (Vector.replicate 16 0, 0) = some (vf 16 fun i => UInt8.ofNat ((13 * i + 4) % 16)) := by
 rw [Ul]
 exact XP L (fun _ => 0) (fun i => UInt8.ofNat ((13 * i + 4) % 16)) (by omega) 0 (by omega) (fun j hj => by omega) (fun i _ hi a _ _ => by
  have e1 : wr (13 * (i : Int)) = 13 * (i : Int) := YG (by omega)
  have e2 : wr (13 * (i : Int) + 4) = ((13 * i + 4 : Nat) : Int) := by rw [YG (by omega)]; omega
  have e3 : Int.tmod ((13 * i + 4 : Nat) : Int) 16 = (((13 * i + 4) % 16 : Nat) : Int) := by rw [Int.tmod_eq_emod_of_nonneg (by omega)]; omega
  rw [hL]
  simp only [lt16 hi, if_true, ZU _ hi, Option.bind_some, e1, e2, e3, WZ, Int.toNat_natCast]) (fun v => by rw [hL]; simp)
theorem v_houseCipher (n : Int) : X8 n = some (Ux n) := by
 have hinv : ∀ a, Yc 285 a = some (invC 285 a) := fun a => v_field_inverse 285 (by omega) a
 have h1 := fill256 XH (fun x => houseB (UInt8.ofNat x)) (fun i hi a => by
  unfold XH
  simp only [lt256n hi, if_true, WZ, hinv, v_rot1, v_rot4, Option.bind_some, ZU _ hi, Int.toNat_natCast]
  rfl) (fun v => by unfold XH; simp)
 have h2 := mix_fill (Yc 285) hinv WD Wx (fun s t => by unfold WD; rfl) (fun s => by unfold Wx; rfl)
 have h3 := place_fill WC (fun s => by unfold WC; rfl)
 unfold X8 Ux
 simp only [h1, h2, h3, Option.bind_some]
theorem pow_swap (L : UInt8 × UInt8 × Int → Option (Fl (UInt8 × UInt8 × Int) UInt8)) (T : UInt8 → UInt8 → Option UInt8) (hT : ∀ a b, T a b = some (ZZ 285 a b))
  (hL : ∀ s, L s = if (decide (s.2.2 > 0)) = true then (((if ((Int.tmod s.2.2 2) == 1) = true then ((T s.1 s.2.1).bind fun r => some r) else (some s.1) : Option UInt8).bind fun j24 => (T s.2.1 s.2.1).bind fun r32 => some (j24, r32) : Option (UInt8 × UInt8)).bind fun j21 => some (Fl.nx (j21.1, j21.2, wr (Int.tdiv s.2.2 2)))) else (some (Fl.ex s.1))) :
  ∀ (f k : Nat) (a o : UInt8), k < 2 ^ f → f ≤ 62 → ZF L (o, a, (k : Int)) = some (powC 285 f a k o) := by
 intro f
 induction f with
 | zero =>
  intro k a o hk _
  have : k = 0 := by simpa using hk
  subst this
  exact YQ (by rw [hL]; simp [powC])
 | succ f ih =>
  intro k a o hk hf
  by_cases h0 : k = 0
  ·subst h0
   exact YQ (by rw [hL]; simp [powC])
  ·have hlt : k < 9223372036854775808 := Nat.lt_of_lt_of_le hk (Nat.pow_le_pow_right (by omega : 0 < 2) (by omega : f + 1 ≤ 63))
   have hst : L (o, a, (k : Int)) = some (.nx (if k % 2 = 1 then ZZ 285 o a else o, ZZ 285 a a, ((k / 2 : Nat) : Int))) := by
    rw [hL]
    have c1 : (k : Int) > 0 := by omega
    have e3 : ((((k % 2 : Nat) : Int)) == 1) = decide (k % 2 = 1) := by
     rw [Bool.eq_iff_iff, beq_iff_eq, decide_eq_true_eq]; omega
    simp only [c1, decide_true, if_true, tmod2, tdiv2, hT, e3, Option.bind_some, wr_nn (k / 2) (by omega)]
    by_cases c2 : k % 2 = 1 <;> simp [c2]
   rw [Xi hst, ih (k / 2) _ _ (by rw [Nat.pow_succ] at hk; omega) (by omega)]
   conv => rhs; unfold powC
   rw [if_neg h0]
theorem v_l02Power : W7 285 254 = some (vf 256 fun x => invC 285 (UInt8.ofNat x)) := by
 have hp := pow_swap (WJ 285) (Yv 285) (v_l01Times 285 (by omega) (by omega)) (fun s => by unfold WJ; rfl)
 have hp2 : ∀ a, ZF (WJ 285) (1, a, 254) = some (invC 285 a) := fun a => hp 8 254 a 1 (by omega) (by omega)
 have h1 := fill256 (WF 285 254) (fun x => invC 285 (UInt8.ofNat x)) (fun i hi a => by
  unfold WF
  simp only [lt256n hi, if_true, WZ, hp2, Option.bind_some, ZU _ hi, Int.toNat_natCast]) (fun v => by unfold WF; simp)
 unfold W7
 simp only [h1, Option.bind_some]
def rots (x : UInt8) : UInt8 := ((90 ^^^ x) ^^^ rotB 1 x) ^^^ rotB 4 x
theorem v_l02Rotations : XJ ([0, 1, 4] : List Int) 90 = some (vf 256 fun x => rots (UInt8.ofNat x)) := by
 have t0 : ∀ b, Xl b 0 = some b := fun b => by have := v_turn b 0 (by omega); rw [turn0] at this; exact this
 have t1 : ∀ b, Xl b 1 = some (rotB 1 b) := fun b => by have := v_turn b 1 (by omega); rw [turn1] at this; exact this
 have t4 : ∀ b, Xl b 4 = some (rotB 4 b) := fun b => by have := v_turn b 4 (by omega); rw [turn4] at this; exact this
 have w1 : wr 1 = 1 := by decide
 have w2 : wr 2 = 2 := by decide
 have w3 : wr 3 = 3 := by decide
 have hin : ∀ (s : Vector UInt8 256 × Int), ZF (Z8 [0, 1, 4] s) (90, 0) = some (rots (ZG s.2)) := by
  intro s
  rw [Xi (f := Z8 [0, 1, 4] s) (s := (90, 0)) (s' := (90 ^^^ ZG s.2, 1)) (by unfold Z8; simp [t0, w1, idx])]
  rw [Xi (f := Z8 [0, 1, 4] s) (s' := ((90 ^^^ ZG s.2) ^^^ rotB 1 (ZG s.2), 2)) (by unfold Z8; simp [t1, w2, idx])]
  rw [Xi (f := Z8 [0, 1, 4] s) (s' := (((90 ^^^ ZG s.2) ^^^ rotB 1 (ZG s.2)) ^^^ rotB 4 (ZG s.2), 3)) (by unfold Z8; simp [t4, w3, idx])]
  exact YQ (by unfold Z8; simp; rfl)
 have h1 := fill256 (Xn [0, 1, 4] 90) (fun x => rots (UInt8.ofNat x)) (fun i hi a => by
  unfold Xn
  simp only [lt256n hi, if_true, hin, WZ, Option.bind_some, ZU _ hi, Int.toNat_natCast]) (fun v => by unfold Xn; simp)
 unfold XJ
 simp only [h1, Option.bind_some]
theorem v_l02Then (f g : Nat → UInt8) : Vw (vf 256 f) (vf 256 g) = some (vf 256 fun x => g (f x).toNat) := by
 have hv : ∀ x : UInt8, ZM (vf 256 g) (bI x) = some (g x.toNat) := fun x => ZU g (UInt8.toNat_lt x)
 have h1 := fill256 (W4 (vf 256 f) (vf 256 g)) (fun x => g (f x).toNat) (fun i hi a => by
  unfold W4
  simp only [lt256n hi, if_true, Option.bind_some, ZU _ hi, hv, Int.toNat_natCast]) (fun v => by unfold W4; simp)
 unfold Vw
 simp only [h1, Option.bind_some]
theorem rots_house (x : UInt8) : rots (UInt8.ofNat (invC 285 x).toNat) = houseB x := by
 rw [UInt8.ofNat_toNat]
 unfold rots houseB
 ac_rfl
theorem v_l04House (n : Int) : Vb n = some (Ux n) := by
 have hinv : ∀ a, Ww 285 a = some (invC 285 a) := fun a => v_l01Inv 285 (by omega) (by omega) a
 have h2 := mix_fill (Ww 285) hinv VS VW (fun s t => by unfold VS; rfl) (fun s => by unfold VW; rfl)
 have h3 := place_fill VV (fun s => by unfold VV; rfl)
 unfold Vb Ux
 simp only [v_l02Power, v_l02Rotations, v_l02Then, rots_house, h2, h3, Option.bind_some]

theorem vf_list {α : Type} (n : Nat) (f : Nat → α) : (vf n f).toList = (List.range n).map f := by
 apply List.ext_getElem
 ·simp
 ·intro i h1 h2
  simp at h1
  rw [Vector.getElem_toList, vf_get f h1]; simp
theorem house_box : diffB ((List.range 256).map fun x => houseB (UInt8.ofNat x)) = true := by decide +kernel
theorem house_place : placesB (vf 16 fun i => UInt8.ofNat ((13 * i + 4) % 16)) = true := by
 unfold placesB
 rw [vf_list]
 decide +kernel
theorem house_field : isFieldB 285 = true := by decide +kernel
theorem house_det : (detC 285 (mf fun i j => invC 285 (UInt8.ofNat (i ^^^ (4 + j)))) != 0) = true := by decide +kernel
theorem house_is (n : Int) (h : 1 ≤ n ∧ n ≤ 20) : YA (Ux n) = true := by
 unfold YA Ux
 simp only [vf_list, house_box, house_place, house_field, Bool.true_and, h, decide_true, Bool.and_true, and_self]
 exact house_det
theorem v_concatByte (p0 : List (List UInt8)) (hl : p0.flatten.length ≤ 140737488355328) (hn : p0.length < 9223372036854775807) : Z5 p0 = some p0.flatten := by
 obtain ⟨a1, a2⟩ := concat_loops 1 p0 (YW p0) (YV p0) (fun s => by unfold YW; rfl) (fun s => by unfold YV; rfl) (by omega) (by omega) hn
 have hg : Yp (p0.flatten.length : Int) = some [] := by
  unfold Yp
  exact grow_nil 1 _ _ (by omega) (by omega)
 unfold Z5
 simp only [a1, a2, hg, Option.bind_some]
theorem v_cloneByte (l : List UInt8) (h : l.length ≤ 140737488355328) : Yo l = some l := by
 unfold Yo
 rw [app_ok (by simp; omega)]; rfl
theorem v_l01Copy (l : List UInt8) (h : l.length ≤ 140737488355328) : WW l = some l := by
 unfold WW
 rw [app_ok (by simp; omega)]; rfl
theorem toArr_vf {l : List UInt8} {n : Nat} (h : n ≤ l.length) : toArr n l = some (vf n fun j => l.getD j 0) := by
 unfold toArr
 rw [dif_pos h]
 refine congrArg some (UF fun i hi => ?_)
 rw [vf_get _ hi, List.getD_eq_getElem?_getD, List.getElem?_eq_getElem (by omega)]
 simp
theorem slc_getD {l : List UInt8} {i j : Nat} (h : i ≤ j) (h2 : j ≤ l.length) : ∃ r, slc l (i : Int) (j : Int) = some r ∧ r.length = j - i ∧ ∀ k, k < j - i → r.getD k 0 = l.getD (i + k) 0 := by
 refine ⟨_, slc_ok h h2, by simp; omega, fun k hk => ?_⟩
 rw [List.getD_eq_getElem?_getD, List.getD_eq_getElem?_getD, List.getElem?_drop, List.getElem?_take, if_pos (by omega)]

def beL (n : Int) : Nat → List UInt8
 | 0 => []
 | k + 1 => ZG (V9 n ((8 * k : Nat) : Int)) :: beL n k
theorem beL_len (n : Int) : ∀ k, (beL n k).length = k
 | 0 => rfl
 | k + 1 => by rw [beL, List.length_cons, beL_len n k]
theorem be_loop (n : Int) (L : List UInt8 × Int → Option (Fl (List UInt8 × Int) (List UInt8))) (K : Nat)
  (hL : ∀ (k : Nat) (acc : List UInt8), k < K → acc.length ≤ 100000000 → L (acc, (k : Int)) = some (.nx (acc ++ [ZG (V9 n ((8 * k : Nat) : Int))], (k : Int) - 1))) (he : ∀ acc, L (acc, -1) = some (.ex acc)) :
  ∀ (k : Nat) (acc : List UInt8), k ≤ K → acc.length + k ≤ 100000000 → ZF L (acc, (k : Int) - 1) = some (acc ++ beL n k) := by
 intro k
 induction k with
 | zero => intro acc _ _; rw [show ((0 : Nat) : Int) - 1 = -1 from rfl, YQ (he acc)]; simp [beL]
 | succ k ih =>
  intro acc hk hl
  have e : ((k + 1 : Nat) : Int) - 1 = (k : Int) := by omega
  rw [e, Xi (hL k acc (by omega) (by omega)), ih _ (by omega) (by simp; omega)]
  simp [beL]
theorem v_bigEndian (n : Int) (m : Nat) (hm : m ≤ 100) : XR n (m : Int) = some (beL n m) := by
 have h := be_loop n (Ws n) 100 (fun k acc hk hl => by
  unfold Ws
  have e1 : wr (8 * (k : Int)) = ((8 * k : Nat) : Int) := by rw [YG (by omega)]; omega
  have e2 : Xk ((8 * k : Nat) : Int) = some () := by unfold Xk; rw [if_pos (by omega)]
  have e3 : wr ((k : Int) - 1) = (k : Int) - 1 := YG (by omega)
  have e4 : decide ((k : Int) ≥ 0) = true := by simp
  simp only [e1, e2, e3, e4, if_true, Option.bind_some]
  rw [app_ok (by simp; omega)]; rfl) (fun acc => by unfold Ws; simp) m [] hm (by simp; omega)
 have e : wr ((m : Int) - 1) = (m : Int) - 1 := YG (by omega)
 unfold XR
 rw [e, h]; rfl
theorem and255 (x : Int) : ZG (andI x 255) = ZG x := by
 have h1 : (BitVec.ofInt 64 255) = (255 : BitVec 64) := rfl
 have h2 : (BitVec.ofInt 64 x &&& BitVec.ofInt 64 255).toNat = (x % 256).toNat := by
  rw [BitVec.toNat_and, h1, show (255 : BitVec 64).toNat = 2 ^ 8 - 1 from rfl, Nat.and_two_pow_sub_one_eq_mod, BitVec.toNat_ofInt]
  omega
 unfold andI ZG
 rw [h2, YG (by omega)]
 congr 1
 omega
def WM (n : Nat) : Nat := (24 - n % 16) % 16
def padC (d : List UInt8) : List UInt8 := ((d ++ [128]) ++ List.replicate (WM (d.length + 1)) 0) ++ beL (d.length : Int) 8
theorem padC_len (d : List UInt8) : ∃ n, (padC d).length = 16 * n ∧ n ≤ d.length + 2 := by
 have : (padC d).length = d.length + 1 + WM (d.length + 1) + 8 := by simp [padC, beL_len]; omega
 refine ⟨(d.length + 1 + WM (d.length + 1) + 8) / 16, ?_, ?_⟩
 ·rw [this]; unfold WM; omega
 ·unfold WM; omega
theorem pad_loop (L : List UInt8 → Option (Fl (List UInt8) (List UInt8))) (hL : ∀ s, L s = if ((Int.tmod (s.length : Int) 16) != 8) = true then ((app 1 s ([0] : List UInt8)).bind fun (_ : List UInt8) => some (Fl.nx (s ++ ([0] : List UInt8)))) else (some (Fl.ex s)))
  (l : List UInt8) (hl : l.length ≤ 100000000) : ZF L l = some (l ++ List.replicate (WM l.length) 0) := by
 have ht : ∀ n : Nat, Int.tmod (n : Int) 16 = ((n % 16 : Nat) : Int) := fun n => by rw [Int.tmod_eq_emod_of_nonneg (by omega)]; omega
 have := Z1 (f := L) (fun i : Nat => l ++ List.replicate i 0) 0 (WM l.length) (Nat.zero_le _) (t := l ++ List.replicate (WM l.length) 0) (fun i _ hi => by
  rw [hL, ht]
  have hz : WM l.length < 16 := by unfold WM; omega
  have e : ((((l ++ List.replicate i 0).length % 16 : Nat) : Int) != 8) = true := by
   simp only [List.length_append, List.length_replicate, bne_iff_ne, ne_eq]
   unfold WM at hi; omega
  rw [e, if_pos rfl, app_ok (by simp; omega)]
  simp [List.replicate_succ']) (by
  rw [hL, ht]
  have e : ((((l ++ List.replicate (WM l.length) 0).length % 16 : Nat) : Int) != 8) = false := by
   simp only [List.length_append, List.length_replicate, bne_eq_false_iff_eq]
   unfold WM; omega
  rw [e]; rfl)
 simpa using this
theorem v_padMessage (d : List UInt8) (h : d.length ≤ 10000000) : Wl d = some (padC d) := by
 have h1 := pad_loop W3 (fun s => by unfold W3; rfl) (d ++ [128]) (by simp; omega)
 have h2 := v_bigEndian (d.length : Int) 8 (by omega)
 have h3 : XR (d.length : Int) 8 = some (beL (d.length : Int) 8) := h2
 have hz : WM (d.length + 1) < 16 := by unfold WM; omega
 have e : (d ++ [128]).length = d.length + 1 := by simp
 rw [e] at h1
 unfold Wl padC
 rw [v_cloneByte d (by omega), Option.bind_some, app_ok (by simp; omega), Option.bind_some, h1, Option.bind_some, h3, Option.bind_some, app_ok (by simp [beL_len]; omega)]
 rfl
theorem v_l08Pad (d : List UInt8) (h : d.length ≤ 10000000) : Ud d = some (padC d) := by
 have h1 := pad_loop Uw (fun s => by unfold Uw; rfl) (d ++ [128]) (by simp; omega)
 have hz : WM (d.length + 1) < 16 := by unfold WM; omega
 have e : (d ++ [128]).length = d.length + 1 := by simp
 rw [e] at h1
 have h2 := be_loop (d.length : Int) (WU d) 100 (fun k acc hk hl => by
  unfold WU
  have e1 : wr (8 * (k : Int)) = ((8 * k : Nat) : Int) := by rw [YG (by omega)]; omega
  have e5 : IntKind.u64.wrap ((8 * k : Nat) : Int) = ((8 * k : Nat) : Int) := wru_nn _ (by omega)
  have e2 : Xk ((8 * k : Nat) : Int) = some () := by unfold Xk; rw [if_pos (by omega)]
  have e3 : wr ((k : Int) - 1) = (k : Int) - 1 := YG (by omega)
  have e4 : decide ((k : Int) ≥ 0) = true := by simp
  simp only [e1, e5, e2, e3, e4, if_true, Option.bind_some, and255]
  rw [app_ok (by simp; omega)]; rfl) (fun acc => by unfold WU; simp) 8 ((d ++ [128]) ++ List.replicate (WM (d.length + 1)) 0) (by omega) (by simp; omega)
 have h3 : ZF (WU d) ((d ++ [128]) ++ List.replicate (WM (d.length + 1)) 0, 7) = some (((d ++ [128]) ++ List.replicate (WM (d.length + 1)) 0) ++ beL (d.length : Int) 8) := h2
 unfold Ud padC
 rw [v_l01Copy d (by omega), Option.bind_some, app_ok (by simp; omega), Option.bind_some, h1, Option.bind_some, h3]
 rfl

def blkAt (l : List UInt8) (i : Nat) : Blk := vf 16 fun j => l.getD (16 * i + j) 0
def XD (l : List UInt8) (n : Nat) : List Blk := (List.range n).map (blkAt l)
theorem blocksC_len (l : List UInt8) (n : Nat) : (XD l n).length = n := by simp [XD]
theorem blocksC_succ (l : List UInt8) (n : Nat) : XD l (n + 1) = XD l n ++ [blkAt l n] := by simp [XD, List.range_succ]
theorem v_blocksOf (l : List UInt8) (n : Nat) (hl : l.length = 16 * n) (hn : n ≤ 100000000) : Ve l = some (XD l n) := by
 have := Z1 (f := XN l) (fun i : Nat => (XD l i, ((16 * i : Nat) : Int))) 0 n (Nat.zero_le _) (t := XD l n) (fun i _ hi => by
  unfold XN
  have e1 : wr (((16 * i : Nat) : Int) + 16) = ((16 * (i + 1) : Nat) : Int) := by rw [YG (by omega)]; omega
  have e2 : decide (((16 * i : Nat) : Int) < (l.length : Int)) = true := by simp; omega
  obtain ⟨r, r1, r2, r3⟩ := slc_getD (l := l) (i := 16 * i) (j := 16 * (i + 1)) (by omega) (by omega)
  have e3 : toArr 16 r = some (blkAt l i) := by
   rw [toArr_vf (by omega)]
   exact congrArg some (YJ fun j hj => r3 j (by omega))
  simp only [e1, e2, if_true, r1, e3, Option.bind_some]
  rw [app_ok (by rw [blocksC_len]; simp; omega), blocksC_succ]; rfl) (by
  unfold XN
  have e2 : decide (((16 * n : Nat) : Int) < (l.length : Int)) = false := by simp; omega
  simp only [e2, Bool.false_eq_true, if_false])
 have h2 : ZF (XN l) ([], 0) = _ := this
 unfold Ve
 rw [h2]; rfl
theorem v_l01Blocks (l : List UInt8) (n : Nat) (hl : l.length = 16 * n) (hn : n ≤ 100000000) : WS l = some (XD l n) := by
 have := Z1 (f := XB l) (fun i : Nat => (XD l i, ((16 * i : Nat) : Int))) 0 n (Nat.zero_le _) (t := XD l n) (fun i _ hi => by
  unfold XB
  have e1 : wr (((16 * i : Nat) : Int) + 16) = ((16 * (i + 1) : Nat) : Int) := by rw [YG (by omega)]; omega
  have e2 : decide (((16 * (i + 1) : Nat) : Int) ≤ (l.length : Int)) = true := by simp; omega
  have h3 := XP (Xv l (XD l i, ((16 * i : Nat) : Int))) (fun _ => 0) (fun j => l.getD (16 * i + j) 0) (by omega) 0 (by omega) (fun j hj => by omega) (fun j _ hj a _ _ => by
   unfold Xv
   have e4 : wr (((16 * i : Nat) : Int) + (j : Int)) = ((16 * i + j : Nat) : Int) := by rw [YG (by omega)]; omega
   have e5 : 16 * i + j < l.length := by omega
   simp only [lt16 hj, if_true, e4, YC, List.getElem?_eq_getElem e5, ZU _ hj, Option.bind_some, Int.toNat_natCast, List.getD_eq_getElem?_getD, Option.getD_some]) (fun v => by unfold Xv; simp)
  have h4 : ZF (Xv l (XD l i, ((16 * i : Nat) : Int))) (Vector.replicate 16 0, 0) = some (blkAt l i) := by rw [Ul]; exact h3
  simp only [e1, e2, if_true, h4, Option.bind_some]
  rw [app_ok (by rw [blocksC_len]; simp; omega), blocksC_succ]; rfl) (by
  unfold XB
  have e1 : wr (((16 * n : Nat) : Int) + 16) = ((16 * (n + 1) : Nat) : Int) := by rw [YG (by omega)]; omega
  have e2 : decide (((16 * (n + 1) : Nat) : Int) ≤ (l.length : Int)) = false := by simp; omega
  simp only [e1, e2, Bool.false_eq_true, if_false])
 have h2 : ZF (XB l) ([], 0) = _ := this
 unfold WS
 rw [h2]; rfl

abbrev Dig := Vector UInt8 32
def df (v : Dig) (i : Nat) : UInt8 := v[i]?.getD default
theorem vf_df (v : Dig) : v = vf 32 (df v) := vf_of v
def startV : Dig := vf 32 fun i => UInt8.ofNat (17 * i)
theorem lt32 {i : Nat} (h : i < 32) : decide ((i : Int) < 32) = true := by simp; omega
theorem v_Start : Xj = some startV := by
 have h := XP YE (fun _ => 0) (fun i => UInt8.ofNat (17 * i)) (by omega) 0 (by omega) (fun j hj => by omega) (fun i _ hi a _ _ => by
  unfold YE
  have e1 : wr (17 * (i : Int)) = ((17 * i : Nat) : Int) := by rw [YG (by omega)]; omega
  simp only [lt32 hi, if_true, ZU _ hi, Option.bind_some, e1, WZ, Int.toNat_natCast]) (fun v => by unfold YE; simp)
 have h2 : ZF YE (Vector.replicate 32 0, 0) = some startV := by rw [Ul]; exact h
 unfold Xj
 rw [h2]; rfl
theorem v_l08Start : Vf = some startV := by
 have h := XP XW (fun _ => 0) (fun i => UInt8.ofNat (17 * i)) (by omega) 0 (by omega) (fun j hj => by omega) (fun i _ hi a _ _ => by
  unfold XW
  have e1 : wr (17 * (i : Int)) = ((17 * i : Nat) : Int) := by rw [YG (by omega)]; omega
  have e2 : Int.tmod ((17 * i : Nat) : Int) 256 = ((17 * i % 256 : Nat) : Int) := by rw [Int.tmod_eq_emod_of_nonneg (by omega)]; omega
  simp only [lt32 hi, if_true, ZU _ hi, Option.bind_some, e1, e2, WZ, ofNat_mod, Int.toNat_natCast]) (fun v => by unfold XW; simp)
 have h2 : ZF XW (Vector.replicate 32 0, 0) = some startV := by rw [Ul]; exact h
 unfold Vf
 rw [h2]; rfl
def hiF (s : Nat → UInt8) : Nat → UInt8 := fun i => s (16 + i)
def joinF (f g : Nat → UInt8) : Nat → UInt8 := fun i => if i < 16 then f i else g (i - 16)
def halfC (c : GCipher) (k a : Nat → UInt8) : Nat → UInt8 := xorF (encC c k a c.Rounds.toNat) a
def absC (c : GCipher) (s m : Nat → UInt8) : Nat → UInt8 :=
 joinF (halfC c (hiF s) (xorF s m)) (halfC c (halfC c (hiF s) (xorF s m)) (xorF (hiF s) m))
theorem v_l08Halves (s : Nat → UInt8) : WP (vf 32 s) = some (vf 16 s, vf 16 (hiF s)) := by
 have := Z1 (f := Xu (vf 32 s)) (fun i : Nat => (vf 16 (fun j => if j < i then hiF s j else 0), vf 16 (fun j => if j < i then s j else 0), (i : Int))) 0 16 (by omega) (t := (vf 16 (hiF s), vf 16 s)) (fun i _ hi => by
  unfold Xu
  have e1 : wr (16 + (i : Int)) = ((16 + i : Nat) : Int) := by rw [YG (by omega)]; omega
  simp only [lt16 hi, if_true, e1, ZU _ (show i < 32 by omega), ZU _ (show 16 + i < 32 by omega), ZU _ hi, Option.bind_some, Int.toNat_natCast, UH, YX (show i < 9223372036854775807 by omega)]
  have e : ∀ f : Nat → UInt8, (vf 16 fun j => if j = i then f i else if j < i then f j else 0) = vf 16 fun j => if j < i + 1 then f j else 0 := fun f => YJ fun j _ => by
   by_cases h1 : j = i
   ·subst h1; simp
   ·by_cases h2 : j < i
    ·rw [if_neg h1, if_pos h2, if_pos (by omega)]
    ·rw [if_neg h1, if_neg h2, if_neg (by omega)]
  have ea := e (hiF s)
  have eb := e s
  rw [eb]
  have ea' : (vf 16 fun j => if j = i then s (16 + i) else if j < i then hiF s j else 0) = vf 16 fun j => if j < i + 1 then hiF s j else 0 := ea
  rw [ea']) (by
  unfold Xu
  simp only [show decide (((16 : Nat) : Int) < 16) = false from rfl, Bool.false_eq_true, if_false]
  refine congrArg (fun z => some (Fl.ex z)) (congr (congrArg Prod.mk (YJ fun j hj => by rw [if_pos hj])) (YJ fun j hj => by rw [if_pos hj])))
 have h2 : ZF (Xu (vf 32 s)) (vf 16 (fun _ => 0), vf 16 (fun _ => 0), 0) = some (vf 16 (hiF s), vf 16 s) := by
  have e0 : ∀ f : Nat → UInt8, (vf 16 fun j => if j < 0 then f j else 0) = vf 16 fun _ => 0 := fun f => YJ fun j _ => by simp
  simp only [e0] at this
  exact this
 unfold WP
 rw [Ul, h2]; rfl
theorem v_l08Absorb (c : GCipher) (h : YA c = true) (s m : Nat → UInt8) : XU c (vf 32 s) (vf 16 m) = some (vf 32 (absC c s m)) := by
 have hj : ∀ f g : Nat → UInt8, ZF (Xz (vf 16 f) (vf 16 g)) (Vector.replicate 32 0, 0) = some (vf 32 (joinF f g)) := by
  intro f g
  have := Z1 (f := Xz (vf 16 f) (vf 16 g)) (fun i : Nat => (vf 32 (fun j => if j < i then f j else if 16 ≤ j ∧ j < 16 + i then g (j - 16) else 0), (i : Int))) 0 16 (by omega) (t := vf 32 (joinF f g)) (fun i _ hi => by
   unfold Xz
   have e1 : wr (16 + (i : Int)) = ((16 + i : Nat) : Int) := by rw [YG (by omega)]; omega
   simp only [lt16 hi, if_true, e1, ZU _ (show i < 32 by omega), ZU _ (show 16 + i < 32 by omega), ZU _ hi, Option.bind_some, Int.toNat_natCast, UH, YX (show i < 9223372036854775807 by omega)]
   refine congrArg (fun z => some (Fl.nx (z, ((i + 1 : Nat) : Int)))) (YJ fun j hj => ?_)
   by_cases h1 : j = 16 + i
   ·subst h1
    rw [if_pos rfl, if_neg (by omega), if_pos (by omega)]
    congr 1; omega
   ·rw [if_neg h1]
    by_cases h2 : j = i
    ·subst h2; rw [if_pos rfl, if_pos (by omega)]
    ·rw [if_neg h2]
     by_cases h3 : j < i
     ·rw [if_pos h3, if_pos (by omega)]
     ·rw [if_neg h3, if_neg (show ¬ j < i + 1 by omega)]
      by_cases h4 : 16 ≤ j ∧ j < 16 + i
      ·rw [if_pos h4, if_pos (by omega)]
      ·rw [if_neg h4, if_neg (by omega)]) (by
   unfold Xz
   simp only [show decide (((16 : Nat) : Int) < 16) = false from rfl, Bool.false_eq_true, if_false]
   refine congrArg (fun z => some (Fl.ex z)) (YJ fun j hj => ?_)
   unfold joinF
   by_cases h3 : j < 16
   ·rw [if_pos h3, if_pos h3]
   ·rw [if_neg h3, if_neg h3, if_pos (by omega)])
  have e0 : (vf 32 fun j => if j < 0 then f j else if 16 ≤ j ∧ j < 16 + 0 then g (j - 16) else 0) = vf 32 fun _ => 0 := YJ fun j _ => by rw [if_neg (by omega), if_neg (by omega)]
  simp only [e0] at this
  rw [Ul]
  exact this
 unfold XU
 simp only [v_l08Halves, Option.bind_some, v_l01Xor, v_encipher_rounds c h, hj]
 rfl
theorem v_absorb (c : GCipher) (h : YA c = true) (s m : Nat → UInt8) : YN ⟨YT c⟩ (vf 32 s) (vf 16 m) = some (vf 32 (absC c s m)) := by
 have g1 : ∀ {n : Nat} (f : Nat → UInt8) (k : Nat), k < n → (vf n f).toList.getD k 0 = f k := fun f k hk => by
  rw [vf_list, List.getD_eq_getElem?_getD, List.getElem?_map, List.getElem?_range hk]; rfl
 have hl : ∀ {n : Nat} (f : Nat → UInt8), (vf n f).toList.length = n := fun f => by simp
 have cut : ∀ {n : Nat} (f : Nat → UInt8) (i j : Nat), i ≤ j → j ≤ n → ∃ r, slc (vf n f).toList (i : Int) (j : Int) = some r ∧ r.length = j - i ∧ toArr (j - i) r = some (vf (j - i) fun k => f (i + k)) ∧ ∀ k, k < j - i → r.getD k 0 = f (i + k) := by
  intro n f i j hij hjn
  obtain ⟨r, r1, r2, r3⟩ := slc_getD (l := (vf n f).toList) (i := i) (j := j) hij (by rw [hl]; exact hjn)
  have r4 : ∀ k, k < j - i → r.getD k 0 = f (i + k) := fun k hk => by rw [r3 k hk, g1 f (i + k) (by omega)]
  refine ⟨r, r1, r2, ?_, r4⟩
  rw [toArr_vf (by omega)]
  exact congrArg some (YJ r4)
 obtain ⟨l, l1, l2, l3, l4⟩ := cut (n := 32) s 0 16 (by omega) (by omega)
 obtain ⟨l', l1', l2', l3', l4'⟩ := cut (n := 32) s 16 32 (by omega) (by omega)
 have a1 : slc (vf 32 s).toList (0 : Int) (16 : Int) = some l := l1
 have a2 : slc (vf 32 s).toList (16 : Int) (32 : Int) = some l' := l1'
 have a3 : toArr 16 l = some (vf 16 s) := by
  have : toArr 16 l = some (vf 16 fun k => s (0 + k)) := l3
  rw [this]; exact congrArg some (YJ fun k _ => by rw [Nat.zero_add])
 have a4 : toArr 16 l' = some (vf 16 (hiF s)) := l3'
 have join : ∀ f g : Nat → UInt8, ((slc (vf 16 f).toList (0 : Int) (16 : Int)).bind fun (l56 : (List UInt8)) => (slc (vf 16 g).toList (0 : Int) (16 : Int)).bind fun (l59 : (List UInt8)) => (Z5 ([l56, l59] : (List (List UInt8)))).bind fun (r64 : (List UInt8)) => (toArr 32 r64).bind fun (x67 : (Vector UInt8 32)) => some x67 : Option ((Vector UInt8 32))) = some (vf 32 (joinF f g)) := by
  intro f g
  obtain ⟨p, p1, p2, _, p4⟩ := cut (n := 16) f 0 16 (by omega) (by omega)
  obtain ⟨q, q1, q2, _, q4⟩ := cut (n := 16) g 0 16 (by omega) (by omega)
  have b1 : slc (vf 16 f).toList (0 : Int) (16 : Int) = some p := p1
  have b2 : slc (vf 16 g).toList (0 : Int) (16 : Int) = some q := q1
  have b3 : Z5 [p, q] = some (p ++ q) := by
   have := v_concatByte [p, q] (by simp; omega) (by simp)
   simpa using this
  rw [b1, Option.bind_some, b2, Option.bind_some, b3, Option.bind_some, toArr_vf (by simp; omega), Option.bind_some]
  refine congrArg some (YJ fun k hk => ?_)
  unfold joinF
  rw [List.getD_eq_getElem?_getD]
  by_cases h1 : k < 16
  ·rw [if_pos h1, List.getElem?_append_left (by omega), ← List.getD_eq_getElem?_getD, p4 k (by omega), Nat.zero_add]
  ·rw [if_neg h1, List.getElem?_append_right (by omega), ← List.getD_eq_getElem?_getD, q4 (k - p.length) (by omega), Nat.zero_add, show p.length = 16 from p2]
 have in1 : ∀ k a : Nat → UInt8, ((Ym ⟨YT c⟩ (vf 16 k) (vf 16 a)).bind fun (r34 : (Vector UInt8 16)) => (Yl r34 (vf 16 a)).bind fun (r36 : (Vector UInt8 16)) => some r36 : Option (Vector UInt8 16)) = some (vf 16 (halfC c k a)) := fun k a => by
  rw [v_engine_encipher c h, Option.bind_some, Up, Option.bind_some]; rfl
 unfold YN
 rw [a1, Option.bind_some, a3, Option.bind_some, a2, Option.bind_some, a4, Option.bind_some, Up, Option.bind_some, in1, Option.bind_some, Up, Option.bind_some, in1, Option.bind_some, join, Option.bind_some]
 rfl

def absV (c : GCipher) (s : Dig) (m : Blk) : Dig := vf 32 (absC c (df s) (bf m))
theorem absV_vf (c : GCipher) (h : YA c = true) (s : Dig) (m : Blk) : YN ⟨YT c⟩ s m = some (absV c s m) ∧ XU c s m = some (absV c s m) := by
 have h1 := v_absorb c h (df s) (bf m)
 have h2 := v_l08Absorb c h (df s) (bf m)
 rw [← vf_df, ← vf_bf] at h1 h2
 exact ⟨h1, h2⟩
def digC (c : GCipher) (d : List UInt8) : Dig := (XD (padC d) ((padC d).length / 16)).foldl (absV c) startV
theorem v_digest (c : GCipher) (h : YA c = true) (ps : List (List UInt8)) (hl : ps.flatten.length ≤ 10000000) (hn : ps.length < 9223372036854775807) : Xr ⟨YT c⟩ ps = some (digC c ps.flatten) := by
 obtain ⟨n, n1, n2⟩ := padC_len ps.flatten
 have e : (padC ps.flatten).length / 16 = n := by omega
 have h1 := iter_fold (f := YF ⟨YT c⟩ (XD (padC ps.flatten) n)) (XD (padC ps.flatten) n) (fun (b : Dig) i => (b, i)) (absV c) startV (t := digC c ps.flatten) (by rw [blocksC_len]; omega) (fun i hi => by
  unfold YF
  simp only [Int.ofNat_lt, hi, decide_true, if_true, YC, List.getElem?_eq_getElem hi, Option.bind_some, (absV_vf c h _ _).1]) (by
  unfold YF digC
  rw [e]; simp)
 unfold Xr
 rw [v_Start, Option.bind_some, v_concatByte ps (by omega) hn, Option.bind_some, v_padMessage _ hl, Option.bind_some, v_blocksOf _ n n1 (by omega), Option.bind_some]
 have h2 : ZF (YF ⟨YT c⟩ (XD (padC ps.flatten) n)) (startV, 0) = _ := h1
 rw [h2]; rfl
theorem v_l08Of (c : GCipher) (h : YA c = true) (d : List UInt8) (hl : d.length ≤ 10000000) : UI c d = some (digC c d) := by
 obtain ⟨n, n1, n2⟩ := padC_len d
 have e : (padC d).length / 16 = n := by omega
 have h1 := iter_fold (f := Vk c (XD (padC d) n)) (XD (padC d) n) (fun (b : Dig) i => (b, i)) (absV c) startV (t := digC c d) (by rw [blocksC_len]; omega) (fun i hi => by
  unfold Vk
  simp only [Int.ofNat_lt, hi, decide_true, if_true, YC, List.getElem?_eq_getElem hi, Option.bind_some, (absV_vf c h _ _).2]) (by
  unfold Vk digC
  rw [e]; simp)
 unfold UI
 rw [v_l08Pad _ hl, Option.bind_some, v_l01Blocks _ n n1 (by omega), Option.bind_some, v_l08Start, Option.bind_some]
 have h2 : ZF (Vk c (XD (padC d) n)) (startV, 0) = _ := h1
 rw [h2]; rfl
theorem house8 : YA (Ux 8) = true := house_is 8 (by omega)
theorem v_house (n : Int) (h : 1 ≤ n ∧ n ≤ 20) : UA n = some ⟨YT (Ux n)⟩ := by
 unfold UA
 rw [v_houseCipher, Option.bind_some, v_newEngine _ (house_is n h)]; rfl
theorem slc_all (d : Dig) : slc d.toList (0 : Int) (32 : Int) = some d.toList := by
 have h1 : slc d.toList ((0 : Nat) : Int) ((32 : Nat) : Int) = _ := slc_ok (Nat.zero_le _) (by simp)
 have h2 : slc d.toList (0 : Int) (32 : Int) = _ := h1
 rw [h2, List.drop_zero, List.take_of_length_le (by simp)]
theorem cmp_eq0 : ∀ (a b : List UInt8), V6 a b = 0 ↔ a = b
 | [], [] => by simp [V6]
 | [], _ :: _ => by simp [V6]
 | _ :: _, [] => by simp [V6]
 | x :: a, y :: b => by
  unfold V6
  by_cases h1 : x < y
  ·have : x ≠ y := fun e => by subst e; exact absurd h1 (UInt8.lt_irrefl x)
   simp [h1, this]
  ·by_cases h2 : y < x
   ·have : x ≠ y := fun e => by subst e; exact absurd h2 (UInt8.lt_irrefl x)
    simp [h1, h2, this]
   ·have : x = y := by
     apply UInt8.toNat_inj.1
     rw [UInt8.lt_iff_toNat_lt] at h1 h2
     omega
    subst this
    simp only [h1, if_false, cmp_eq0 a b]
    simp
theorem cmp_trans : ∀ (a b c : List UInt8), V6 a b < 0 → V6 b c < 0 → V6 a c < 0
 | [], _, [], h1, h2 => by
  rename_i b
  cases b with
  | nil => exact h2
  | cons y b => simp [V6] at h2
 | [], _, _ :: _, _, _ => by simp [V6]
 | _ :: _, [], _, h1, _ => by simp [V6] at h1
 | _ :: _, _ :: _, [], _, h2 => by simp [V6] at h2
 | x :: a, y :: b, z :: c, h1, h2 => by
  unfold V6 at h1 h2 ⊢
  have ih := cmp_trans a b c
  simp only [UInt8.lt_iff_toNat_lt] at h1 h2 ⊢
  by_cases a1 : x.toNat < y.toNat
  ·by_cases b1 : y.toNat < z.toNat
   ·rw [if_pos (by omega)]; omega
   ·rw [if_neg b1] at h2
    by_cases b2 : z.toNat < y.toNat
    ·rw [if_pos b2] at h2; omega
    ·rw [if_pos (by omega)]; omega
  ·rw [if_neg a1] at h1
   by_cases a2 : y.toNat < x.toNat
   ·rw [if_pos a2] at h1; omega
   ·rw [if_neg a2] at h1
    by_cases b1 : y.toNat < z.toNat
    ·rw [if_pos (by omega)]; omega
    ·rw [if_neg b1] at h2
     by_cases b2 : z.toNat < y.toNat
     ·rw [if_pos b2] at h2; omega
     ·rw [if_neg b2] at h2
      rw [if_neg (by omega), if_neg (by omega)]
      exact ih h1 h2
def ltD (a b : Dig) : Bool := decide (V6 a.toList b.toList < 0)
theorem ltD_trans {a b c : Dig} (h1 : ltD a b = true) (h2 : ltD b c = true) : ltD a c = true := by
 unfold ltD at *
 simp only [decide_eq_true_eq] at *
 exact cmp_trans _ _ _ h1 h2
theorem v_compare (a b : Dig) : ZW a b = some (V6 a.toList b.toList) := by
 unfold ZW Uh
 simp only [slc_all, Option.bind_some]
theorem less_loop (a b : Dig) : ∀ (k i : Nat), i + k = 32 → ZF (XF a b) (i : Int) = some (if V6 (a.toList.drop i) (b.toList.drop i) = 0 then .nx () else .ex (decide (V6 (a.toList.drop i) (b.toList.drop i) < 0)))
 | 0, i, h => by
  have : i = 32 := by omega
  subst this
  have e1 : a.toList.drop 32 = [] := by simp
  have e2 : b.toList.drop 32 = [] := by simp
  rw [YQ (t := .nx ()) (by unfold XF; simp), e1, e2]
  simp [V6]
 | k + 1, i, h => by
  have hi : i < 32 := by omega
  have e1 : a.toList.drop i = a[i] :: a.toList.drop (i + 1) := by rw [List.drop_eq_getElem_cons (by simp; omega)]; simp
  have e2 : b.toList.drop i = b[i] :: b.toList.drop (i + 1) := by rw [List.drop_eq_getElem_cons (by simp; omega)]; simp
  have ih := less_loop a b k (i + 1) (by omega)
  have hst : XF a b (i : Int) = some (if a[i] = b[i] then .nx ((i + 1 : Nat) : Int) else .ex (.ex (decide (a[i] < b[i])))) := by
   unfold XF
   simp only [lt32 hi, if_true, We, Vector.getElem?_eq_getElem hi, Option.bind_some, YX (show i < 9223372036854775807 by omega)]
   by_cases hab : a[i] = b[i]
   ·simp [hab]
   ·have : (a[i] != b[i]) = true := by simpa using hab
    simp [hab, this]
  rw [e1, e2]
  unfold V6
  by_cases hab : a[i] = b[i]
  ·rw [if_pos hab] at hst
   rw [Xi hst, ih]
   have n1 : ¬ (a[i] < b[i]) := by rw [hab]; exact UInt8.lt_irrefl _
   have n2 : ¬ (b[i] < a[i]) := by rw [hab]; exact UInt8.lt_irrefl _
   simp only [n1, n2, if_false]
  ·rw [if_neg hab] at hst
   rw [YQ hst]
   by_cases n1 : a[i] < b[i]
   ·simp [n1]
   ·have n2 : b[i] < a[i] := by
     rw [UInt8.lt_iff_toNat_lt] at n1 ⊢
     have : a[i].toNat ≠ b[i].toNat := fun e => hab (UInt8.toNat_inj.1 e)
     omega
    simp [n1, n2]
theorem v_l09Less (a b : Dig) : X1 a b = some (ltD a b) := by
 have h := less_loop a b 32 0 (by omega)
 have h2 : ZF (XF a b) 0 = _ := h
 unfold X1 ltD
 rw [h2, List.drop_zero, List.drop_zero, Option.bind_some]
 by_cases h0 : V6 a.toList b.toList = 0
 ·rw [if_pos h0]
  simp [Fl.el, h0]
 ·rw [if_neg h0]; rfl
def ascB (l : List Dig) : Bool := !((List.range' 1 (l.length - 1)).any fun i => !ltD (l.getD (i - 1) default) (l.getD i default))
theorem asc_loop (l : List Dig) (hl : l.length < 9223372036854775807) (E : Dig → Dig → Option Bool) (hE : ∀ a b, E a b = some (!ltD a b)) (L : Int → Option (Fl Int (Fl Unit Bool)))
  (hL : ∀ s, L s = if (decide (s < (l.length : Int))) = true then (((idx l (wr (s - 1))).bind fun x => (idx l s).bind fun y => E x y : Option Bool).bind fun j10 => if j10 = true then (some (Fl.ex (Fl.ex false))) else (some (Fl.nx (wr (s + 1))))) else (some (Fl.ex (Fl.nx ())))) :
  ((ZF L 1 : Option (Fl Unit Bool)).bind fun j1 => j1.el (fun _ => some true) (fun r => some r)) = some (ascB l) := by
 by_cases h0 : l.length = 0
 ·have : l = [] := List.eq_nil_of_length_eq_zero h0
  subst this
  rw [YQ (t := .nx ()) (by rw [hL]; simp)]
  rfl
 have h := iter_hasM (f := L) l.length (fun i => !ltD (l.getD (i - 1) default) (l.getD i default)) false hl 1 (by omega) (fun i hm hi => by
  have e : wr ((i : Int) - 1) = ((i - 1 : Nat) : Int) := by rw [YG (by omega)]; omega
  have e1 : i - 1 < l.length := by omega
  rw [hL, e]
  simp only [Int.ofNat_lt, hi, decide_true, if_true, YC, List.getElem?_eq_getElem hi, List.getElem?_eq_getElem e1, Option.bind_some, hE, List.getD_eq_getElem?_getD, Option.getD_some]
  split <;> rfl) (by rw [hL]; simp)
 have h2 : ZF L 1 = _ := h
 rw [h2, Option.bind_some]
 unfold ascB
 cases (List.range' 1 (l.length - 1)).any fun i => !ltD (l.getD (i - 1) default) (l.getD i default) <;> rfl
theorem v_ascends (l : List Dig) (hl : l.length < 9223372036854775807) : VF l = some (ascB l) := by
 unfold VF
 exact asc_loop l hl (fun a b => (ZW a b).bind fun r => some (decide (r ≥ 0))) (fun a b => by
  rw [v_compare]; unfold ltD
  simp only [Option.bind_some]
  congr 1
  by_cases h : V6 a.toList b.toList < 0
  ·have : ¬ (V6 a.toList b.toList ≥ 0) := by omega
   simp [h, this]
  ·have : V6 a.toList b.toList ≥ 0 := by omega
   simp [h, this]) _ (fun s => by unfold L0_impl_ascends; rfl)
theorem v_l09Ascending (l : List Dig) (hl : l.length < 9223372036854775807) : XK l = some (ascB l) := by
 unfold XK
 exact asc_loop l hl (fun a b => (X1 a b).bind fun r => some (!r)) (fun a b => by rw [v_l09Less]; rfl) _ (fun s => by unfold VO; rfl)
theorem asc_pair {l : List Dig} (h : ascB l = true) : l.Pairwise fun a b => ltD a b = true := by
 have h1 : ∀ i (hi : i + 1 < l.length), ltD l[i] l[i + 1] = true := by
  intro i hi
  unfold ascB at h
  simp only [Bool.not_eq_true', List.any_eq_false, List.mem_range'_1] at h
  have := h (i + 1) (by omega)
  simpa [List.getD_eq_getElem?_getD, List.getElem?_eq_getElem hi, List.getElem?_eq_getElem (show i < l.length by omega)] using this
 rw [List.pairwise_iff_getElem]
 intro i j hi hj hij
 have key : ∀ (k : Nat) (hk : i + 1 + k < l.length), ltD l[i] l[i + 1 + k] = true := by
  intro k
  induction k with
  | zero => intro hk; exact h1 i hk
  | succ k ih => intro hk; exact ltD_trans (ih (by omega)) (h1 (i + 1 + k) hk)
 have := key (j - (i + 1)) (by omega)
 have e : i + 1 + (j - (i + 1)) = j := by omega
 simpa only [e] using this

def W2 (l : List Dig) (d : Dig) : Nat := l.countP fun k => ltD k d
theorem low_le (l : List Dig) (d : Dig) : W2 l d ≤ l.length := List.countP_le_length
theorem low_at {l : List Dig} (h : l.Pairwise fun a b => ltD a b = true) (d : Dig) : ∀ i (hi : i < l.length), ltD l[i] d = decide (i < W2 l d) := by
 induction l with
 | nil => intro i hi; simp at hi
 | cons k l ih =>
  have h2 := List.pairwise_cons.1 h
  intro i hi
  cases hk : ltD k d with
  | true =>
   have e : W2 (k :: l) d = W2 l d + 1 := by unfold W2; rw [List.countP_cons]; simp [hk]
   rw [e]
   cases i with
   | zero => simpa using hk
   | succ i =>
    have hi' : i < l.length := by simpa using hi
    rw [List.getElem_cons_succ, ih h2.2 i hi']
    rw [decide_eq_decide]; omega
  | false =>
   have hno : ∀ x ∈ l, ltD x d = false := by
    intro x hx
    cases hxd : ltD x d with
    | false => rfl
    | true => rw [ltD_trans (h2.1 x hx) hxd] at hk; cases hk
   have e : W2 (k :: l) d = 0 := by
    unfold W2
    rw [List.countP_eq_zero]
    intro x hx
    rcases List.mem_cons.1 hx with rfl | hx
    ·simp [hk]
    ·simp [hno x hx]
   rw [e]
   cases i with
   | zero => simpa using hk
   | succ i =>
    have hi' : i < l.length := by simpa using hi
    rw [List.getElem_cons_succ, hno _ (List.getElem_mem hi')]; simp
theorem v_l09Place (l : List Dig) (d : Dig) (hl : l.length < 1000000) : W5 l d = some (W2 l d : Int) := by
 have hc : ∀ i, W2 (l.take i) d ≤ 1000000 := fun i => by have := low_le (l.take i) d; rw [List.length_take] at this; omega
 have := Z1 (f := X0 l d) (fun i : Nat => ((W2 (l.take i) d : Nat), (i : Int))) 0 l.length (Nat.zero_le _) (t := ((W2 l d : Nat) : Int)) (fun i _ hi => by
  have hci := hc i
  unfold X0
  simp only [Int.ofNat_lt, hi, decide_true, if_true, YC, List.getElem?_eq_getElem hi, Option.bind_some, v_l09Less, YX (show i < 9223372036854775807 by omega)]
  have e : W2 (l.take (i + 1)) d = W2 (l.take i) d + (if ltD l[i] d then 1 else 0) := by
   unfold W2
   rw [List.take_succ_eq_append_getElem hi, List.countP_append]
   congr 1
   rw [List.countP_cons]; simp
  rw [e]
  cases ltD l[i] d with
  | true =>
   simp only [if_true, Option.bind_some]
   rw [YX (by omega)]
  | false => simp) (by unfold X0; simp)
 have h2 : ZF (X0 l d) (0, 0) = _ := this
 unfold W5
 rw [h2]; rfl
theorem search_loop (l : List Dig) (hp : l.Pairwise fun a b => ltD a b = true) (d : Dig) (hl : l.length < 1000000) : ∀ (n lo hi : Nat), hi - lo ≤ n → lo ≤ W2 l d → W2 l d ≤ hi → hi ≤ l.length →
  ZF (ZB l d fun z0 z1 => ZW z0 z1) ((hi : Int), (lo : Int)) = some ((W2 l d : Nat) : Int) := by
 intro n
 induction n with
 | zero =>
  intro lo hi h1 h2 h3 h4
  have : lo = W2 l d := by omega
  have hge : ¬ (W2 l d < hi) := by omega
  refine YQ ?_
  unfold ZB
  simp [hge, this]
 | succ n ih =>
  intro lo hi h1 h2 h3 h4
  by_cases hlt : lo < hi
  ·have e1 : wr ((lo : Int) + (hi : Int)) = ((lo + hi : Nat) : Int) := by rw [YG (by omega)]; omega
   have e2 : IntKind.u64.wrap ((lo + hi : Nat) : Int) = ((lo + hi : Nat) : Int) := wru_nn _ (by omega)
   have e3 : V9 ((lo + hi : Nat) : Int) 1 = (((lo + hi) / 2 : Nat) : Int) := by
    have := shrI_nat (lo + hi) 1 (by omega)
    rw [Nat.shiftRight_eq_div_pow] at this
    exact this
   have e4 : IntKind.i64.wrap (((lo + hi) / 2 : Nat) : Int) = (((lo + hi) / 2 : Nat) : Int) := wr_nn _ (by omega)
   have hm : (lo + hi) / 2 < l.length := by omega
   have hat := low_at hp d _ hm
   unfold ltD at hat
   have hst : ZB l d (fun z0 z1 => ZW z0 z1) ((hi : Int), (lo : Int)) = some (.nx (if (lo + hi) / 2 < W2 l d then ((hi : Int), (((lo + hi) / 2 + 1 : Nat) : Int)) else ((((lo + hi) / 2 : Nat) : Int), (lo : Int)))) := by
    unfold ZB
    have c1 : decide ((lo : Int) < (hi : Int)) = true := by simp; omega
    simp only [c1, if_true, e1, e2, e3, e4, YC, List.getElem?_eq_getElem hm, Option.bind_some, v_compare, hat]
    by_cases c : (lo + hi) / 2 < W2 l d
    ·simp only [c, decide_true, if_true, Option.bind_some]
     rw [YX (by omega)]
    ·simp [c]
   rw [Xi hst]
   by_cases c : (lo + hi) / 2 < W2 l d
   ·rw [if_pos c]
    exact ih _ _ (by omega) (by omega) h3 h4
   ·rw [if_neg c]
    exact ih _ _ (by omega) h2 (by omega) (by omega)
  ·exact ih lo hi (by omega) h2 h3 h4
def foundB (l : List Dig) (d : Dig) : Bool := l[W2 l d]? == some d
theorem found_at {l : List Dig} {d : Dig} (h : foundB l d = true) : W2 l d < l.length := by
 unfold foundB at h
 simp only [beq_iff_eq] at h
 exact (List.getElem?_eq_some_iff.1 h).1
theorem v_search (l : List Dig) (hp : l.Pairwise fun a b => ltD a b = true) (d : Dig) (hl : l.length < 1000000) : ZJ l d (fun z0 z1 => ZW z0 z1) = some ((W2 l d : Int), foundB l d) := by
 have h := search_loop l hp d hl l.length 0 l.length (by omega) (Nat.zero_le _) (low_le l d) (Nat.le_refl _)
 have h2 : ZF (ZB l d fun z0 z1 => ZW z0 z1) ((l.length : Int), 0) = _ := h
 unfold ZJ foundB
 rw [h2, Option.bind_some]
 by_cases c : W2 l d < l.length
 ·simp only [Int.ofNat_lt, c, decide_true, if_true, YC, List.getElem?_eq_getElem c, Option.bind_some, v_compare]
  refine congrArg (fun z => some (((W2 l d : Nat) : Int), z)) ?_
  rw [Bool.eq_iff_iff, beq_iff_eq, beq_iff_eq, cmp_eq0]
  constructor
  ·intro h; rw [Vector.toList_inj.1 h]
  ·intro h; rw [Option.some.inj h]
 ·simp [c, List.getElem?_eq_none (show l.length ≤ W2 l d by omega)]
theorem v_l09Find (b : GBlobs) (d : Dig) (hl : b.Keys.length < 1000000) : VB b d = some (if foundB b.Keys d then (W2 b.Keys d : Int) else -1) := by
 unfold VB foundB
 rw [v_l09Place b.Keys d hl, Option.bind_some]
 by_cases c : W2 b.Keys d < b.Keys.length
 ·simp only [Int.ofNat_lt, c, decide_true, if_true, YC, List.getElem?_eq_getElem c, Option.bind_some]
  by_cases e : b.Keys[W2 b.Keys d] = d
  ·simp [e]
  ·simp [e]
 ·simp [c, List.getElem?_eq_none (show b.Keys.length ≤ W2 b.Keys d by omega)]

def digH (d : List UInt8) : Dig := digC (Ux 8) d
theorem v_l08Digest (d : List UInt8) (h : d.length ≤ 10000000) : WG d = some (digH d) := by
 unfold WG
 rw [v_l04House, Option.bind_some, v_l08Of _ house8 d h]; rfl
def blobBad (b : GBlobs) (i : Nat) : Bool := !decide ((b.Data.getD i []).length ≤ 2000) || !decide ((1 : Int) ≤ b.Counts.getD i 0 ∧ b.Counts.getD i 0 ≤ 1000000) || !decide (digH (b.Data.getD i []) = b.Keys.getD i default)
def VG (b : GBlobs) : Bool := decide (b.Keys.length ≤ 32) && decide (b.Data.length = b.Keys.length) && decide (b.Counts.length = b.Keys.length) && ascB b.Keys && !((List.range' 0 (b.Keys.length - 0)).any (blobBad b))
theorem v_isBlobs (b : GBlobs) (hk : b.Keys.length < 9223372036854775807) : Xb ⟨⟨YT (Ux 8)⟩⟩ b = some (VG b) := by
 unfold Xb VG
 by_cases h1 : b.Keys.length ≤ 32
 ·have c1 : ¬ ((b.Keys.length : Int) > 32) := by omega
  by_cases h2 : b.Data.length = b.Keys.length
  ·by_cases h3 : b.Counts.length = b.Keys.length
   ·have c2 : ((b.Data.length : Int) != (b.Keys.length : Int)) = false := by simp [h2]
    have c3 : ((b.Counts.length : Int) != (b.Keys.length : Int)) = false := by simp [h3]
    simp only [c1, c2, c3, decide_false, Bool.false_eq_true, if_false, v_ascends b.Keys hk, Option.bind_some, h1, h2, h3, decide_true, Bool.true_and, bne_self_eq_false]
    cases ascB b.Keys with
    | false => simp
    | true =>
     have h := iter_has (f := Yy ⟨⟨YT (Ux 8)⟩⟩ b) b.Keys.length (blobBad b) false hk (fun i hi => by
      have d1 : i < b.Data.length := by omega
      have d2 : i < b.Counts.length := by omega
      unfold Yy blobBad F_impl_isData
      simp only [h2, Int.ofNat_lt, hi, decide_true, if_true, YC, List.getElem?_eq_getElem d1, List.getElem?_eq_getElem d2, List.getElem?_eq_getElem hi, Option.bind_some, v_inRange, List.getD_eq_getElem?_getD, Option.getD_some]
      by_cases g1 : b.Data[i].length ≤ 2000
      ·have g1' : ((b.Data[i].length : Int) ≤ 2000) := by omega
       by_cases g2 : (1 : Int) ≤ b.Counts[i] ∧ b.Counts[i] ≤ 1000000
       ·have hd := v_digest (Ux 8) house8 [b.Data[i]] (by simp; omega) (by simp)
        have ef : ([b.Data[i]] : List (List UInt8)).flatten = b.Data[i] := by simp
        rw [ef] at hd
        simp only [g1, g1', g2, decide_true, Bool.not_true, Bool.false_eq_true, if_false, hd, Option.bind_some, Bool.false_or, and_self]
        unfold digH
        by_cases g3 : digC (Ux 8) b.Data[i] = b.Keys[i] <;> simp [g3]
       ·simp only [g1, g1', g2, decide_true, decide_false, Bool.not_true, Bool.not_false, Bool.false_eq_true, if_false, if_true, Option.bind_some, Bool.false_or, Bool.true_or]
      ·have g1' : ¬ ((b.Data[i].length : Int) ≤ 2000) := by omega
       simp only [g1, g1', decide_false, Bool.not_false, if_true, Option.bind_some, Bool.true_or]) (by unfold Yy; simp [h2]) 0 (Nat.zero_le _)
     have h5 : ZF (Yy ⟨⟨YT (Ux 8)⟩⟩ b) 0 = _ := h
     simp only [Bool.not_true, Bool.false_eq_true, if_false, h5, Option.bind_some, Bool.true_and]
     cases (List.range' 0 (b.Keys.length - 0)).any (blobBad b) <;> rfl
   ·have c2 : ((b.Data.length : Int) != (b.Keys.length : Int)) = false := by simp [h2]
    have c3 : ((b.Counts.length : Int) != (b.Keys.length : Int)) = true := by simp; omega
    simp [c1, c2, c3, h3]
  ·have c2 : ((b.Data.length : Int) != (b.Keys.length : Int)) = true := by simp; omega
   simp [c1, c2, h2]
 ·have c1 : ((b.Keys.length : Int) > 32) := by omega
  simp [c1, h1]
theorem v_impl_IsBlobs (b : GBlobs) (hk : b.Keys.length < 9223372036854775807) : VK b = some (VG b) := by
 unfold VK VT
 rw [v_house 8 (by omega), Option.bind_some, Option.bind_some, v_isBlobs b hk]; rfl
theorem v_l09Is (b : GBlobs) (hk : b.Keys.length < 9223372036854775807) : UC b = some (VG b) := by
 unfold UC VG
 by_cases h1 : b.Keys.length ≤ 32
 ·have c1 : ¬ ((b.Keys.length : Int) > 32) := by omega
  by_cases h2 : b.Data.length = b.Keys.length
  ·by_cases h3 : b.Counts.length = b.Keys.length
   ·have c2 : ((b.Data.length : Int) != (b.Keys.length : Int)) = false := by simp [h2]
    have c3 : ((b.Counts.length : Int) != (b.Keys.length : Int)) = false := by simp [h3]
    simp only [c1, c2, c3, decide_false, Bool.false_eq_true, if_false, v_l09Ascending b.Keys hk, Option.bind_some, h1, h2, h3, decide_true, Bool.true_and, bne_self_eq_false]
    cases ascB b.Keys with
    | false => simp
    | true =>
     have h := iter_has (f := Vl b) b.Keys.length (blobBad b) false hk (fun i hi => by
      have d1 : i < b.Data.length := by omega
      have d2 : i < b.Counts.length := by omega
      unfold Vl blobBad
      simp only [Int.ofNat_lt, hi, decide_true, if_true, YC, List.getElem?_eq_getElem d1, List.getElem?_eq_getElem d2, List.getElem?_eq_getElem hi, Option.bind_some, List.getD_eq_getElem?_getD, Option.getD_some]
      by_cases g1 : b.Data[i].length ≤ 2000
      ·have g1' : ¬ ((b.Data[i].length : Int) > 2000) := by omega
       by_cases g2 : (1 : Int) ≤ b.Counts[i]
       ·have g2' : ¬ (b.Counts[i] < 1) := by omega
        by_cases g4 : b.Counts[i] ≤ 1000000
        ·have g4' : ¬ (b.Counts[i] > 1000000) := by omega
         simp only [g1, g1', g2, g2', g4, g4', decide_true, decide_false, Bool.not_true, Bool.false_eq_true, if_false, v_l08Digest b.Data[i] (by omega), Option.bind_some, Bool.false_or, and_self]
         by_cases g3 : digH b.Data[i] = b.Keys[i] <;> simp [g3]
        ·have g4' : b.Counts[i] > 1000000 := by omega
         simp [g1, g1', g2, g2', g4, g4']
       ·have g2' : b.Counts[i] < 1 := by omega
        simp [g1, g1', g2, g2']
      ·have g1' : ((b.Data[i].length : Int) > 2000) := by omega
       simp [g1, g1']) (by unfold Vl; simp) 0 (Nat.zero_le _)
     have h5 : ZF (Vl b) 0 = _ := h
     simp only [Bool.not_true, Bool.false_eq_true, if_false, h5, Option.bind_some, Bool.true_and]
     cases (List.range' 0 (b.Keys.length - 0)).any (blobBad b) <;> rfl
   ·have c2 : ((b.Data.length : Int) != (b.Keys.length : Int)) = false := by simp [h2]
    have c3 : ((b.Counts.length : Int) != (b.Keys.length : Int)) = true := by simp; omega
    simp [c1, c2, c3, h3]
  ·have c2 : ((b.Data.length : Int) != (b.Keys.length : Int)) = true := by simp; omega
   simp [c1, c2, h2]
 ·have c1 : ((b.Keys.length : Int) > 32) := by omega
  simp [c1, h1]
theorem blobs_ok {b : GBlobs} (h : VG b = true) : b.Keys.length ≤ 32 ∧ b.Data.length = b.Keys.length ∧ b.Counts.length = b.Keys.length ∧ ascB b.Keys = true ∧ ∀ i (hi : i < b.Data.length), b.Data[i].length ≤ 2000 := by
 unfold VG at h
 simp only [Bool.and_eq_true, decide_eq_true_eq, Bool.not_eq_true', List.any_eq_false, List.mem_range'_1] at h
 refine ⟨h.1.1.1.1, h.1.1.1.2, h.1.1.2, h.1.2, fun i hi => ?_⟩
 have := h.2 i (by omega)
 unfold blobBad at this
 simp only [List.getD_eq_getElem?_getD, List.getElem?_eq_getElem hi, Option.getD_some, Bool.or_eq_true, Bool.not_eq_true', decide_eq_false_iff_not, not_or, Classical.not_not] at this
 exact this.1.1

def getC (b : GBlobs) (d : Dig) : List UInt8 × Int := if VG b then (if foundB b.Keys d then (b.Data.getD (W2 b.Keys d) [], 0) else ([], 4)) else ([], 1)
theorem v_impl_GetBlob (b : GBlobs) (hk : b.Keys.length < 9223372036854775807) (d : Dig) : WT b d = some (getC b d) := by
 unfold WT Vr getC
 rw [v_impl_IsBlobs b hk, Option.bind_some]
 cases hb : VG b with
 | false => rfl
 | true =>
  obtain ⟨h1, h2, h3, h4, h5⟩ := blobs_ok hb
  simp only [Bool.not_true, Bool.false_eq_true, if_false, v_search b.Keys (asc_pair h4) d (by omega), Option.bind_some, if_true]
  cases hf : foundB b.Keys d with
  | false => rfl
  | true =>
   have hi := found_at hf
   have hi2 : W2 b.Keys d < b.Data.length := by omega
   have := h5 _ hi2
   simp only [Bool.not_true, Bool.false_eq_true, if_false, Option.bind_some, bne_self_eq_false, YC, List.getElem?_eq_getElem hi2, v_cloneByte _ (show b.Data[W2 b.Keys d].length ≤ 140737488355328 by omega), if_true, List.getD_eq_getElem?_getD, Option.getD_some]
theorem v_spec_GetBlob (b : GBlobs) (hk : b.Keys.length < 9223372036854775807) (d : Dig) : Vx b d = some (getC b d) := by
 unfold Vx getC
 rw [v_l09Is b hk, Option.bind_some]
 cases hb : VG b with
 | false => rfl
 | true =>
  obtain ⟨h1, h2, h3, h4, h5⟩ := blobs_ok hb
  simp only [Bool.not_true, Bool.false_eq_true, if_false, v_l09Find b d (by omega), Option.bind_some, if_true]
  cases hf : foundB b.Keys d with
  | false => rfl
  | true =>
   have hi := found_at hf
   have hi2 : W2 b.Keys d < b.Data.length := by omega
   have := h5 _ hi2
   have c : ¬ (((W2 b.Keys d : Nat) : Int) < 0) := by omega
   simp only [if_true, c, decide_false, Bool.false_eq_true, if_false, Option.bind_some, YC, List.getElem?_eq_getElem hi2, v_l01Copy _ (show b.Data[W2 b.Keys d].length ≤ 140737488355328 by omega), List.getD_eq_getElem?_getD, Option.getD_some]

instance : Wt GBlobs := ⟨fun x => Wt.wt x.Keys + (Wt.wt x.Data + Wt.wt x.Counts), fun x => Wt.ln x.Keys ∧ Wt.ln x.Data ∧ Wt.ln x.Counts, fun x h => ⟨Wt.bdln x.Keys h.1, Wt.bdln x.Data h.2.1, Wt.bdln x.Counts h.2.2⟩,
 fun x h => ⟨Wt.wtln x.Keys (by omega), Wt.wtln x.Data (by omega), Wt.wtln x.Counts (by omega)⟩⟩
theorem wt_blobs (x : GBlobs) : Wt.wt x = Wt.wt x.Keys + (Wt.wt x.Data + Wt.wt x.Counts) := rfl
theorem v_toDigestS (l : List Dig) (h : Wt.wt l ≤ 1048576) : WQ l = some l := by
 have := wt_len l
 unfold WQ
 have := copy_loop l YH id 32 (Vector.replicate 32 0) (Vs l) (fun s => by unfold Vs; rfl) (fun x _ => v_toDigest x) (by omega) (by omega)
 simpa using this
theorem v_toInt64S (l : List Int) (h : Wt.wt l ≤ 1048576) : Vi l = some l := by
 have := wt_len l
 unfold Vi
 have := copy_loop l (fun x => some x) id 8 0 (V1 l) (fun s => by unfold V1; rfl) (fun _ _ => rfl) (by omega) (by omega)
 simpa using this
theorem v_eqDigestS (l : List Dig) (h : Wt.ln l) : WO l l = some true := by
 unfold WO
 exact eq_loop l (fun x y => (Wd x y).bind fun r => some (!r)) (Vt l l) (fun s => by unfold Vt; rfl) (fun x _ => by simp [v_eqDigest x]) (ln_len h)
theorem v_szDigestS (l : List Dig) (h : Wt.ln l) : Weighs XY l :=
 weigh_flat (fun _ => rfl) XY (fun left => by unfold XY; rfl) (ln_len h)
theorem v_szInt64S (l : List Int) (h : Wt.ln l) : Weighs Y6 l :=
 weigh_flat (fun _ => rfl) Y6 (fun left => by unfold Y6; rfl) (ln_len h)
theorem v_toBlobs (x : GBlobs) (h : Wt.wt x ≤ 1048576) : Xm x = some x := by
 rw [wt_blobs] at h
 unfold Xm
 simp [v_toDigestS x.Keys (by omega), v_toByteSS x.Data (by omega), v_toInt64S x.Counts (by omega)]
theorem v_eqBlobs (x : GBlobs) (h : Wt.ln x) : VJ x x = some true := by
 unfold VJ
 simp [v_eqDigestS x.Keys h.1, v_eqByteSS x.Data h.2.1, v_eqInt64S x.Counts h.2.2]
theorem v_szBlobs (x : GBlobs) (h : Wt.ln x) : Weighs UD x := by
 intro left h1 h2
 have h3 : Weighs (fun (y : List Int) r => (Y6 y r).bind fun r => if decide (r < 0) = true then some (-1) else some r) x.Counts := fun left h1 h2 => weigh_end (v_szInt64S x.Counts h.2.2 left h1 h2)
 have h4 : Weighs (α := List (List UInt8) × List Int) (fun y r => (XE y.1 r).bind fun r => if decide (r < 0) = true then some (-1) else (Y6 y.2 r).bind fun r => if decide (r < 0) = true then some (-1) else some r) (x.Data, x.Counts) := fun left h1 h2 => weigh_then (v_szByteSS x.Data h.2.1) h3 left h1 h2
 exact weigh_then (v_szDigestS x.Keys h.1) h4 left h1 h2
theorem g_markDigestS (l : List (Vector UInt8 32)) (h : Wt.ln l) : MarkGo X2 l (l.map fun _ => 32).sum :=
 mark_go X2 XI (fun _ => 32) (fun _ _ => rfl) l (ln_len h) (fun l' i k hi _ _ h0 hk => by
  unfold XI
  have h1 := mark_arr (n := 32) (fun x : Vector UInt8 32 => x) (fun _ v => v) i i rfl (Wy (l', k, (i : Int))) (fun s => by unfold Wy; rfl) (fun _ _ => rfl) (fun _ _ _ => rfl) (fun _ => rfl) (by omega) l' hi k h0 (by omega)
  refine ⟨markV 32 k, ?_⟩
  simp only [Int.ofNat_lt, hi, decide_true, if_true, h1, Option.bind_some]
  try rfl) (fun l' k => by unfold XI; simp)
theorem g_markInt64S (l : List Int) (h : Wt.ln l) : MarkGo Wp l (l.map fun _ => 1).sum :=
 mark_go Wp X3 (fun _ => 1) (fun _ _ => rfl) l (ln_len h) (fun l' i k hi _ _ h0 hk => by
  have e := wr_k (k := k) h0 (by omega)
  refine ⟨k, ?_⟩
  unfold X3
  simp only [Int.ofNat_lt, hi, decide_true, if_true, YC, List.getElem?_eq_getElem hi, Option.bind_some, Int.toNat_natCast, e]; rfl) (fun l' k => by unfold X3; simp)
theorem g_markByteSS (l : List (List UInt8)) (h : Wt.ln l) : MarkGo Wo l (l.map fun x => (x.map fun _ => 1).sum).sum :=
 mark_go Wo X4 (fun x => (x.map fun _ => 1).sum) (fun _ _ => rfl) l (ln_len h) (fun l' i k hi hx _ h0 hk => by
  obtain ⟨d', d1⟩ := g_markByteS l'[i] (ln_mem h hx) k h0 hk
  refine ⟨d', ?_⟩
  unfold X4
  simp only [Int.ofNat_lt, hi, decide_true, if_true, YC, List.getElem?_eq_getElem hi, Option.bind_some, Int.toNat_natCast, d1]) (fun l' k => by unfold X4; simp)
def mkBlobs (x : GBlobs) : Nat := (x.Keys.map fun _ => 32).sum + ((x.Data.map fun x => (x.map fun _ => 1).sum).sum + (x.Counts.map fun _ => 1).sum)
theorem mkBlobs_le (x : GBlobs) : mkBlobs x ≤ 50 * Wt.wt x := by
 have h1 := sum_le_wt (fun _ : Vector UInt8 32 => 32) 50 (fun _ => by omega) x.Keys
 have h2 := sum_le_wt (fun x : List UInt8 => (x.map fun _ => 1).sum) 50 (fun x => by rw [sum_one, wt_bytes]; omega) x.Data
 have h3 := sum_le_wt (fun _ : Int => 1) 50 (fun _ => by omega) x.Counts
 rw [wt_blobs]; unfold mkBlobs; omega
theorem g_markBlobs (x : GBlobs) (h : Wt.ln x) : MarkGo WX x (mkBlobs x) := by
 intro k h0 hk
 unfold mkBlobs at hk
 obtain ⟨a, h1⟩ := g_markDigestS x.Keys h.1 k h0 (by omega)
 obtain ⟨b, h2⟩ := g_markByteSS x.Data h.2.1 _ (by omega : (0 : Int) ≤ k + ((x.Keys.map fun _ => 32).sum : Nat)) (by omega)
 obtain ⟨c, h3⟩ := g_markInt64S x.Counts h.2.2 _ (by omega : (0 : Int) ≤ k + ((x.Keys.map fun _ => 32).sum : Nat) + ((x.Data.map fun x => (x.map fun _ => 1).sum).sum : Nat)) (by omega)
 refine ⟨⟨a, b, c⟩, ?_⟩
 unfold WX mkBlobs
 simp only [h1, h2, h3, Option.bind_some]
 refine congrArg (fun z => some (_, z)) ?_
 omega
theorem getC_len (b : GBlobs) (d : Dig) : (getC b d).1.length ≤ 2000 := by
 unfold getC
 cases hb : VG b with
 | false => simp
 | true =>
  cases hf : foundB b.Keys d with
  | false => simp
  | true =>
   obtain ⟨h1, h2, h3, h4, h5⟩ := blobs_ok hb
   have hi := found_at hf
   have hi2 : W2 b.Keys d < b.Data.length := by omega
   simpa [List.getD_eq_getElem?_getD, List.getElem?_eq_getElem hi2] using h5 _ hi2
theorem law_FnExactGetBlob (b : GBlobs) (d : Dig) (h : Dat.bd b) (_ : Dat.bd d) : Wb b d = some true := by
 unfold Wb
 refine weighed (v_szBlobs b (Wt.bdln b h)) (by omega) (by omega) fun r _ _ hw => ?_
 have hw : Wt.wt b ≤ 1048576 := by omega
 have hl := Wt.wtln b hw
 have hkl : b.Keys.length < 9223372036854775807 := by
  have := wt_len b.Keys
  rw [wt_blobs] at hw
  omega
 have hr := getC_len b d
 have hle := mkBlobs_le b
 have hln : Wt.ln (getC b d).1 := Wt.wtln _ (by rw [wt_bytes]; omega)
 obtain ⟨x', m1⟩ := g_markBlobs b hl 1 (by omega) (by omega)
 obtain ⟨r', m2, m3⟩ := v_markByteS (getC b d).1 hln 1 (by omega) (by rw [sum_one]; omega)
 have e1 : ¬ ((1 : Int) + (mkBlobs b : Nat) < 0) := by omega
 have e2 : ¬ ((1 : Int) + (((getC b d).1.map fun _ => 1).sum : Nat) < 0) := by omega
 simp [v_toBlobs b hw, v_toDigest, v_spec_GetBlob b hkl, v_impl_GetBlob b hkl, v_eqBlobs b hl, v_eqByteS (getC b d).1 hln, m1, m2, m3, e1, e2]
end Go.Proofs.Ytifdeoikcebbjaa
