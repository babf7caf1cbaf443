/- Plain laws, no program in sight. -/
import Derived.Test.YtifdeoikcebbjaaGreatC4
set_option linter.unusedVariables false
set_option linter.unusedSimpArgs false
set_option maxRecDepth 20000
set_option maxHeartbeats 400000
namespace Go.Proofs.YtifdeoikcebbjaaGreat
open Go
open Flat (enc)
theorem Bi {α : Type} {l : List α} {i : Nat} (h : i < l.length) : idx l (i : Int) = some l[i] := by
 unfold idx
 rw [if_pos (by omega)]
 simp
theorem YO {i : Nat} (h : i < 9223372036854775807) : wr ((i : Int) + 1) = ((i + 1 : Nat) : Int) := by
 rw [YI (by omega)]; rfl

section
variable {S T : Type} {f : S → Option (Fl S T)}
theorem qe (g : Nat → S) (m n : Nat) (hmn : m ≤ n) (h : ∀ i, m ≤ i → i < n → f (g i) = some (.nx (g (i + 1)))) : ZG f (g m) = ZG f (g n) := by
  induction n with
  | zero => have : m = 0 := by omega
            subst this; rfl
  | succ n ih =>
    rcases Nat.lt_or_ge m (n + 1) with h1 | h1
    · rw [ih (by omega) (fun i h2 h3 => h i h2 (by omega)), Wj (h n (by omega) (by omega))]
    · have : m = n + 1 := by omega
      subst this; rfl
theorem Z1 (g : Nat → S) (m n : Nat) (hmn : m ≤ n) {t : T} (h : ∀ i, m ≤ i → i < n → f (g i) = some (.nx (g (i + 1)))) (he : f (g n) = some (.ex t)) : ZG f (g m) = some t := by
 rw [qe g m n hmn h, XX he]
theorem QK (g : Nat → S) (p : Nat → Bool) (t : Nat → T) {e : T} (n : Nat) : ∀ (k m : Nat), m + k = n → (∀ i, m ≤ i → i < n → f (g i) = some (if p i then .ex (t i) else .nx (g (i + 1)))) → f (g n) = some (.ex e) →
  ZG f (g m) = some (((List.range' m k).find? p).elim e t)
 | 0, m, hk, _, he => by
  have : m = n := by omega
  subst this
  rw [XX he]; rfl
 | k + 1, m, hk, h, he => by
  have h1 := h m (Nat.le_refl _) (by omega)
  rw [List.range'_succ, List.find?_cons]
  cases hp : p m with
  | true => rw [hp] at h1; rw [XX h1]; rfl
  | false =>
   rw [hp] at h1
   rw [Wj h1, QK g p t n k (m + 1) (by omega) (fun i h2 h3 => h i (by omega) h3) he]
end

theorem zY {T : Type} {f : Int → Option (Fl Int (Fl Unit T))} (p : Nat → Bool) {t : T} {n m : Nat} (hm : m ≤ n)
  (h : ∀ i, m ≤ i → i < n → f (i : Int) = some (if p i then .ex (.ex t) else .nx ((i + 1 : Nat) : Int))) (he : f (n : Int) = some (.ex (.nx ()))) :
  ZG f (m : Int) = some (if (List.range' m (n - m)).any p then .ex t else .nx ()) := by
 rw [QK (fun i : Nat => (i : Int)) p (fun _ => .ex t) n (n - m) m (by omega) h he]
 cases hf : (List.range' m (n - m)).find? p with
 | none =>
  have : (List.range' m (n - m)).any p = false := by
   rw [List.any_eq_false]
   rw [List.find?_eq_none] at hf
   exact hf
  rw [this]; rfl
 | some i =>
  have : (List.range' m (n - m)).any p = true := by
   rw [List.any_eq_true]
   exact ⟨i, List.mem_of_find?_eq_some hf, List.find?_some hf⟩
  rw [this]; rfl
theorem jB {p : Nat → Bool} {m n : Nat} : (List.range' m (n - m)).any p = true ↔ ∃ i, m ≤ i ∧ i < n ∧ p i = true := by
 rw [List.any_eq_true]
 simp only [List.mem_range'_1]
 constructor
 ·rintro ⟨i, ⟨h1, h2⟩, h3⟩; exact ⟨i, h1, by omega, h3⟩
 ·rintro ⟨i, h1, h2, h3⟩; exact ⟨i, ⟨h1, by omega⟩, h3⟩
theorem kX {α : Type} {q : α → Bool} {l : List α} {p : Nat → Bool} (hp : ∀ i (h : i < l.length), p i = q l[i]) : (List.range' 0 (l.length - 0)).any p = l.any q := by
 rw [Bool.eq_iff_iff, jB, List.any_eq_true]
 constructor
 ·rintro ⟨i, _, h, h3⟩; exact ⟨l[i], List.getElem_mem h, by rw [← hp i h]; exact h3⟩
 ·rintro ⟨x, hx, h⟩
  obtain ⟨i, hi, rfl⟩ := List.mem_iff_getElem.1 hx
  exact ⟨i, Nat.zero_le _, hi, by rw [hp i hi]; exact h⟩

theorem jF {T α : Type} {f : Int → Option (Fl Int (Fl Unit T))} (l : List α) (q : α → Bool) {t : T} (hl : l.length < 9223372036854775807)
  (h : ∀ i (hi : i < l.length), f (i : Int) = some (if q l[i] then .ex (.ex t) else .nx (wr ((i : Int) + 1)))) (he : f (l.length : Int) = some (.ex (.nx ()))) :
  ZG f 0 = some (if l.any q then .ex t else .nx ()) := by
 have := zY (f := f) (fun i => if hi : i < l.length then q l[i] else false) (t := t) (n := l.length) (m := 0) (Nat.zero_le _) (fun i _ hi => by
  rw [h i hi, YO (by omega)]; simp [hi]) he
 rw [kX (q := q) (fun i hi => by simp [hi])] at this
 exact this

class Wt (α : Type) [Dat α] where
 wt : α → Nat
 ln : α → Prop
 bdln : ∀ x, Dat.bd x → ln x
 wtln : ∀ x, wt x ≤ 1048576 → ln x
instance : Wt Int := ⟨fun _ => 0, fun _ => True, fun _ _ => trivial, fun _ _ => trivial⟩
instance : Wt UInt8 := ⟨fun _ => 0, fun _ => True, fun _ _ => trivial, fun _ _ => trivial⟩
instance : Wt Bool := ⟨fun _ => 0, fun _ => True, fun _ _ => trivial, fun _ _ => trivial⟩
instance : Wt Str := ⟨fun s => s.l.length, fun s => s.l.length ≤ 9223372036854775807, fun _ h => h, fun _ h => by omega⟩
instance {n : Nat} : Wt (Vector UInt8 n) := ⟨fun _ => 0, fun _ => True, fun _ _ => trivial, fun _ _ => trivial⟩
instance {n m : Nat} : Wt (Vector (Vector UInt8 m) n) := ⟨fun _ => 0, fun _ => True, fun _ _ => trivial, fun _ _ => trivial⟩
theorem jh {α : Type} {f : α → Nat} {l : List α} {x : α} (h : x ∈ l) : f x ≤ (l.map f).sum := by
 induction l with
 | nil => cases h
 | cons y l ih =>
  rw [List.map_cons, List.sum_cons]
  rcases List.mem_cons.1 h with rfl | h
  ·omega
  ·have := ih h; omega
instance {α : Type} [Dat α] [Wt α] : Wt (List α) := ⟨fun l => l.length + (l.map Wt.wt).sum, fun l => l.length ≤ 9223372036854775807 ∧ ∀ x ∈ l, Wt.ln x, fun _ h => ⟨h.1, fun x hx => Wt.bdln x (h.2 x hx)⟩,
 fun l h => ⟨by omega, fun x hx => Wt.wtln x (by have := jh (f := Wt.wt) hx; omega)⟩⟩
instance {α β : Type} [Dat α] [Dat β] [Wt α] [Wt β] : Wt (α × β) := ⟨fun x => Wt.wt x.1 + Wt.wt x.2, fun x => Wt.ln x.1 ∧ Wt.ln x.2, fun x h => ⟨Wt.bdln x.1 h.1, Wt.bdln x.2 h.2⟩, fun x h => ⟨Wt.wtln x.1 (by omega), Wt.wtln x.2 (by omega)⟩⟩
theorem KI {α : Type} [Dat α] [Wt α] (l : List α) : Wt.wt l = l.length + (l.map Wt.wt).sum := rfl
theorem wt_mem {α : Type} [Dat α] [Wt α] {l : List α} {x : α} (h : x ∈ l) : Wt.wt x ≤ (l.map Wt.wt).sum := jh h
theorem qn {α : Type} [Dat α] [Wt α] {l : List α} {x : α} (h : x ∈ l) : Wt.wt x ≤ Wt.wt l := by
 have := wt_mem h; rw [KI]; omega
theorem A1 {α : Type} [Dat α] [Wt α] (l : List α) : l.length ≤ Wt.wt l := by rw [KI]; omega
theorem VW {α : Type} [Dat α] [Wt α] {l : List α} (h : Wt.ln l) : l.length ≤ 9223372036854775807 := h.1
theorem yJ {α : Type} [Dat α] [Wt α] {l : List α} {x : α} (h : Wt.ln l) (hx : x ∈ l) : Wt.ln x := h.2 x hx

theorem KE {α β : Type} (p0 : List α) (c : α → Option β) (g : α → β) (by_ : Nat) (z : β) (L : List β × Int → Option (Fl (List β × Int) (List β)))
  (hL : ∀ s, L s = if (decide (s.2 < (p0.length : Int))) = true then ((idx p0 s.2).bind fun x => (c x).bind fun r => (idx s.1 s.2).bind fun _ => some (Fl.nx ((s.1.set (s.2).toNat r), wr (s.2 + 1)))) else (some (Fl.ex s.1)))
  (hc : ∀ x ∈ p0, c x = some (g x)) (hl : p0.length * by_ ≤ 140737488355328) (hl' : p0.length < 9223372036854775807) :
  ((mkS by_ z (p0.length : Int)).bind fun l1 => (ZG L (l1, 0) : Option (List β)).bind fun j => some j) = some (p0.map g) := by
 have hm : mkS by_ z (p0.length : Int) = some (List.replicate p0.length z) := by
  have h3 : ((p0.length * by_ : Nat) : Int) ≤ ((140737488355328 : Nat) : Int) := Int.ofNat_le.2 hl
  rw [Int.natCast_mul] at h3
  unfold mkS
  rw [if_pos ⟨by omega, h3⟩, Int.toNat_natCast]
 rw [hm]
 simp only [Option.bind_some]
 have hrun := Z1 (f := L) (fun i : Nat => ((p0.take i).map g ++ List.replicate (p0.length - i) z, (i : Int))) 0 p0.length (Nat.zero_le _) (t := p0.map g) (fun i _ hi => by
  rw [hL]
  simp only [Int.ofNat_lt, hi, decide_true, if_true, Bi hi, Option.bind_some, hc _ (List.getElem_mem hi)]
  rw [Bi (by simp; omega)]
  simp only [Option.bind_some, YO (show i < 9223372036854775807 by omega), Int.toNat_natCast]
  congr 3
  rw [List.set_append_right _ _ (by simp; omega)]
  have e1 : p0.length - i = (p0.length - (i + 1)) + 1 := by omega
  have e2 : i - ((p0.take i).map g).length = 0 := by simp; omega
  rw [e1, List.replicate_succ, e2, List.set_cons_zero]
  rw [List.take_succ_eq_append_getElem hi, List.map_append, List.append_assoc]
  rfl) (by
  rw [hL]
  simp)
 simp at hrun
 simp [hrun]

theorem Bc {α : Type} (p0 : List α) (ne : α → α → Option Bool) (L : Int → Option (Fl Int (Fl Unit Bool)))
  (hL : ∀ s, L s = if (decide (s < (p0.length : Int))) = true then (((idx p0 s).bind fun x => (idx p0 s).bind fun y => ne x y : Option Bool).bind fun j => if j = true then (some (Fl.ex (Fl.ex false))) else (some (Fl.nx (wr (s + 1))))) else (some (Fl.ex (Fl.nx ()))))
  (hn : ∀ x ∈ p0, ne x x = some false) (hl : p0.length ≤ 9223372036854775807) :
  (if ((p0.length : Int) != (p0.length : Int)) = true then (some false) else ((ZG L 0 : Option (Fl Unit Bool)).bind fun j2 => j2.el (fun _ => some true) (fun r => some r))) = some true := by
 have := Z1 (f := L) (fun i : Nat => (i : Int)) 0 p0.length (Nat.zero_le _) (t := .nx ()) (fun i _ hi => by
  rw [hL]
  simp only [Int.ofNat_lt, hi, decide_true, if_true, Bi hi, Option.bind_some, hn _ (List.getElem_mem hi)]
  simp [YO (show i < 9223372036854775807 by omega)]) (by
  rw [hL]; simp)
 have h2 : ZG L 0 = some (.nx ()) := this
 simp [h2, Fl.el]

def Tx {α : Type} [Dat α] [Wt α] (f : α → Int → Option Int) (x : α) : Prop := ∀ left : Int, 0 ≤ left → left ≤ 1048576 → ∃ r, f x left = some r ∧ r ≤ 1048576 ∧ (0 ≤ r → r + Wt.wt x ≤ left)
theorem K4 {α : Type} [Dat α] [Wt α] {l : List α} (h0 : ∀ x : α, Wt.wt x = 0) (f : List α → Int → Option Int)
  (hf : ∀ left, f l left = if (decide ((wr (left - (l.length : Int))) < 0)) = true then (some (-1)) else (some (wr (left - (l.length : Int))))) (hl : l.length ≤ 9223372036854775807) : Tx f l := by
 intro left h1 h2
 have hs : (l.map Wt.wt).sum = 0 := by
  clear hf hl
  induction l with
  | nil => rfl
  | cons x l ih => rw [List.map_cons, List.sum_cons, h0, ih]
 have hw : Wt.wt l = l.length := by rw [KI, hs]; rfl
 rw [hf, YI (by omega), hw]
 by_cases h : left - (l.length : Int) < 0
 ·exact ⟨-1, by simp [h], by omega, by omega⟩
 ·exact ⟨left - l.length, by simp [h], by omega, by omega⟩
theorem yv {α : Type} [Dat α] [Wt α] {p0 : List α} (f : List α → Int → Option Int) (c : α → Int → Option Int) (L : Int × Int → Option (Fl (Int × Int) (Fl Int Int)))
  (hL : ∀ s, L s = if (decide (s.2 < (p0.length : Int))) = true then ((idx p0 s.2).bind fun x => (c x s.1).bind fun r => if (decide (r < 0)) = true then (some (Fl.ex (Fl.ex (-1)))) else (some (Fl.nx (r, wr (s.2 + 1))))) else (some (Fl.ex (Fl.nx s.1))))
  (hf : ∀ left, f p0 left = if (decide ((wr (left - (p0.length : Int))) < 0)) = true then (some (-1)) else ((ZG L (wr (left - (p0.length : Int)), 0) : Option (Fl Int Int)).bind fun j2 => j2.el (fun s => some s) (fun r => some r)))
  (hl : p0.length ≤ 9223372036854775807) (hc : ∀ x ∈ p0, Tx c x) : Tx f p0 := by
 intro left h1 h2
 rw [hf, YI (by omega)]
 by_cases h : left - (p0.length : Int) < 0
 ·exact ⟨-1, by simp [h], by omega, by omega⟩
 simp only [h, decide_false, Bool.false_eq_true, if_false]
 have key : ∀ (k m : Nat) (a : Int), m + k = p0.length → 0 ≤ a → a ≤ 1048576 → ∃ o : Fl Int Int, ZG L (a, (m : Int)) = some o ∧ ((o = .ex (-1)) ∨ ∃ r, o = .nx r ∧ 0 ≤ r ∧ r + (((p0.drop m).map Wt.wt).sum : Nat) ≤ a) := by
  intro k
  induction k with
  | zero =>
   intro m a hm h0 h3
   have : m = p0.length := by omega
   subst this
   refine ⟨.nx a, ?_, .inr ⟨a, rfl, h0, ?_⟩⟩
   ·rw [XX (t := .nx a)]; rw [hL]; simp
   ·simp
  | succ k ih =>
   intro m a hm h0 h3
   have hi : m < p0.length := by omega
   obtain ⟨r, e1, e2, e3⟩ := hc _ (List.getElem_mem hi) a h0 h3
   have hst : L (a, (m : Int)) = (if (decide (r < 0)) = true then (some (Fl.ex (Fl.ex (-1)))) else (some (Fl.nx (r, ((m + 1 : Nat) : Int))))) := by
    rw [hL]
    simp only [Int.ofNat_lt, hi, decide_true, if_true, Bi hi, Option.bind_some, e1, YO (show m < 9223372036854775807 by omega)]
   by_cases hr : r < 0
   ·simp only [hr, decide_true, if_true] at hst
    exact ⟨_, XX hst, .inl rfl⟩
   ·simp only [hr, decide_false, Bool.false_eq_true, if_false] at hst
    obtain ⟨o, k1, k2⟩ := ih (m + 1) r (by omega) (by omega) e2
    refine ⟨o, by rw [Wj hst]; exact k1, k2.imp id ?_⟩
    rintro ⟨q, rfl, q1, q2⟩
    refine ⟨q, rfl, q1, ?_⟩
    have e3 := e3 (by omega)
    rw [List.drop_eq_getElem_cons hi, List.map_cons, List.sum_cons]
    omega
 obtain ⟨o, k1, k2⟩ := key p0.length 0 (left - p0.length) (by omega) (by omega) (by omega)
 have k1' : ZG L (left - (p0.length : Int), 0) = some o := k1
 rw [k1']
 rcases k2 with rfl | ⟨r, rfl, q1, q2⟩
 ·exact ⟨-1, rfl, by omega, by omega⟩
 ·refine ⟨r, rfl, by omega, fun _ => ?_⟩
  rw [List.drop_zero] at q2
  rw [KI]; omega
@[simp] theorem YE {α : Type} (l : List α) (i : Nat) : idx l (i : Int) = l[i]? := by unfold idx; simp
@[simp] theorem idx_zero {α : Type} (l : List α) : idx l (0 : Int) = l[0]? := YE l 0
theorem ye {T : Type} {f : Int → Option (Fl Int (Fl Unit T))} (n : Nat) (p : Nat → Bool) (t : Nat → T) (hn : n < 9223372036854775807)
  (h : ∀ i, i < n → f (i : Int) = some (if p i then .ex (.ex (t i)) else .nx (wr ((i : Int) + 1)))) (he : f (n : Int) = some (.ex (.nx ()))) (m : Nat) (hm : m ≤ n) :
  ZG f (m : Int) = some (match (List.range' m (n - m)).find? p with | some i => .ex (t i) | none => .nx ()) := by
 rw [QK (fun i : Nat => (i : Int)) p (fun i => .ex (t i)) n (n - m) m (by omega) (fun i _ hi => by rw [h i hi, YO (by omega)]) he]
 cases (List.range' m (n - m)).find? p <;> rfl
theorem kO {T : Type} {f : Int → Option (Fl Int (Fl Unit T))} (n : Nat) (p : Nat → Bool) (t : T) (hn : n < 9223372036854775807)
  (h : ∀ i, i < n → f (i : Int) = some (if p i then .ex (.ex t) else .nx (wr ((i : Int) + 1)))) (he : f (n : Int) = some (.ex (.nx ()))) (m : Nat) (hm : m ≤ n) :
  ZG f (m : Int) = some (if (List.range' m (n - m)).any p then .ex t else .nx ()) :=
 zY p hm (fun i _ hi => by rw [h i hi, YO (by omega)]) he
theorem Hk {α β S T : Type} {f : S → Option (Fl S T)} (l : List α) (pack : β → Int → S) (g : β → α → β) (b0 : β) {t : T} (hn : l.length < 9223372036854775807)
  (h : ∀ i (hi : i < l.length), f (pack ((l.take i).foldl g b0) (i : Int)) = some (.nx (pack (g ((l.take i).foldl g b0) l[i]) (wr ((i : Int) + 1))))) (he : f (pack (l.foldl g b0) (l.length : Int)) = some (.ex t)) :
  ZG f (pack b0 0) = some t := by
 have := Z1 (f := f) (fun i : Nat => pack ((l.take i).foldl g b0) (i : Int)) 0 l.length (Nat.zero_le _) (t := t) (fun i _ hi => by
  rw [h i hi, YO (by omega)]
  congr 3
  rw [List.take_succ_eq_append_getElem hi, List.foldl_append]; rfl) (by rw [List.take_length]; exact he)
 simpa using this
theorem Ag {α β : Type} (g : α → β) (l : List α) (acc : List β) : l.foldl (fun b x => b ++ [g x]) acc = acc ++ l.map g := by
 induction l generalizing acc with
 | nil => simp
 | cons x l ih => simp [ih]
theorem kD {α β T : Type} {f : List β × Int → Option (Fl (List β × Int) T)} (l : List α) (g : α → β) {t : T} (hn : l.length < 9223372036854775807)
  (h : ∀ i (hi : i < l.length), f ((l.take i).map g, (i : Int)) = some (.nx ((l.take i).map g ++ [g l[i]], wr ((i : Int) + 1)))) (he : f (l.map g, (l.length : Int)) = some (.ex t)) :
  ZG f ([], 0) = some t := by
 have e : ∀ m : List α, m.foldl (fun b x => b ++ [g x]) [] = m.map g := fun m => by rw [Ag]; rfl
 exact Hk (f := f) l (fun b i => (b, i)) (fun b x => b ++ [g x]) [] hn (fun i hi => by simp only [e]; exact h i hi) (by simp only [e]; exact he)
theorem XE {α : Type} {by_ : Nat} {l m : List α} (h : (l.length + m.length) * by_ ≤ 140737488355328) : app by_ l m = some (l ++ m) := by unfold app; rw [if_pos h]
theorem Jo {α : Type} {l : List α} {i j : Nat} (h : i ≤ j) (h2 : j ≤ l.length) : slc l (i : Int) (j : Int) = some ((l.take j).drop i) := by
 unfold slc; rw [if_pos (by omega)]; simp

theorem Tp {α : Type} {n : Nat} {v w : Vector α n} (h : ∀ i (hi : i < n), v[i] = w[i]) : v = w := Vector.ext h
@[simp] theorem WT {α : Type} {n : Nat} (v : Vector α n) (i : Nat) : ZM v (i : Int) = v[i]? := by unfold ZM; simp
theorem zF {n : Nat} (p0 : Vector UInt8 n) (L : Vector UInt8 n × Int → Option (Fl (Vector UInt8 n × Int) (Vector UInt8 n)))
  (hL : ∀ s, L s = if decide (s.2 < (n : Int)) = true then ((ZM p0 s.2).bind fun x => (ZM s.1 s.2).bind fun _ => some (Fl.nx (s.1.setIfInBounds (s.2).toNat x, wr (s.2 + 1)))) else (some (Fl.ex s.1))) (hn : n < 9223372036854775807) (z : Vector UInt8 n) :
  ZG L (z, 0) = some p0 := by
 have := Z1 (f := L) (fun i : Nat => (Vector.ofFn fun j : Fin n => if j.1 < i then p0[j] else z[j], (i : Int))) 0 n (Nat.zero_le _) (t := p0) (fun i _ hi => by
  rw [hL]
  simp only [Int.ofNat_lt, hi, decide_true, if_true, WT, Vector.getElem?_eq_getElem hi, Option.bind_some, Int.toNat_natCast, YO (show i < 9223372036854775807 by omega)]
  congr 3
  apply Tp
  intro j hj
  rw [Vector.getElem_setIfInBounds]
  simp only [Vector.getElem_ofFn, Fin.getElem_fin]
  by_cases h : i = j
  ·subst h; simp
  ·by_cases h2 : j < i
   ·simp [h, h2, show j < i + 1 by omega]
   ·simp [h, h2, show ¬ j < i + 1 by omega]) (by
  rw [hL]
  simp only [Int.ofNat_lt, Nat.lt_irrefl, decide_false, Bool.false_eq_true, if_false]
  congr 2
  apply Tp
  intro j hj
  simp [hj])
 have h0 : (Vector.ofFn fun j : Fin n => if j.1 < 0 then p0[j] else z[j]) = z := by
  apply Tp
  intro j hj
  simp
 rw [h0] at this
 exact this
theorem ky {n : Nat} (p0 : Vector UInt8 n) (L : Int → Option (Fl Int (Fl Unit Bool)))
  (hL : ∀ s, L s = if decide (s < (n : Int)) = true then (((ZM p0 s).bind fun x => (ZM p0 s).bind fun y => some (x != y) : Option Bool).bind fun j => if j = true then (some (Fl.ex (Fl.ex false))) else (some (Fl.nx (wr (s + 1))))) else (some (Fl.ex (Fl.nx ())))) (hn : n < 9223372036854775807) :
  ((ZG L 0 : Option (Fl Unit Bool)).bind fun j5 => j5.el (fun _ => some true) (fun r => some r)) = some true := by
 have := Z1 (f := L) (fun i : Nat => (i : Int)) 0 n (Nat.zero_le _) (t := .nx ()) (fun i _ hi => by
  rw [hL]
  simp only [Int.ofNat_lt, hi, decide_true, if_true, WT, Vector.getElem?_eq_getElem hi, Option.bind_some]
  simp [YO (show i < 9223372036854775807 by omega)]) (by rw [hL]; simp)
 have h2 : ZG L 0 = some (.nx ()) := this
 rw [h2]; rfl

def JX (n : Nat) (k : Int) : Vector UInt8 n := Vector.ofFn fun j => Zr (k + j)
theorem yy {k : Int} (h : 0 ≤ k) (h2 : k < 9223372036854775807) : wr (k + 1) = k + 1 := YI (by omega)
theorem JL {α : Type} {n : Nat} (get : α → Vector UInt8 n) (put : α → Vector UInt8 n → α) (i : Nat) (I : Int) (hI : I = i) (L : List α × Int × Int → Option (Fl (List α × Int × Int) (List α × Int)))
  (hL : ∀ s, L s = if decide (s.2.2 < (n : Int)) = true then ((idx s.1 I).bind fun x => (ZM (get x) s.2.2).bind fun _ => some (Fl.nx (s.1.set (I).toNat (put x ((get x).setIfInBounds (s.2.2).toNat (Zr s.2.1))), wr (s.2.1 + 1), wr (s.2.2 + 1)))) else (some (Fl.ex (s.1, s.2.1))))
  (hgp : ∀ x v, get (put x v) = v) (hpp : ∀ x v w, put (put x v) w = put x w) (hpg : ∀ x, put x (get x) = x) (hn : n < 9223372036854775807)
  (l : List α) (hi : i < l.length) (k : Int) (h0 : 0 ≤ k) (hk : k + n ≤ 4611686018427387904) : ZG L (l, k, 0) = some (l.set i (put l[i] (JX n k)), k + n) := by
 subst hI
 have := Z1 (f := L) (fun j : Nat => (l.set i (put l[i] (Vector.ofFn fun q : Fin n => if q.1 < j then Zr (k + q) else (get l[i])[q])), k + j, (j : Int))) 0 n (Nat.zero_le _) (t := (l.set i (put l[i] (JX n k)), k + n)) (fun j _ hj => by
  rw [hL]
  have hi' : i < (l.set i (put l[i] (Vector.ofFn fun q : Fin n => if q.1 < j then Zr (k + q) else (get l[i])[q]))).length := by simpa using hi
  simp only [Int.ofNat_lt, hj, decide_true, if_true, YE, WT, List.getElem?_eq_getElem hi', Vector.getElem?_eq_getElem hj, Option.bind_some, Int.toNat_natCast, YO (show j < 9223372036854775807 by omega), List.getElem_set_self, hgp, hpp, List.set_set]
  rw [yy (by omega) (by omega)]
  congr 3
  ·congr 2
   apply Tp
   intro q hq
   rw [Vector.getElem_setIfInBounds]
   simp only [Vector.getElem_ofFn, Fin.getElem_fin]
   by_cases h : j = q
   ·subst h; simp
   ·by_cases h2 : q < j
    ·simp [h, h2, show q < j + 1 by omega]
    ·simp [h, h2, show ¬ q < j + 1 by omega]
  ·congr 1
   omega) (by
  rw [hL]
  simp only [Int.ofNat_lt, Nat.lt_irrefl, decide_false, Bool.false_eq_true, if_false]
  have e : (Vector.ofFn fun q : Fin n => if q.1 < n then Zr (k + q) else (get l[i])[q]) = JX n k := by
   unfold JX
   apply Tp
   intro j hj
   simp [hj]
  rw [e])
 have h0' : (Vector.ofFn fun q : Fin n => if q.1 < 0 then Zr (k + q) else (get l[i])[q]) = get l[i] := by
  apply Tp
  intro j hj
  simp
 rw [h0', hpg, List.set_getElem_self] at this
 simpa using this
def kS {α : Type} (Fm : α → Int → Option (α × Int)) (Fh : α → Int → Option Int) (x : α) (n : Nat) : Prop :=
 ∀ k : Int, 0 ≤ k → k + n ≤ 4611686018427387904 → ∃ x', Fm x k = some (x', k + n) ∧ Fh x' k = some (k + n)
theorem jG {α : Type} (Fm : List α → Int → Option (List α × Int)) (Fh : List α → Int → Option Int) (Lm : List α × Int × Int → Option (Fl (List α × Int × Int) (List α × Int))) (Lh : List α → Int × Int → Option (Fl (Int × Int) (Fl Int Int))) (mk : α → Nat)
  (hFm : ∀ l k, Fm l k = (ZG Lm (l, k, 0) : Option (List α × Int)).bind fun j1 => some (j1.1, j1.2)) (hFh : ∀ l k, Fh l k = (ZG (Lh l) (k, 0) : Option (Fl Int Int)).bind fun j1 => j1.el (fun s => some s) (fun r => some r))
  (l : List α) (hl : l.length ≤ 9223372036854775807)
  (hm : ∀ (l' : List α) (i : Nat) (k : Int) (hi : i < l'.length), l'[i] ∈ l → i < 9223372036854775807 → 0 ≤ k → k + mk l'[i] ≤ 4611686018427387904 → ∃ x', Lm (l', k, (i : Int)) = some (.nx (l'.set i x', k + mk l'[i], wr ((i : Int) + 1))) ∧
   ∀ (m : List α), m[i]? = some x' → Lh m (k, (i : Int)) = some (.nx (k + mk l'[i], wr ((i : Int) + 1))))
  (hme : ∀ (l' : List α) k, Lm (l', k, (l'.length : Int)) = some (.ex (l', k))) (hhe : ∀ (m : List α) k, Lh m (k, (m.length : Int)) = some (.ex (.nx k))) : kS Fm Fh l (l.map mk).sum := by
 have aux : ∀ (n i : Nat) (l' : List α) (k : Int), i + n = l'.length → l'.length = l.length → l'.drop i = l.drop i → 0 ≤ k → k + (((l.drop i).map mk).sum : Nat) ≤ 4611686018427387904 →
   ∃ l'', ZG Lm (l', k, (i : Int)) = some (l'', k + (((l.drop i).map mk).sum : Nat)) ∧ l''.length = l'.length ∧ (∀ j, j < i → l''[j]? = l'[j]?) ∧ ZG (Lh l'') (k, (i : Int)) = some (.nx (k + (((l.drop i).map mk).sum : Nat))) := by
  intro n
  induction n with
  | zero =>
   intro i l' k hi hll hd h0 hk
   have hi : i = l'.length := by omega
   subst hi
   have e : l.drop l'.length = [] := by rw [hll]; simp
   rw [e]
   refine ⟨l', ?_, rfl, fun _ _ => rfl, ?_⟩
   ·rw [XX (hme l' k)]; simp
   ·rw [XX (hhe l' k)]; simp
  | succ n ih =>
   intro i l' k hi hll hd h0 hk
   have hil : i < l'.length := by omega
   have hil2 : i < l.length := by omega
   have e1 : l'[i] = l[i] := by
    have h1 := List.drop_eq_getElem_cons hil
    have h2 := List.drop_eq_getElem_cons hil2
    rw [h1, h2] at hd
    exact (List.cons.inj hd).1
   have e2 : l.drop i = l[i] :: l.drop (i + 1) := List.drop_eq_getElem_cons hil2
   rw [e2, List.map_cons, List.sum_cons] at hk ⊢
   obtain ⟨x', h1, h2⟩ := hm l' i k hil (by rw [e1]; exact List.getElem_mem hil2) (by omega) h0 (by rw [e1]; omega)
   rw [e1] at h1 h2
   rw [YO (by omega)] at h1 h2
   obtain ⟨l'', k1, k2, k3, k4⟩ := ih (i + 1) (l'.set i x') (k + mk l[i]) (by simp; omega) (by simpa using hll) (by
    rw [List.drop_set_of_lt (by omega)]
    have h1 := List.drop_eq_getElem_cons hil
    rw [h1, e2] at hd
    exact (List.cons.inj hd).2) (by omega) (by omega)
   refine ⟨l'', ?_, by simpa using k2, fun j hj => ?_, ?_⟩
   ·rw [Wj h1, k1]; congr 2; omega
   ·rw [k3 j (by omega), List.getElem?_set_ne (by omega)]
   ·rw [Wj (h2 l'' (by rw [k3 i (by omega)]; simp [hil])), k4]; congr 2; omega
 intro k h0 hk
 obtain ⟨l'', k1, k2, k3, k4⟩ := aux l.length 0 l k (by omega) rfl rfl h0 (by simpa using hk)
 simp only [List.drop_zero] at k1 k4
 refine ⟨l'', ?_, ?_⟩
 ·rw [hFm]
  have : ZG Lm (l, k, 0) = _ := k1
  rw [this]; rfl
 ·rw [hFh]
  have : ZG (Lh l'') (k, 0) = _ := k4
  rw [this]; rfl
theorem Hl {α : Type} [Dat α] [Wt α] (mk : α → Nat) (c : Nat) (h : ∀ x, mk x ≤ c * (1 + Wt.wt x)) (l : List α) : (l.map mk).sum ≤ c * Wt.wt l := by
 rw [KI]
 induction l with
 | nil => simp
 | cons x l ih =>
  have := h x
  simp only [List.map_cons, List.sum_cons, List.length_cons]
  have e : c * (l.length + 1 + (Wt.wt x + (l.map Wt.wt).sum)) = c * (1 + Wt.wt x) + c * (l.length + (l.map Wt.wt).sum) := by
   rw [← Nat.mul_add]; congr 1; omega
  omega
theorem BX (l : List UInt8) : Wt.wt l = l.length := by
 rw [KI]
 have : (l.map Wt.wt).sum = 0 := by
  induction l with
  | nil => rfl
  | cons x l ih => rw [List.map_cons, List.sum_cons, ih]; rfl
 omega
theorem AE (l : List UInt8) (h : Wt.wt l ≤ 1048576) : VG l = some l := by
 have := A1 l
 unfold VG
 have := KE l (fun x => some x) id 1 0 (Tn l) (fun s => by unfold Tn; rfl) (fun _ _ => rfl) (by omega) (by omega)
 simpa using this
theorem Hq (l : List UInt8) (h : Wt.ln l) : Y9 l l = some true := by
 unfold Y9
 exact Bc l (fun x y => some (x != y)) (Ts l l) (fun s => by unfold Ts; rfl) (fun x _ => by simp) (VW h)
theorem AO (l : List UInt8) (h : Wt.ln l) : Tx XN l :=
 K4 (fun _ => rfl) XN (fun left => by unfold XN; rfl) (VW h)
theorem zL (l : List UInt8) (h : Wt.ln l) : kS Yo Wu l (l.map fun _ => 1).sum :=
 jG Yo Wu YP W9 (fun _ => 1) (fun _ _ => rfl) (fun _ _ => rfl) l (VW h) (fun l' i k hi _ _ h0 hk => by
  have e := yy (k := k) h0 (by omega)
  refine ⟨Zr k, ?_, fun m hm => ?_⟩
  ·unfold YP
   simp only [Int.ofNat_lt, hi, decide_true, if_true, YE, List.getElem?_eq_getElem hi, Option.bind_some, Int.toNat_natCast, e]; rfl
  ·have hi' := (List.getElem?_eq_some_iff.1 hm).1
   unfold W9
   simp only [Int.ofNat_lt, hi', decide_true, if_true, YE, hm, Option.bind_some, bne_self_eq_false, Bool.false_eq_true, if_false, e]; rfl) (fun l' k => by unfold YP; simp) (fun m k => by unfold W9; simp)
instance : Wt GRecord := ⟨fun x => Wt.wt x.Label + Wt.wt x.Body, fun x => Wt.ln x.Label ∧ Wt.ln x.Body, fun x h => ⟨Wt.bdln x.Label h.2.2.2.1, Wt.bdln x.Body h.2.2.2.2.1⟩, fun x h => ⟨Wt.wtln x.Label (by omega), Wt.wtln x.Body (by omega)⟩⟩
instance : Wt GEvent := ⟨fun _ => 0, fun _ => True, fun _ _ => trivial, fun _ _ => trivial⟩
instance : Wt GVault := ⟨fun x => Wt.wt x.Keys + (Wt.wt x.Records + Wt.wt x.Events), fun x => Wt.ln x.Keys ∧ Wt.ln x.Records ∧ Wt.ln x.Events, fun x h => ⟨Wt.bdln x.Keys h.1, Wt.bdln x.Records h.2.2.1, Wt.bdln x.Events h.2.2.2.1⟩,
 fun x h => ⟨Wt.wtln x.Keys (by omega), Wt.wtln x.Records (by omega), Wt.wtln x.Events (by omega)⟩⟩
theorem As (x : Vector UInt8 16) : WL x = some x := by
 unfold WL
 rw [zF x (Tm x) (fun s => by unfold Tm; rfl) (by omega)]; rfl
theorem Jp (x : Vector UInt8 32) : Wb x = some x := by
 unfold Wb
 rw [zF x (UW x) (fun s => by unfold UW; rfl) (by omega)]; rfl
theorem Av (x : Vector UInt8 16) : WH x x = some true := by
 unfold WH
 exact ky x (Tq x x) (fun s => by unfold Tq; rfl) (by omega)
theorem Jf (x : Vector UInt8 32) : Wa x x = some true := by
 unfold Wa
 exact ky x (U0 x x) (fun s => by unfold U0; rfl) (by omega)
theorem yL (l : List (Vector UInt8 16)) (h : Wt.wt l ≤ 1048576) : Um l = some l := by
 have := A1 l
 unfold Um
 have := KE l WL id 16 (Vector.replicate 16 0) (U2 l) (fun s => by unfold U2; rfl) (fun x _ => As x) (by omega) (by omega)
 simpa using this
theorem yT (l : List (Vector UInt8 16)) (h : Wt.ln l) : V9 l l = some true := by
 unfold V9
 exact Bc l (fun x y => (WH x y).bind fun r => some (!r)) (U5 l l) (fun s => by unfold U5; rfl) (fun x _ => by simp [Av x]) (VW h)
theorem yI (l : List (Vector UInt8 16)) (h : Wt.ln l) : Tx WW l :=
 K4 (fun _ => rfl) WW (fun left => by unfold WW; rfl) (VW h)
theorem Al (l' : List (Vector UInt8 16)) (i : Nat) (k : Int) (hi : i < l'.length) (h0 : 0 ≤ k) (hk : k + 16 ≤ 4611686018427387904) :
  Xv (l', k, (i : Int)) = some (.nx (l'.set i (JX 16 k), k + 16, wr ((i : Int) + 1))) := by
 unfold Xv
 have h1 := JL (n := 16) (fun x : Vector UInt8 16 => x) (fun _ v => v) i i rfl (V3 (l', k, (i : Int))) (fun s => by unfold V3; rfl) (fun _ _ => rfl) (fun _ _ _ => rfl) (fun _ => rfl) (by omega) l' hi k h0 hk
 simp only [Int.ofNat_lt, hi, decide_true, if_true, h1, Option.bind_some]
 rfl
theorem yX (x : GRecord) (h : Wt.wt x ≤ 1048576) : W0 x = some x := by
 have h : Wt.wt x.Label + Wt.wt x.Body ≤ 1048576 := h
 unfold W0
 simp [As, Jp, AE x.Label (by omega), AE x.Body (by omega)]
theorem zH (l : List GRecord) (h : Wt.wt l ≤ 1048576) : VO l = some l := by
 have := A1 l
 unfold VO
 have := KE l W0 id 112 ⟨0, 0, Vector.replicate 16 0, [], [], Vector.replicate 32 0⟩ (UB l) (fun s => by unfold UB; rfl) (fun x hx => yX x (Nat.le_trans (qn hx) h)) (by omega) (by omega)
 simpa using this
theorem yM (x : GRecord) (h : Wt.ln x) : W3 x x = some true := by
 unfold W3
 simp [Av, Jf, Hq x.Label h.1, Hq x.Body h.2]
theorem zV (l : List GRecord) (h : Wt.ln l) : VP l l = some true := by
 unfold VP
 exact Bc l (fun x y => (W3 x y).bind fun r => some (!r)) (UA l l) (fun s => by unfold UA; rfl) (fun x hx => by simp [yM x (yJ h hx)]) (VW h)
theorem K3 {α β : Type} [Dat α] [Wt α] [Dat β] [Wt β] {f : α → Int → Option Int} {g : β → Int → Option Int} {x : α} {y : β} (hf : Tx f x) (hg : Tx g y) (left : Int) (h1 : 0 ≤ left) (h2 : left ≤ 1048576) :
  ∃ r, ((f x left).bind fun r => if decide (r < 0) = true then some (-1) else g y r) = some r ∧ r ≤ 1048576 ∧ (0 ≤ r → r + (Wt.wt x + Wt.wt y : Nat) ≤ left) := by
 obtain ⟨r, e1, e2, e3⟩ := hf left h1 h2
 rw [e1]
 by_cases hr : r < 0
 ·exact ⟨-1, by simp [hr], by omega, by omega⟩
 ·have e3 := e3 (by omega)
  obtain ⟨q, k1, k2, k3⟩ := hg r (by omega) e2
  refine ⟨q, by simp [hr, k1], k2, fun hq => ?_⟩
  have := k3 hq
  omega
theorem AS {f : Option Int} {left w : Int} (h : ∃ r, f = some r ∧ r ≤ 1048576 ∧ (0 ≤ r → r + w ≤ left)) : ∃ r, (f.bind fun r => if decide (r < 0) = true then some (-1) else some r) = some r ∧ r ≤ 1048576 ∧ (0 ≤ r → r + w ≤ left) := by
 obtain ⟨r, e1, e2, e3⟩ := h
 by_cases hr : r < 0
 ·exact ⟨-1, by simp [e1, hr], by omega, by omega⟩
 ·exact ⟨r, by simp [e1, hr], e2, e3⟩
theorem yW (x : GRecord) (h : Wt.ln x) : Tx Un x := by
 intro left h1 h2
 have h3 : Tx (fun (y : List UInt8) r => (XN y r).bind fun r => if decide (r < 0) = true then some (-1) else some r) x.Body := fun left h1 h2 => AS (AO x.Body h.2 left h1 h2)
 have := K3 (AO x.Label h.1) h3 left h1 h2
 exact this
theorem yd (l : List GRecord) (h : Wt.ln l) : Tx Xx l :=
 yv Xx Un (Ux l) (fun s => by unfold Ux; rfl) (fun left => by unfold Xx; rfl) (VW h) (fun x hx => yW x (yJ h hx))
theorem jt (x : GEvent) : VQ x = some x := by
 unfold VQ
 simp [Jp]
theorem yA (l : List GEvent) (h : Wt.wt l ≤ 1048576) : Uo l = some l := by
 have := A1 l
 unfold Uo
 have := KE l VQ id 48 ⟨0, 0, Vector.replicate 32 0⟩ (U6 l) (fun s => by unfold U6; rfl) (fun x _ => jt x) (by omega) (by omega)
 simpa using this
theorem jy (x : GEvent) : Vv x x = some true := by
 unfold Vv
 simp [Jf]
theorem yY (l : List GEvent) (h : Wt.ln l) : Ui l l = some true := by
 unfold Ui
 exact Bc l (fun x y => (Vv x y).bind fun r => some (!r)) (U7 l l) (fun s => by unfold U7; rfl) (fun x _ => by simp [jy x]) (VW h)
theorem yU (l : List GEvent) (h : Wt.ln l) : Tx Xn l :=
 K4 (fun _ => rfl) Xn (fun left => by unfold Xn; rfl) (VW h)
theorem zS (x : GVault) : Wt.wt x = Wt.wt x.Keys + (Wt.wt x.Records + Wt.wt x.Events) := rfl
theorem jT (x : GVault) (h : Wt.wt x ≤ 1048576) : XD x = some x := by
 rw [zS] at h
 unfold XD
 simp [Jp, yL x.Keys (by omega), zH x.Records (by omega), yA x.Events (by omega)]
theorem jw (x : GVault) (h : Wt.ln x) : UP x x = some true := by
 unfold UP
 simp [Jf, yT x.Keys h.1, zV x.Records h.2.1, yY x.Events h.2.2]
theorem jC (x : GVault) (h : Wt.ln x) : Tx TM x := by
 intro left h1 h2
 have h3 : Tx (fun (y : List GEvent) r => (Xn y r).bind fun r => if decide (r < 0) = true then some (-1) else some r) x.Events := fun left h1 h2 => AS (yU x.Events h.2.2 left h1 h2)
 have h4 : Tx (α := List GRecord × List GEvent) (fun y r => (Xx y.1 r).bind fun r => if decide (r < 0) = true then some (-1) else (Xn y.2 r).bind fun r => if decide (r < 0) = true then some (-1) else some r) (x.Records, x.Events) := fun left h1 h2 => K3 (yd x.Records h.2.1) h3 left h1 h2
 exact K3 (yI x.Keys h.1) h4 left h1 h2
def Hm {α : Type} (Fm : α → Int → Option (α × Int)) (x : α) (n : Nat) : Prop :=
 ∀ k : Int, 0 ≤ k → k + n ≤ 4611686018427387904 → ∃ x', Fm x k = some (x', k + n)
theorem H9 {α : Type} (Fm : List α → Int → Option (List α × Int)) (Lm : List α × Int × Int → Option (Fl (List α × Int × Int) (List α × Int))) (mk : α → Nat)
  (hFm : ∀ l k, Fm l k = (ZG Lm (l, k, 0) : Option (List α × Int)).bind fun j1 => some (j1.1, j1.2)) (l : List α) (hl : l.length ≤ 9223372036854775807)
  (hm : ∀ (l' : List α) (i : Nat) (k : Int) (hi : i < l'.length), l'[i] ∈ l → i < 9223372036854775807 → 0 ≤ k → k + mk l'[i] ≤ 4611686018427387904 → ∃ x', Lm (l', k, (i : Int)) = some (.nx (l'.set i x', k + mk l'[i], wr ((i : Int) + 1))))
  (hme : ∀ (l' : List α) k, Lm (l', k, (l'.length : Int)) = some (.ex (l', k))) : Hm Fm l (l.map mk).sum := by
 intro k h0 hk
 have aux : ∀ (n i : Nat) (l' : List α) (k : Int), i + n = l'.length → l'.length = l.length → l'.drop i = l.drop i → 0 ≤ k → k + (((l.drop i).map mk).sum : Nat) ≤ 4611686018427387904 →
   ∃ l'', ZG Lm (l', k, (i : Int)) = some (l'', k + (((l.drop i).map mk).sum : Nat)) := by
  intro n
  induction n with
  | zero =>
   intro i l' k hi hll hd h0 hk
   have hi : i = l'.length := by omega
   subst hi
   have e : l.drop l'.length = [] := by rw [hll]; simp
   rw [e]
   exact ⟨l', by rw [XX (hme l' k)]; simp⟩
  | succ n ih =>
   intro i l' k hi hll hd h0 hk
   have hil : i < l'.length := by omega
   have hil2 : i < l.length := by omega
   have h1 := List.drop_eq_getElem_cons hil
   have e2 : l.drop i = l[i] :: l.drop (i + 1) := List.drop_eq_getElem_cons hil2
   rw [h1, e2] at hd
   have e1 := (List.cons.inj hd).1
   rw [e2, List.map_cons, List.sum_cons] at hk ⊢
   obtain ⟨x', h1⟩ := hm l' i k hil (by rw [e1]; exact List.getElem_mem hil2) (by omega) h0 (by rw [e1]; omega)
   rw [e1, YO (by omega)] at h1
   obtain ⟨l'', k1⟩ := ih (i + 1) (l'.set i x') (k + mk l[i]) (by simp; omega) (by simpa using hll) (by
    rw [List.drop_set_of_lt (by omega)]
    exact (List.cons.inj hd).2) (by omega) (by omega)
   exact ⟨l'', by rw [Wj h1, k1]; congr 2; omega⟩
 obtain ⟨l'', k1⟩ := aux l.length 0 l k (by omega) rfl rfl h0 (by simpa using hk)
 simp only [List.drop_zero] at k1
 refine ⟨l'', ?_⟩
 rw [hFm]
 have : ZG Lm (l, k, 0) = _ := k1
 rw [this]; rfl
theorem HH (l : List UInt8) (h : Wt.ln l) : Hm Yo l (l.map fun _ => 1).sum :=
 H9 Yo YP (fun _ => 1) (fun _ _ => rfl) l (VW h) (fun l' i k hi _ _ h0 hk => by
  have e := yy (k := k) h0 (by omega)
  refine ⟨Zr k, ?_⟩
  unfold YP
  simp only [Int.ofNat_lt, hi, decide_true, if_true, YE, List.getElem?_eq_getElem hi, Option.bind_some, Int.toNat_natCast, e]; rfl) (fun l' k => by unfold YP; simp)
theorem zf (l : List (Vector UInt8 16)) (h : Wt.ln l) : Hm Vh l (l.map fun _ => 16).sum :=
 H9 Vh Xv (fun _ => 16) (fun _ _ => rfl) l (VW h) (fun l' i k hi _ _ h0 hk => ⟨_, Al l' i k hi h0 (by omega)⟩) (fun l' k => by unfold Xv; simp)
def UK (x : GRecord) : Nat := 50 + ((x.Label.map fun _ => 1).sum + (x.Body.map fun _ => 1).sum)
theorem BE (l' : List GRecord) (i : Nat) (k : Int) (hi : i < l'.length) (h0 : 0 ≤ k) (hk : k + UK l'[i] ≤ 4611686018427387904) {la bo : List UInt8}
  (hla : Yo l'[i].Label (k + 18) = some (la, k + 18 + ((l'[i].Label.map fun _ => 1).sum : Nat))) (hbo : Yo l'[i].Body (k + 18 + ((l'[i].Label.map fun _ => 1).sum : Nat)) = some (bo, k + 18 + ((l'[i].Label.map fun _ => 1).sum : Nat) + ((l'[i].Body.map fun _ => 1).sum : Nat))) :
  Xi (l', k, (i : Int)) = some (.nx (l'.set i ⟨k, k + 1, JX 16 (k + 2), la, bo, JX 32 (k + 18 + ((l'[i].Label.map fun _ => 1).sum : Nat) + ((l'[i].Body.map fun _ => 1).sum : Nat))⟩, k + UK l'[i], wr ((i : Int) + 1))) := by
 unfold UK at hk
 have e1 := yy (k := k) h0 (by omega)
 have e2 := yy (k := k + 1) (by omega) (by omega)
 unfold Xi
 have hi2 : i < (l'.set i (⟨k, k + 1, l'[i].Nonce, l'[i].Label, l'[i].Body, l'[i].Tag⟩ : GRecord)).length := by simpa using hi
 have h1 := JL (n := 16) (fun x : GRecord => x.Nonce) (fun x v => ⟨x.Number, x.Version, v, x.Label, x.Body, x.Tag⟩) i i rfl (Vq (l', k, (i : Int))) (fun s => by unfold Vq; rfl) (fun _ _ => rfl) (fun _ _ _ => rfl) (fun _ => rfl) (by omega) _ hi2 (k + 1 + 1) (by omega) (by omega)
 rw [show k + 1 + 1 + ((16 : Nat) : Int) = k + 18 by omega] at h1
 simp only [List.getElem_set_self, List.set_set] at h1
 simp only [Int.ofNat_lt, hi, decide_true, if_true, YE, List.getElem?_eq_getElem hi, Option.bind_some, Int.toNat_natCast, e1, List.getElem?_set_self hi, List.set_set, e2, h1, hla, hbo]
 have hi3 : i < (l'.set i (⟨k, k + 1, JX 16 (k + 1 + 1), la, bo, l'[i].Tag⟩ : GRecord)).length := by simpa using hi
 have h2 := JL (n := 32) (fun x : GRecord => x.Tag) (fun x v => ⟨x.Number, x.Version, x.Nonce, x.Label, x.Body, v⟩) i i rfl (Vp (l', k, (i : Int))) (fun s => by unfold Vp; rfl) (fun _ _ => rfl) (fun _ _ _ => rfl) (fun _ => rfl) (by omega) _ hi3
  (k + 18 + ((l'[i].Label.map fun _ => 1).sum : Nat) + ((l'[i].Body.map fun _ => 1).sum : Nat)) (by omega) (by omega)
 simp only [List.getElem_set_self, List.set_set] at h2
 rw [h2]
 simp only [Option.bind_some]
 rw [show k + 1 + 1 = k + 2 by omega]
 congr 3
 congr 1
 unfold UK
 omega
theorem B9 (l : List GRecord) (h : Wt.ln l) : Hm WN l (l.map UK).sum :=
 H9 WN Xi UK (fun _ _ => rfl) l (VW h) (fun l' i k hi hx _ h0 hk => by
  have hk' := hk
  unfold UK at hk'
  have hln : Wt.ln l'[i] := yJ h hx
  obtain ⟨la, h1⟩ := HH l'[i].Label hln.1 (k + 18) (by omega) (by omega)
  obtain ⟨bo, h2⟩ := HH l'[i].Body hln.2 (k + 18 + ((l'[i].Label.map fun _ => 1).sum : Nat)) (by omega) (by omega)
  exact ⟨_, BE l' i k hi h0 hk h1 h2⟩) (fun l' k => by unfold Xi; simp)
theorem Ac (l' : List GEvent) (i : Nat) (k : Int) (hi : i < l'.length) (h0 : 0 ≤ k) (hk : k + 34 ≤ 4611686018427387904) :
  Xw (l', k, (i : Int)) = some (.nx (l'.set i ⟨k, k + 1, JX 32 (k + 2)⟩, k + 34, wr ((i : Int) + 1))) := by
 have e1 := yy (k := k) h0 (by omega)
 have e2 := yy (k := k + 1) (by omega) (by omega)
 unfold Xw
 have hi2 : i < (l'.set i (⟨k, k + 1, l'[i].Tag⟩ : GEvent)).length := by simpa using hi
 have h1 := JL (n := 32) (fun x : GEvent => x.Tag) (fun x v => ⟨x.Kind, x.Number, v⟩) i i rfl (VY (l', k, (i : Int))) (fun s => by unfold VY; rfl) (fun _ _ => rfl) (fun _ _ _ => rfl) (fun _ => rfl) (by omega) _ hi2 (k + 1 + 1) (by omega) (by omega)
 rw [show k + 1 + 1 + ((32 : Nat) : Int) = k + 34 by omega] at h1
 simp only [List.getElem_set_self, List.set_set] at h1
 simp only [Int.ofNat_lt, hi, decide_true, if_true, YE, List.getElem?_eq_getElem hi, Option.bind_some, Int.toNat_natCast, e1, List.getElem?_set_self hi, List.set_set, e2, h1]
 rw [show k + 1 + 1 = k + 2 by omega]
theorem zy (l : List GEvent) (h : Wt.ln l) : Hm W4 l (l.map fun _ => 34).sum :=
 H9 W4 Xw (fun _ => 34) (fun _ _ => rfl) l (VW h) (fun l' i k hi _ _ h0 hk => ⟨_, Ac l' i k hi h0 (by omega)⟩) (fun l' k => by unfold Xw; simp)
def KL (x : GVault) : Nat := (x.Keys.map fun _ => 16).sum + ((x.Records.map UK).sum + (x.Events.map fun _ => 34).sum)
theorem A2 (l : List UInt8) : (l.map fun _ => 1).sum = l.length := by
 induction l with
 | nil => rfl
 | cons x l ih => rw [List.map_cons, List.sum_cons, ih, List.length_cons]; omega
theorem yz (x : GVault) : KL x ≤ 50 * Wt.wt x := by
 have h1 := Hl (fun _ : Vector UInt8 16 => 16) 50 (fun _ => by omega) x.Keys
 have h2 := Hl UK 50 (fun x => by
  unfold UK
  have e : Wt.wt x = Wt.wt x.Label + Wt.wt x.Body := rfl
  rw [e, BX, BX, A2, A2]; omega) x.Records
 have h3 := Hl (fun _ : GEvent => 34) 50 (fun _ => by omega) x.Events
 rw [zS]; unfold KL; omega
theorem zW (x : GVault) (h : Wt.ln x) : Hm VC x (KL x) := by
 intro k h0 hk
 unfold KL at hk
 obtain ⟨a, h1⟩ := zf x.Keys h.1 k h0 (by omega)
 obtain ⟨b, h2⟩ := B9 x.Records h.2.1 _ (by omega : (0 : Int) ≤ k + ((x.Keys.map fun _ => 16).sum : Nat)) (by omega)
 obtain ⟨c, h3⟩ := zy x.Events h.2.2 _ (by omega : (0 : Int) ≤ k + ((x.Keys.map fun _ => 16).sum : Nat) + ((x.Records.map UK).sum : Nat)) (by omega)
 refine ⟨⟨a, x.Next, b, c, x.Head⟩, ?_⟩
 unfold VC
 rw [h1]; simp only [Option.bind_some]; rw [h2]; simp only [Option.bind_some]; rw [h3]; simp only [Option.bind_some]
 unfold KL
 congr 2
 omega
theorem Hu (n a b : Int) : YU n a b = some (decide (a ≤ n ∧ n ≤ b)) := by
 unfold YU
 by_cases h1 : a ≤ n <;> by_cases h2 : n ≤ b <;> simp [h1, h2]
theorem A7 (n a b : Int) : W7 n a b = some (decide (a ≤ n ∧ n ≤ b)) := by
 unfold W7
 by_cases h1 : a ≤ n <;> by_cases h2 : n ≤ b <;> simp [h1, h2]
theorem zp {α : Type} (l : List α) (p : α → Option Bool) (q : α → Bool) (L : Int → Option (Fl Int (Fl Unit Int)))
  (hL : ∀ s, L s = if (decide (s < (l.length : Int))) = true then ((idx l s).bind fun x => ((p x)).bind fun r => if r = true then (some (Fl.ex (Fl.ex s))) else (some (Fl.nx (wr (s + 1))))) else (some (Fl.ex (Fl.nx ()))))
  (hl : l.length < 9223372036854775807) (hp : ∀ x ∈ l, p x = some (q x)) :
  ((ZG L 0 : Option (Fl Unit Int)).bind fun j1 => j1.el (fun _ => some (-1)) (fun r => some r)) = some (match l.findIdx? q with | some i => (i : Int) | none => -1) := by
 have h := ye (f := L) l.length (fun i => (l[i]?.map q).getD false) (fun i => (i : Int)) hl (fun i hi => by
  rw [hL]
  simp only [Int.ofNat_lt, hi, decide_true, if_true, YE, List.getElem?_eq_getElem hi, Option.bind_some, Option.map_some, Option.getD_some, hp _ (List.getElem_mem hi)]
  split <;> rfl) (by rw [hL]; simp) 0 (Nat.zero_le _)
 have h3 : ZG L 0 = _ := h
 rw [h3]
 have key : (List.range' 0 (l.length - 0)).find? (fun i => (l[i]?.map q).getD false) = l.findIdx? q := by
  rw [Nat.sub_zero, ← List.range_eq_range']
  clear h h3 hL hp hl
  induction l with
  | nil => rfl
  | cons x l ih =>
   rw [List.length_cons, List.range_succ_eq_map, List.find?_cons, List.findIdx?_cons]
   simp only [List.getElem?_cons_zero, Option.map_some, Option.getD_some]
   cases q x with
   | true => rfl
   | false =>
    simp only [Bool.false_eq_true, if_false]
    rw [List.find?_map, ← ih]
    congr 1
 rw [key]
 cases l.findIdx? q <;> rfl
theorem has_of {α : Type} (l : List α) (q : α → Bool) : decide ((match l.findIdx? q with | some i => (i : Int) | none => -1) ≥ 0) = l.any q := by
 rw [Bool.eq_iff_iff, decide_eq_true_eq]
 cases h : l.findIdx? q with
 | none =>
  have := List.findIdx?_eq_none_iff.1 h
  simp
  exact this
 | some i =>
  have h2 := List.findIdx?_eq_some_iff_getElem.1 h
  obtain ⟨hi, hq, _⟩ := h2
  simp
  exact ⟨_, List.getElem_mem hi, hq⟩
def UR (e : GEvent) : Bool := decide ((1 ≤ e.Kind ∧ e.Kind ≤ 4) ∧ (0 ≤ e.Number ∧ e.Number ≤ 1000000))
theorem yD (e : GEvent) : Uh e = some (UR e) := by
 unfold Uh UR
 simp only [A7, Option.bind_some]
 by_cases h1 : (1 ≤ e.Kind ∧ e.Kind ≤ 4) <;> by_cases h2 : (0 ≤ e.Number ∧ e.Number ≤ 1000000) <;> simp [h1, h2]
theorem jQ (e : GEvent) : UQ e = some (UR e) := by
 unfold UQ UR To
 simp only [Hu, Option.bind_some]
 by_cases h1 : (1 ≤ e.Kind ∧ e.Kind ≤ 4) <;> by_cases h2 : (0 ≤ e.Number ∧ e.Number ≤ 1000000) <;> simp [h1, h2]
theorem HT (l : List GEvent) (p : GEvent → Option Bool) (q : GEvent → Bool) (hl : l.length < 9223372036854775807) (hp : ∀ x ∈ l, p x = some (q x)) : Z0 l p = some (l.any q) := by
 unfold Z0 Yh
 rw [zp l p q _ (fun s => by unfold Yw; rfl) hl hp]
 simp only [Option.bind_some, has_of]
def T9 (l : List GRecord) : Nat → Int
 | 0 => 0
 | i + 1 => (l[i]?.map (·.Number)).getD 0
def B2 (v : GVault) (r : GRecord) : Bool := !decide ((0 : Int) ≤ r.Version ∧ r.Version ≤ (v.Keys.length : Int) - 1) || decide (32 < r.Label.length) || decide (200 < r.Body.length)
def Ho (v : GVault) (i : Nat) : Bool := match v.Records[i]? with
 | some r => decide (r.Number ≤ T9 v.Records i) || decide (r.Number ≥ v.Next) || B2 v r
 | none => false
def badI (v : GVault) (i : Nat) : Bool := match v.Records[i]? with
 | some r => !decide (1 ≤ r.Number ∧ r.Number ≤ v.Next - 1) || (decide (0 < i) && decide (T9 v.Records i ≥ r.Number)) || B2 v r
 | none => false
def KQ (v : GVault) : Bool := decide (1 ≤ v.Keys.length ∧ v.Keys.length ≤ 8 ∧ 1 ≤ v.Next ∧ v.Next ≤ 1000000 ∧ v.Records.length ≤ 12 ∧ v.Events.length ≤ 60)
def Wg (v : GVault) : Bool := KQ v && !((List.range' 0 (v.Records.length - 0)).any (Ho v)) && v.Events.all UR
theorem kA (v : GVault) : (List.range' 0 (v.Records.length - 0)).any (badI v) = (List.range' 0 (v.Records.length - 0)).any (Ho v) := by
 have h : ∀ b c : Bool, (b = false ↔ c = false) → b = c := by intro b c; cases b <;> cases c <;> simp
 apply h
 rw [List.any_eq_false, List.any_eq_false]
 simp only [List.mem_range'_1, Nat.zero_le, true_and, Nat.sub_zero, Nat.zero_add, Bool.not_eq_true]
 constructor
 ·intro hI i hi
  have h1 := hI i hi
  unfold badI Ho at *
  rw [List.getElem?_eq_getElem hi] at h1 ⊢
  simp only [Bool.or_eq_false_iff, Bool.not_eq_false', decide_eq_true_eq, Bool.and_eq_false_iff, decide_eq_false_iff_not] at h1 ⊢
  refine ⟨⟨?_, by omega⟩, h1.2⟩
  cases i with
  | zero => simp only [T9]; omega
  | succ i =>
   rcases h1.1.2 with h2 | h2
   ·omega
   ·omega
 ·intro hS
  have pos : ∀ i, i < v.Records.length → 0 ≤ T9 v.Records i ∧ T9 v.Records i < (v.Records[i]?.map (·.Number)).getD 0 := by
   intro i
   induction i with
   | zero =>
    intro hi
    have h1 := hS 0 hi
    unfold Ho at h1
    rw [List.getElem?_eq_getElem hi] at h1 ⊢
    simp only [Bool.or_eq_false_iff, decide_eq_false_iff_not, Option.map_some, Option.getD_some] at h1 ⊢
    have e : T9 v.Records 0 = 0 := rfl
    have h2 := h1.1.1
    rw [e] at h2 ⊢
    omega
   | succ i ih =>
    intro hi
    have h0 := ih (by omega)
    have h1 := hS (i + 1) hi
    unfold Ho at h1
    have e : T9 v.Records (i + 1) = (v.Records[i]?.map (·.Number)).getD 0 := rfl
    rw [List.getElem?_eq_getElem hi] at h1 ⊢
    simp only [Bool.or_eq_false_iff, decide_eq_false_iff_not, Option.map_some, Option.getD_some] at h1 ⊢
    rw [e] at h1 ⊢
    omega
  intro i hi
  have h1 := hS i hi
  have h2 := pos i hi
  unfold badI Ho at *
  rw [List.getElem?_eq_getElem hi] at h1 h2 ⊢
  simp only [Bool.or_eq_false_iff, Bool.not_eq_false', decide_eq_true_eq, Bool.and_eq_false_iff, decide_eq_false_iff_not, Option.map_some, Option.getD_some] at h1 h2 ⊢
  exact ⟨⟨by omega, .inr (by omega)⟩, h1.2⟩
theorem qK (v : GVault) (hb : Wt.ln v) : TJ v = some (Wg v) := by
 have hb1 := VW hb.1; have hb2 := VW hb.2.1; have hb3 := VW hb.2.2
 unfold TJ
 simp only [A7, Option.bind_some]
 by_cases hh : KQ v = true
 ·have hh' : 1 ≤ v.Keys.length ∧ v.Keys.length ≤ 8 ∧ 1 ≤ v.Next ∧ v.Next ≤ 1000000 ∧ v.Records.length ≤ 12 ∧ v.Events.length ≤ 60 := by simpa [KQ] using hh
  have c1 : ¬ ((v.Keys.length : Int) < 1) := by omega
  have c2 : ¬ ((v.Keys.length : Int) > 8) := by omega
  have c3 : 1 ≤ v.Next ∧ v.Next ≤ 1000000 := by omega
  have c4 : ¬ ((v.Records.length : Int) > 12) := by omega
  have c5 : ¬ ((v.Events.length : Int) > 60) := by omega
  simp only [c1, c2, c3, c4, c5, decide_false, decide_true, and_self, Bool.not_true, Bool.false_eq_true, if_false, Option.bind_some]
  have hw : wr ((v.Keys.length : Int) - 1) = (v.Keys.length : Int) - 1 := YI (by omega)
  have h1 := QK (f := Up v) (fun i : Nat => (T9 v.Records i, (i : Int))) (Ho v) (fun _ => (.ex false : Fl Unit Bool)) (e := .nx ()) v.Records.length v.Records.length 0 (by omega) (fun i _ hi => by
   unfold Up Ho
   simp only [Int.ofNat_lt, hi, decide_true, if_true, YE, List.getElem?_eq_getElem hi, Option.bind_some, A7, hw, YO (show i < 9223372036854775807 by omega)]
   have e : T9 v.Records (i + 1) = v.Records[i].Number := by simp [T9, List.getElem?_eq_getElem hi]
   rw [e]
   unfold B2
   by_cases d1 : v.Records[i].Number ≤ T9 v.Records i
   ·simp [d1]
   ·by_cases d2 : v.Records[i].Number ≥ v.Next
    ·simp [d1, d2]
    ·by_cases d3 : (0 : Int) ≤ v.Records[i].Version ∧ v.Records[i].Version ≤ (v.Keys.length : Int) - 1
     ·by_cases d4 : 32 < v.Records[i].Label.length
      ·have d4' : (v.Records[i].Label.length : Int) > 32 := by omega
       simp [d1, d2, d3, d4, d4']
      ·have d4' : ¬ ((v.Records[i].Label.length : Int) > 32) := by omega
       by_cases d5 : 200 < v.Records[i].Body.length
       ·have d5' : (v.Records[i].Body.length : Int) > 200 := by omega
        simp [d1, d2, d3, d4, d4', d5, d5']
       ·have d5' : ¬ ((v.Records[i].Body.length : Int) > 200) := by omega
        simp [d1, d2, d3, d4, d4', d5, d5']
     ·simp [d1, d2, d3]) (by unfold Up; simp)
  have h2 : ZG (Up v) (0, 0) = _ := h1
  rw [h2]
  have h3 := jF (f := Th v) v.Events (fun e => !UR e) (t := false) (by omega) (fun i hi => by
   unfold Th
   simp only [Int.ofNat_lt, hi, decide_true, if_true, YE, List.getElem?_eq_getElem hi, Option.bind_some, yD]
   cases UR v.Events[i] <;> simp) (by unfold Th; simp)
  rw [h3]
  unfold Wg
  rw [hh, Nat.sub_zero]
  cases hf : (List.range' 0 v.Records.length).find? (Ho v) with
  | none =>
   have : (List.range' 0 v.Records.length).any (Ho v) = false := by
    rw [List.any_eq_false]; exact List.find?_eq_none.1 hf
   rw [this, List.any_eq_not_all_not]
   simp only [Bool.not_not]
   cases v.Events.all UR <;> rfl
  | some i =>
   have : (List.range' 0 v.Records.length).any (Ho v) = true := by
    rw [List.any_eq_true]; exact ⟨i, List.mem_of_find?_eq_some hf, List.find?_some hf⟩
   rw [this]; rfl
 ·have hf : KQ v = false := by simpa using hh
  unfold Wg
  rw [hf]
  have hh' : ¬ (1 ≤ v.Keys.length ∧ v.Keys.length ≤ 8 ∧ 1 ≤ v.Next ∧ v.Next ≤ 1000000 ∧ v.Records.length ≤ 12 ∧ v.Events.length ≤ 60) := by simpa [KQ] using hf
  by_cases c1 : ((v.Keys.length : Int) < 1)
  ·simp [c1]
  ·by_cases c2 : ((v.Keys.length : Int) > 8)
   ·simp [c1, c2]
   ·by_cases c3 : 1 ≤ v.Next ∧ v.Next ≤ 1000000
    ·by_cases c4 : ((v.Records.length : Int) > 12)
     ·simp [c1, c2, c3, c4]
     ·have c5 : ((v.Events.length : Int) > 60) := by omega
      simp [c1, c2, c3, c4, c5]
    ·simp [c1, c2, c3]
theorem B6 (v : GVault) (hb : Wt.ln v) : UL v = some (Wg v) := by
 have hb1 := VW hb.1; have hb2 := VW hb.2.1; have hb3 := VW hb.2.2
 unfold UL Yx
 simp only [Hu, Option.bind_some]
 by_cases hh : KQ v = true
 ·have hh' : 1 ≤ v.Keys.length ∧ v.Keys.length ≤ 8 ∧ 1 ≤ v.Next ∧ v.Next ≤ 1000000 ∧ v.Records.length ≤ 12 ∧ v.Events.length ≤ 60 := by simpa [KQ] using hh
  have c1 : (1 : Int) ≤ v.Keys.length ∧ (v.Keys.length : Int) ≤ 8 := by omega
  have c3 : 1 ≤ v.Next ∧ v.Next ≤ 1000000 := by omega
  have c4 : ¬ ((v.Records.length : Int) > 12) := by omega
  have c5 : ¬ ((v.Events.length : Int) > 60) := by omega
  simp only [c1, c3, c4, c5, decide_false, decide_true, and_self, Bool.not_true, Bool.false_eq_true, if_false, Option.bind_some]
  have hw : wr ((v.Keys.length : Int) - 1) = (v.Keys.length : Int) - 1 := YI (by omega)
  have hw2 : wr (v.Next - 1) = v.Next - 1 := YI (by omega)
  have h1 := kO (f := WS v) v.Records.length (badI v) false (by omega) (fun i hi => by
   unfold WS badI Yx
   simp only [Int.ofNat_lt, hi, decide_true, if_true, YE, List.getElem?_eq_getElem hi, Option.bind_some, Hu, hw, hw2]
   unfold B2
   by_cases d1 : 1 ≤ v.Records[i].Number ∧ v.Records[i].Number ≤ v.Next - 1
   ·have key : (if decide ((i : Int) > 0) = true then (idx v.Records (wr ((i : Int) - 1))).bind fun x => some (decide (x.Number ≥ v.Records[i].Number)) else some false) = some (decide (0 < i) && decide (T9 v.Records i ≥ v.Records[i].Number)) := by
     cases i with
     | zero => simp
     | succ i =>
      have e1 : wr (((i + 1 : Nat) : Int) - 1) = (i : Int) := by rw [YI (by omega)]; omega
      have hi' : i < v.Records.length := by omega
      have e2 : T9 v.Records (i + 1) = v.Records[i].Number := by simp [T9, List.getElem?_eq_getElem hi']
      have e3 : ((i + 1 : Nat) : Int) > 0 := by omega
      simp only [e1, e2, e3, decide_true, if_true, YE, List.getElem?_eq_getElem hi', Option.bind_some]
      simp
    simp only [d1, decide_true, and_self, Bool.not_true, Bool.false_eq_true, if_false, key, Option.bind_some, Bool.false_or]
    by_cases d2 : (decide (0 < i) && decide (T9 v.Records i ≥ v.Records[i].Number)) = true
    ·simp [d2]
    ·have d2 : (decide (0 < i) && decide (T9 v.Records i ≥ v.Records[i].Number)) = false := by simpa using d2
     rw [d2]
     by_cases d3 : (0 : Int) ≤ v.Records[i].Version ∧ v.Records[i].Version ≤ (v.Keys.length : Int) - 1
     ·by_cases d4 : 32 < v.Records[i].Label.length
      ·have d4' : (v.Records[i].Label.length : Int) > 32 := by omega
       simp [d3, d4, d4']
      ·have d4' : ¬ ((v.Records[i].Label.length : Int) > 32) := by omega
       by_cases d5 : 200 < v.Records[i].Body.length
       ·have d5' : (v.Records[i].Body.length : Int) > 200 := by omega
        simp [d3, d4, d4', d5, d5']
       ·have d5' : ¬ ((v.Records[i].Body.length : Int) > 200) := by omega
        simp [d3, d4, d4', d5, d5']
     ·simp [d3]
   ·simp [d1]) (by unfold WS; simp) 0 (Nat.zero_le _)
  have h2 : ZG (WS v) 0 = _ := h1
  rw [h2, kA, HT v.Events _ (fun e => !UR e) (by omega) (fun x _ => by unfold Vy; rw [jQ]; rfl)]
  have ha : (v.Events.any fun e => !UR e) = !(v.Events.all UR) := by rw [List.any_eq_not_all_not]; simp
  unfold Wg
  rw [hh, ha]
  generalize (List.range' 0 (v.Records.length - 0)).any (Ho v) = z
  cases z <;> simp [Fl.el]
 ·have hf : KQ v = false := by simpa using hh
  unfold Wg
  rw [hf]
  have hh' : ¬ (1 ≤ v.Keys.length ∧ v.Keys.length ≤ 8 ∧ 1 ≤ v.Next ∧ v.Next ≤ 1000000 ∧ v.Records.length ≤ 12 ∧ v.Events.length ≤ 60) := by simpa [KQ] using hf
  by_cases c1 : (1 : Int) ≤ v.Keys.length ∧ (v.Keys.length : Int) ≤ 8
  ·by_cases c3 : 1 ≤ v.Next ∧ v.Next ≤ 1000000
   ·by_cases c4 : ((v.Records.length : Int) > 12)
    ·simp [c1, c3, c4]
    ·have c5 : ((v.Events.length : Int) > 60) := by omega
     simp [c1, c3, c4, c5]
   ·simp [c1, c3]
  ·simp [c1]
theorem qG {α : Type} [Dat α] [Wt α] {f : α → Int → Option Int} {x : α} {left : Int} {G : Int → Option Bool} (hf : Tx f x) (h1 : 0 ≤ left) (h2 : left ≤ 1048576) (hG : ∀ r, 0 ≤ r → r ≤ 1048576 → r + (Wt.wt x : Nat) ≤ left → G r = some true) :
  ((f x left).bind fun r => if decide (r < 0) = true then some true else G r) = some true := by
 obtain ⟨r, e1, e2, e3⟩ := hf left h1 h2
 rw [e1]
 by_cases hr : r < 0
 ·simp [hr]
 ·have := hG r (by omega) e2 (e3 (by omega))
  simp [hr, this]
theorem HD {v : GVault} (h : Wg v = true) : 1 ≤ v.Keys.length ∧ v.Keys.length ≤ 8 ∧ 1 ≤ v.Next ∧ v.Next ≤ 1000000 ∧ v.Records.length ≤ 12 ∧ v.Events.length ≤ 60 := by
 unfold Wg KQ at h
 simp only [Bool.and_eq_true, decide_eq_true_eq] at h
 exact h.1.1
theorem Hf (a : Nat) (h : a < 9223372036854775808) : (BitVec.ofInt 64 (a : Int)).toNat = a := by
 rw [BitVec.toNat_ofInt]
 omega
theorem Ka (a b : Nat) (ha : a < 9223372036854775808) (hb : b < 9223372036854775808) : Q2 (a : Int) (b : Int) = ((a ^^^ b : Nat) : Int) := by
 unfold Q2
 rw [BitVec.toNat_xor, Hf a ha, Hf b hb]
 have : a ^^^ b < 2 ^ 63 := Nat.xor_lt_two_pow ha hb
 exact YI (by omega)
theorem kc (a b : Nat) (ha : a < 9223372036854775808) (hb : b < 9223372036854775808) : Qg (a : Int) (b : Int) = ((a &&& b : Nat) : Int) := by
 unfold Qg
 rw [BitVec.toNat_and, Hf a ha, Hf b hb]
 have : a &&& b < 2 ^ 63 := Nat.and_lt_two_pow _ hb
 exact YI (by omega)
theorem ya (a i : Nat) (hi : i ≤ 63) (h : a <<< i < 9223372036854775808) : Ai (a : Int) (i : Int) = ((a <<< i : Nat) : Int) := by
 unfold Ai
 rw [show min ((i : Int)).toNat 64 = i by omega]
 have : ((a : Int) * 2 ^ i) = ((a <<< i : Nat) : Int) := by rw [Nat.shiftLeft_eq]; simp
 rw [this]
 generalize a <<< i = x at h ⊢
 exact YI (by omega)
theorem zG (a i : Nat) (hi : i ≤ 63) : Wd (a : Int) (i : Int) = ((a >>> i : Nat) : Int) := by
 unfold Wd
 rw [show min ((i : Int)).toNat 64 = i by omega, Nat.shiftRight_eq_div_pow, Int.fdiv_eq_ediv_of_nonneg _ (by exact_mod_cast Nat.zero_le _)]
 simp
theorem A9 (a i : Nat) : ((a >>> i) &&& 1 = 1) ↔ a.testBit i = true := by
 rw [Nat.testBit, Nat.and_comm]
 have h := Nat.and_one_is_mod (a >>> i)
 rw [Nat.and_comm] at h
 rw [h]
 rcases Nat.mod_two_eq_zero_or_one (a >>> i) with h | h <;> simp [h]
theorem kY (a : Nat) : Int.tmod (a : Int) 2 = ((a % 2 : Nat) : Int) := by
 rw [Int.tmod_eq_emod_of_nonneg (by omega)]; simp
theorem kH (a : Nat) : Int.tdiv (a : Int) 2 = ((a / 2 : Nat) : Int) := by
 rw [Int.tdiv_eq_ediv_of_nonneg (by omega)]; simp
theorem je (a : Nat) (h : a < 9223372036854775808) : wr (a : Int) = (a : Int) := YI (by omega)
theorem j4 (a : Nat) (h : a < 9223372036854775808) : IntKind.u64.wrap (a : Int) = (a : Int) := by
 simp only [IntKind.wrap, IntKind.bits, IntKind.signed]
 simp
 omega

def YD (m deg : Nat) : Nat → Nat → Nat
 | 0, a => a
 | k + 1, a => YD m deg k (if a.testBit (deg + k) then a ^^^ (m <<< k) else a)
theorem Kh {m k n : Nat} (h : m < 2 ^ n) : m <<< k < 2 ^ (n + k) := by
 rw [Nat.shiftLeft_eq, Nat.pow_add]
 exact Nat.mul_lt_mul_of_pos_right h (Nat.two_pow_pos _)
theorem AF {a n : Nat} (h : a < 2 ^ (n + 1)) (hb : a.testBit n = false) : a < 2 ^ n := by
 apply Nat.lt_pow_two_of_testBit
 intro i hi
 rcases Nat.eq_or_lt_of_le hi with rfl | hi
 ·exact hb
 ·exact Nat.testBit_lt_two_pow (Nat.lt_of_lt_of_le h (Nat.pow_le_pow_right (by omega) hi))
theorem jq {m d : Nat} (h1 : 2 ^ d ≤ m) (h2 : m < 2 ^ (d + 1)) : m.testBit d = true := by
 rw [Nat.testBit, Nat.shiftRight_eq_div_pow]
 have : m / 2 ^ d = 1 := by
  apply Nat.div_eq_of_lt_le
  ·simpa using h1
  ·rw [Nat.pow_succ] at h2; omega
 rw [this]; rfl
theorem qs {m d k a : Nat} (h1 : 2 ^ d ≤ m) (h2 : m < 2 ^ (d + 1)) (ha : a < 2 ^ (d + (k + 1))) (hb : a.testBit (d + k) = true) : a ^^^ (m <<< k) < 2 ^ (d + k) := by
 have hm : m <<< k < 2 ^ (d + (k + 1)) := by have := Kh (k := k) h2; rwa [show d + 1 + k = d + (k + 1) by omega] at this
 refine AF (Nat.xor_lt_two_pow (by rwa [show d + k + 1 = d + (k + 1) by omega]) (by rwa [show d + k + 1 = d + (k + 1) by omega])) ?_
 rw [Nat.testBit_xor, hb, Nat.testBit_shiftLeft]
 simp [jq h1 h2]
theorem JK {m d : Nat} (h1 : 2 ^ d ≤ m) (h2 : m < 2 ^ (d + 1)) : ∀ (k a : Nat), a < 2 ^ (d + k) → YD m d k a < 2 ^ d
 | 0, a, h => by simpa [YD] using h
 | k + 1, a, h => by
  unfold YD
  cases hb : a.testBit (d + k) with
  | true => simp only [if_true]; exact JK h1 h2 k _ (qs h1 h2 h hb)
  | false => simp only [Bool.false_eq_true, if_false]; exact JK h1 h2 k a (AF h hb)
theorem Qi (m d : Nat) : ∀ (k a b : Nat), YD m d k (a ^^^ b) = YD m d k a ^^^ YD m d k b
 | 0, _, _ => rfl
 | k + 1, a, b => by
  simp only [YD]
  rw [Nat.testBit_xor]
  cases a.testBit (d + k) <;> cases b.testBit (d + k) <;> simp only [Bool.xor_false, Bool.false_xor, Bool.xor_self, Bool.xor_true, Bool.not_false, Bool.not_true, Bool.false_eq_true, if_true, if_false]
  ·exact Qi m d k a b
  ·rw [Nat.xor_assoc]; exact Qi m d k a _
  ·rw [← Qi m d k]; congr 1; rw [Nat.xor_assoc, Nat.xor_comm b, ← Nat.xor_assoc]
  ·rw [← Qi m d k]; congr 1
   rw [Nat.xor_assoc, ← Nat.xor_assoc (m <<< k), Nat.xor_comm (m <<< k) b, Nat.xor_assoc, Nat.xor_self, Nat.xor_zero]
theorem UZ {m d : Nat} : ∀ (k a : Nat), a < 2 ^ d → YD m d k a = a
 | 0, _, _ => rfl
 | k + 1, a, h => by
  unfold YD
  rw [Nat.testBit_lt_two_pow (Nat.lt_of_lt_of_le h (Nat.pow_le_pow_right (by omega) (by omega)))]
  simp only [Bool.false_eq_true, if_false]
  exact UZ k a h
theorem AC {m d k a : Nat} (h : a < 2 ^ (d + k)) : YD m d (k + 1) a = YD m d k a := by
 conv => lhs; unfold YD
 rw [Nat.testBit_lt_two_pow h]; rfl
theorem Qx (m d : Nat) : ∀ (k x : Nat), YD m d (k + 1) (x <<< 1) = (if ((YD m d k x) <<< 1).testBit d then ((YD m d k x) <<< 1) ^^^ m else (YD m d k x) <<< 1)
 | 0, x => by simp [YD]
 | k + 1, x => by
  conv => lhs; unfold YD
  conv => rhs; unfold YD
  have e : (x <<< 1).testBit (d + (k + 1)) = x.testBit (d + k) := by
   rw [Nat.testBit_shiftLeft]
   have : d + (k + 1) ≥ 1 := by omega
   simp only [this, decide_true, Bool.true_and]
   congr 1
  rw [e]
  cases x.testBit (d + k) with
  | false => simp only [Bool.false_eq_true, if_false]; exact Qx m d k x
  | true =>
   simp only [if_true]
   have e2 : x <<< 1 ^^^ m <<< (k + 1) = (x ^^^ m <<< k) <<< 1 := by
    rw [Nat.shiftLeft_xor_distrib, ← Nat.shiftLeft_add]
   rw [e2]
   exact Qx m d k _

def lenN (n : Nat) : Nat := if n = 0 then 0 else n.log2 + 1
theorem v_rest (a m d : Nat) (hd : d ≤ 15) (ha : a < 2 ^ 16) (hm : m < 2 ^ 20) : TC (a : Int) (m : Int) (d : Int) = some ((YD m d (16 - d) a : Nat) : Int) := by
 have key : ∀ (k a : Nat), d + k ≤ 16 → a < 2 ^ 40 → ZG (U4 (m : Int) (d : Int)) ((a : Int), ((d + k : Nat) : Int) - 1) = some ((YD m d k a : Nat) : Int) := by
  intro k
  induction k with
  | zero =>
   intro a _ _
   rw [XX (t := (a : Int))]
   ·rfl
   ·unfold U4
    have : ¬ (((d + 0 : Nat) : Int) - 1 ≥ (d : Int)) := by omega
    simp only [this, decide_false, Bool.false_eq_true, if_false]
  | succ k ih =>
   intro a hk ha
   have e0 : ((d + (k + 1) : Nat) : Int) - 1 = ((d + k : Nat) : Int) := by omega
   have hsh : m <<< k < 2 ^ (20 + k) := Kh hm
   have hsh2 : m <<< k < 2 ^ 40 := Nat.lt_of_lt_of_le hsh (Nat.pow_le_pow_right (by omega) (by omega))
   have hst : U4 (m : Int) (d : Int) ((a : Int), ((d + (k + 1) : Nat) : Int) - 1) = some (.nx (((if a.testBit (d + k) then a ^^^ (m <<< k) else a : Nat) : Int), ((d + k : Nat) : Int) - 1)) := by
    rw [e0]
    unfold U4
    have c1 : ((d + k : Nat) : Int) ≥ (d : Int) := by omega
    have c2 : XJ ((d + k : Nat) : Int) = some () := by unfold XJ; rw [if_pos (by omega)]
    have c3 : wr (((d + k : Nat) : Int) - (d : Int)) = ((k : Nat) : Int) := by rw [show ((d + k : Nat) : Int) - (d : Int) = ((k : Nat) : Int) by omega, je _ (by omega)]
    have c4 : XJ ((k : Nat) : Int) = some () := by unfold XJ; rw [if_pos (by omega)]
    have c5 : wr (((d + k : Nat) : Int) - 1) = ((d + k : Nat) : Int) - 1 := YI (by omega)
    simp only [c1, decide_true, if_true, c2, c3, c4, c5, Option.bind_some]
    have c6 : Qg (Wd (a : Int) ((d + k : Nat) : Int)) 1 = (((a >>> (d + k)) &&& 1 : Nat) : Int) := by
     rw [zG a (d + k) (by omega)]
     exact kc _ 1 (Nat.lt_of_le_of_lt (Nat.shiftRight_le _ _) (by omega)) (by omega)
    rw [c6, ya m k (by omega) (by omega), Ka a _ (by omega) (by omega)]
    cases hb : a.testBit (d + k) with
    | true =>
     have := (A9 a (d + k)).2 hb
     rw [this]; rfl
    | false =>
     have : ¬ ((a >>> (d + k)) &&& 1 = 1) := fun h => by rw [(A9 a (d + k)).1 h] at hb; cases hb
     have h2 : (((((a >>> (d + k)) &&& 1 : Nat) : Int)) == 1) = false := by
      rw [beq_eq_false_iff_ne]; omega
     rw [h2]; rfl
   rw [Wj hst, ih _ (by omega) ?_]
   ·conv => rhs; unfold YD
   ·split
    ·exact Nat.xor_lt_two_pow ha hsh2
    ·exact ha
 unfold TC
 have := key (16 - d) a (by omega) (by omega)
 rw [show ((d + (16 - d) : Nat) : Int) - 1 = 15 by omega] at this
 rw [this]; rfl

def JH : Nat → Nat → Nat → Nat
 | 0, _, _ => 0
 | n + 1, a, b => (if b % 2 = 1 then a else 0) ^^^ JH n (a <<< 1) (b / 2)
theorem Ht : ∀ (n a : Nat), JH n a 0 = 0
 | 0, _ => rfl
 | n + 1, a => by simp [JH, Ht n]
theorem jl : ∀ (n a b p : Nat), a < 2 ^ p → JH n a b < 2 ^ (p + n)
 | 0, _, _, _, _ => by simp [JH]; exact Nat.two_pow_pos _
 | n + 1, a, b, p, h => by
  unfold JH
  have h1 : a <<< 1 < 2 ^ (p + 1) := Kh h
  have h2 := jl n (a <<< 1) (b / 2) (p + 1) h1
  rw [show p + 1 + n = p + (n + 1) by omega] at h2
  refine Nat.xor_lt_two_pow ?_ h2
  have h3 : 2 ^ p ≤ 2 ^ (p + (n + 1)) := Nat.pow_le_pow_right (by omega) (by omega)
  have h4 := Nat.two_pow_pos (p + (n + 1))
  split <;> omega
def prC : Nat → Nat → Nat → Nat
 | 0, _, _ => 0
 | i + 1, a, b => prC i a b ^^^ (if b.testBit i then a <<< i else 0)
theorem yb : ∀ (n a b : Nat), prC (n + 1) a b = (if b % 2 = 1 then a else 0) ^^^ prC n (a <<< 1) (b / 2)
 | 0, a, b => by
  simp only [prC, Nat.zero_xor, Nat.xor_zero, Nat.shiftLeft_zero]
  have : b.testBit 0 = decide (b % 2 = 1) := by simp [Nat.testBit_zero]
  rw [this]; simp
 | n + 1, a, b => by
  conv => lhs; unfold prC
  rw [yb n a b]
  conv => rhs; unfold prC
  rw [← Nat.xor_assoc]
  congr 1
  rw [Nat.testBit_succ, ← Nat.shiftLeft_add, Nat.add_comm 1 n]
theorem kB : ∀ (n a b : Nat), prC n a b = JH n a b
 | 0, _, _ => rfl
 | n + 1, a, b => by rw [yb, kB n]; rfl
theorem yF (a b : Nat) (h : a < 256) : ∀ i, i ≤ 8 → prC i a b < 2 ^ 16
 | 0, _ => by simp [prC]
 | i + 1, hi => by
  unfold prC
  have h1 : a <<< i < 2 ^ (8 + i) := Kh h
  have h2 : 2 ^ (8 + i) ≤ 2 ^ 16 := Nat.pow_le_pow_right (by omega) (by omega)
  refine Nat.xor_lt_two_pow (yF a b h i (by omega)) ?_
  split
  ·omega
  ·omega
def Z7 (m : Nat) (a b : UInt8) : UInt8 := Zr ((YD m 8 8 (JH 8 a.toNat b.toNat) : Nat) : Int)
theorem Te (m : Nat) (hm : m < 512) (a b : UInt8) : Ya (m : Int) a b = some (Z7 m a b) := by
 have ha : a.toNat < 256 := a.toNat_lt
 have hb : b.toNat < 256 := b.toNat_lt
 have h := Z1 (f := Xg a b) (fun i : Nat => (((prC i a.toNat b.toNat : Nat) : Int), (i : Int))) 0 8 (Nat.zero_le _) (t := ((prC 8 a.toNat b.toNat : Nat) : Int)) (fun i _ hi => by
  unfold Xg
  have c1 : ((i : Int) < 8) := by omega
  have c2 : XJ (i : Int) = some () := by unfold XJ; rw [if_pos (by omega)]
  have c3 : prC i a.toNat b.toNat < 2 ^ 16 := yF _ _ ha i (by omega)
  have c4 : a.toNat <<< i < 2 ^ (8 + i) := Kh ha
  have c5 : 2 ^ (8 + i) ≤ 2 ^ 16 := Nat.pow_le_pow_right (by omega) (by omega)
  have c6 : (((B4 b (i : Int)) &&& 1) == 1) = b.toNat.testBit i := by
   have e1 : (B4 b (i : Int)).toNat = b.toNat >>> i := by
    unfold B4 Zr
    rw [show min ((i : Int)).toNat 8 = i by omega, Int.fdiv_eq_ediv_of_nonneg _ (by exact_mod_cast Nat.zero_le _)]
    have : ((b.toNat : Int) / 2 ^ i) = ((b.toNat >>> i : Nat) : Int) := by rw [Nat.shiftRight_eq_div_pow]; simp
    rw [this]
    have h3 : b.toNat >>> i ≤ b.toNat := Nat.shiftRight_le _ _
    generalize b.toNat >>> i = q at h3 ⊢
    have h4 : (((q : Nat) : Int) % 256).toNat = q := by omega
    rw [h4]
    simp
    omega
   rw [Bool.eq_iff_iff, beq_iff_eq, ← A9, ← UInt8.toNat_inj, UInt8.toNat_and, e1]
   simp
  simp only [c1, decide_true, if_true, c2, Option.bind_some, c6, YO (show i < 9223372036854775807 by omega)]
  rw [ya _ i (by omega) (by omega), Ka _ _ (by omega) (by omega)]
  cases hbit : b.toNat.testBit i with
  | true => simp [prC, hbit]
  | false => simp [prC, hbit]) (by unfold Xg; simp)
 have h2 : ZG (Xg a b) (0, 0) = _ := h
 unfold Ya
 rw [h2]
 simp only [Option.bind_some]
 have h3 := v_rest (prC 8 a.toNat b.toNat) m 8 (by omega) (yF _ _ ha 8 (by omega)) (by omega)
 have h4 : TC ((prC 8 a.toNat b.toNat : Nat) : Int) (m : Int) 8 = _ := h3
 rw [h4, kB]
 rfl
theorem KY (m : Nat) (hm : m < 512) (hm2 : 256 ≤ m) (a b : UInt8) : YH (m : Int) a b = some (Z7 m a b) := by
 have ha : a.toNat < 256 := a.toNat_lt
 have hb : b.toNat < 256 := b.toNat_lt
 have h1 : 2 ^ 8 ≤ m := hm2
 have h2 : m < 2 ^ (8 + 1) := hm
 have hR : ∀ i, i ≤ 8 → YD m 8 8 (a.toNat <<< i) < 256 := fun i hi => JK h1 h2 8 _ (by
  have := Kh (k := i) (show a.toNat < 2 ^ 8 from ha)
  exact Nat.lt_of_lt_of_le this (Nat.pow_le_pow_right (by omega) (by omega)))
 have hdbl : ∀ i, i ≤ 7 → YD m 8 8 (a.toNat <<< (i + 1)) = if 256 ≤ (YD m 8 8 (a.toNat <<< i)) * 2 then (YD m 8 8 (a.toNat <<< i)) * 2 ^^^ m else (YD m 8 8 (a.toNat <<< i)) * 2 := by
  intro i hi
  have hx : a.toNat <<< i < 2 ^ (8 + 7) := Nat.lt_of_lt_of_le (Kh (show a.toNat < 2 ^ 8 from ha)) (Nat.pow_le_pow_right (by omega) (by omega))
  have e : a.toNat <<< (i + 1) = (a.toNat <<< i) <<< 1 := by rw [← Nat.shiftLeft_add]
  rw [e, Qx m 8 7, ← AC hx]
  have hlt := hR i (by omega)
  generalize YD m 8 8 (a.toNat <<< i) = y at hlt ⊢
  have e2 : y <<< 1 = y * 2 := by rw [Nat.shiftLeft_eq]
  rw [e2]
  have e3 : (y * 2).testBit 8 = decide (256 ≤ y * 2) := by
   by_cases hy : 256 ≤ y * 2
   ·rw [jq (d := 8) hy (by omega)]; simp [hy]
   ·rw [Nat.testBit_lt_two_pow (by omega : y * 2 < 2 ^ 8)]; simp [hy]
  rw [e3]
  by_cases hy : 256 ≤ y * 2 <;> simp [hy]
 have key : ∀ (n i o r : Nat), i + n ≤ 8 → r < 2 ^ n → o < 256 → ZG (Y3 (m : Int)) ((o : Int), ((YD m 8 8 (a.toNat <<< i) : Nat) : Int), (r : Int)) = some ((o ^^^ YD m 8 8 (JH n (a.toNat <<< i) r) : Nat) : Int) := by
  intro n
  induction n with
  | zero =>
   intro i o r _ hr ho
   have : r = 0 := by simpa using hr
   subst this
   rw [XX (t := (o : Int))]
   ·rw [Ht, UZ 8 0 (by omega), Nat.xor_zero]
   ·unfold Y3; simp
  | succ n ih =>
   intro i o r hi hr ho
   by_cases h0 : r = 0
   ·subst h0
    rw [XX (t := (o : Int))]
    ·rw [Ht, UZ 8 0 (by omega), Nat.xor_zero]
    ·unfold Y3; simp
   ·have hy := hR i (by omega)
    have hst : Y3 (m : Int) ((o : Int), ((YD m 8 8 (a.toNat <<< i) : Nat) : Int), (r : Int)) = some (.nx (((o ^^^ YD m 8 8 (if r % 2 = 1 then a.toNat <<< i else 0) : Nat) : Int), ((YD m 8 8 (a.toNat <<< (i + 1)) : Nat) : Int), ((r / 2 : Nat) : Int))) := by
     rw [hdbl i (by omega)]
     unfold Y3
     have c1 : (r : Int) > 0 := by omega
     have hr2 : r < 512 := Nat.lt_of_lt_of_le hr (Nat.le_trans (Nat.pow_le_pow_right (by omega) (by omega : n + 1 ≤ 9)) (by omega))
     simp only [c1, decide_true, if_true, kY, kH]
     have e1 : wr (((YD m 8 8 (a.toNat <<< i) : Nat) : Int) * 2) = (((YD m 8 8 (a.toNat <<< i)) * 2 : Nat) : Int) := by rw [YI (by omega)]; omega
     have e2 : wr ((r / 2 : Nat) : Int) = ((r / 2 : Nat) : Int) := je _ (by omega)
     rw [e1, e2, Ka _ _ (by omega) (by omega), Ka _ _ (by omega) (by omega)]
     have e3 : ((((r % 2 : Nat) : Int)) == 1) = decide (r % 2 = 1) := by
      rw [Bool.eq_iff_iff, beq_iff_eq, decide_eq_true_eq]; omega
     rw [e3]
     have e4 : decide ((((YD m 8 8 (a.toNat <<< i)) * 2 : Nat) : Int) ≥ 256) = decide (256 ≤ (YD m 8 8 (a.toNat <<< i)) * 2) := by rw [decide_eq_decide]; omega
     rw [e4]
     have e5 : YD m 8 8 0 = 0 := UZ 8 0 (by omega)
     by_cases c2 : r % 2 = 1 <;> by_cases c3 : 256 ≤ (YD m 8 8 (a.toNat <<< i)) * 2 <;> simp only [c2, c3, decide_true, decide_false, Bool.false_eq_true, if_true, if_false, Option.bind_some, e5, Nat.xor_zero]
    rw [Wj hst, ih (i + 1) _ (r / 2) (by omega) (by rw [Nat.pow_succ] at hr; omega) ?_]
    ·conv => rhs; unfold JH
     rw [Qi, Nat.xor_assoc, Nat.shiftLeft_add]
    ·refine Nat.xor_lt_two_pow (n := 8) ho ?_
     split
     ·exact hR i (by omega)
     ·rw [UZ 8 0 (by omega)]; omega
 have := key 8 0 0 b.toNat (by omega) hb (by omega)
 rw [Nat.shiftLeft_zero, UZ 8 a.toNat ha, Nat.zero_xor] at this
 have h3 : ZG (Y3 (m : Int)) (0, bI a, bI b) = _ := this
 unfold YH
 rw [h3]
 rfl

def HV (m : Nat) : Nat → UInt8 → Nat → UInt8 → UInt8
 | 0, _, _, o => o
 | f + 1, a, k, o => if k = 0 then o else HV m f (Z7 m a a) (k / 2) (if k % 2 = 1 then Z7 m o a else o)
theorem z7 (m : Nat) (L : UInt8 × Int × UInt8 → Option (Fl (UInt8 × Int × UInt8) UInt8)) (T : UInt8 → UInt8 → Option UInt8) (hT : ∀ a b, T a b = some (Z7 m a b))
  (hL : ∀ s, L s = if (decide (s.2.1 > 0)) = true then (((if ((Int.tmod s.2.1 2) == 1) = true then ((T s.2.2 s.1).bind fun r => some r) else (some s.2.2) : Option UInt8).bind fun j12 => (T s.1 s.1).bind fun r20 => some (r20, j12) : Option (UInt8 × UInt8)).bind fun j9 => some (Fl.nx (j9.1, wr (Int.tdiv s.2.1 2), j9.2))) else (some (Fl.ex s.2.2))) :
  ∀ (f k : Nat) (a o : UInt8), k < 2 ^ f → f ≤ 62 → ZG L (a, (k : Int), o) = some (HV m f a k o) := by
 intro f
 induction f with
 | zero =>
  intro k a o hk _
  have : k = 0 := by simpa using hk
  subst this
  exact XX (by rw [hL]; simp [HV])
 | succ f ih =>
  intro k a o hk hf
  by_cases h0 : k = 0
  ·subst h0
   exact XX (by rw [hL]; simp [HV])
  ·have hlt : k < 9223372036854775808 := Nat.lt_of_lt_of_le hk (Nat.pow_le_pow_right (by omega : 0 < 2) (by omega : f + 1 ≤ 63))
   have hst : L (a, (k : Int), o) = some (.nx (Z7 m a a, ((k / 2 : Nat) : Int), if k % 2 = 1 then Z7 m o a else o)) := by
    rw [hL]
    have c1 : (k : Int) > 0 := by omega
    have e3 : ((((k % 2 : Nat) : Int)) == 1) = decide (k % 2 = 1) := by
     rw [Bool.eq_iff_iff, beq_iff_eq, decide_eq_true_eq]; omega
    simp only [c1, decide_true, if_true, kY, kH, hT, e3, Option.bind_some, je (k / 2) (by omega)]
    by_cases c2 : k % 2 = 1 <;> simp [c2]
   rw [Wj hst, ih (k / 2) _ _ (by rw [Nat.pow_succ] at hk; omega) (by omega)]
   conv => rhs; unfold HV
   rw [if_neg h0]
theorem Ae (m : Nat) (hm : m < 512) (a : UInt8) (k f : Nat) (hk : k < 2 ^ f) (hf : f ≤ 62) : Xy (m : Int) a (k : Int) = some (HV m f a k 1) := by
 unfold Xy
 rw [z7 m (Vo (m : Int)) _ (Te m hm) (fun s => by unfold Vo; rfl) f k a 1 hk hf]; rfl
theorem yw (m : Nat) (hm : m < 512) (hm2 : 256 ≤ m) (a : UInt8) (k f : Nat) (hk : k < 2 ^ f) (hf : f ≤ 62) : WY (m : Int) a (k : Int) = some (HV m f a k 1) := by
 unfold WY
 rw [z7 m (U3 (m : Int)) _ (KY m hm hm2) (fun s => by unfold U3; rfl) f k a 1 hk hf]; rfl
def Qp (m : Nat) (a : UInt8) : UInt8 := HV m 8 a 254 1
theorem Q4 (m : Nat) (hm : m < 512) (a : UInt8) : Yk (m : Int) a = some (Qp m a) := by
 unfold Yk
 have := Ae m hm a 254 8 (by omega) (by omega)
 have h2 : Xy (m : Int) a 254 = _ := this
 rw [h2]; rfl
theorem kx (m : Nat) (hm : m < 512) (hm2 : 256 ≤ m) (a : UInt8) : Vk (m : Int) a = some (Qp m a) := by
 unfold Vk
 have := yw m hm hm2 a 254 8 (by omega) (by omega)
 have h2 : WY (m : Int) a 254 = _ := this
 rw [h2]; rfl

def redB (m d : Nat) : Bool := YD d (lenN d - 1) (16 - (lenN d - 1)) m == 0
def Jx (m : Int) : Bool := decide (256 ≤ m ∧ m ≤ 511) && !((List.range' 2 30).any (redB m.toNat))
theorem zN {m : Int} (h : Jx m = true) : ∃ n : Nat, m = n ∧ 256 ≤ n ∧ n < 512 := by
 unfold Jx at h
 simp only [Bool.and_eq_true, decide_eq_true_eq] at h
 exact ⟨m.toNat, by omega, by omega, by omega⟩
def kW (l : List UInt8) : Bool := decide l.Nodup
def dbl (m y : Nat) : Nat := if (y <<< 1).testBit 8 then (y <<< 1) ^^^ m else y <<< 1
theorem zA (a b c d : Nat) : (a ^^^ b) ^^^ (c ^^^ d) = (a ^^^ c) ^^^ (b ^^^ d) := by
 rw [Nat.xor_assoc, Nat.xor_assoc, ← Nat.xor_assoc b, ← Nat.xor_assoc c, Nat.xor_comm b c]
theorem jn (m x y : Nat) : dbl m (x ^^^ y) = dbl m x ^^^ dbl m y := by
 unfold dbl
 rw [Nat.shiftLeft_xor_distrib, Nat.testBit_xor]
 cases (x <<< 1).testBit 8 <;> cases (y <<< 1).testBit 8 <;> simp only [Bool.xor_false, Bool.false_xor, Bool.xor_self, Bool.xor_true, Bool.not_false, Bool.not_true, Bool.false_eq_true, if_true, if_false]
 ·rw [Nat.xor_assoc]
 ·rw [Nat.xor_assoc, Nat.xor_assoc, Nat.xor_comm m]
 ·rw [zA, Nat.xor_self, Nat.xor_zero]
theorem BO (m : Nat) : dbl m 0 = 0 := by simp [dbl]
def opP (m : Nat) : Nat → Nat → Nat → Nat
 | 0, _, _ => 0
 | n + 1, b, x => (if b % 2 = 1 then x else 0) ^^^ opP m n (b / 2) (dbl m x)
theorem ym (m n b x : Nat) : opP m (n + 1) b x = (if b % 2 = 1 then x else 0) ^^^ opP m n (b / 2) (dbl m x) := rfl
theorem A8 (m : Nat) : ∀ (n b x y : Nat), opP m n b (x ^^^ y) = opP m n b x ^^^ opP m n b y
 | 0, _, _, _ => by simp [opP]
 | n + 1, b, x, y => by
  unfold opP
  rw [jn, A8 m n, zA]
  congr 1
  split <;> simp
theorem JU (m : Nat) : ∀ (n b : Nat), opP m n b 0 = 0
 | 0, _ => rfl
 | n + 1, b => by unfold opP; rw [BO, JU m n]; simp
theorem y8 (m : Nat) : ∀ (n b x : Nat), opP m n b (dbl m x) = dbl m (opP m n b x)
 | 0, _, _ => (BO m).symm
 | n + 1, b, x => by
  unfold opP
  rw [y8 m n, jn]
  congr 1
  split
  ·rfl
  ·exact (BO m).symm
theorem yf (m : Nat) : ∀ (n b k c x : Nat), opP m n b (opP m k c x) = opP m k c (opP m n b x)
 | 0, _, k, c, _ => (JU m k c).symm
 | n + 1, b, k, c, x => by
  rw [ym, ym, ← y8, yf m n, A8]
  congr 1
  split
  ·rfl
  ·exact (JU m k c).symm
theorem jK (a : Nat) : (if a % 2 = 1 then 1 else 0) ^^^ (a / 2) <<< 1 = a := by
 rw [Nat.shiftLeft_eq]
 have h : (if a % 2 = 1 then 1 else 0) = a % 2 := by split <;> omega
 rw [h]
 apply Nat.eq_of_testBit_eq
 intro i
 rw [Nat.testBit_xor]
 cases i with
 | zero =>
  simp [Nat.testBit_zero]
 | succ i =>
  rw [Nat.testBit_succ, Nat.testBit_succ, Nat.testBit_succ]
  have h1 : a % 2 / 2 = 0 := by omega
  have h2 : a / 2 * 2 ^ 1 / 2 = a / 2 := by omega
  rw [h1, h2]; simp
theorem qr (m i : Nat) (hi : i < 7) : dbl m (1 <<< i) = 1 <<< (i + 1) := by
 unfold dbl
 rw [← Nat.shiftLeft_add]
 have : (1 <<< (i + 1)).testBit 8 = false := by
  apply Nat.testBit_lt_two_pow
  rw [Nat.shiftLeft_eq, Nat.one_mul]
  exact Nat.pow_lt_pow_right (by omega) (by omega)
 rw [this]; rfl
theorem zw (m : Nat) : ∀ (n i a : Nat), n + i ≤ 8 → a < 2 ^ n → opP m n a (1 <<< i) = a <<< i
  | 0, i, a, _, ha => by
    have : a = 0 := by simpa using ha
    subst this; simp [opP]
  | n + 1, i, a, hn, ha => by
    have e : a <<< i = (if a % 2 = 1 then 1 <<< i else 0) ^^^ (a / 2) <<< (i + 1) := by
      conv => lhs; rw [← jK a]
      rw [Nat.shiftLeft_xor_distrib, ← Nat.shiftLeft_add, Nat.add_comm 1 i]
      congr 1
      split <;> simp
    unfold opP
    rw [e]
    congr 1
    rcases Nat.eq_zero_or_pos n with rfl | hp
    · have : a / 2 = 0 := by have : a < 2 := by simpa using ha
                             omega
      rw [this]; simp [opP]
    · rw [qr m i (by omega)]
      exact zw m n (i + 1) (a / 2) (by omega) (by rw [Nat.pow_succ] at ha; omega)

theorem jE (m x : Nat) (hx : x < 2 ^ 15) : YD m 8 8 (x <<< 1) = dbl m (YD m 8 8 x) := by
 rw [Qx m 8 7, ← AC (d := 8) (k := 7) hx]; rfl
theorem kQ (m : Nat) : ∀ (n i a b : Nat), i + n ≤ 8 → a < 2 ^ 8 → YD m 8 8 (JH n (a <<< i) b) = opP m n b (YD m 8 8 (a <<< i))
 | 0, _, _, _, _, _ => by simp [JH, opP, UZ 8 0]
 | n + 1, i, a, b, hn, ha => by
  unfold JH opP
  rw [Qi]
  have hx : a <<< i < 2 ^ 15 := Nat.lt_of_lt_of_le (Kh ha) (Nat.pow_le_pow_right (by omega) (by omega))
  rw [← jE m _ hx, ← Nat.shiftLeft_add, kQ m n (i + 1) a (b / 2) (by omega) ha]
  congr 1
  split
  ·rfl
  ·exact UZ 8 0 (by omega)
theorem Qh (m : Nat) (h1 : 256 ≤ m) (h2 : m < 512) (a b : UInt8) : (Z7 m a b).toNat = opP m 8 b.toNat a.toNat := by
 have ha : a.toNat < 2 ^ 8 := a.toNat_lt
 have hr : YD m 8 8 (JH 8 a.toNat b.toNat) < 256 := JK (d := 8) h1 h2 8 _ (jl 8 a.toNat b.toNat 8 ha)
 have e := kQ m 8 0 a.toNat b.toNat (by omega) ha
 rw [Nat.shiftLeft_zero, UZ 8 _ ha] at e
 unfold Z7 Zr
 rw [e] at hr ⊢
 generalize opP m 8 b.toNat a.toNat = q at hr ⊢
 have : (((q : Nat) : Int) % 256).toNat = q := by omega
 rw [this]
 simp
 omega
section
variable {m : Nat} (h1 : 256 ≤ m) (h2 : m < 512)
include h1 h2
theorem QR (a b : UInt8) : Z7 m a b = Z7 m b a := by
 apply UInt8.toNat_inj.1
 rw [Qh m h1 h2, Qh m h1 h2]
 have ea := zw m 8 0 a.toNat (by omega) a.toNat_lt
 have eb := zw m 8 0 b.toNat (by omega) b.toNat_lt
 simp only [Nat.shiftLeft_zero] at ea eb
 rw [← ea, yf, eb, ea]
theorem jW (a b c : UInt8) : Z7 m (a ^^^ b) c = Z7 m a c ^^^ Z7 m b c := by
 apply UInt8.toNat_inj.1
 rw [UInt8.toNat_xor, Qh m h1 h2, Qh m h1 h2, Qh m h1 h2, UInt8.toNat_xor, A8]
theorem yG (a b c : UInt8) : Z7 m a (b ^^^ c) = Z7 m a b ^^^ Z7 m a c := by
 rw [QR h1 h2, jW h1 h2, QR h1 h2 b, QR h1 h2 c]
theorem K9 (a : UInt8) : Z7 m 0 a = 0 := by
 apply UInt8.toNat_inj.1
 rw [Qh m h1 h2]
 exact JU m 8 _
end
def vf {α : Type} (n : Nat) (f : Nat → α) : Vector α n := Vector.ofFn fun i => f i.1
theorem QP {α : Type} {n i : Nat} (f : Nat → α) (h : i < n) : (vf n f)[i] = f i := by simp [vf]
theorem Jz {α : Type} {n i : Nat} (f : Nat → α) (h : i < n) : (vf n f)[i]? = some (f i) := by rw [Vector.getElem?_eq_getElem h, QP f h]
theorem ZV {α : Type} {n i : Nat} (f : Nat → α) (h : i < n) : ZM (vf n f) (i : Int) = some (f i) := by rw [WT, Jz f h]
theorem YX {α : Type} {n : Nat} {f g : Nat → α} (h : ∀ i, i < n → f i = g i) : vf n f = vf n g := by
 apply Tp
 intro i hi
 rw [QP f hi, QP g hi, h i hi]
theorem TE {α : Type} {n : Nat} (f : Nat → α) (k : Nat) (x : α) : (vf n f).setIfInBounds k x = vf n (fun i => if i = k then x else f i) := by
 apply Tp
 intro i hi
 rw [Vector.getElem_setIfInBounds, QP _ hi, QP _ hi]
 by_cases h : k = i
 ·subst h; simp
 ·rw [if_neg h, if_neg (fun e => h e.symm)]
theorem Tt {α : Type} (n : Nat) (x : α) : Vector.replicate n x = vf n (fun _ => x) := by
 apply Tp
 intro i hi
 rw [QP _ hi]; simp
theorem y7 {α : Type} [Inhabited α] {n : Nat} (v : Vector α n) : v = vf n (fun i => v[i]?.getD default) := by
 apply Tp
 intro i hi
 rw [QP _ hi, Vector.getElem?_eq_getElem hi]; rfl
abbrev Mat := Vector (Vector UInt8 4) 4
def mf (f : Nat → Nat → UInt8) : Mat := vf 4 fun i => vf 4 (f i)
theorem WF {f g : Nat → Nat → UInt8} (h : ∀ i, i < 4 → ∀ j, j < 4 → f i j = g i j) : mf f = mf g := YX fun i hi => YX fun j hj => h i hi j hj
theorem U9 {i : Nat} (f : Nat → Nat → UInt8) (h : i < 4) : ZM (mf f) (i : Int) = some (vf 4 (f i)) := ZV _ h
theorem Je (f : Nat → Nat → UInt8) (k : Nat) (g : Nat → UInt8) : (mf f).setIfInBounds k (vf 4 g) = mf (fun i j => if i = k then g j else f i j) := by
 unfold mf
 rw [TE]
 apply YX
 intro i hi
 by_cases h : i = k
 ·simp [h]
 ·simp [h]
theorem zq : Vector.replicate 4 (Vector.replicate 4 (0 : UInt8)) = mf (fun _ _ => 0) := by rw [Tt 4 (0 : UInt8), Tt]; rfl
theorem lt4 {i : Nat} (h : i < 4) : decide ((i : Int) < 4) = true := by simp; omega
theorem lt4' {i : Nat} (h : ¬ i < 4) : decide ((i : Int) < 4) = false := by simp; omega
theorem wr4 {i : Nat} (h : i < 1000) : wr ((i : Int) + 1) = ((i + 1 : Nat) : Int) := YO (by omega)

def Jy (i j : Nat) : UInt8 := if i = j then 1 else 0
theorem jM (L : Mat × Int → Option (Fl (Mat × Int) Mat))
  (hL : ∀ s8, L s8 = if (decide (s8.2 < 4)) = true then ((ZM s8.1 s8.2).bind fun (x14 : (Vector UInt8 4)) => (ZM x14 s8.2).bind fun (x17 : UInt8) => some (Fl.nx ((s8.1.setIfInBounds (s8.2).toNat (x14.setIfInBounds (s8.2).toNat 1)), wr (s8.2 + 1)))) else (some (Fl.ex s8.1))) :
  ZG L (Vector.replicate 4 (Vector.replicate 4 (0 : UInt8)), 0) = some (mf Jy) := by
 have := Z1 (f := L) (fun i : Nat => (mf fun r c => if r < i then Jy r c else 0, (i : Int))) 0 4 (by omega) (t := mf Jy) (fun i _ hi => by
  rw [hL]
  simp only [lt4 hi, if_true, U9 _ hi, ZV _ hi, Option.bind_some, Int.toNat_natCast, TE, Je, wr4 (show i < 1000 by omega)]
  congr 3
  apply WF
  intro r hr c hc
  by_cases h1 : r = i
  ·subst h1; simp [Jy, eq_comm]
  ·simp only [h1, if_false]
   by_cases h2 : r < i
   ·rw [if_pos h2, if_pos (by omega)]
   ·rw [if_neg h2, if_neg (by omega)]) (by
  rw [hL]
  simp only [lt4' (show ¬ 4 < 4 by omega), Bool.false_eq_true, if_false]
  exact congrArg (fun z => some (Fl.ex z)) (WF fun r hr c hc => by rw [if_pos hr]))
 rw [zq]
 simpa using this
theorem JC : W5 = some (mf Jy) := by
 unfold W5
 rw [jM Tw fun s => rfl]; rfl

abbrev MF := Nat → Nat → UInt8
def KV (f : MF) (k : Nat) : Nat := ((List.range' k (4 - k)).find? fun i => !(f i k == 0)).getD 4
def kN (f : MF) (i k : Nat) : MF := fun r c => if r = k then f i c else if r = i then f k c else f r c
def zb (m : Nat) (f : MF) (k : Nat) (by_ : UInt8) : MF := fun r c => if r = k then Z7 m (f k c) by_ else f r c
def Uw (m : Nat) (f g : MF) (k : Nat) : MF := fun r c => if r = k then g r c else g r c ^^^ Z7 m (f r k) (g k c)
structure Red where
 a : MF
 b : MF
 det : UInt8
def JQ (m : Nat) (s : Red) (k : Nat) : Option Red :=
 let i := KV s.a k
 if i = 4 then none else
  let f := kN s.a i k
  let g := kN s.b i k
  let q := Qp m (f k k)
  let f2 := zb m f k q
  let g2 := zb m g k q
  some ⟨Uw m f2 f2 k, Uw m f2 g2 k, Z7 m s.det (f k k)⟩
def JZ (m : Nat) : Nat → Nat → Red → Option Red
 | 0, _, s => some s
 | n + 1, k, s => (JQ m s k).bind (JZ m n (k + 1))
def Be (m : Nat) (a : MF) : UInt8 × Mat := match JZ m 4 0 ⟨a, Jy, 1⟩ with
 | some s => (s.det, mf s.b)
 | none => (0, mf fun _ _ => 0)
theorem yV (L : Int → Option (Fl Int Int)) (f : MF) (k : Nat) (hk : k < 4)
  (hL : ∀ s, L s = (if (decide (s < 4)) = true then ((ZM (mf f) s).bind fun (x30 : (Vector UInt8 4)) => (ZM x30 (k : Int)).bind fun (x33 : UInt8) => some (x33 == 0)) else (some false) : Option (Bool)).bind fun (j25 : Bool) => if j25 = true then (some (Fl.nx (wr (s + 1)))) else (some (Fl.ex s))) :
  ZG L (k : Int) = some ((KV f k : Nat) : Int) := by
 have := QK (f := L) (fun i : Nat => (i : Int)) (fun i => !(f i k == 0)) (fun i => (i : Int)) (e := (4 : Int)) 4 (4 - k) k (by omega) (fun i _ hi => by
  rw [hL]
  simp only [lt4 hi, if_true, U9 _ hi, ZV _ hk, Option.bind_some]
  cases h : (f i k == 0)
  ·simp
  ·simp [wr4 (show i < 1000 by omega)]) (by rw [hL]; simp)
 rw [this]
 unfold KV
 cases (List.range' k (4 - k)).find? fun i => !(f i k == 0) <;> rfl
theorem kj {f : MF} {k : Nat} (h : KV f k ≠ 4) : KV f k < 4 := by
 unfold KV at h ⊢
 cases hf : (List.range' k (4 - k)).find? fun i => !(f i k == 0) with
 | none => rw [hf] at h; exact absurd rfl h
 | some i =>
  have := List.mem_range'_1.1 (List.mem_of_find?_eq_some hf)
  simp only [Option.getD_some]
  omega
theorem AT (L : Mat × Mat × Int → Option (Fl (Mat × Mat × Int) (Mat × Mat))) (f g : MF) (k : Nat) (hk : k < 4) (p q : Nat → UInt8)
  (hL : ∀ c, c < 4 → ∀ a b : MF, (∀ r, r ≠ k → a r = f r) → (∀ r, r ≠ k → b r = g r) → a k c = f k c → b k c = g k c → L (mf a, mf b, (c : Int)) = some (Fl.nx ((mf a).setIfInBounds k ((vf 4 (a k)).setIfInBounds c (p c)), (mf b).setIfInBounds k ((vf 4 (b k)).setIfInBounds c (q c)), wr ((c : Int) + 1))))
  (he : ∀ a b : Mat, L (a, b, 4) = some (Fl.ex (a, b))) :
  ZG L (mf f, mf g, 0) = some (mf (fun r c => if r = k then p c else f r c), mf (fun r c => if r = k then q c else g r c)) := by
 have k1 : (mf fun r c => if r = k then (if c < 4 then p c else f k c) else f r c) = mf fun r c => if r = k then p c else f r c := WF fun r _ c hc => by rw [if_pos hc]
 have k2 : (mf fun r c => if r = k then (if c < 4 then q c else g k c) else g r c) = mf fun r c => if r = k then q c else g r c := WF fun r _ c hc => by rw [if_pos hc]
 have := Z1 (f := L) (fun i : Nat => (mf fun r c => if r = k then (if c < i then p c else f k c) else f r c, mf fun r c => if r = k then (if c < i then q c else g k c) else g r c, (i : Int))) 0 4 (by omega)
  (t := (mf (fun r c => if r = k then p c else f r c), mf (fun r c => if r = k then q c else g r c))) (fun i _ hi => by
  rw [hL i hi _ _ (fun r hr => by funext c; rw [if_neg hr]) (fun r hr => by funext c; rw [if_neg hr]) (by simp) (by simp)]
  simp only [TE, Je, wr4 (show i < 1000 by omega)]
  congr 3
  ·apply WF
   intro r hr c hc
   by_cases h : r = k
   ·simp only [h, if_true]
    by_cases h2 : c = i
    ·subst h2; simp
    ·by_cases h3 : c < i
     ·rw [if_neg h2, if_pos h3, if_pos (by omega)]
     ·rw [if_neg h2, if_neg h3, if_neg (by omega)]
   ·simp only [h, if_false]
  ·congr 1
   apply WF
   intro r hr c hc
   by_cases h : r = k
   ·simp only [h, if_true]
    by_cases h2 : c = i
    ·subst h2; simp
    ·by_cases h3 : c < i
     ·rw [if_neg h2, if_pos h3, if_pos (by omega)]
     ·rw [if_neg h2, if_neg h3, if_neg (by omega)]
   ·simp only [h, if_false]) (by
  simp only [k1, k2]
  exact he _ _)
 have e1 : mf (fun r c => if r = k then (if c < 0 then p c else f k c) else f r c) = mf f := WF fun r hr c hc => by
  by_cases h : r = k
  ·subst h; simp
  ·simp [h]
 have e2 : mf (fun r c => if r = k then (if c < 0 then q c else g k c) else g r c) = mf g := WF fun r hr c hc => by
  by_cases h : r = k
  ·subst h; simp
  ·simp [h]
 simp only [e1, e2] at this
 exact this
theorem yk {S : Type} (m : Nat) (L : S → Option (Fl S (Fl (Mat × UInt8) (UInt8 × Mat)))) (pk : Red → Nat → S)
  (hstep : ∀ k, k < 4 → ∀ s, L (pk s k) = some (match JQ m s k with | none => .ex (.ex (0, mf fun _ _ => 0)) | some s' => .nx (pk s' (k + 1))))
  (hend : ∀ s, L (pk s 4) = some (.ex (.nx (mf s.b, s.det)))) : ∀ (n k : Nat) (s : Red), k + n = 4 → ZG L (pk s k) = some (match JZ m n k s with | some s' => .nx (mf s'.b, s'.det) | none => .ex (0, mf fun _ _ => 0))
 | 0, k, s, h => by
  have : k = 4 := by omega
  subst this
  rw [XX (hend s)]; rfl
 | n + 1, k, s, h => by
  have h1 := hstep k (by omega) s
  unfold JZ
  cases hr : JQ m s k with
  | none => rw [hr] at h1; rw [XX h1]; rfl
  | some s' => rw [hr] at h1; rw [Wj h1]; exact yk m L pk hstep hend n (k + 1) s' (by omega)
theorem qc {i k : Nat} : (((i : Int)) != ((k : Nat) : Int)) = decide (i ≠ k) := by
 by_cases h : i = k
 ·subst h; simp
 ·have : (i : Int) ≠ (k : Int) := by omega
  simp [h, this]
theorem jJ (m : Nat) (L : Mat × Mat × Int → Option (Fl (Mat × Mat × Int) (Mat × Mat))) (f g : MF) (k : Nat)
  (hL : ∀ i, i < 4 → ∀ a b : MF, (a i = f i) → (b i = g i) → (a k = f k) → (b k = g k) → L (mf a, mf b, (i : Int)) = some (Fl.nx (mf (fun r c => if r = i then Uw m f f k r c else a r c), mf (fun r c => if r = i then Uw m f g k r c else b r c), wr ((i : Int) + 1))))
  (he : ∀ a b : Mat, L (a, b, 4) = some (Fl.ex (a, b))) : ZG L (mf f, mf g, 0) = some (mf (Uw m f f k), mf (Uw m f g k)) := by
 have ek : ∀ h : MF, Uw m f h k k = h k := fun h => by funext c; simp [Uw]
 have k1 : (mf fun r c => if r < 4 then Uw m f f k r c else f r c) = mf (Uw m f f k) := WF fun r hr c _ => by rw [if_pos hr]
 have k2 : (mf fun r c => if r < 4 then Uw m f g k r c else g r c) = mf (Uw m f g k) := WF fun r hr c _ => by rw [if_pos hr]
 have := Z1 (f := L) (fun i : Nat => (mf fun r c => if r < i then Uw m f f k r c else f r c, mf fun r c => if r < i then Uw m f g k r c else g r c, (i : Int))) 0 4 (by omega)
  (t := (mf (Uw m f f k), mf (Uw m f g k))) (fun i _ hi => by
  rw [hL i hi _ _ (by funext c; simp) (by funext c; simp) (by funext c; by_cases h : k < i <;> simp [h, ek]) (by funext c; by_cases h : k < i <;> simp [h, ek])]
  rw [wr4 (show i < 1000 by omega)]
  have e : ∀ (x y : MF), (mf fun r c => if r = i then x r c else if r < i then x r c else y r c) = mf fun r c => if r < i + 1 then x r c else y r c := fun x y => WF fun r _ c _ => by
   by_cases h1 : r = i
   ·subst h1; simp
   ·by_cases h2 : r < i
    ·rw [if_neg h1, if_pos h2, if_pos (by omega)]
    ·rw [if_neg h1, if_neg h2, if_neg (by omega)]
  rw [e, e]) (by
  simp only [k1, k2]
  exact he _ _)
 simpa using this

theorem kM (f : MF) {i k : Nat} : ((mf f).setIfInBounds i (vf 4 (f k))).setIfInBounds k (vf 4 (f i)) = mf (kN f i k) := by
 rw [Je, Je]; rfl
section
variable (m : Nat) (hm : m < 512) (hm2 : 256 ≤ m)
include hm
theorem y0 (A B : Mat) (det : UInt8) (q : UInt8) (f g : MF) (k : Nat) (hk : k < 4) : ZG (XS (m : Int) (A, B, (k : Int), det) q) (mf f, mf g, 0) = some (mf (zb m f k q), mf (zb m g k q)) := by
 refine AT _ f g k hk (fun c => Z7 m (f k c) q) (fun c => Z7 m (g k c) q) (fun c hc a b _ _ ha hb => ?_) (fun a b => ?_)
 ·unfold XS
  simp only [lt4 hc, if_true, U9 _ hk, ZV _ hc, Option.bind_some, Te m hm, ha, hb, Int.toNat_natCast]
 ·unfold XS; simp
theorem kU (A B : Mat) (det : UInt8) (s1 : Mat × Mat × Int) (x : UInt8) (f g : MF) (k i : Nat) (hk : k < 4) (hi : i < 4) (hik : i ≠ k) (hs : s1.2.2 = (i : Int)) :
  ZG (XI (m : Int) (A, B, (k : Int), det) s1 x) (mf f, mf g, 0) = some (mf (fun r c => if r = i then f i c ^^^ Z7 m x (f k c) else f r c), mf (fun r c => if r = i then g i c ^^^ Z7 m x (g k c) else g r c)) := by
 refine AT _ f g i hi (fun c => f i c ^^^ Z7 m x (f k c)) (fun c => g i c ^^^ Z7 m x (g k c)) (fun c hc a b ha' hb' ha hb => ?_) (fun a b => ?_)
 ·unfold XI
  have e1 := ha' k (Ne.symm hik)
  have e2 := hb' k (Ne.symm hik)
  simp only [hs, lt4 hc, if_true, U9 _ hk, U9 _ hi, ZV _ hc, Option.bind_some, Te m hm, ha, hb, e1, e2, Int.toNat_natCast]
 ·unfold XI; simp
include hm2
theorem jO (A B : Mat) (det : UInt8) (f g : MF) (k : Nat) (hk : k < 4) : ZG (XT (m : Int) (A, B, (k : Int), det)) (mf f, mf g, 0) = some (mf (Uw m f f k), mf (Uw m f g k)) := by
 refine jJ m _ f g k (fun i hi a b hai hbi hak hbk => ?_) (fun a b => by unfold XT; simp)
 unfold XT
 have hfi : a i k = f i k := by rw [hai]
 simp only [lt4 hi, if_true, U9 _ hi, ZV _ hk, Option.bind_some, qc, hfi]
 by_cases h : i = k
 ·subst h
  simp only [ne_eq, not_true_eq_false, decide_false, Bool.false_eq_true, if_false, Option.bind_some]
  congr 3
  ·exact WF fun r _ c _ => by
    by_cases h : r = i
    ·subst h; simp [Uw, hai]
    ·simp [h]
  ·congr 1
   exact WF fun r _ c _ => by
    by_cases h : r = i
    ·subst h; simp [Uw, hbi]
    ·simp [h]
 ·have hd : decide (i ≠ k) = true := by simpa using h
  simp only [hd, if_true, Option.bind_some]
  by_cases h0 : f i k = 0
  ·simp only [h0, bne_self_eq_false, Bool.false_eq_true, if_false, Option.bind_some]
   congr 3
   ·exact WF fun r _ c _ => by
     by_cases h2 : r = i
     ·subst h2; simp [Uw, hai, h, h0, K9 hm2 hm]
     ·simp [h2]
   ·congr 1
    exact WF fun r _ c _ => by
     by_cases h2 : r = i
     ·subst h2; simp [Uw, hbi, h, h0, K9 hm2 hm]
     ·simp [h2]
  ·have hb0 : (f i k != 0) = true := by simpa using h0
   simp only [hb0, if_true, Option.bind_some]
   rw [kU m hm A B det _ _ a b k i hk hi h rfl]
   simp only [Option.bind_some]
   congr 3
   ·exact WF fun r _ c _ => by
     by_cases h2 : r = i
     ·subst h2; simp [Uw, hai, hak, h]
     ·simp [h2]
   ·congr 1
    exact WF fun r _ c _ => by
     by_cases h2 : r = i
     ·subst h2; simp [Uw, hbi, hbk, h]
     ·simp [h2]
theorem jS (k : Nat) (hk : k < 4) (s : Red) : YG (m : Int) (mf s.a, mf s.b, (k : Int), s.det) = some (match JQ m s k with | none => .ex (.ex (0, mf fun _ _ => 0)) | some s' => .nx (mf s'.a, mf s'.b, ((k + 1 : Nat) : Int), s'.det)) := by
 unfold YG
 have hp := yV (UE (mf s.a, mf s.b, (k : Int), s.det)) s.a k hk (fun x => rfl)
 simp only [lt4 hk, if_true, hp, Option.bind_some]
 unfold JQ
 by_cases h4 : KV s.a k = 4
 ·have : ((4 : Nat) : Int) = 4 := rfl
  simp only [h4, this, beq_self_eq_true, if_true, zq]
 ·have hi := kj h4
  have h5 : (((KV s.a k : Nat) : Int) == 4) = false := by
   have : ((KV s.a k : Nat) : Int) ≠ 4 := by omega
   simpa using this
  generalize hpi : KV s.a k = i at *
  simp only [h4, h5, Bool.false_eq_true, if_false]
  have x1 : ZM ((mf s.a).setIfInBounds i (vf 4 (s.a k))) (k : Int) = some (vf 4 (fun c => if k = i then s.a k c else s.a k c)) := by rw [Je]; exact U9 _ hk
  have x2 : ZM ((mf s.b).setIfInBounds i (vf 4 (s.b k))) (k : Int) = some (vf 4 (fun c => if k = i then s.b k c else s.b k c)) := by rw [Je]; exact U9 _ hk
  simp only [U9 _ hk, U9 _ hi, Option.bind_some, Int.toNat_natCast, x1, x2, kM, ZV _ hk, Te m hm, Q4 m hm, y0 m hm _ _ _ _ _ _ k hk, jO m hm hm2 _ _ _ _ _ k hk, wr4 (show k < 1000 by omega)]
theorem BM (f : MF) : Xh (m : Int) (mf f) = some (Be m f) := by
 unfold Xh
 have h := yk m (YG (m : Int)) (fun s k => (mf s.a, mf s.b, (k : Int), s.det)) (jS m hm hm2) (fun s => by unfold YG; simp) 4 0 ⟨f, Jy, 1⟩ rfl
 have h2 : ZG (YG (m : Int)) (mf f, mf Jy, 0, 1) = _ := h
 rw [JC, Option.bind_some, h2]
 unfold Be
 cases JZ m 4 0 ⟨f, Jy, 1⟩ <;> rfl
end
theorem AB {n i : Nat} (v : Vector UInt8 n) (h : i < n) : ZM v (i : Int) = some (v.toList.getD i 0) := by
 rw [WT, Vector.getElem?_eq_getElem h]
 simp [List.getD_eq_getElem?_getD, h]
theorem zR (x : UInt8) : (bI x).toNat = x.toNat := rfl
def Qe (p : Vector UInt8 16) : Bool := p.toList.all (fun x => decide (x < 16)) && kW p.toList
def HO (a : Mat) : MF := fun i j => (a[i]?.getD default)[j]?.getD default
theorem Ba (a : Mat) : a = mf (HO a) := calc a = vf 4 (fun i => a[i]?.getD default) := y7 a
  _ = _ := YX fun i _ => y7 _
def detC (m : Nat) (a : Mat) : UInt8 := (Be m (HO a)).1
def invM (m : Nat) (a : Mat) : Mat := (Be m (HO a)).2
def Yp (c : GCipher) : Bool := Jx c.Field && kW c.Box.toList && Qe c.Places && decide (1 ≤ c.Rounds ∧ c.Rounds ≤ 20) && (detC c.Field.toNat c.Mix != 0)
theorem kV (m : Nat) (hm : m < 512) (hm2 : 256 ≤ m) (a : Mat) : Xh (m : Int) a = some (detC m a, invM m a) := by
 have := BM m hm hm2 (HO a)
 rw [← Ba] at this
 exact this
theorem JE {c : GCipher} (h : Yp c = true) : ∃ m : Nat, c.Field = m ∧ 256 ≤ m ∧ m < 512 := by
 unfold Yp at h
 simp only [Bool.and_eq_true] at h
 exact zN h.1.1.1.1
theorem XY {n : Nat} (L : Vector UInt8 n × Int → Option (Fl (Vector UInt8 n × Int) (Vector UInt8 n))) (f h : Nat → UInt8) (hn : n < 9223372036854775807) (m : Nat) (hm : m ≤ n) (h0 : ∀ j, j < m → h j = f j)
  (hL : ∀ i, m ≤ i → i < n → ∀ a : Nat → UInt8, (∀ j, j < i → a j = h j) → (∀ j, i ≤ j → a j = f j) → L (vf n a, (i : Int)) = some (.nx ((vf n a).setIfInBounds i (h i), wr ((i : Int) + 1))))
  (he : ∀ v, L (v, (n : Int)) = some (.ex v)) : ZG L (vf n f, (m : Int)) = some (vf n h) := by
 have k1 : (vf n fun j => if j < n then h j else f j) = vf n h := YX fun j hj => by rw [if_pos hj]
 have k0 : (vf n fun j => if j < m then h j else f j) = vf n f := YX fun j hj => by
  by_cases h1 : j < m
  ·rw [if_pos h1, h0 j h1]
  ·rw [if_neg h1]
 have := Z1 (f := L) (fun i : Nat => (vf n fun j => if j < i then h j else f j, (i : Int))) m n hm (t := vf n h) (fun i hmi hi => by
  rw [hL i hmi hi _ (fun j hj => by rw [if_pos hj]) (fun j hj => by rw [if_neg (by omega)]), TE, YO (show i < 9223372036854775807 by omega)]
  refine congrArg (fun z => some (Fl.nx (z, ((i + 1 : Nat) : Int)))) (YX fun j hj => ?_)
  by_cases h1 : j = i
  ·subst h1; simp
  ·by_cases h2 : j < i
   ·rw [if_neg h1, if_pos h2, if_pos (by omega)]
   ·rw [if_neg h1, if_neg h2, if_neg (by omega)]) (by
  simp only [k1]
  exact he _)
 simp only [k0] at this
 exact this
def AU (b : Vector UInt8 256) (x : UInt8) : UInt8 := b[x.toNat]'(UInt8.toNat_lt x)
theorem QQ (b : Vector UInt8 256) (x : UInt8) : ZM b (bI x) = some (AU b x) := by
 have : ZM b ((x.toNat : Nat) : Int) = _ := WT b x.toNat
 rw [Vector.getElem?_eq_getElem (UInt8.toNat_lt x)] at this
 exact this
abbrev Blk := Vector UInt8 16
def bf (v : Blk) (i : Nat) : UInt8 := v[i]?.getD default
theorem kR (v : Blk) : v = vf 16 (bf v) := y7 v
theorem K2 {i : Nat} (h : i < 16) : decide ((i : Int) < 16) = true := by simp; omega
def J1 (f g : Nat → UInt8) : Nat → UInt8 := fun i => f i ^^^ g i
theorem JW (f g : Nat → UInt8) : Y5 (vf 16 f) (vf 16 g) = some (vf 16 (J1 f g)) := by
 unfold Y5
 have := XY (VI (vf 16 g)) f (J1 f g) (by omega) 0 (by omega) (fun j hj => by omega) (fun i _ hi a _ ha => by
  unfold VI
  simp only [K2 hi, if_true, ZV _ hi, Option.bind_some, Int.toNat_natCast, ha i (Nat.le_refl _), J1]) (fun v => by unfold VI; simp)
 have h2 : ZG (VI (vf 16 g)) (vf 16 f, 0) = _ := this
 rw [h2]; rfl
theorem TA (f g : Nat → UInt8) : Yq (vf 16 f) (vf 16 g) = some (vf 16 (J1 f g)) := by
 unfold Yq
 have := XY (X0 (vf 16 g)) f (J1 f g) (by omega) 0 (by omega) (fun j hj => by omega) (fun i _ hi a _ ha => by
  unfold X0
  simp only [K2 hi, if_true, ZV _ hi, Option.bind_some, Int.toNat_natCast, ha i (Nat.le_refl _), J1]) (fun v => by unfold X0; simp)
 have h2 : ZG (X0 (vf 16 g)) (vf 16 f, 0) = _ := this
 rw [h2]; rfl
def Bw (b : Vector UInt8 256) (f : Nat → UInt8) : Nat → UInt8 := fun i => AU b (f i)
theorem yr (b : Vector UInt8 256) (f : Nat → UInt8) : Uf b (vf 16 f) = some (vf 16 (Bw b f)) := by
 unfold Uf
 have := XY (Ws b) f (Bw b f) (by omega) 0 (by omega) (fun j hj => by omega) (fun i _ hi a _ ha => by
  unfold Ws
  simp only [K2 hi, if_true, ZV _ hi, Option.bind_some, Int.toNat_natCast, ha i (Nat.le_refl _), QQ, Bw]) (fun v => by unfold Ws; simp)
 have h2 : ZG (Ws b) (vf 16 f, 0) = _ := this
 rw [h2]; rfl
def KX (p : Blk) (f : Nat → UInt8) : Nat → UInt8 := fun i => f (bf p i).toNat
theorem J6 {p : Blk} (h : Qe p = true) {i : Nat} (hi : i < 16) : (bf p i).toNat < 16 := by
 unfold Qe at h
 simp only [Bool.and_eq_true, List.all_eq_true, decide_eq_true_eq] at h
 have e : bf p i = p[i] := by unfold bf; rw [Vector.getElem?_eq_getElem hi]; rfl
 have := h.1 p[i] (by simp)
 rw [UInt8.lt_iff_toNat_lt] at this
 rw [e]; exact this
theorem J0 (p : Blk) {i : Nat} (h : i < 16) : ZM p (i : Int) = some (bf p i) := by
 rw [WT]; unfold bf; rw [Vector.getElem?_eq_getElem h]; rfl
theorem zO (f : Nat → UInt8) {x : UInt8} (h : x.toNat < 16) : ZM (vf 16 f) (bI x) = some (f x.toNat) := ZV f h
theorem jN (p : Blk) (hp : Qe p = true) (f : Nat → UInt8) : UV p (vf 16 f) = some (vf 16 (KX p f)) := by
 unfold UV
 have := XY (WR p (vf 16 f)) (fun _ => 0) (KX p f) (by omega) 0 (by omega) (fun j hj => by omega) (fun i _ hi a _ ha => by
  unfold WR
  simp only [K2 hi, if_true, ZV _ hi, J0 _ hi, Option.bind_some, Int.toNat_natCast, zO f (J6 hp hi), KX]) (fun v => by unfold WR; simp)
 have h2 : ZG (WR p (vf 16 f)) (vf 16 (fun _ => 0), 0) = _ := this
 rw [Tt 16 (0 : UInt8), h2]; rfl
theorem v_move (p : Blk) (hp : Qe p = true) (f : Nat → UInt8) : WI p (vf 16 f) = some (vf 16 (KX p f)) := by
 unfold WI
 have := XY (Xf p (vf 16 f)) (fun _ => 0) (KX p f) (by omega) 0 (by omega) (fun j hj => by omega) (fun i _ hi a _ ha => by
  unfold Xf
  simp only [K2 hi, if_true, ZV _ hi, J0 _ hi, Option.bind_some, Int.toNat_natCast, zO f (J6 hp hi), KX]) (fun v => by unfold Xf; simp)
 have h2 : ZG (Xf p (vf 16 f)) (vf 16 (fun _ => 0), 0) = _ := this
 rw [Tt 16 (0 : UInt8), h2]; rfl

def QI (b : Vector UInt8 256) (f : Nat → UInt8) (r : Int) : Nat → UInt8
 | 0 => f 0 ^^^ AU b (f 15 ^^^ Zr r)
 | i + 1 => f (i + 1) ^^^ AU b (QI b f r i)
theorem jL (b : Vector UInt8 256) (f : Nat → UInt8) (r : Int) : UD b (vf 16 f) r = some (vf 16 (QI b f r)) := by
  unfold UD
  have := XY (W1 b r) f (QI b f r) (by omega) 0 (by omega) (fun j hj => by omega) (fun i _ hi a hb ha => by
    unfold W1
    cases i with
    | zero =>
      have e1 : Int.tmod (wr (((0 : Nat) : Int) + 15)) 16 = ((15 : Nat) : Int) := by decide
      simp only [e1, K2 hi, if_true, ZV a (show 15 < 16 by omega), Option.bind_some]
      have e2 : (((0 : Nat) : Int) == 0) = true := rfl
      simp only [e2, if_true, Option.bind_some, QQ, ZV a hi, Int.toNat_natCast, ha 0 (by omega), ha 15 (by omega), QI]
    | succ i =>
      have e1 : Int.tmod (wr (((i + 1 : Nat) : Int) + 15)) 16 = ((i : Nat) : Int) := by
        rw [YI (by omega)]
        have : (((i + 1 : Nat) : Int) + 15) = ((i + 16 : Nat) : Int) := by omega
        rw [this]
        have : Int.tmod ((i + 16 : Nat) : Int) 16 = (((i + 16) % 16 : Nat) : Int) := rfl
        rw [this]
        omega
      have e2 : (((i + 1 : Nat) : Int) == 0) = false := by have : ((i + 1 : Nat) : Int) ≠ 0 := by omega
                                                           simpa using this
      simp only [e1, e2, K2 hi, if_true, ZV a (show i < 16 by omega), Option.bind_some, Bool.false_eq_true, if_false, QQ, ZV a hi, Int.toNat_natCast, ha (i + 1) (Nat.le_refl _), hb i (by omega), QI]) (fun v => by unfold W1; simp)
  have h2 : ZG (W1 b r) (vf 16 f, 0) = _ := this
  rw [h2]; rfl
theorem jI (e : Ref Gengine) (f : Nat → UInt8) (r : Int) : Xr e (vf 16 f) r = some (vf 16 (QI e.v.box f r)) := by
 unfold Xr
 have x0 : ZM (vf 16 f) (0 : Int) = some (f 0) := ZV f (show 0 < 16 by omega)
 have x15 : ZM (vf 16 f) (15 : Int) = some (f 15) := ZV f (show 15 < 16 by omega)
 have z : (0 : Int).toNat = 0 := rfl
 simp only [x0, x15, Option.bind_some, QQ, z, TE]
 have := XY (YK e) (fun i => if i = 0 then f 0 ^^^ AU e.v.box (f 15 ^^^ Zr r) else f i) (QI e.v.box f r) (by omega) 1 (by omega) (fun j hj => by
  have : j = 0 := by omega
  subst this; simp [QI]) (fun i h1 hi a hb ha => by
  unfold YK
  obtain ⟨i, rfl⟩ : ∃ k, i = k + 1 := ⟨i - 1, by omega⟩
  have e1 : wr (((i + 1 : Nat) : Int) - 1) = ((i : Nat) : Int) := by rw [YI (by omega)]; omega
  simp only [e1, K2 hi, if_true, ZV a (show i < 16 by omega), ZV a hi, Option.bind_some, QQ, Int.toNat_natCast, ha (i + 1) (Nat.le_refl _), hb i (by omega), QI]
  simp) (fun v => by unfold YK; simp)
 have h2 : ZG (YK e) (vf 16 (fun i => if i = 0 then f 0 ^^^ AU e.v.box (f 15 ^^^ Zr r) else f i), 1) = _ := this
 rw [h2]; rfl
def A5 (b : Vector UInt8 256) (k : Nat → UInt8) : Nat → Nat → UInt8
 | 0 => k
 | r + 1 => QI b (A5 b k r) ((r + 1 : Nat) : Int)
def Ud (b : Vector UInt8 256) (k : Nat → UInt8) (n : Nat) : List Blk := (List.range (n + 1)).map fun r => vf 16 (A5 b k r)
theorem AL (b : Vector UInt8 256) (k : Nat → UInt8) (n : Nat) : Ud b k (n + 1) = Ud b k n ++ [vf 16 (QI b (A5 b k n) ((n + 1 : Nat) : Int))] := by
 unfold Ud
 rw [List.range_succ, List.map_append]; rfl
theorem Kn (b : Vector UInt8 256) (k : Nat → UInt8) (n : Nat) : (Ud b k n).length = n + 1 := by simp [Ud]
theorem JJ (b : Vector UInt8 256) (k : Nat → UInt8) {n r : Nat} (h : r ≤ n) : idx (Ud b k n) (r : Int) = some (vf 16 (A5 b k r)) := by
 rw [YE]; unfold Ud; rw [List.getElem?_map, List.getElem?_range (by omega)]; rfl
theorem jz (c : GCipher) (k : Nat → UInt8) (n : Nat) (hn : n ≤ 1000) : US c (vf 16 k) (n : Int) = some (Ud c.Box k n) := by
 unfold US
 have := Z1 (f := WX c (n : Int)) (fun i : Nat => (vf 16 (A5 c.Box k (i - 1)), Ud c.Box k (i - 1), (i : Int))) 1 (n + 1) (by omega) (t := Ud c.Box k n) (fun i h1 hi => by
  unfold WX
  obtain ⟨i, rfl⟩ : ∃ q, i = q + 1 := ⟨i - 1, by omega⟩
  have e1 : decide (((i + 1 : Nat) : Int) ≤ (n : Int)) = true := by simp; omega
  have e2 : app 16 (Ud c.Box k i) [vf 16 (QI c.Box (A5 c.Box k i) ((i + 1 : Nat) : Int))] = _ := XE (by rw [Kn]; simp; omega)
  simp only [Nat.add_sub_cancel, e1, if_true, jL, Option.bind_some, e2, YO (show i + 1 < 9223372036854775807 by omega), AL]
  rfl) (by
  unfold WX
  have e1 : decide (((n + 1 : Nat) : Int) ≤ (n : Int)) = false := by simp; omega
  simp only [e1, Bool.false_eq_true, if_false, Nat.add_sub_cancel])
 have h2 : ZG (WX c (n : Int)) (vf 16 k, [vf 16 k], 1) = _ := this
 rw [h2]; rfl
theorem v_keys (e : Ref Gengine) (k : Nat → UInt8) (n : Nat) (hn : n ≤ 1000) : WO e (vf 16 k) (n : Int) = some (Ud e.v.box k n) := by
 unfold WO
 have := Z1 (f := Xk e (n : Int)) (fun i : Nat => (vf 16 (A5 e.v.box k (i - 1)), Ud e.v.box k (i - 1), (i : Int))) 1 (n + 1) (by omega) (t := Ud e.v.box k n) (fun i h1 hi => by
  unfold Xk
  obtain ⟨i, rfl⟩ : ∃ q, i = q + 1 := ⟨i - 1, by omega⟩
  have e1 : decide (((i + 1 : Nat) : Int) ≤ (n : Int)) = true := by simp; omega
  have e2 : app 16 (Ud e.v.box k i) [vf 16 (QI e.v.box (A5 e.v.box k i) ((i + 1 : Nat) : Int))] = _ := XE (by rw [Kn]; simp; omega)
  simp only [Nat.add_sub_cancel, e1, if_true, jI, Option.bind_some, e2, YO (show i + 1 < 9223372036854775807 by omega), AL]
  rfl) (by
  unfold Xk
  have e1 : decide (((n + 1 : Nat) : Int) ≤ (n : Int)) = false := by simp; omega
  simp only [e1, Bool.false_eq_true, if_false, Nat.add_sub_cancel])
 have h2 : ZG (Xk e (n : Int)) (vf 16 k, [vf 16 k], 1) = _ := this
 rw [h2]; rfl

def rowF (m : Nat) (a : MF) (f : Nat → UInt8) (c r : Nat) : UInt8 := ((Z7 m (a r 0) (f c) ^^^ Z7 m (a r 1) (f (c + 1))) ^^^ Z7 m (a r 2) (f (c + 2))) ^^^ Z7 m (a r 3) (f (c + 3))
def UC (m : Nat) (a : MF) (f : Nat → UInt8) : Nat → UInt8 := fun i => rowF m a f (i / 4 * 4) (i % 4)
theorem set_set (f : Nat → UInt8) (k : Nat) (x y : UInt8) : (fun i => if i = k then y else if i = k then x else f i) = fun i => if i = k then y else f i := by
 funext i; by_cases h : i = k <;> simp [h]
theorem wr_at {c r : Nat} (hc : c < 4) (hr : r < 4) : wr (wr (4 * (c : Int)) + (r : Int)) = ((c * 4 + r : Nat) : Int) := by
 rw [YI (x := 4 * (c : Int)) (by omega), YI (by omega)]; omega
theorem qg (m : Nat) (hm : m < 512) (hm2 : 256 ≤ m) (a : MF) (f g : Nat → UInt8) (c r : Nat) (hc : c < 4) (hr : r < 4) (s1 s2 : Blk × Int) (h1 : s1.2 = (c : Int)) (h2 : s2.2 = (r : Int)) (hg : g (c * 4 + r) = 0) :
  ZG (XL (m : Int) (mf a) (vf 16 f) s1 s2) (vf 16 g, 0) = some (vf 16 fun i => if i = c * 4 + r then rowF m a f (c * 4) r else g i) := by
 have hcr : c * 4 + r < 16 := by omega
 have step : ∀ (j : Nat) (h : Nat → UInt8), j < 4 → XL (m : Int) (mf a) (vf 16 f) s1 s2 (vf 16 h, (j : Int)) = some (.nx (vf 16 (fun i => if i = c * 4 + r then h (c * 4 + r) ^^^ Z7 m (a r j) (f (c * 4 + j)) else h i), ((j + 1 : Nat) : Int))) := fun j h hj => by
  unfold XL
  simp only [h1, h2, lt4 hj, if_true, wr_at hc hr, wr_at hc hj, ZV _ hcr, U9 _ hr, ZV _ hj, ZV f (show c * 4 + j < 16 by omega), Option.bind_some, KY m hm hm2, Int.toNat_natCast, TE, wr4 (show j < 1000 by omega)]
 have e0 := step 0 g (by omega)
 have e1 := step 1 (fun i => if i = c * 4 + r then g (c * 4 + r) ^^^ Z7 m (a r 0) (f (c * 4 + 0)) else g i) (by omega)
 have e2 := step 2 (fun i => if i = c * 4 + r then (g (c * 4 + r) ^^^ Z7 m (a r 0) (f (c * 4 + 0))) ^^^ Z7 m (a r 1) (f (c * 4 + 1)) else g i) (by omega)
 have e3 := step 3 (fun i => if i = c * 4 + r then ((g (c * 4 + r) ^^^ Z7 m (a r 0) (f (c * 4 + 0))) ^^^ Z7 m (a r 1) (f (c * 4 + 1))) ^^^ Z7 m (a r 2) (f (c * 4 + 2)) else g i) (by omega)
 have e4 : ∀ v : Blk, XL (m : Int) (mf a) (vf 16 f) s1 s2 (v, ((4 : Nat) : Int)) = some (.ex v) := fun v => by unfold XL; simp
 simp only [if_true, set_set] at e1 e2 e3
 have e0' : XL (m : Int) (mf a) (vf 16 f) s1 s2 (vf 16 g, 0) = _ := e0
 rw [Wj e0', Wj e1, Wj e2, Wj e3, XX (e4 _)]
 refine congrArg some (YX fun i _ => ?_)
 by_cases h : i = c * 4 + r
 ·simp [h, hg, rowF]
 ·simp [h]
theorem kv (m : Nat) (hm : m < 512) (hm2 : 256 ≤ m) (a : MF) (f : Nat → UInt8) : Tl (m : Int) (mf a) (vf 16 f) = some (vf 16 (UC m a f)) := by
 unfold Tl
 -- after c columns and r rows of the next
 have inner : ∀ c : Nat, c < 4 → ∀ s1 : Blk × Int, s1.2 = (c : Int) → ZG (VE (m : Int) (mf a) (vf 16 f) s1) (vf 16 (fun i => if i < c * 4 then UC m a f i else 0), 0) = some (vf 16 fun i => if i < (c + 1) * 4 then UC m a f i else 0) := fun c hc s1 h1 => by
  have k1 : (vf 16 fun i => if i < c * 4 + 4 then UC m a f i else 0) = vf 16 fun i => if i < (c + 1) * 4 then UC m a f i else 0 := by rw [show c * 4 + 4 = (c + 1) * 4 by omega]
  have := Z1 (f := VE (m : Int) (mf a) (vf 16 f) s1) (fun r : Nat => (vf 16 fun i => if i < c * 4 + r then UC m a f i else 0, (r : Int))) 0 4 (by omega) (t := vf 16 fun i => if i < (c + 1) * 4 then UC m a f i else 0) (fun r _ hr => by
   unfold VE
   have h2 := qg m hm hm2 a f (fun i => if i < c * 4 + r then UC m a f i else 0) c r hc hr s1 (vf 16 fun i => if i < c * 4 + r then UC m a f i else 0, (r : Int)) h1 rfl (by simp)
   simp only [lt4 hr, if_true, h2, Option.bind_some, wr4 (show r < 1000 by omega)]
   refine congrArg (fun z => some (Fl.nx (z, ((r + 1 : Nat) : Int)))) (YX fun i _ => ?_)
   by_cases h : i = c * 4 + r
   ·subst h
    have q1 : (c * 4 + r) / 4 = c := by omega
    have q2 : (c * 4 + r) % 4 = r := by omega
    rw [if_pos rfl, if_pos (by omega)]
    unfold UC; rw [q1, q2]
   ·by_cases h3 : i < c * 4 + r
    ·rw [if_neg h, if_pos h3, if_pos (by omega)]
    ·rw [if_neg h, if_neg h3, if_neg (by omega)]) (by
   unfold VE
   simp only [k1]
   simp)
  exact this
 have := Z1 (f := VD (m : Int) (mf a) (vf 16 f)) (fun c : Nat => (vf 16 fun i => if i < c * 4 then UC m a f i else 0, (c : Int))) 0 4 (by omega) (t := vf 16 (UC m a f)) (fun c _ hc => by
  unfold VD
  have h2 := inner c hc (vf 16 fun i => if i < c * 4 then UC m a f i else 0, (c : Int)) rfl
  simp only [lt4 hc, if_true, h2, Option.bind_some, wr4 (show c < 1000 by omega)]) (by
  unfold VD
  have : (vf 16 fun i => if i < 4 * 4 then UC m a f i else 0) = vf 16 (UC m a f) := YX fun i hi => by rw [if_pos (by omega)]
  simp only [this]
  simp)
 have e0 : (vf 16 fun i => if i < 0 * 4 then UC m a f i else 0) = vf 16 fun _ => (0 : UInt8) := YX fun i _ => by rw [if_neg (by omega)]
 simp only [e0] at this
 have h2 : ZG (VD (m : Int) (mf a) (vf 16 f)) (vf 16 fun _ => (0 : UInt8), 0) = _ := this
 rw [Tt 16 (0 : UInt8), h2]; rfl

abbrev Tab := Vector (Vector (Vector UInt8 256) 4) 4
def H1 (m : Nat) (a : MF) : Tab := vf 4 fun i => vf 4 fun j => vf 256 fun x => Z7 m (a i j) (UInt8.ofNat x)
theorem jZ (m : Nat) (a : MF) (i j : Nat) (x : UInt8) : ZM (vf 256 fun x => Z7 m (a i j) (UInt8.ofNat x)) (bI x) = some (Z7 m (a i j) x) := by
 rw [show bI x = ((x.toNat : Nat) : Int) from rfl, ZV _ (UInt8.toNat_lt x)]
 simp
theorem v_mix (m : Nat) (a : MF) (f : Nat → UInt8) : VJ ⟨H1 m a⟩ (vf 16 f) = some (vf 16 (UC m a f)) := by
 unfold VJ
 have i0 : ∀ (v : Vector (Vector UInt8 256) 4), ZM v (0 : Int) = v[0]? := fun v => WT v 0
 have i1 : ∀ (v : Vector (Vector UInt8 256) 4), ZM v (1 : Int) = v[1]? := fun v => WT v 1
 have i2 : ∀ (v : Vector (Vector UInt8 256) 4), ZM v (2 : Int) = v[2]? := fun v => WT v 2
 have i3 : ∀ (v : Vector (Vector UInt8 256) 4), ZM v (3 : Int) = v[3]? := fun v => WT v 3
 have inner : ∀ c : Nat, c < 4 → ∀ s1 : Blk × Int, s1.2 = ((c * 4 : Nat) : Int) → ZG (X3 ⟨H1 m a⟩ s1 (f (c * 4), f (c * 4 + 1), f (c * 4 + 2), f (c * 4 + 3))) (vf 16 (fun i => if i < c * 4 then UC m a f i else f i), 0) = some (vf 16 fun i => if i < (c + 1) * 4 then UC m a f i else f i) := fun c hc s1 h1 => by
  have k1 : (vf 16 fun i => if i < c * 4 + 4 then UC m a f i else f i) = vf 16 fun i => if i < (c + 1) * 4 then UC m a f i else f i := by rw [show c * 4 + 4 = (c + 1) * 4 by omega]
  have := Z1 (f := X3 ⟨H1 m a⟩ s1 (f (c * 4), f (c * 4 + 1), f (c * 4 + 2), f (c * 4 + 3))) (fun r : Nat => (vf 16 fun i => if i < c * 4 + r then UC m a f i else f i, (r : Int))) 0 4 (by omega) (t := vf 16 fun i => if i < (c + 1) * 4 then UC m a f i else f i) (fun r _ hr => by
   unfold X3
   have e1 : wr (s1.2 + (r : Int)) = ((c * 4 + r : Nat) : Int) := by rw [h1, YI (by omega)]; omega
   have et : ZM (H1 m a) (r : Int) = some (vf 4 fun j => vf 256 fun x => Z7 m (a r j) (UInt8.ofNat x)) := ZV _ hr
   simp only [lt4 hr, if_true, et, i0, i1, i2, i3, Jz _ (show 0 < 4 by omega), Jz _ (show 1 < 4 by omega), Jz _ (show 2 < 4 by omega), Jz _ (show 3 < 4 by omega), jZ, e1, ZV _ (show c * 4 + r < 16 by omega), Option.bind_some, Int.toNat_natCast, TE, wr4 (show r < 1000 by omega)]
   refine congrArg (fun z => some (Fl.nx (z, ((r + 1 : Nat) : Int)))) (YX fun i _ => ?_)
   by_cases h : i = c * 4 + r
   ·subst h
    have q1 : (c * 4 + r) / 4 = c := by omega
    have q2 : (c * 4 + r) % 4 = r := by omega
    rw [if_pos rfl, if_pos (by omega)]
    unfold UC; rw [q1, q2]; rfl
   ·by_cases h3 : i < c * 4 + r
    ·rw [if_neg h, if_pos h3, if_pos (by omega)]
    ·rw [if_neg h, if_neg h3, if_neg (by omega)]) (by
   unfold X3
   simp only [k1]
   simp)
  exact this
 have := Z1 (f := XW ⟨H1 m a⟩) (fun c : Nat => (vf 16 fun i => if i < c * 4 then UC m a f i else f i, ((c * 4 : Nat) : Int))) 0 4 (by omega) (t := vf 16 (UC m a f)) (fun c _ hc => by
  unfold XW
  have hd : decide (((c * 4 : Nat) : Int) < ((vf 16 fun i => if i < c * 4 then UC m a f i else f i).toList.length : Int)) = true := by rw [Vector.length_toList]; simp; omega
  have x0 := ZV (n := 16) (fun i => if i < c * 4 then UC m a f i else f i) (show c * 4 < 16 by omega)
  have x1 := ZV (n := 16) (fun i => if i < c * 4 then UC m a f i else f i) (show c * 4 + 1 < 16 by omega)
  have x2 := ZV (n := 16) (fun i => if i < c * 4 then UC m a f i else f i) (show c * 4 + 2 < 16 by omega)
  have x3 := ZV (n := 16) (fun i => if i < c * 4 then UC m a f i else f i) (show c * 4 + 3 < 16 by omega)
  have w1 : wr (((c * 4 : Nat) : Int) + 1) = ((c * 4 + 1 : Nat) : Int) := by rw [YI (by omega)]; omega
  have w2 : wr (((c * 4 : Nat) : Int) + 2) = ((c * 4 + 2 : Nat) : Int) := by rw [YI (by omega)]; omega
  have w3 : wr (((c * 4 : Nat) : Int) + 3) = ((c * 4 + 3 : Nat) : Int) := by rw [YI (by omega)]; omega
  have w4 : wr (((c * 4 : Nat) : Int) + 4) = (((c + 1) * 4 : Nat) : Int) := by rw [YI (by omega)]; omega
  rw [if_neg (by omega)] at x0 x1 x2 x3
  have h2 := inner c hc (vf 16 fun i => if i < c * 4 then UC m a f i else f i, ((c * 4 : Nat) : Int)) rfl
  simp only [hd, if_true, x0, w1, x1, w2, x2, w3, x3, Option.bind_some, h2, w4]) (by
  unfold XW
  have : (vf 16 fun i => if i < 4 * 4 then UC m a f i else f i) = vf 16 (UC m a f) := YX fun i hi => by rw [if_pos (by omega)]
  simp only [this]
  simp)
 have e0 : (vf 16 fun i => if i < 0 * 4 then UC m a f i else f i) = vf 16 f := YX fun i _ => by rw [if_neg (by omega)]
 simp only [e0] at this
 have h2 : ZG (XW ⟨H1 m a⟩) (vf 16 f, 0) = _ := this
 rw [h2]; rfl

def tb (g : Nat → Nat → Nat → UInt8) : Tab := vf 4 fun i => vf 4 fun j => vf 256 (g i j)
theorem J2 {g h : Nat → Nat → Nat → UInt8} (e : ∀ i, i < 4 → ∀ j, j < 4 → ∀ x, x < 256 → g i j x = h i j x) : tb g = tb h :=
 YX fun i hi => YX fun j hj => YX fun x hx => e i hi j hj x hx
theorem qJ (g : Nat → Nat → Nat → UInt8) {i : Nat} (hi : i < 4) : ZM (tb g) (i : Int) = some (vf 4 fun j => vf 256 (g i j)) := ZV _ hi
theorem ko (g : Nat → Nat → Nat → UInt8) (i : Nat) {j : Nat} (hj : j < 4) : ZM (vf 4 fun j => vf 256 (g i j)) (j : Int) = some (vf 256 (g i j)) := ZV _ hj
theorem tb_set (g : Nat → Nat → Nat → UInt8) (i j : Nat) (h : Nat → UInt8) : (tb g).setIfInBounds i ((vf 4 fun j => vf 256 (g i j)).setIfInBounds j (vf 256 h)) = tb (fun i' j' => if i' = i ∧ j' = j then h else g i' j') := by
 unfold tb
 rw [TE, TE]
 refine YX fun i' _ => ?_
 by_cases h1 : i' = i
 ·subst h1
  rw [if_pos rfl]
  refine YX fun j' _ => ?_
  by_cases h2 : j' = j
  ·subst h2; simp
  ·simp [h2]
 ·rw [if_neg h1]
  refine YX fun j' _ => ?_
  simp [h1]
theorem qi (a b : Nat) (ha : a < 9223372036854775808) (hb : b < 9223372036854775808) : orI (a : Int) (b : Int) = ((a ||| b : Nat) : Int) := by
 unfold orI
 rw [BitVec.toNat_or, Hf a ha, Hf b hb]
 have : a ||| b < 2 ^ 63 := Nat.or_lt_two_pow ha hb
 exact YI (by omega)
theorem Xl (n : Nat) : Zr (n : Int) = UInt8.ofNat n := by
 unfold Zr
 have : ((n : Int) % 256).toNat = n % 256 := by omega
 rw [this]
 apply UInt8.toNat_inj.1
 simp
theorem qh (g : Nat → Nat → Nat → UInt8) (i j : Nat) (h : Nat → UInt8) : (tb g).setIfInBounds i (vf 4 fun j' => if j' = j then vf 256 h else vf 256 (g i j')) = tb (fun i' j' => if i' = i ∧ j' = j then h else g i' j') := by
 have := tb_set g i j h
 rw [TE] at this
 exact this
theorem j0 {p low : Nat} (h : low < 2 ^ p) : 2 ^ p ||| low = 2 ^ p + low := by
 have := Nat.two_pow_add_eq_or_of_lt h 1
 simpa using this.symm
theorem kw {p low : Nat} (hp : p < 8) (h : low < 2 ^ p) : UInt8.ofNat (2 ^ p + low) = UInt8.ofNat (2 ^ p) ^^^ UInt8.ofNat low := by
 apply UInt8.toNat_inj.1
 have h7 : 2 ^ p ≤ 2 ^ 7 := Nat.pow_le_pow_right (by omega) (by omega)
 rw [UInt8.toNat_xor]
 simp only [UInt8.toNat_ofNat']
 rw [Nat.mod_eq_of_lt (by omega), Nat.mod_eq_of_lt (by omega), Nat.mod_eq_of_lt (by omega)]
 rw [← j0 h]
 apply Nat.eq_of_testBit_eq
 intro i
 rw [Nat.testBit_or, Nat.testBit_xor, Nat.testBit_two_pow]
 by_cases hi : p = i
 ·subst hi
  rw [Nat.testBit_lt_two_pow h]; simp
 ·simp [hi]
section
variable (m : Nat) (hm : m < 512) (hm2 : 256 ≤ m) (a : MF)
include hm hm2
def Ke (m : Nat) (a : MF) (i j n : Nat) (g : Nat → Nat → Nat → UInt8) : Nat → Nat → Nat → UInt8 := fun i' j' => if i' = i ∧ j' = j then (fun x => if x < n then Z7 m (a i j) (UInt8.ofNat x) else 0) else g i' j'
theorem kJ (i j p : Nat) (hi : i < 4) (hj : j < 4) (hp : p < 8) (g : Nat → Nat → Nat → UInt8) (s0 s1 s2 : Tab × Int) (h0 : s0.2 = (i : Int)) (h1 : s1.2 = (j : Int)) (h2 : s2.2 = ((2 ^ p : Nat) : Int)) :
  ZG (Wo s0 s1 s2 (Z7 m (a i j) (UInt8.ofNat (2 ^ p)))) (tb (Ke m a i j (2 ^ p) g), 0) = some (tb (Ke m a i j (2 ^ (p + 1)) g)) := by
 have h7 : 2 ^ p ≤ 2 ^ 7 := Nat.pow_le_pow_right (by omega) (by omega)
 have k1 : 2 ^ p + 2 ^ p = 2 ^ (p + 1) := by rw [Nat.pow_succ]; omega
 have := Z1 (f := Wo s0 s1 s2 (Z7 m (a i j) (UInt8.ofNat (2 ^ p)))) (fun low : Nat => (tb (Ke m a i j (2 ^ p + low) g), (low : Int))) 0 (2 ^ p) (Nat.zero_le _) (t := tb (Ke m a i j (2 ^ (p + 1)) g)) (fun low _ hl => by
  unfold Wo
  have hd : decide ((low : Int) < ((2 ^ p : Nat) : Int)) = true := by simp only [decide_eq_true_eq]; omega
  have ho : orI ((2 ^ p : Nat) : Int) (low : Int) = ((2 ^ p + low : Nat) : Int) := by rw [qi _ _ (by omega) (by omega), j0 hl]
  have eg : Ke m a i j (2 ^ p + low) g i j = fun x => if x < 2 ^ p + low then Z7 m (a i j) (UInt8.ofNat x) else 0 := by simp [Ke]
  simp only [h0, h1, h2, hd, if_true, qJ _ hi, ko _ i hj, eg, ZV _ (show low < 256 by omega), ho, ZV _ (show 2 ^ p + low < 256 by omega), Option.bind_some, Int.toNat_natCast, TE, YO (show low < 9223372036854775807 by omega)]
  rw [if_pos (show low < 2 ^ p + low from Nat.lt_add_of_pos_left (Nat.two_pow_pos p)), ← yG hm2 hm, ← kw hp hl]
  have := qh (Ke m a i j (2 ^ p + low) g) i j (fun x => if x = 2 ^ p + low then Z7 m (a i j) (UInt8.ofNat (2 ^ p + low)) else if x < 2 ^ p + low then Z7 m (a i j) (UInt8.ofNat x) else 0)
  rw [this]
  refine congrArg (fun z => some (Fl.nx (z, ((low + 1 : Nat) : Int)))) (J2 fun i' _ j' _ x _ => ?_)
  unfold Ke
  by_cases h : i' = i ∧ j' = j
  ·simp only [h, and_self, if_true]
   by_cases hx : x = 2 ^ p + low
   ·subst hx; simp
   ·by_cases hx2 : x < 2 ^ p + low
    ·rw [if_neg hx, if_pos hx2, if_pos (by omega)]
    ·rw [if_neg hx, if_neg hx2, if_neg (by omega)]
  ·simp only [h, if_false]) (by
  unfold Wo
  simp only [h2, k1]
  simp)
 exact this
theorem kt (i j : Nat) (hi : i < 4) (hj : j < 4) (g : Nat → Nat → Nat → UInt8) (s0 s1 : Tab × Int) (h0 : s0.2 = (i : Int)) (h1 : s1.2 = (j : Int)) :
  ZG (Wv (m : Int) s0 s1 (a i j)) (tb (Ke m a i j 1 g), 1) = some (tb (Ke m a i j 256 g)) := by
 have := Z1 (f := Wv (m : Int) s0 s1 (a i j)) (fun p : Nat => (tb (Ke m a i j (2 ^ p) g), ((2 ^ p : Nat) : Int))) 0 8 (by omega) (t := tb (Ke m a i j 256 g)) (fun p _ hp => by
  unfold Wv
  have h7 : 2 ^ p ≤ 2 ^ 7 := Nat.pow_le_pow_right (by omega) (by omega)
  have hd : decide (((2 ^ p : Nat) : Int) < 256) = true := by simp only [decide_eq_true_eq]; omega
  have hb : Zr ((2 ^ p : Nat) : Int) = UInt8.ofNat (2 ^ p) := by rw [Xl]
  have hw : wr (((2 ^ p : Nat) : Int) * 2) = ((2 ^ (p + 1) : Nat) : Int) := by
   rw [Nat.pow_succ]
   generalize 2 ^ p = q at h7 ⊢
   rw [YI (by omega)]; omega
  have h3 := kJ m hm hm2 a i j p hi hj hp g s0 s1 (tb (Ke m a i j (2 ^ p) g), ((2 ^ p : Nat) : Int)) h0 h1 rfl
  simp only [hd, if_true, hb, Te m hm, Option.bind_some, h3, hw]) (by unfold Wv; simp)
 exact this
theorem BF (A : Mat) (hA : A = mf a) : WU (m : Int) A = some ⟨H1 m a⟩ := by
 subst hA
 unfold WU
 let G : Nat → Nat → Nat → Nat → Nat → UInt8 := fun r c i j x => if i < r ∨ (i = r ∧ j < c) then Z7 m (a i j) (UInt8.ofNat x) else 0
 have hGt : ∀ r c i j x, (i < r ∨ (i = r ∧ j < c)) → G r c i j x = Z7 m (a i j) (UInt8.ofNat x) := fun r c i j x h => if_pos h
 have hGf : ∀ r c i j x, ¬ (i < r ∨ (i = r ∧ j < c)) → G r c i j x = 0 := fun r c i j x h => if_neg h
 have hGe : ∀ r c r' c' i j x, ((i < r ∨ (i = r ∧ j < c)) ↔ (i < r' ∨ (i = r' ∧ j < c'))) → G r c i j x = G r' c' i j x := fun r c r' c' i j x h => by show (if _ then _ else _) = (if _ then _ else _); simp only [h]
 have z0 : ∀ i j, Z7 m (a i j) (UInt8.ofNat 0) = 0 := fun i j => by rw [QR hm2 hm]; exact K9 hm2 hm _
 have col : ∀ r : Nat, r < 4 → ∀ s0 : Tab × Int, s0.2 = (r : Int) → ZG (Wq (m : Int) s0 (vf 4 (a r))) (tb (G r 0), 0) = some (tb (G (r + 1) 0)) := fun r hr s0 h0 => by
  have k1 : tb (G r 4) = tb (G (r + 1) 0) := J2 fun i hi j hj x _ => by
   exact hGe _ _ _ _ _ _ _ (by omega)
  have := Z1 (f := Wq (m : Int) s0 (vf 4 (a r))) (fun c : Nat => (tb (G r c), (c : Int))) 0 4 (by omega) (t := tb (G (r + 1) 0)) (fun c _ hc => by
   unfold Wq
   have e1 : tb (G r c) = tb (Ke m a r c 1 (G r c)) := J2 fun i _ j _ x _ => by
    unfold Ke
    by_cases h : i = r ∧ j = c
    ·obtain ⟨rfl, rfl⟩ := h
     simp only [and_self, if_true]
     rw [hGf _ _ _ _ _ (by omega)]
     by_cases hx : x < 1
     ·have : x = 0 := by omega
      subst this; rw [if_pos hx, z0]
     ·rw [if_neg hx]
    ·simp only [h, if_false]
   have e2 : tb (Ke m a r c 256 (G r c)) = tb (G r (c + 1)) := J2 fun i _ j _ x hx => by
    unfold Ke
    by_cases h : i = r ∧ j = c
    ·obtain ⟨rfl, rfl⟩ := h
     simp only [and_self, if_true, hx]
     rw [hGt _ _ _ _ _ (by omega)]
    ·simp only [h, if_false]
     exact hGe _ _ _ _ _ _ _ (by omega)
   have h3 := kt m hm hm2 a r c hr hc (G r c) s0 (tb (G r c), (c : Int)) h0 rfl
   rw [← e1, e2] at h3
   simp only [lt4 hc, if_true, ZV _ hc, h3, Option.bind_some, wr4 (show c < 1000 by omega)]) (by
   unfold Wq
   simp only [k1]
   simp)
  exact this
 have kz : tb (G 0 0) = Vector.replicate 4 (Vector.replicate 4 (Vector.replicate 256 (0 : UInt8))) := by
  rw [Tt 256 (0 : UInt8), Tt 4, Tt 4]
  exact J2 fun i _ j _ x _ => by
   exact hGf _ _ _ _ _ (by omega)
 have k4 : tb (G 4 0) = H1 m a := J2 fun i hi j _ x _ => by
  exact hGt _ _ _ _ _ (by omega)
 have := Z1 (f := Wm (m : Int) (mf a)) (fun r : Nat => (tb (G r 0), (r : Int))) 0 4 (by omega) (t := H1 m a) (fun r _ hr => by
  unfold Wm
  have h3 := col r hr (tb (G r 0), (r : Int)) rfl
  simp only [lt4 hr, if_true, U9 _ hr, h3, Option.bind_some, wr4 (show r < 1000 by omega)]) (by
  unfold Wm
  simp only [k4]
  simp)
 have h2 : ZG (Wm (m : Int) (mf a)) (tb (G 0 0), 0) = _ := this
 rw [← kz, h2]; rfl
end

def BV (n : Nat) (p : Vector UInt8 n) : Nat → Vector UInt8 n
 | 0 => Vector.replicate n 0
 | i + 1 => (BV n p i).setIfInBounds (p.toList.getD i 0).toNat (Zr (i : Int))
theorem Aj (p : Vector UInt8 256) : WG p = some (BV 256 p 256) := by
 unfold WG
 have := Z1 (f := Xj p) (fun i : Nat => (BV 256 p i, (i : Int))) 0 256 (by omega) (t := BV 256 p 256) (fun i _ hi => by
  unfold Xj
  have hd : decide ((i : Int) < 256) = true := by simp; omega
  simp only [hd, if_true, AB p hi, QQ, Option.bind_some, zR, YO (show i < 9223372036854775807 by omega)]
  rfl) (by unfold Xj; simp)
 have h2 : ZG (Xj p) (Vector.replicate 256 0, 0) = _ := this
 rw [h2]; rfl
theorem qu (p : Blk) {i : Nat} (h : i < 16) : p.toList.getD i 0 = bf p i := by
 have h1 := AB p h
 rw [J0 p h] at h1
 exact (Option.some.inj h1).symm
theorem Hp (p : Blk) (hp : Qe p = true) : Xq p = some (BV 16 p 16) := by
 unfold Xq
 have := Z1 (f := YJ p) (fun i : Nat => (BV 16 p i, (i : Int))) 0 16 (by omega) (t := BV 16 p 16) (fun i _ hi => by
  unfold YJ
  have hlt := J6 hp hi
  have hv : ZM (BV 16 p i) (bI (bf p i)) = some (bf (BV 16 p i) (bf p i).toNat) := J0 _ hlt
  simp only [K2 hi, if_true, J0 p hi, hv, Option.bind_some, zR, YO (show i < 9223372036854775807 by omega)]
  rw [← qu p hi]
  rfl) (by unfold YJ; simp)
 have h2 : ZG (YJ p) (Vector.replicate 16 0, 0) = _ := this
 rw [h2]; rfl

def YA (c : GCipher) : Gengine := ⟨c.Box, BV 256 c.Box 256, c.Places, BV 16 c.Places 16, ⟨H1 c.Field.toNat (HO c.Mix)⟩, ⟨H1 c.Field.toNat (HO (invM c.Field.toNat c.Mix))⟩, c.Rounds⟩
theorem QE {c : GCipher} (h : Yp c = true) : Qe c.Places = true := by
 unfold Yp at h
 simp only [Bool.and_eq_true] at h
 exact h.1.1.2
theorem KS {c : GCipher} (h : Yp c = true) : 1 ≤ c.Rounds ∧ c.Rounds ≤ 20 := by
 unfold Yp at h
 simp only [Bool.and_eq_true, decide_eq_true_eq] at h
 exact h.1.2
theorem z6 (c : GCipher) (h : Yp c = true) : VM c = some ⟨YA c⟩ := by
 obtain ⟨m, hm, h1, h2⟩ := JE h
 have e : c.Field.toNat = m := by omega
 unfold VM YA
 rw [e]
 simp only [hm, kV m h2 h1, Option.bind_some, Aj, Hp _ (QE h), BF m h2 h1 (HO c.Mix) c.Mix (Ba _), BF m h2 h1 (HO (invM m c.Mix)) (invM m c.Mix) (Ba _)]

def Bp (c : GCipher) (n r : Nat) (k f : Nat → UInt8) : Nat → UInt8 :=
 J1 (if r < n then UC c.Field.toNat (HO c.Mix) (KX c.Places (Bw c.Box f)) else KX c.Places (Bw c.Box f)) k
def Hv (c : GCipher) (k f : Nat → UInt8) (n : Nat) : Nat → Nat → UInt8
 | 0 => J1 f k
 | r + 1 => Bp c n (r + 1) (A5 c.Box k (r + 1)) (Hv c k f n r)
def za (c : GCipher) (k f : Nat → UInt8) (n : Nat) : Nat → UInt8 := Hv c k f n n
theorem Ak (c : GCipher) (h : Yp c = true) (k f : Nat → UInt8) (n : Nat) (hn : n ≤ 1000) : YW c (vf 16 k) (vf 16 f) (n : Int) = some (vf 16 (za c k f n)) := by
 obtain ⟨m, hm, h1, h2⟩ := JE h
 have e : c.Field.toNat = m := by omega
 have hp := QE h
 unfold YW
 have i0 : idx (Ud c.Box k n) (0 : Int) = some (vf 16 k) := JJ c.Box k (Nat.zero_le n)
 simp only [jz c k n hn, Option.bind_some, i0, JW]
 have := Z1 (f := Xe c (n : Int) (Ud c.Box k n)) (fun i : Nat => (vf 16 (Hv c k f n (i - 1)), (i : Int))) 1 (n + 1) (by omega) (t := vf 16 (za c k f n)) (fun i hi1 hi => by
  unfold Xe
  obtain ⟨r, rfl⟩ : ∃ q, i = q + 1 := ⟨i - 1, by omega⟩
  have e1 : decide (((r + 1 : Nat) : Int) ≤ (n : Int)) = true := by simp only [decide_eq_true_eq]; omega
  have YN := kv m h2 h1 (HO c.Mix) (KX c.Places (Bw c.Box (Hv c k f n r)))
  rw [← Ba] at YN
  simp only [Nat.add_sub_cancel, e1, if_true, yr, Option.bind_some, jN c.Places hp, hm, YN, JJ c.Box k (show r + 1 ≤ n by omega), YO (show r + 1 < 9223372036854775807 by omega)]
  by_cases hr : r + 1 < n
  ·have e2 : decide (((r + 1 : Nat) : Int) < (n : Int)) = true := by simp only [decide_eq_true_eq]; omega
   simp only [e2, if_true, Option.bind_some, JW, Hv, Bp, hr, e]
  ·have e2 : decide (((r + 1 : Nat) : Int) < (n : Int)) = false := by simp only [decide_eq_false_iff_not]; omega
   simp only [e2, Bool.false_eq_true, if_false, Option.bind_some, JW, Hv, Bp, hr]) (by
  unfold Xe
  have e1 : decide (((n + 1 : Nat) : Int) ≤ (n : Int)) = false := by simp only [decide_eq_false_iff_not]; omega
  simp only [e1, Bool.false_eq_true, if_false, Nat.add_sub_cancel, za])
 have h3 : ZG (Xe c (n : Int) (Ud c.Box k n)) (vf 16 (J1 f k), 1) = _ := this
 rw [h3]; rfl
theorem yx (e : Ref Gengine) (s : Blk × Int) (f : Nat → UInt8) (hs : s.1 = vf 16 f) : ZG (Yl e s) (vf 16 f, 0) = some (vf 16 (Bw e.v.box f)) := by
 have := XY (Yl e s) f (Bw e.v.box f) (by omega) 0 (by omega) (fun j hj => by omega) (fun i _ hi a _ ha => by
  unfold Yl
  simp only [hs, K2 hi, if_true, ZV _ hi, Option.bind_some, Int.toNat_natCast, QQ, Bw]) (fun v => by unfold Yl; simp)
 exact this
theorem BC (c : GCipher) (h : Yp c = true) (k f : Nat → UInt8) (n : Nat) (hn : n ≤ 1000) : YC ⟨YA c⟩ (Ud c.Box k n) (vf 16 f) = some (vf 16 (za c k f n)) := by
 have hp := QE h
 unfold YC
 have i0 : idx (Ud c.Box k n) (0 : Int) = some (vf 16 k) := JJ c.Box k (Nat.zero_le n)
 simp only [Option.bind_some, i0, TA]
 have := Z1 (f := Ym ⟨YA c⟩ (Ud c.Box k n)) (fun i : Nat => (vf 16 (Hv c k f n (i - 1)), (i : Int))) 1 (n + 1) (by omega) (t := vf 16 (za c k f n)) (fun i hi1 hi => by
  unfold Ym
  obtain ⟨r, rfl⟩ : ∃ q, i = q + 1 := ⟨i - 1, by omega⟩
  have e1 : decide (((r + 1 : Nat) : Int) < ((Ud c.Box k n).length : Int)) = true := by rw [Kn]; simp only [decide_eq_true_eq]; omega
  have e3 : wr (((Ud c.Box k n).length : Int) - 1) = (n : Int) := by rw [Kn, YI (by omega)]; omega
  have hb := yx ⟨YA c⟩ (vf 16 (Hv c k f n r), ((r + 1 : Nat) : Int)) (Hv c k f n r) rfl
  have hmv := v_move c.Places hp (Bw c.Box (Hv c k f n r))
  have YN := v_mix c.Field.toNat (HO c.Mix) (KX c.Places (Bw c.Box (Hv c k f n r)))
  have hsl : ∀ g : Nat → UInt8, slc (vf 16 g).toList (0 : Int) (16 : Int) = some (vf 16 g).toList := fun g => by
   have := Jo (l := (vf 16 g).toList) (i := 0) (j := 16) (by omega) (by simp)
   simp only [List.drop_zero] at this
   rw [List.take_of_length_le (by simp)] at this
   exact this
  have q1 : (YA c).box = c.Box := rfl
  have q2 : (YA c).places = c.Places := rfl
  have q3 : (YA c).mixer = ⟨H1 c.Field.toNat (HO c.Mix)⟩ := rfl
  simp only [q1] at hb
  simp only [Nat.add_sub_cancel, e1, if_true, hb, Option.bind_some, q2, q3, hmv, e3, hsl, YN, JJ c.Box k (show r + 1 ≤ n by omega), YO (show r + 1 < 9223372036854775807 by omega)]
  by_cases hr : r + 1 < n
  ·have e2 : decide (((r + 1 : Nat) : Int) < (n : Int)) = true := by simp only [decide_eq_true_eq]; omega
   simp only [e2, if_true, Option.bind_some, TA, Hv, Bp, hr]
  ·have e2 : decide (((r + 1 : Nat) : Int) < (n : Int)) = false := by simp only [decide_eq_false_iff_not]; omega
   simp only [e2, Bool.false_eq_true, if_false, Option.bind_some, TA, Hv, Bp, hr]) (by
  unfold Ym
  have e1 : decide (((n + 1 : Nat) : Int) < ((Ud c.Box k n).length : Int)) = false := by rw [Kn]; simp only [decide_eq_false_iff_not]; omega
  simp only [e1, Bool.false_eq_true, if_false, Nat.add_sub_cancel, za])
 have h3 : ZG (Ym ⟨YA c⟩ (Ud c.Box k n)) (vf 16 (J1 f k), 1) = _ := this
 rw [h3]; rfl
theorem JB (c : GCipher) (h : Yp c = true) (k f : Nat → UInt8) : Yv ⟨YA c⟩ (vf 16 k) (vf 16 f) = some (vf 16 (za c k f c.Rounds.toNat)) := by
 have hr := KS h
 obtain ⟨n, hn⟩ : ∃ n : Nat, c.Rounds = n := ⟨c.Rounds.toNat, by omega⟩
 have e1 : (YA c).rounds = (n : Int) := hn
 have e2 : (YA c).box = c.Box := rfl
 have hk := v_keys ⟨YA c⟩ k n (by omega)
 rw [e2] at hk
 unfold Yv
 simp only [e1, hk, Option.bind_some, BC c h k f n (by omega), hn, Int.toNat_natCast]
theorem JV (c : GCipher) (h : Yp c = true) (k f : Nat → UInt8) : YW c (vf 16 k) (vf 16 f) c.Rounds = some (vf 16 (za c k f c.Rounds.toNat)) := by
 have hr := KS h
 obtain ⟨n, hn⟩ : ∃ n : Nat, c.Rounds = n := ⟨c.Rounds.toNat, by omega⟩
 rw [hn]
 exact Ak c h k f n (by omega)
theorem AK (x : Nat) : UInt8.ofNat (x % 256) = UInt8.ofNat x := by
 apply UInt8.toNat_inj.1; simp
def tab (n : Nat) (f : Nat → UInt8) : List UInt8 := (List.range n).map f
@[simp] theorem tab_len (n : Nat) (f : Nat → UInt8) : (tab n f).length = n := by simp [tab]
theorem ke {α : Type} (by_ : Nat) (z : α) (n : Nat) (h : n * by_ ≤ 140737488355328) (hby : 0 < by_) :
  ((if (decide ((n : Int) < 0)) = true then (none) else (some ()) : Option (Unit)).bind fun (_ : Unit) => (if (decide ((wr ((n : Int) - (wr (0 - 0)))) > 0)) = true then ((mkS by_ z (wr ((n : Int) - (wr (0 - 0))))).bind fun (l14 : List α) => (slc l14 (0 : Int) (0 : Int)).bind fun (l16 : List α) => some l16) else (some ([])) : Option (List α)).bind fun (j6 : List α) => some j6) = some [] := by
 have hn : n ≤ 140737488355328 := Nat.le_trans (Nat.le_mul_of_pos_right _ hby) h
 have e0 : wr (0 - 0) = 0 := by decide
 have e1 : wr ((n : Int) - (wr (0 - 0))) = (n : Int) := by rw [e0, YI (by omega)]; omega
 have e2 : ¬ ((n : Int) < 0) := by omega
 rw [e1]
 simp only [e2, decide_false, Bool.false_eq_true, if_false, Option.bind_some]
 by_cases h3 : (n : Int) > 0
 ·have hm : mkS by_ z (n : Int) = some (List.replicate n z) := by
   have h4 : ((n * by_ : Nat) : Int) ≤ 140737488355328 := by omega
   rw [Int.natCast_mul] at h4
   unfold mkS
   rw [if_pos ⟨by omega, h4⟩, Int.toNat_natCast]
  have hs : slc (List.replicate n z) (0 : Int) (0 : Int) = some [] := by
   have := Jo (l := List.replicate n z) (i := 0) (j := 0) (Nat.le_refl _) (Nat.zero_le _)
   simpa using this
  simp [h3, hm, hs]
 ·have h4 : decide ((n : Int) > 0) = false := by simp only [decide_eq_false_iff_not]; exact h3
  simp only [h4, Bool.false_eq_true, if_false, Option.bind_some]
theorem zj {α : Type} (by_ : Nat) (p0 : List (List α)) (L0 : Int × Int → Option (Fl (Int × Int) Int)) (L1 : Int × List α → Option (Fl (Int × List α) (List α)))
  (h0 : ∀ s, L0 s = if (decide (s.1 < (p0.length : Int))) = true then (((idx p0 s.1).bind fun (x : List α) => (if (decide ((wr (s.2 + (x.length : Int))) < 0)) = true then (none) else (some ()) : Option (Unit)).bind fun (_ : Unit) => some (wr (s.2 + (x.length : Int))) : Option (Int)).bind fun (j : Int) => some (Fl.nx (wr (s.1 + 1), j))) else (some (Fl.ex s.2)))
  (h1 : ∀ s, L1 s = if (decide (s.1 < (p0.length : Int))) = true then ((idx p0 s.1).bind fun (x : List α) => (app by_ s.2 x).bind fun (_ : List α) => some (Fl.nx (wr (s.1 + 1), (s.2 ++ x)))) else (some (Fl.ex s.2)))
  (hl : p0.flatten.length * by_ ≤ 140737488355328) (hby : 0 < by_) (hn : p0.length < 9223372036854775807) :
  ZG L0 (0, 0) = some (p0.flatten.length : Int) ∧ ZG L1 (0, []) = some p0.flatten := by
 have hlen : p0.flatten.length ≤ 140737488355328 := Nat.le_trans (Nat.le_mul_of_pos_right _ hby) hl
 have hstep : ∀ i (hi : i < p0.length), (p0.take (i + 1)).flatten = (p0.take i).flatten ++ p0[i] := fun i hi => by
  rw [List.take_succ_eq_append_getElem hi, List.flatten_append]; simp
 have hle : ∀ i, (p0.take i).flatten.length ≤ p0.flatten.length := fun i => by
  have : p0.flatten = (p0.take i).flatten ++ (p0.drop i).flatten := by rw [← List.flatten_append, List.take_append_drop]
  rw [this, List.length_append]; omega
 constructor
 ·have := Z1 (f := L0) (fun i : Nat => ((i : Int), ((p0.take i).flatten.length : Int))) 0 p0.length (Nat.zero_le _) (t := (p0.flatten.length : Int)) (fun i _ hi => by
   have hs := congrArg List.length (hstep i hi)
   rw [List.length_append] at hs
   have h3 := hle (i + 1)
   have e1 : wr (((p0.take i).flatten.length : Int) + (p0[i].length : Int)) = ((p0.take (i + 1)).flatten.length : Int) := by rw [YI (by omega)]; omega
   have e2 : ¬ (((p0.take (i + 1)).flatten.length : Int) < 0) := by omega
   rw [h0]
   simp only [Int.ofNat_lt, hi, decide_true, if_true, YE, List.getElem?_eq_getElem hi, Option.bind_some, e1, e2, decide_false, Bool.false_eq_true, if_false, YO (show i < 9223372036854775807 by omega)]) (by
   rw [h0]; simp)
  exact this
 ·have := Z1 (f := L1) (fun i : Nat => ((i : Int), (p0.take i).flatten)) 0 p0.length (Nat.zero_le _) (t := p0.flatten) (fun i _ hi => by
   have hs := congrArg List.length (hstep i hi)
   rw [List.length_append] at hs
   have h3 := hle (i + 1)
   have hap : app by_ (p0.take i).flatten p0[i] = some ((p0.take i).flatten ++ p0[i]) := XE (by
    have : ((p0.take i).flatten.length + p0[i].length) * by_ ≤ p0.flatten.length * by_ := Nat.mul_le_mul_right _ (by omega)
    omega)
   rw [h1]
   simp only [Int.ofNat_lt, hi, decide_true, if_true, YE, List.getElem?_eq_getElem hi, Option.bind_some, hap, YO (show i < 9223372036854775807 by omega), hstep i hi]) (by
   rw [h1]; simp)
  exact this
def Jc (k : Nat) (b : UInt8) : UInt8 := shlB b (k : Int) ||| B4 b ((8 - k : Nat) : Int)
theorem v_rot1 (b : UInt8) : Yi b 1 = some (Jc 1 b) := by
 have e1 : wru (BitVec.ofInt 64 (IntKind.u64.wrap 1) &&& BitVec.ofInt 64 7).toNat = 1 := by decide +kernel
 have e2 : IntKind.u64.wrap (8 - 1) = 7 := by decide +kernel
 have e3 : XJ 1 = some () := rfl
 have e4 : XJ 7 = some () := rfl
 unfold Yi
 simp only [e1, e2, e3, e4, Option.bind_some]
 rfl
theorem v_rot4 (b : UInt8) : Yi b 4 = some (Jc 4 b) := by
 have e1 : wru (BitVec.ofInt 64 (IntKind.u64.wrap 4) &&& BitVec.ofInt 64 7).toNat = 4 := by decide +kernel
 have e2 : IntKind.u64.wrap (8 - 4) = 4 := by decide +kernel
 have e3 : XJ 4 = some () := rfl
 unfold Yi
 simp only [e1, e2, e3, Option.bind_some]
 rfl
def Bo (k : Nat) (b : UInt8) : UInt8 := Zr (Qg (orI (Ai (bI b) (k : Int)) (Wd (Ai (bI b) (k : Int)) 8)) 255)
theorem Bu {p : UInt8 → Bool} (h : ((List.range 256).all fun n => p (UInt8.ofNat n)) = true) (b : UInt8) : p b = true := by
 have := List.all_eq_true.1 h b.toNat (by simpa using UInt8.toNat_lt b)
 simpa using this
theorem turn0 (b : UInt8) : Bo 0 b = b := by
 have := Bu (p := fun b => Bo 0 b == b) (by decide +kernel) b
 simpa using this
theorem turn1 (b : UInt8) : Bo 1 b = Jc 1 b := by
 have := Bu (p := fun b => Bo 1 b == Jc 1 b) (by decide +kernel) b
 simpa using this
theorem turn4 (b : UInt8) : Bo 4 b = Jc 4 b := by
 have := Bu (p := fun b => Bo 4 b == Jc 4 b) (by decide +kernel) b
 simpa using this
theorem ys (b : UInt8) (k : Nat) (h : k < 64) : XP b (k : Int) = some (Bo k b) := by
 have e1 : IntKind.u64.wrap (k : Int) = (k : Int) := j4 k (by omega)
 unfold XP
 rw [e1]
 have e2 : XJ (k : Int) = some () := by unfold XJ; rw [if_pos (by omega)]
 rw [e2]; rfl
def BR (x : UInt8) : UInt8 := ((Qp 285 x ^^^ Jc 1 (Qp 285 x)) ^^^ Jc 4 (Qp 285 x)) ^^^ 90
def WM (n : Int) : GCipher := ⟨285, vf 256 fun x => BR (UInt8.ofNat x), mf fun i j => Qp 285 (UInt8.ofNat (i ^^^ (4 + j))), vf 16 fun i => UInt8.ofNat ((13 * i + 4) % 16), n⟩
theorem zi {i : Nat} (h : i < 256) : decide ((i : Int) < 256) = true := by simp; omega
theorem Bf (L : Vector UInt8 256 × Int → Option (Fl (Vector UInt8 256 × Int) (Vector UInt8 256))) (h : Nat → UInt8) (hL : ∀ i : Nat, i < 256 → ∀ a : Nat → UInt8, L (vf 256 a, (i : Int)) = some (.nx ((vf 256 a).setIfInBounds i (h i), wr ((i : Int) + 1))))
  (he : ∀ v, L (v, 256) = some (.ex v)) : ZG L (Vector.replicate 256 0, 0) = some (vf 256 h) := by
 rw [Tt]
 exact XY L (fun _ => 0) h (by omega) 0 (by omega) (fun j hj => by omega) (fun i _ hi a _ _ => hL i hi a) he
theorem z2 (E : UInt8 → Option UInt8) (hE : ∀ a, E a = some (Qp 285 a)) (L1 : Mat × Int → Mat × Int → Option (Fl (Mat × Int) Mat)) (L0 : Mat × Int → Option (Fl (Mat × Int) Mat))
  (h1 : ∀ s t, L1 s t = if (decide (t.2 < 4)) = true then ((E (Zr (Q2 s.2 (wr (4 + t.2))))).bind fun r => (ZM t.1 s.2).bind fun x => (ZM x t.2).bind fun _ => some (Fl.nx ((t.1.setIfInBounds (s.2).toNat (x.setIfInBounds (t.2).toNat r)), wr (t.2 + 1)))) else (some (Fl.ex t.1)))
  (h0 : ∀ s, L0 s = if (decide (s.2 < 4)) = true then ((ZG (L1 s) (s.1, 0) : Option Mat).bind fun j => some (Fl.nx (j, wr (s.2 + 1)))) else (some (Fl.ex s.1))) :
  ZG L0 (Vector.replicate 4 (Vector.replicate 4 (0 : UInt8)), 0) = some (mf fun i j => Qp 285 (UInt8.ofNat (i ^^^ (4 + j)))) := by
 have inner : ∀ (i : Nat) (hi : i < 4) (g : MF), ZG (L1 (mf g, (i : Int))) (mf g, 0) = some (mf fun r c => if r = i then Qp 285 (UInt8.ofNat (i ^^^ (4 + c))) else g r c) := by
  intro i hi g
  have := Z1 (f := L1 (mf g, (i : Int))) (fun j : Nat => (mf fun r c => if r = i ∧ c < j then Qp 285 (UInt8.ofNat (i ^^^ (4 + c))) else g r c, (j : Int))) 0 4 (by omega) (t := mf fun r c => if r = i then Qp 285 (UInt8.ofNat (i ^^^ (4 + c))) else g r c) (fun j _ hj => by
   have e1 : wr (4 + (j : Int)) = ((4 + j : Nat) : Int) := by rw [YI (by omega)]; omega
   rw [h1]
   simp only [lt4 hj, if_true, e1, Ka i (4 + j) (by omega) (by omega), Xl, hE, Option.bind_some, U9 _ hi, ZV _ hj, Int.toNat_natCast, TE, Je, wr4 (show j < 1000 by omega)]
   refine congrArg (fun z => some (Fl.nx (z, ((j + 1 : Nat) : Int)))) (WF fun r _ c _ => ?_)
   by_cases hr : r = i
   ·subst hr
    by_cases hc : c = j
    ·subst hc; simp
    ·by_cases hc2 : c < j
     ·simp [hc, hc2, show c < j + 1 by omega]
     ·simp [hc, hc2, show ¬ c < j + 1 by omega]
   ·simp [hr]) (by
   rw [h1]
   simp only [show decide (((4 : Nat) : Int) < 4) = false from rfl, Bool.false_eq_true, if_false]
   refine congrArg (fun z => some (Fl.ex z)) (WF fun r _ c hc => ?_)
   by_cases hr : r = i <;> simp [hr, hc])
  have e0 : (mf fun r c => if r = i ∧ c < 0 then Qp 285 (UInt8.ofNat (i ^^^ (4 + c))) else g r c) = mf g := WF fun r _ c _ => by simp
  simp only [e0] at this
  exact this
 have := Z1 (f := L0) (fun i : Nat => (mf fun r c => if r < i then Qp 285 (UInt8.ofNat (r ^^^ (4 + c))) else 0, (i : Int))) 0 4 (by omega) (t := mf fun i j => Qp 285 (UInt8.ofNat (i ^^^ (4 + j)))) (fun i _ hi => by
  rw [h0]
  simp only [lt4 hi, if_true, inner i hi, Option.bind_some, wr4 (show i < 1000 by omega)]
  refine congrArg (fun z => some (Fl.nx (z, ((i + 1 : Nat) : Int)))) (WF fun r _ c _ => ?_)
  by_cases hr : r = i
  ·subst hr; simp
  ·by_cases hc2 : r < i
   ·simp [hr, hc2, show r < i + 1 by omega]
   ·simp [hr, hc2, show ¬ r < i + 1 by omega]) (by
  rw [h0]
  simp only [show decide (((4 : Nat) : Int) < 4) = false from rfl, Bool.false_eq_true, if_false]
  exact congrArg (fun z => some (Fl.ex z)) (WF fun r hr c hc => by simp [hr]))
 have e0 : (mf fun r c => if r < 0 then Qp 285 (UInt8.ofNat (r ^^^ (4 + c))) else 0) = mf fun _ _ => 0 := WF fun r _ c _ => by simp
 simp only [e0] at this
 rw [zq]
 exact this
theorem BB (L : Blk × Int → Option (Fl (Blk × Int) Blk))
  (hL : ∀ s, L s = if (decide (s.2 < 16)) = true then ((ZM s.1 s.2).bind fun _ => some (Fl.nx ((s.1.setIfInBounds (s.2).toNat (Zr (Int.tmod (wr ((wr (13 * s.2)) + 4)) 16))), wr (s.2 + 1)))) else (some (Fl.ex s.1))) :
  ZG L (Vector.replicate 16 0, 0) = some (vf 16 fun i => UInt8.ofNat ((13 * i + 4) % 16)) := by
 rw [Tt]
 exact XY L (fun _ => 0) (fun i => UInt8.ofNat ((13 * i + 4) % 16)) (by omega) 0 (by omega) (fun j hj => by omega) (fun i _ hi a _ _ => by
  have e1 : wr (13 * (i : Int)) = 13 * (i : Int) := YI (by omega)
  have e2 : wr (13 * (i : Int) + 4) = ((13 * i + 4 : Nat) : Int) := by rw [YI (by omega)]; omega
  have e3 : Int.tmod ((13 * i + 4 : Nat) : Int) 16 = (((13 * i + 4) % 16 : Nat) : Int) := by rw [Int.tmod_eq_emod_of_nonneg (by omega)]; omega
  rw [hL]
  simp only [K2 hi, if_true, ZV _ hi, Option.bind_some, e1, e2, e3, Xl, Int.toNat_natCast]) (fun v => by rw [hL]; simp)
theorem Af (n : Int) : WE n = some (WM n) := by
 have hinv : ∀ a, Yk 285 a = some (Qp 285 a) := fun a => Q4 285 (by omega) a
 have h1 := Bf Wi (fun x => BR (UInt8.ofNat x)) (fun i hi a => by
  unfold Wi
  simp only [zi hi, if_true, Xl, hinv, v_rot1, v_rot4, Option.bind_some, ZV _ hi, Int.toNat_natCast]
  rfl) (fun v => by unfold Wi; simp)
 have h2 := z2 (Yk 285) hinv Vr Vu (fun s t => by unfold Vr; rfl) (fun s => by unfold Vu; rfl)
 have h3 := BB Vs (fun s => by unfold Vs; rfl)
 unfold WE WM
 simp only [h1, h2, h3, Option.bind_some]
theorem kL (L : UInt8 × UInt8 × Int → Option (Fl (UInt8 × UInt8 × Int) UInt8)) (T : UInt8 → UInt8 → Option UInt8) (hT : ∀ a b, T a b = some (Z7 285 a b))
  (hL : ∀ s, L s = if (decide (s.2.2 > 0)) = true then (((if ((Int.tmod s.2.2 2) == 1) = true then ((T s.1 s.2.1).bind fun r => some r) else (some s.1) : Option UInt8).bind fun j24 => (T s.2.1 s.2.1).bind fun r32 => some (j24, r32) : Option (UInt8 × UInt8)).bind fun j21 => some (Fl.nx (j21.1, j21.2, wr (Int.tdiv s.2.2 2)))) else (some (Fl.ex s.1))) :
  ∀ (f k : Nat) (a o : UInt8), k < 2 ^ f → f ≤ 62 → ZG L (o, a, (k : Int)) = some (HV 285 f a k o) := by
 intro f
 induction f with
 | zero =>
  intro k a o hk _
  have : k = 0 := by simpa using hk
  subst this
  exact XX (by rw [hL]; simp [HV])
 | succ f ih =>
  intro k a o hk hf
  by_cases h0 : k = 0
  ·subst h0
   exact XX (by rw [hL]; simp [HV])
  ·have hlt : k < 9223372036854775808 := Nat.lt_of_lt_of_le hk (Nat.pow_le_pow_right (by omega : 0 < 2) (by omega : f + 1 ≤ 63))
   have hst : L (o, a, (k : Int)) = some (.nx (if k % 2 = 1 then Z7 285 o a else o, Z7 285 a a, ((k / 2 : Nat) : Int))) := by
    rw [hL]
    have c1 : (k : Int) > 0 := by omega
    have e3 : ((((k % 2 : Nat) : Int)) == 1) = decide (k % 2 = 1) := by
     rw [Bool.eq_iff_iff, beq_iff_eq, decide_eq_true_eq]; omega
    simp only [c1, decide_true, if_true, kY, kH, hT, e3, Option.bind_some, je (k / 2) (by omega)]
    by_cases c2 : k % 2 = 1 <;> simp [c2]
   rw [Wj hst, ih (k / 2) _ _ (by rw [Nat.pow_succ] at hk; omega) (by omega)]
   conv => rhs; unfold HV
   rw [if_neg h0]
theorem yt : Ub 285 254 = some (vf 256 fun x => Qp 285 (UInt8.ofNat x)) := by
 have hp := kL (VB 285) (YH 285) (KY 285 (by omega) (by omega)) (fun s => by unfold VB; rfl)
 have hp2 : ∀ a, ZG (VB 285) (1, a, 254) = some (Qp 285 a) := fun a => hp 8 254 a 1 (by omega) (by omega)
 have h1 := Bf (VF 285 254) (fun x => Qp 285 (UInt8.ofNat x)) (fun i hi a => by
  unfold VF
  simp only [zi hi, if_true, Xl, hp2, Option.bind_some, ZV _ hi, Int.toNat_natCast]) (fun v => by unfold VF; simp)
 unfold Ub
 simp only [h1, Option.bind_some]
def rots (x : UInt8) : UInt8 := ((90 ^^^ x) ^^^ Jc 1 x) ^^^ Jc 4 x
theorem BG : Wh ([0, 1, 4] : List Int) 90 = some (vf 256 fun x => rots (UInt8.ofNat x)) := by
 have t0 : ∀ b, XP b 0 = some b := fun b => by have := ys b 0 (by omega); rw [turn0] at this; exact this
 have t1 : ∀ b, XP b 1 = some (Jc 1 b) := fun b => by have := ys b 1 (by omega); rw [turn1] at this; exact this
 have t4 : ∀ b, XP b 4 = some (Jc 4 b) := fun b => by have := ys b 4 (by omega); rw [turn4] at this; exact this
 have w1 : wr 1 = 1 := by decide
 have w2 : wr 2 = 2 := by decide
 have w3 : wr 3 = 3 := by decide
 have hin : ∀ (s : Vector UInt8 256 × Int), ZG (Yf [0, 1, 4] s) (90, 0) = some (rots (Zr s.2)) := by
  intro s
  rw [Wj (f := Yf [0, 1, 4] s) (s := (90, 0)) (s' := (90 ^^^ Zr s.2, 1)) (by unfold Yf; simp [t0, w1, idx])]
  rw [Wj (f := Yf [0, 1, 4] s) (s' := ((90 ^^^ Zr s.2) ^^^ Jc 1 (Zr s.2), 2)) (by unfold Yf; simp [t1, w2, idx])]
  rw [Wj (f := Yf [0, 1, 4] s) (s' := (((90 ^^^ Zr s.2) ^^^ Jc 1 (Zr s.2)) ^^^ Jc 4 (Zr s.2), 3)) (by unfold Yf; simp [t4, w3, idx])]
  exact XX (by unfold Yf; simp; rfl)
 have h1 := Bf (XU [0, 1, 4] 90) (fun x => rots (UInt8.ofNat x)) (fun i hi a => by
  unfold XU
  simp only [zi hi, if_true, hin, Xl, Option.bind_some, ZV _ hi, Int.toNat_natCast]) (fun v => by unfold XU; simp)
 unfold Wh
 simp only [h1, Option.bind_some]
theorem jA (f g : Nat → UInt8) : UN (vf 256 f) (vf 256 g) = some (vf 256 fun x => g (f x).toNat) := by
 have hv : ∀ x : UInt8, ZM (vf 256 g) (bI x) = some (g x.toNat) := fun x => ZV g (UInt8.toNat_lt x)
 have h1 := Bf (Uc (vf 256 f) (vf 256 g)) (fun x => g (f x).toNat) (fun i hi a => by
  unfold Uc
  simp only [zi hi, if_true, Option.bind_some, ZV _ hi, hv, Int.toNat_natCast]) (fun v => by unfold Uc; simp)
 unfold UN
 simp only [h1, Option.bind_some]
theorem yE (x : UInt8) : rots (UInt8.ofNat (Qp 285 x).toNat) = BR x := by
 rw [UInt8.ofNat_toNat]
 unfold rots BR
 ac_rfl
theorem yO (n : Int) : Uj n = some (WM n) := by
 have hinv : ∀ a, Vk 285 a = some (Qp 285 a) := fun a => kx 285 (by omega) (by omega) a
 have h2 := z2 (Vk 285) hinv UX Ta (fun s t => by unfold UX; rfl) (fun s => by unfold Ta; rfl)
 have h3 := BB U8 (fun s => by unfold U8; rfl)
 unfold Uj WM
 simp only [yt, BG, jA, yE, h2, h3, Option.bind_some]

theorem KH {α : Type} (n : Nat) (f : Nat → α) : (vf n f).toList = (List.range n).map f := by
 apply List.ext_getElem
 ·simp
 ·intro i h1 h2
  simp at h1
  rw [Vector.getElem_toList, QP f h1]; simp
theorem jU : kW ((List.range 256).map fun x => BR (UInt8.ofNat x)) = true := by decide +kernel
theorem zU : Qe (vf 16 fun i => UInt8.ofNat ((13 * i + 4) % 16)) = true := by
 unfold Qe
 rw [KH]
 decide +kernel
theorem zP : Jx 285 = true := by decide +kernel
theorem jv : (detC 285 (mf fun i j => Qp 285 (UInt8.ofNat (i ^^^ (4 + j)))) != 0) = true := by decide +kernel
theorem z3 (n : Int) (h : 1 ≤ n ∧ n ≤ 20) : Yp (WM n) = true := by
 unfold Yp WM
 simp only [KH, jU, zU, zP, Bool.true_and, h, decide_true, Bool.and_true, and_self]
 exact jv
theorem QZ (p0 : List (List UInt8)) (hl : p0.flatten.length ≤ 140737488355328) (hn : p0.length < 9223372036854775807) : Z4 p0 = some p0.flatten := by
 obtain ⟨a1, a2⟩ := zj 1 p0 (Xd p0) (Y6 p0) (fun s => by unfold Xd; rfl) (fun s => by unfold Y6; rfl) (by omega) (by omega) hn
 have hg : Yy (p0.flatten.length : Int) = some [] := by
  unfold Yy
  exact ke 1 _ _ (by omega) (by omega)
 unfold Z4
 simp only [a1, a2, hg, Option.bind_some]
theorem Kq (l : List UInt8) (h : l.length ≤ 140737488355328) : Z8 l = some l := by
 unfold Z8
 rw [XE (by simp; omega)]; rfl
theorem Az (l : List UInt8) (h : l.length ≤ 140737488355328) : XV l = some l := by
 unfold XV
 rw [XE (by simp; omega)]; rfl
theorem Bx {l : List UInt8} {n : Nat} (h : n ≤ l.length) : TP n l = some (vf n fun j => l.getD j 0) := by
 unfold TP
 rw [dif_pos h]
 refine congrArg some (Tp fun i hi => ?_)
 rw [QP _ hi, List.getD_eq_getElem?_getD, List.getElem?_eq_getElem (by omega)]
 simp
theorem z5 {l : List UInt8} {i j : Nat} (h : i ≤ j) (h2 : j ≤ l.length) : ∃ r, slc l (i : Int) (j : Int) = some r ∧ r.length = j - i ∧ ∀ k, k < j - i → r.getD k 0 = l.getD (i + k) 0 := by
 refine ⟨_, Jo h h2, by simp; omega, fun k hk => ?_⟩
 rw [List.getD_eq_getElem?_getD, List.getD_eq_getElem?_getD, List.getElem?_drop, List.getElem?_take, if_pos (by omega)]

def beL (n : Int) : Nat → List UInt8
 | 0 => []
 | k + 1 => Zr (Wd n ((8 * k : Nat) : Int)) :: beL n k
theorem TW (n : Int) : ∀ k, (beL n k).length = k
 | 0 => rfl
 | k + 1 => by rw [beL, List.length_cons, TW n k]
theorem jp (n : Int) (L : List UInt8 × Int → Option (Fl (List UInt8 × Int) (List UInt8))) (K : Nat)
  (hL : ∀ (k : Nat) (acc : List UInt8), k < K → acc.length ≤ 100000000 → L (acc, (k : Int)) = some (.nx (acc ++ [Zr (Wd n ((8 * k : Nat) : Int))], (k : Int) - 1))) (he : ∀ acc, L (acc, -1) = some (.ex acc)) :
  ∀ (k : Nat) (acc : List UInt8), k ≤ K → acc.length + k ≤ 100000000 → ZG L (acc, (k : Int) - 1) = some (acc ++ beL n k) := by
 intro k
 induction k with
 | zero => intro acc _ _; rw [show ((0 : Nat) : Int) - 1 = -1 from rfl, XX (he acc)]; simp [beL]
 | succ k ih =>
  intro acc hk hl
  have e : ((k + 1 : Nat) : Int) - 1 = (k : Int) := by omega
  rw [e, Wj (hL k acc (by omega) (by omega)), ih _ (by omega) (by simp; omega)]
  simp [beL]
theorem Hz (n : Int) (m : Nat) (hm : m ≤ 100) : Y2 n (m : Int) = some (beL n m) := by
 have h := jp n (Vg n) 100 (fun k acc hk hl => by
  unfold Vg
  have e1 : wr (8 * (k : Int)) = ((8 * k : Nat) : Int) := by rw [YI (by omega)]; omega
  have e2 : XJ ((8 * k : Nat) : Int) = some () := by unfold XJ; rw [if_pos (by omega)]
  have e3 : wr ((k : Int) - 1) = (k : Int) - 1 := YI (by omega)
  have e4 : decide ((k : Int) ≥ 0) = true := by simp
  simp only [e1, e2, e3, e4, if_true, Option.bind_some]
  rw [XE (by simp; omega)]; rfl) (fun acc => by unfold Vg; simp) m [] hm (by simp; omega)
 have e : wr ((m : Int) - 1) = (m : Int) - 1 := YI (by omega)
 unfold Y2
 rw [e, h]; rfl
theorem k8 (x : Int) : Zr (Qg x 255) = Zr x := by
 have h1 : (BitVec.ofInt 64 255) = (255 : BitVec 64) := rfl
 have h2 : (BitVec.ofInt 64 x &&& BitVec.ofInt 64 255).toNat = (x % 256).toNat := by
  rw [BitVec.toNat_and, h1, show (255 : BitVec 64).toNat = 2 ^ 8 - 1 from rfl, Nat.and_two_pow_sub_one_eq_mod, BitVec.toNat_ofInt]
  omega
 unfold Qg Zr
 rw [h2, YI (by omega)]
 congr 1
 omega
theorem jD (n : Int) : UT n = some (beL n 4) := by
 have e0 : Wd n 0 = n := by unfold Wd; simp
 unfold UT
 simp only [k8]
 have : beL n 4 = [Zr (Wd n 24), Zr (Wd n 16), Zr (Wd n 8), Zr (Wd n 0)] := rfl
 rw [this, e0]

def VA (n : Nat) : Nat := (24 - n % 16) % 16
def Kt (d : List UInt8) : List UInt8 := ((d ++ [128]) ++ List.replicate (VA (d.length + 1)) 0) ++ beL (d.length : Int) 8
theorem yi (d : List UInt8) : ∃ n, (Kt d).length = 16 * n ∧ n ≤ d.length + 2 := by
 have : (Kt d).length = d.length + 1 + VA (d.length + 1) + 8 := by simp [Kt, TW]; omega
 refine ⟨(d.length + 1 + VA (d.length + 1) + 8) / 16, ?_, ?_⟩
 ·rw [this]; unfold VA; omega
 ·unfold VA; omega
theorem zC (L : List UInt8 → Option (Fl (List UInt8) (List UInt8))) (hL : ∀ s, L s = if ((Int.tmod (s.length : Int) 16) != 8) = true then ((app 1 s ([0] : List UInt8)).bind fun (_ : List UInt8) => some (Fl.nx (s ++ ([0] : List UInt8)))) else (some (Fl.ex s)))
  (l : List UInt8) (hl : l.length ≤ 100000000) : ZG L l = some (l ++ List.replicate (VA l.length) 0) := by
 have ht : ∀ n : Nat, Int.tmod (n : Int) 16 = ((n % 16 : Nat) : Int) := fun n => by rw [Int.tmod_eq_emod_of_nonneg (by omega)]; omega
 have := Z1 (f := L) (fun i : Nat => l ++ List.replicate i 0) 0 (VA l.length) (Nat.zero_le _) (t := l ++ List.replicate (VA l.length) 0) (fun i _ hi => by
  rw [hL, ht]
  have hz : VA l.length < 16 := by unfold VA; omega
  have e : ((((l ++ List.replicate i 0).length % 16 : Nat) : Int) != 8) = true := by
   simp only [List.length_append, List.length_replicate, bne_iff_ne, ne_eq]
   unfold VA at hi; omega
  rw [e, if_pos rfl, XE (by simp; omega)]
  simp [List.replicate_succ']) (by
  rw [hL, ht]
  have e : ((((l ++ List.replicate (VA l.length) 0).length % 16 : Nat) : Int) != 8) = false := by
   simp only [List.length_append, List.length_replicate, bne_eq_false_iff_eq]
   unfold VA; omega
  rw [e]; rfl)
 simpa using this
theorem zx (d : List UInt8) (h : d.length ≤ 10000000) : W8 d = some (Kt d) := by
 have h1 := zC V0 (fun s => by unfold V0; rfl) (d ++ [128]) (by simp; omega)
 have h2 := Hz (d.length : Int) 8 (by omega)
 have h3 : Y2 (d.length : Int) 8 = some (beL (d.length : Int) 8) := h2
 have hz : VA (d.length + 1) < 16 := by unfold VA; omega
 have e : (d ++ [128]).length = d.length + 1 := by simp
 rw [e] at h1
 unfold W8 Kt
 rw [Kq d (by omega), Option.bind_some, XE (by simp; omega), Option.bind_some, h1, Option.bind_some, h3, Option.bind_some, XE (by simp [TW]; omega)]
 rfl
theorem kF (d : List UInt8) (h : d.length ≤ 10000000) : Tf d = some (Kt d) := by
 have h1 := zC TF (fun s => by unfold TF; rfl) (d ++ [128]) (by simp; omega)
 have hz : VA (d.length + 1) < 16 := by unfold VA; omega
 have e : (d ++ [128]).length = d.length + 1 := by simp
 rw [e] at h1
 have h2 := jp (d.length : Int) (VT d) 100 (fun k acc hk hl => by
  unfold VT
  have e1 : wr (8 * (k : Int)) = ((8 * k : Nat) : Int) := by rw [YI (by omega)]; omega
  have e5 : IntKind.u64.wrap ((8 * k : Nat) : Int) = ((8 * k : Nat) : Int) := j4 _ (by omega)
  have e2 : XJ ((8 * k : Nat) : Int) = some () := by unfold XJ; rw [if_pos (by omega)]
  have e3 : wr ((k : Int) - 1) = (k : Int) - 1 := YI (by omega)
  have e4 : decide ((k : Int) ≥ 0) = true := by simp
  simp only [e1, e5, e2, e3, e4, if_true, Option.bind_some, k8]
  rw [XE (by simp; omega)]; rfl) (fun acc => by unfold VT; simp) 8 ((d ++ [128]) ++ List.replicate (VA (d.length + 1)) 0) (by omega) (by simp; omega)
 have h3 : ZG (VT d) ((d ++ [128]) ++ List.replicate (VA (d.length + 1)) 0, 7) = some (((d ++ [128]) ++ List.replicate (VA (d.length + 1)) 0) ++ beL (d.length : Int) 8) := h2
 unfold Tf Kt
 rw [Az d (by omega), Option.bind_some, XE (by simp; omega), Option.bind_some, h1, Option.bind_some, h3]
 rfl

def jj (l : List UInt8) (i : Nat) : Blk := vf 16 fun j => l.getD (16 * i + j) 0
def XZ (l : List UInt8) (n : Nat) : List Blk := (List.range n).map (jj l)
theorem Qy (l : List UInt8) (n : Nat) : (XZ l n).length = n := by simp [XZ]
theorem JM (l : List UInt8) (n : Nat) : XZ l (n + 1) = XZ l n ++ [jj l n] := by simp [XZ, List.range_succ]
theorem yQ (l : List UInt8) (n : Nat) (hl : l.length = 16 * n) (hn : n ≤ 100000000) : V8 l = some (XZ l n) := by
 have := Z1 (f := Wp l) (fun i : Nat => (XZ l i, ((16 * i : Nat) : Int))) 0 n (Nat.zero_le _) (t := XZ l n) (fun i _ hi => by
  unfold Wp
  have e1 : wr (((16 * i : Nat) : Int) + 16) = ((16 * (i + 1) : Nat) : Int) := by rw [YI (by omega)]; omega
  have e2 : decide (((16 * i : Nat) : Int) < (l.length : Int)) = true := by simp; omega
  obtain ⟨r, r1, r2, r3⟩ := z5 (l := l) (i := 16 * i) (j := 16 * (i + 1)) (by omega) (by omega)
  have e3 : TP 16 r = some (jj l i) := by
   rw [Bx (by omega)]
   exact congrArg some (YX fun j hj => r3 j (by omega))
  simp only [e1, e2, if_true, r1, e3, Option.bind_some]
  rw [XE (by rw [Qy]; simp; omega), JM]; rfl) (by
  unfold Wp
  have e2 : decide (((16 * n : Nat) : Int) < (l.length : Int)) = false := by simp; omega
  simp only [e2, Bool.false_eq_true, if_false])
 have h2 : ZG (Wp l) ([], 0) = _ := this
 unfold V8
 rw [h2]; rfl
theorem z4 (l : List UInt8) (n : Nat) (hl : l.length = 16 * n) (hn : n ≤ 100000000) : VL l = some (XZ l n) := by
 have := Z1 (f := X7 l) (fun i : Nat => (XZ l i, ((16 * i : Nat) : Int))) 0 n (Nat.zero_le _) (t := XZ l n) (fun i _ hi => by
  unfold X7
  have e1 : wr (((16 * i : Nat) : Int) + 16) = ((16 * (i + 1) : Nat) : Int) := by rw [YI (by omega)]; omega
  have e2 : decide (((16 * (i + 1) : Nat) : Int) ≤ (l.length : Int)) = true := by simp; omega
  have h3 := XY (X2 l (XZ l i, ((16 * i : Nat) : Int))) (fun _ => 0) (fun j => l.getD (16 * i + j) 0) (by omega) 0 (by omega) (fun j hj => by omega) (fun j _ hj a _ _ => by
   unfold X2
   have e4 : wr (((16 * i : Nat) : Int) + (j : Int)) = ((16 * i + j : Nat) : Int) := by rw [YI (by omega)]; omega
   have e5 : 16 * i + j < l.length := by omega
   simp only [K2 hj, if_true, e4, YE, List.getElem?_eq_getElem e5, ZV _ hj, Option.bind_some, Int.toNat_natCast, List.getD_eq_getElem?_getD, Option.getD_some]) (fun v => by unfold X2; simp)
  have h4 : ZG (X2 l (XZ l i, ((16 * i : Nat) : Int))) (Vector.replicate 16 0, 0) = some (jj l i) := by rw [Tt]; exact h3
  simp only [e1, e2, if_true, h4, Option.bind_some]
  rw [XE (by rw [Qy]; simp; omega), JM]; rfl) (by
  unfold X7
  have e1 : wr (((16 * n : Nat) : Int) + 16) = ((16 * (n + 1) : Nat) : Int) := by rw [YI (by omega)]; omega
  have e2 : decide (((16 * (n + 1) : Nat) : Int) ≤ (l.length : Int)) = false := by simp; omega
  simp only [e1, e2, Bool.false_eq_true, if_false])
 have h2 : ZG (X7 l) ([], 0) = _ := this
 unfold VL
 rw [h2]; rfl

abbrev Dig := Vector UInt8 32
def df (v : Dig) (i : Nat) : UInt8 := v[i]?.getD default
theorem ka (v : Dig) : v = vf 32 (df v) := y7 v
def Q1 : Dig := vf 32 fun i => UInt8.ofNat (17 * i)
theorem lt32 {i : Nat} (h : i < 32) : decide ((i : Int) < 32) = true := by simp; omega
theorem qo : XQ = some Q1 := by
 have h := XY YS (fun _ => 0) (fun i => UInt8.ofNat (17 * i)) (by omega) 0 (by omega) (fun j hj => by omega) (fun i _ hi a _ _ => by
  unfold YS
  have e1 : wr (17 * (i : Int)) = ((17 * i : Nat) : Int) := by rw [YI (by omega)]; omega
  simp only [lt32 hi, if_true, ZV _ hi, Option.bind_some, e1, Xl, Int.toNat_natCast]) (fun v => by unfold YS; simp)
 have h2 : ZG YS (Vector.replicate 32 0, 0) = some Q1 := by rw [Tt]; exact h
 unfold XQ
 rw [h2]; rfl
theorem yN : Ul = some Q1 := by
 have h := XY Wr (fun _ => 0) (fun i => UInt8.ofNat (17 * i)) (by omega) 0 (by omega) (fun j hj => by omega) (fun i _ hi a _ _ => by
  unfold Wr
  have e1 : wr (17 * (i : Int)) = ((17 * i : Nat) : Int) := by rw [YI (by omega)]; omega
  have e2 : Int.tmod ((17 * i : Nat) : Int) 256 = ((17 * i % 256 : Nat) : Int) := by rw [Int.tmod_eq_emod_of_nonneg (by omega)]; omega
  simp only [lt32 hi, if_true, ZV _ hi, Option.bind_some, e1, e2, Xl, AK, Int.toNat_natCast]) (fun v => by unfold Wr; simp)
 have h2 : ZG Wr (Vector.replicate 32 0, 0) = some Q1 := by rw [Tt]; exact h
 unfold Ul
 rw [h2]; rfl
def hiF (s : Nat → UInt8) : Nat → UInt8 := fun i => s (16 + i)
def AW (f g : Nat → UInt8) : Nat → UInt8 := fun i => if i < 16 then f i else g (i - 16)
def y9 (c : GCipher) (k a : Nat → UInt8) : Nat → UInt8 := J1 (za c k a c.Rounds.toNat) a
def absC (c : GCipher) (s m : Nat → UInt8) : Nat → UInt8 :=
 AW (y9 c (hiF s) (J1 s m)) (y9 c (y9 c (hiF s) (J1 s m)) (J1 (hiF s) m))
theorem zK (s : Nat → UInt8) : Vw (vf 32 s) = some (vf 16 s, vf 16 (hiF s)) := by
 have := Z1 (f := X4 (vf 32 s)) (fun i : Nat => (vf 16 (fun j => if j < i then hiF s j else 0), vf 16 (fun j => if j < i then s j else 0), (i : Int))) 0 16 (by omega) (t := (vf 16 (hiF s), vf 16 s)) (fun i _ hi => by
  unfold X4
  have e1 : wr (16 + (i : Int)) = ((16 + i : Nat) : Int) := by rw [YI (by omega)]; omega
  simp only [K2 hi, if_true, e1, ZV _ (show i < 32 by omega), ZV _ (show 16 + i < 32 by omega), ZV _ hi, Option.bind_some, Int.toNat_natCast, TE, YO (show i < 9223372036854775807 by omega)]
  have e : ∀ f : Nat → UInt8, (vf 16 fun j => if j = i then f i else if j < i then f j else 0) = vf 16 fun j => if j < i + 1 then f j else 0 := fun f => YX fun j _ => by
   by_cases h1 : j = i
   ·subst h1; simp
   ·by_cases h2 : j < i
    ·rw [if_neg h1, if_pos h2, if_pos (by omega)]
    ·rw [if_neg h1, if_neg h2, if_neg (by omega)]
  have ea := e (hiF s)
  have eb := e s
  rw [eb]
  have ea' : (vf 16 fun j => if j = i then s (16 + i) else if j < i then hiF s j else 0) = vf 16 fun j => if j < i + 1 then hiF s j else 0 := ea
  rw [ea']) (by
  unfold X4
  simp only [show decide (((16 : Nat) : Int) < 16) = false from rfl, Bool.false_eq_true, if_false]
  refine congrArg (fun z => some (Fl.ex z)) (congr (congrArg Prod.mk (YX fun j hj => by rw [if_pos hj])) (YX fun j hj => by rw [if_pos hj])))
 have h2 : ZG (X4 (vf 32 s)) (vf 16 (fun _ => 0), vf 16 (fun _ => 0), 0) = some (vf 16 (hiF s), vf 16 s) := by
  have e0 : ∀ f : Nat → UInt8, (vf 16 fun j => if j < 0 then f j else 0) = vf 16 fun _ => 0 := fun f => YX fun j _ => by simp
  simp only [e0] at this
  exact this
 unfold Vw
 rw [Tt, h2]; rfl
theorem yn (c : GCipher) (h : Yp c = true) (s m : Nat → UInt8) : Wy c (vf 32 s) (vf 16 m) = some (vf 32 (absC c s m)) := by
 have hj : ∀ f g : Nat → UInt8, ZG (X9 (vf 16 f) (vf 16 g)) (Vector.replicate 32 0, 0) = some (vf 32 (AW f g)) := by
  intro f g
  have := Z1 (f := X9 (vf 16 f) (vf 16 g)) (fun i : Nat => (vf 32 (fun j => if j < i then f j else if 16 ≤ j ∧ j < 16 + i then g (j - 16) else 0), (i : Int))) 0 16 (by omega) (t := vf 32 (AW f g)) (fun i _ hi => by
   unfold X9
   have e1 : wr (16 + (i : Int)) = ((16 + i : Nat) : Int) := by rw [YI (by omega)]; omega
   simp only [K2 hi, if_true, e1, ZV _ (show i < 32 by omega), ZV _ (show 16 + i < 32 by omega), ZV _ hi, Option.bind_some, Int.toNat_natCast, TE, YO (show i < 9223372036854775807 by omega)]
   refine congrArg (fun z => some (Fl.nx (z, ((i + 1 : Nat) : Int)))) (YX fun j hj => ?_)
   by_cases h1 : j = 16 + i
   ·subst h1
    rw [if_pos rfl, if_neg (by omega), if_pos (by omega)]
    congr 1; omega
   ·rw [if_neg h1]
    by_cases h2 : j = i
    ·subst h2; rw [if_pos rfl, if_pos (by omega)]
    ·rw [if_neg h2]
     by_cases h3 : j < i
     ·rw [if_pos h3, if_pos (by omega)]
     ·rw [if_neg h3, if_neg (show ¬ j < i + 1 by omega)]
      by_cases h4 : 16 ≤ j ∧ j < 16 + i
      ·rw [if_pos h4, if_pos (by omega)]
      ·rw [if_neg h4, if_neg (by omega)]) (by
   unfold X9
   simp only [show decide (((16 : Nat) : Int) < 16) = false from rfl, Bool.false_eq_true, if_false]
   refine congrArg (fun z => some (Fl.ex z)) (YX fun j hj => ?_)
   unfold AW
   by_cases h3 : j < 16
   ·rw [if_pos h3, if_pos h3]
   ·rw [if_neg h3, if_neg h3, if_pos (by omega)])
  have e0 : (vf 32 fun j => if j < 0 then f j else if 16 ≤ j ∧ j < 16 + 0 then g (j - 16) else 0) = vf 32 fun _ => 0 := YX fun j _ => by rw [if_neg (by omega), if_neg (by omega)]
  simp only [e0] at this
  rw [Tt]
  exact this
 unfold Wy
 simp only [zK, Option.bind_some, JW, JV c h, hj]
 rfl
theorem k7 (c : GCipher) (h : Yp c = true) (s m : Nat → UInt8) : YZ ⟨YA c⟩ (vf 32 s) (vf 16 m) = some (vf 32 (absC c s m)) := by
 have g1 : ∀ {n : Nat} (f : Nat → UInt8) (k : Nat), k < n → (vf n f).toList.getD k 0 = f k := fun f k hk => by
  rw [KH, List.getD_eq_getElem?_getD, List.getElem?_map, List.getElem?_range hk]; rfl
 have hl : ∀ {n : Nat} (f : Nat → UInt8), (vf n f).toList.length = n := fun f => by simp
 have cut : ∀ {n : Nat} (f : Nat → UInt8) (i j : Nat), i ≤ j → j ≤ n → ∃ r, slc (vf n f).toList (i : Int) (j : Int) = some r ∧ r.length = j - i ∧ TP (j - i) r = some (vf (j - i) fun k => f (i + k)) ∧ ∀ k, k < j - i → r.getD k 0 = f (i + k) := by
  intro n f i j hij hjn
  obtain ⟨r, r1, r2, r3⟩ := z5 (l := (vf n f).toList) (i := i) (j := j) hij (by rw [hl]; exact hjn)
  have r4 : ∀ k, k < j - i → r.getD k 0 = f (i + k) := fun k hk => by rw [r3 k hk, g1 f (i + k) (by omega)]
  refine ⟨r, r1, r2, ?_, r4⟩
  rw [Bx (by omega)]
  exact congrArg some (YX r4)
 obtain ⟨l, l1, l2, l3, l4⟩ := cut (n := 32) s 0 16 (by omega) (by omega)
 obtain ⟨l', l1', l2', l3', l4'⟩ := cut (n := 32) s 16 32 (by omega) (by omega)
 have a1 : slc (vf 32 s).toList (0 : Int) (16 : Int) = some l := l1
 have a2 : slc (vf 32 s).toList (16 : Int) (32 : Int) = some l' := l1'
 have a3 : TP 16 l = some (vf 16 s) := by
  have : TP 16 l = some (vf 16 fun k => s (0 + k)) := l3
  rw [this]; exact congrArg some (YX fun k _ => by rw [Nat.zero_add])
 have a4 : TP 16 l' = some (vf 16 (hiF s)) := l3'
 have join : ∀ f g : Nat → UInt8, ((slc (vf 16 f).toList (0 : Int) (16 : Int)).bind fun (l56 : (List UInt8)) => (slc (vf 16 g).toList (0 : Int) (16 : Int)).bind fun (l59 : (List UInt8)) => (Z4 ([l56, l59] : (List (List UInt8)))).bind fun (r64 : (List UInt8)) => (TP 32 r64).bind fun (x67 : (Vector UInt8 32)) => some x67 : Option ((Vector UInt8 32))) = some (vf 32 (AW f g)) := by
  intro f g
  obtain ⟨p, p1, p2, _, p4⟩ := cut (n := 16) f 0 16 (by omega) (by omega)
  obtain ⟨q, q1, q2, _, q4⟩ := cut (n := 16) g 0 16 (by omega) (by omega)
  have b1 : slc (vf 16 f).toList (0 : Int) (16 : Int) = some p := p1
  have b2 : slc (vf 16 g).toList (0 : Int) (16 : Int) = some q := q1
  have b3 : Z4 [p, q] = some (p ++ q) := by
   have := QZ [p, q] (by simp; omega) (by simp)
   simpa using this
  rw [b1, Option.bind_some, b2, Option.bind_some, b3, Option.bind_some, Bx (by simp; omega), Option.bind_some]
  refine congrArg some (YX fun k hk => ?_)
  unfold AW
  rw [List.getD_eq_getElem?_getD]
  by_cases h1 : k < 16
  ·rw [if_pos h1, List.getElem?_append_left (by omega), ← List.getD_eq_getElem?_getD, p4 k (by omega), Nat.zero_add]
  ·rw [if_neg h1, List.getElem?_append_right (by omega), ← List.getD_eq_getElem?_getD, q4 (k - p.length) (by omega), Nat.zero_add, show p.length = 16 from p2]
 have in1 : ∀ k a : Nat → UInt8, ((Yv ⟨YA c⟩ (vf 16 k) (vf 16 a)).bind fun (r34 : (Vector UInt8 16)) => (Yq r34 (vf 16 a)).bind fun (r36 : (Vector UInt8 16)) => some r36 : Option (Vector UInt8 16)) = some (vf 16 (y9 c k a)) := fun k a => by
  rw [JB c h, Option.bind_some, TA, Option.bind_some]; rfl
 unfold YZ
 rw [a1, Option.bind_some, a3, Option.bind_some, a2, Option.bind_some, a4, Option.bind_some, TA, Option.bind_some, in1, Option.bind_some, TA, Option.bind_some, in1, Option.bind_some, join, Option.bind_some]
 rfl

def absV (c : GCipher) (s : Dig) (m : Blk) : Dig := vf 32 (absC c (df s) (bf m))
theorem jr (c : GCipher) (h : Yp c = true) (s : Dig) (m : Blk) : YZ ⟨YA c⟩ s m = some (absV c s m) ∧ Wy c s m = some (absV c s m) := by
 have h1 := k7 c h (df s) (bf m)
 have h2 := yn c h (df s) (bf m)
 rw [← ka, ← kR] at h1 h2
 exact ⟨h1, h2⟩
def Bl (c : GCipher) (d : List UInt8) : Dig := (XZ (Kt d) ((Kt d).length / 16)).foldl (absV c) Q1
theorem z8 (c : GCipher) (h : Yp c = true) (ps : List (List UInt8)) (hl : ps.flatten.length ≤ 10000000) (hn : ps.length < 9223372036854775807) : Y1 ⟨YA c⟩ ps = some (Bl c ps.flatten) := by
 obtain ⟨n, n1, n2⟩ := yi ps.flatten
 have e : (Kt ps.flatten).length / 16 = n := by omega
 have h1 := Hk (f := YQ ⟨YA c⟩ (XZ (Kt ps.flatten) n)) (XZ (Kt ps.flatten) n) (fun (b : Dig) i => (b, i)) (absV c) Q1 (t := Bl c ps.flatten) (by rw [Qy]; omega) (fun i hi => by
  unfold YQ
  simp only [Int.ofNat_lt, hi, decide_true, if_true, YE, List.getElem?_eq_getElem hi, Option.bind_some, (jr c h _ _).1]) (by
  unfold YQ Bl
  rw [e]; simp)
 unfold Y1
 rw [qo, Option.bind_some, QZ ps (by omega) hn, Option.bind_some, zx _ hl, Option.bind_some, yQ _ n n1 (by omega), Option.bind_some]
 have h2 : ZG (YQ ⟨YA c⟩ (XZ (Kt ps.flatten) n)) (Q1, 0) = _ := h1
 rw [h2]; rfl
theorem jc (c : GCipher) (h : Yp c = true) (d : List UInt8) (hl : d.length ≤ 10000000) : U1 c d = some (Bl c d) := by
 obtain ⟨n, n1, n2⟩ := yi d
 have e : (Kt d).length / 16 = n := by omega
 have h1 := Hk (f := Us c (XZ (Kt d) n)) (XZ (Kt d) n) (fun (b : Dig) i => (b, i)) (absV c) Q1 (t := Bl c d) (by rw [Qy]; omega) (fun i hi => by
  unfold Us
  simp only [Int.ofNat_lt, hi, decide_true, if_true, YE, List.getElem?_eq_getElem hi, Option.bind_some, (jr c h _ _).2]) (by
  unfold Us Bl
  rw [e]; simp)
 unfold U1
 rw [kF _ hl, Option.bind_some, z4 _ n n1 (by omega), Option.bind_some, yN, Option.bind_some]
 have h2 : ZG (Us c (XZ (Kt d) n)) (Q1, 0) = _ := h1
 rw [h2]; rfl
theorem BK (d : Dig) : WZ d = some d.toList := by
 have h := kD (f := VS d) (List.range 32) (fun i => df d i) (t := d.toList) (by simp) (fun i hi => by
  have hi' : i < 32 := by simpa using hi
  unfold VS
  have hv : ZM d (i : Int) = some (df d i) := by
   have := ZV (df d) hi'
   rwa [← ka] at this
  simp only [lt32 hi', if_true, hv, Option.bind_some]
  rw [XE (by simp; omega)]
  simp) (by
  unfold VS
  have e : (List.range 32).map (fun i => df d i) = d.toList := by
   conv => rhs; rw [ka d]
   rw [KH]
  simp only [List.length_range, show decide (((32 : Nat) : Int) < 32) = false from rfl, Bool.false_eq_true, if_false, e])
 unfold WZ
 rw [h]; rfl
theorem zt : Yp (WM 4) = true := z3 4 (by omega)
theorem Hx : Ww = some (WM 4) := by
 unfold Ww
 rw [yO]; rfl
theorem qy (n : Int) (h : 1 ≤ n ∧ n ≤ 20) : TD n = some ⟨YA (WM n)⟩ := by
 unfold TD
 rw [Af, Option.bind_some, z6 _ (z3 n h)]; rfl
theorem Ah : WB = some ⟨YA (WM 4)⟩ := by
 unfold WB
 rw [qy 4 (by omega)]; rfl
theorem ja (d : Dig) : slc d.toList (0 : Int) (32 : Int) = some d.toList := by
 have h1 : slc d.toList ((0 : Nat) : Int) ((32 : Nat) : Int) = _ := Jo (Nat.zero_le _) (by simp)
 have h2 : slc d.toList (0 : Int) (32 : Int) = _ := h1
 rw [h2, List.drop_zero, List.take_of_length_le (by simp)]
def Tj (k : Blk) (b : UInt8) : Blk := vf 16 fun i => bf k i ^^^ b
theorem AY (b : UInt8) (L : Blk × Int → Option (Fl (Blk × Int) Blk)) (hL : ∀ s, L s = if (decide (s.2 < 16)) = true then ((ZM s.1 s.2).bind fun x => (ZM s.1 s.2).bind fun _ => some (Fl.nx ((s.1.setIfInBounds (s.2).toNat (x ^^^ b)), wr (s.2 + 1)))) else (some (Fl.ex s.1))) (k : Blk) :
  ZG L (k, 0) = some (Tj k b) := by
 have h := XY L (bf k) (fun i => bf k i ^^^ b) (by omega) 0 (by omega) (fun j hj => by omega) (fun i _ hi a _ ha => by
  rw [hL]
  simp only [K2 hi, if_true, ZV _ hi, Option.bind_some, Int.toNat_natCast, ha i (Nat.le_refl _)]) (fun v => by rw [hL]; simp)
 rw [← kR] at h
 exact h
theorem QU (k : Blk) (b : UInt8) : Xc k b = some (Tj k b).toList := by
 have hs : ∀ v : Blk, slc v.toList (0 : Int) (16 : Int) = some v.toList := fun v => by
  have h1 : slc v.toList ((0 : Nat) : Int) ((16 : Nat) : Int) = _ := Jo (Nat.zero_le _) (by simp)
  have h2 : slc v.toList (0 : Int) (16 : Int) = _ := h1
  rw [h2, List.drop_zero, List.take_of_length_le (by simp)]
 unfold Xc
 rw [AY b (V5 b) (fun s => by unfold V5; rfl), Option.bind_some, hs]; rfl
theorem zd (k : Blk) (b : UInt8) : Vb k b = some (Tj k b) := by
 unfold Vb
 rw [AY b (V4 b) (fun s => by unfold V4; rfl)]; rfl
theorem yl {n : Nat} (v : Vector UInt8 n) (g : UInt8 → UInt8) (L : List UInt8 × Int → Option (Fl (List UInt8 × Int) (List UInt8))) (acc : List UInt8) (hn : n ≤ 1000) (ha : acc.length ≤ 100000000)
  (hL : ∀ s, L s = if (decide (s.2 < (n : Int))) = true then ((ZM v s.2).bind fun x => (app 1 s.1 ([g x] : List UInt8)).bind fun _ => some (Fl.nx ((s.1 ++ ([g x] : List UInt8)), wr (s.2 + 1)))) else (some (Fl.ex s.1))) :
  ZG L (acc, 0) = some (acc ++ v.toList.map g) := by
 have hlen : v.toList.length = n := by simp
 have := Z1 (f := L) (fun i : Nat => (acc ++ (v.toList.take i).map g, (i : Int))) 0 n (Nat.zero_le _) (t := acc ++ v.toList.map g) (fun i _ hi => by
  have hi' : i < v.toList.length := by omega
  rw [hL]
  simp only [Int.ofNat_lt, hi, decide_true, if_true, WT, Vector.getElem?_eq_getElem hi, Option.bind_some, YO (show i < 9223372036854775807 by omega)]
  rw [XE (by simp; omega), List.take_succ_eq_append_getElem hi']
  simp) (by
  rw [hL]
  have e : v.toList.take n = v.toList := List.take_of_length_le (by omega)
  simp only [Int.ofNat_lt, Nat.lt_irrefl, decide_false, Bool.false_eq_true, if_false, e])
 simpa using this
theorem jx (k : Blk) (b : UInt8) : (Tj k b).toList = k.toList.map fun x => x ^^^ b := by
 conv => rhs; rw [kR k]
 unfold Tj
 rw [KH, KH, List.map_map]; rfl
theorem HE (k : Blk) (b : UInt8) : Wn k b = some (Tj k b).toList := by
 unfold Wn
 rw [yl k (fun x => x ^^^ b) (Uv k b) [] (by omega) (by simp) (fun s => by unfold Uv; rfl), jx]; rfl
theorem jV {n : Nat} (v : Vector UInt8 n) : TP n v.toList = some v := by
 unfold TP
 rw [dif_pos (by simp)]
 refine congrArg some (Tp fun i hi => ?_)
 simp
def Q5 (l : List Blk) : List UInt8 := (l.map fun b => b.toList).flatten
theorem AV (l : List Blk) (h : l.length ≤ 1000000) : XM l = some (Q5 l) := by
 have hlen : ∀ i, i ≤ l.length → (Q5 (l.take i)).length = 16 * i := by
  intro i
  induction i with
  | zero => intro _; rfl
  | succ i ih =>
   intro hi
   have e : Q5 (l.take (i + 1)) = Q5 (l.take i) ++ (l[i]'(by omega)).toList := by
    unfold Q5
    rw [List.take_succ_eq_append_getElem (by omega), List.map_append, List.flatten_append]; simp
   rw [e, List.length_append, ih (by omega)]; simp; omega
 have := Z1 (f := WV l) (fun i : Nat => (Q5 (l.take i), (i : Int))) 0 l.length (Nat.zero_le _) (t := Q5 l) (fun i _ hi => by
  unfold WV
  have h1 := yl l[i] (fun x => x) (Tr l (Q5 (l.take i), (i : Int))) (Q5 (l.take i)) (by omega) (by rw [hlen i (by omega)]; omega) (fun s => by
   unfold Tr
   simp only [YE, List.getElem?_eq_getElem hi, Option.bind_some]; rfl)
  simp only [Int.ofNat_lt, hi, decide_true, if_true, h1, Option.bind_some, YO (show i < 9223372036854775807 by omega)]
  refine congrArg (fun z => some (Fl.nx (z, ((i + 1 : Nat) : Int)))) ?_
  unfold Q5
  rw [List.take_succ_eq_append_getElem hi, List.map_append, List.flatten_append]; simp) (by
  unfold WV
  simp)
 have h2 : ZG (WV l) ([], 0) = _ := this
 unfold XM
 rw [h2]; rfl

def tagC (c : GCipher) (key : Blk) (d : List UInt8) : Dig := Bl c ((Tj key 165).toList ++ (Bl c ((Tj key 90).toList ++ d)).toList)
theorem v_tag (c : GCipher) (h : Yp c = true) (key : Blk) (ps : List (List UInt8)) (hl : ps.flatten.length ≤ 1000000) (hn : ps.length < 9223372036854775807) : X8 ⟨YA c⟩ key ps = some (tagC c key ps.flatten) := by
 have e1 : ([(Tj key 90).toList, ps.flatten] : List (List UInt8)).flatten = (Tj key 90).toList ++ ps.flatten := by simp
 have d1 := z8 c h [(Tj key 90).toList, ps.flatten] (by rw [e1, List.length_append, Vector.length_toList]; omega) (by simp)
 rw [e1] at d1
 have d2 := z8 c h [(Tj key 165).toList, (Bl c ((Tj key 90).toList ++ ps.flatten)).toList] (by simp) (by simp)
 have e2 : ([(Tj key 165).toList, (Bl c ((Tj key 90).toList ++ ps.flatten)).toList] : List (List UInt8)).flatten = (Tj key 165).toList ++ (Bl c ((Tj key 90).toList ++ ps.flatten)).toList := by simp
 rw [e2] at d2
 unfold X8
 rw [QU, Option.bind_some, QZ ps (by omega) hn, Option.bind_some, d1, Option.bind_some, QU, Option.bind_some, ja, Option.bind_some, d2]
 rfl
theorem zQ (c : GCipher) (h : Yp c = true) (key : Blk) (d : List UInt8) (hl : d.length ≤ 1000000) : Vl c key d = some (tagC c key d) := by
 unfold Vl
 rw [HE, Option.bind_some, XE (by simp; omega), Option.bind_some, jc c h _ (by simp; omega), Option.bind_some, HE, Option.bind_some, BK, Option.bind_some, XE (by simp), Option.bind_some, jc c h _ (by simp)]
 rfl

def Tv (v : GVault) (n : Int) : Int := match v.Records.findIdx? (fun r => r.Number == n) with | some i => (i : Int) | none => -1
theorem qH (v : GVault) (n : Int) (h : v.Records.length < 9223372036854775807) : WK v n = some (Tv v n) := by
 unfold WK Yd
 rw [zp v.Records _ (fun r => r.Number == n) _ (fun s => by unfold Yt; rfl) h (fun x _ => rfl)]
 rfl
theorem yR (v : GVault) (n : Int) (h : v.Records.length < 9223372036854775807) : Uk v n = some (Tv v n) := by
 unfold Uk
 have := zp v.Records (fun r => some (r.Number == n)) (fun r => r.Number == n) (UY v n) (fun s => by
  unfold UY
  simp only [Option.bind_some]) h (fun x _ => rfl)
 exact this
theorem kZ {v : GVault} {n : Int} (h : ¬ Tv v n < 0) : ∃ i : Nat, Tv v n = i ∧ ∃ hi : i < v.Records.length, v.Records[i].Number = n := by
 unfold Tv at h ⊢
 cases hf : v.Records.findIdx? (fun r => r.Number == n) with
 | none => rw [hf] at h; simp at h
 | some i =>
  obtain ⟨hi, hq, _⟩ := List.findIdx?_eq_some_iff_getElem.1 hf
  exact ⟨i, rfl, hi, by simpa using hq⟩
def kp (v : GVault) (n : Int) : Int × Int := if Wg v then (if Tv v n < 0 then (0, 4) else (Tv v n, 0)) else (0, 1)
theorem Ao (v : GVault) (hb : Wt.ln v) (n : Int) : WC v n = some (kp v n) := by
 unfold WC kp
 rw [B6 v hb, Option.bind_some]
 cases hv : Wg v with
 | false => rfl
 | true =>
  have hs := HD hv
  simp only [Bool.not_true, Bool.false_eq_true, if_false, if_true]
  rw [qH v n (by omega), Option.bind_some]
  by_cases h : Tv v n < 0 <;> simp [h]
theorem J8 {v : GVault} (h : Wg v = true) {r : GRecord} (hr : r ∈ v.Records) : 0 ≤ r.Version ∧ r.Version ≤ (v.Keys.length : Int) - 1 ∧ r.Label.length ≤ 32 ∧ r.Body.length ≤ 200 := by
 unfold Wg at h
 simp only [Bool.and_eq_true, Bool.not_eq_true', List.any_eq_false, List.mem_range'_1] at h
 obtain ⟨i, hi, rfl⟩ := List.mem_iff_getElem.1 hr
 have := h.1.2 i (by omega)
 unfold Ho B2 at this
 rw [List.getElem?_eq_getElem hi] at this
 simp only [Bool.or_eq_true, Bool.not_eq_true', decide_eq_true_eq, decide_eq_false_iff_not, not_or, Classical.not_not] at this
 omega

def Ki (v : GVault) (n : Int) : Blk := v.Keys.getD n.toNat default
theorem Bj {v : GVault} {n : Int} (h0 : 0 ≤ n) (h1 : n ≤ (v.Keys.length : Int) - 1) : idx v.Keys n = some (Ki v n) := by
 have e : n = ((n.toNat : Nat) : Int) := by omega
 have hl : n.toNat < v.Keys.length := by omega
 rw [e, YE]
 unfold Ki
 rw [Int.toNat_natCast, List.getD_eq_getElem?_getD, List.getElem?_eq_getElem hl]; rfl
def Ku (r : GRecord) : List UInt8 := ((((beL r.Number 4 ++ [Zr r.Version]) ++ r.Nonce.toList) ++ [Zr (r.Label.length : Int)]) ++ r.Label) ++ r.Body
def K1 (v : GVault) (r : GRecord) : Dig := tagC (WM 4) (Tj (Ki v r.Version) 129) (Ku r)
theorem jf (v : Blk) : slc v.toList (0 : Int) (16 : Int) = some v.toList := by
 have h1 : slc v.toList ((0 : Nat) : Int) ((16 : Nat) : Int) = _ := Jo (Nat.zero_le _) (by simp)
 have h2 : slc v.toList (0 : Int) (16 : Int) = _ := h1
 rw [h2, List.drop_zero, List.take_of_length_le (by simp)]
theorem qz (v : GVault) (r : GRecord) (h : 0 ≤ r.Version ∧ r.Version ≤ (v.Keys.length : Int) - 1) (hl : r.Label.length ≤ 1000) (hb : r.Body.length ≤ 1000) : Wf ⟨YA (WM 4)⟩ v r = some (K1 v r) := by
 have hbe : Y2 r.Number 4 = some (beL r.Number 4) := Hz _ 4 (by omega)
 have ht := v_tag (WM 4) zt (Tj (Ki v r.Version) 129) [beL r.Number 4, [Zr r.Version], r.Nonce.toList, [Zr (r.Label.length : Int)], r.Label, r.Body] (by simp [TW]; omega) (by simp)
 have e : ([beL r.Number 4, [Zr r.Version], r.Nonce.toList, [Zr (r.Label.length : Int)], r.Label, r.Body] : List (List UInt8)).flatten = Ku r := by simp [Ku]
 rw [e] at ht
 unfold Wf
 rw [Bj h.1 h.2, Option.bind_some, QU, Option.bind_some, jV, Option.bind_some, hbe, Option.bind_some, jf, Option.bind_some, ht]
 rfl
theorem kd (v : GVault) (r : GRecord) (h : 0 ≤ r.Version ∧ r.Version ≤ (v.Keys.length : Int) - 1) (hl : r.Label.length ≤ 1000) (hb : r.Body.length ≤ 1000) : Ti v r = some (K1 v r) := by
 have hd : XM [r.Nonce] = some r.Nonce.toList := by
  have := AV [r.Nonce] (by simp)
  simpa [Q5] using this
 have ht := zQ (WM 4) zt (Tj (Ki v r.Version) 129) (Ku r) (by simp [Ku, TW]; omega)
 unfold Ti
 rw [jD, Option.bind_some, XE (by simp [TW]), Option.bind_some, Option.bind_some, hd, Option.bind_some, XE (by simp [TW]), Option.bind_some, XE (by simp [TW]), Option.bind_some, XE (by simp [TW]; omega), Option.bind_some, XE (by simp [TW]; omega), Option.bind_some, Hx, Option.bind_some, Bj h.1 h.2, Option.bind_some, zd, Option.bind_some]
 have ht' : Vl (WM 4) (Tj (Ki v r.Version) 129) (((((beL r.Number 4 ++ [Zr r.Version]) ++ r.Nonce.toList) ++ [Zr (r.Label.length : Int)]) ++ r.Label) ++ r.Body) = some (K1 v r) := ht
 rw [ht']; rfl
def Qv (v : GVault) (n : Int) : GRecord := v.Records.getD (Tv v n).toNat ⟨0, 0, default, [], [], default⟩
theorem Hd {v : GVault} {n : Int} (h : ¬ Tv v n < 0) : idx v.Records (Tv v n) = some (Qv v n) ∧ Qv v n ∈ v.Records := by
 obtain ⟨i, e, hi, _⟩ := kZ h
 unfold Qv
 rw [e, YE, Int.toNat_natCast, List.getD_eq_getElem?_getD, List.getElem?_eq_getElem hi]
 exact ⟨rfl, List.getElem_mem hi⟩
def AZ (c : GCipher) (key nonce : Blk) (j : Nat) : List UInt8 := (tagC c key (nonce.toList ++ [UInt8.ofNat (j / 256), UInt8.ofNat j])).toList
def BI (c : GCipher) (key nonce : Blk) (k : Nat) : List UInt8 := ((List.range k).map (AZ c key nonce)).flatten
theorem Au (c : GCipher) (key nonce : Blk) (k : Nat) : BI c key nonce (k + 1) = BI c key nonce k ++ AZ c key nonce k := by
 unfold BI
 rw [List.range_succ, List.map_append, List.flatten_append]; simp
theorem Ky (c : GCipher) (key nonce : Blk) : ∀ k, (BI c key nonce k).length = 32 * k
 | 0 => rfl
 | k + 1 => by rw [Au, List.length_append, Ky c key nonce k]; simp [AZ]; omega
def TV (c : GCipher) (key nonce : Blk) (n : Nat) : List UInt8 := (BI c key nonce ((n + 31) / 32)).take n
theorem TZ (c : GCipher) (key nonce : Blk) (n : Nat) : (TV c key nonce n).length = n := by
 unfold TV
 rw [List.length_take, Ky]; omega
theorem HG (c : GCipher) (key nonce : Blk) (n : Nat) (hn : n ≤ 100000) (L : Int × List UInt8 → Option (Fl (Int × List UInt8) (List UInt8)))
  (hL : ∀ (j : Nat) (out : List UInt8), j ≤ 100000 → out.length ≤ 1000000 → L ((j : Int), out) = if (decide ((out.length : Int) < (n : Int))) = true then some (Fl.nx (((j + 1 : Nat) : Int), out ++ AZ c key nonce j)) else some (Fl.ex out)) :
  ((ZG L (0, []) : Option (List UInt8)).bind fun j => slc j (0 : Int) (n : Int)) = some (TV c key nonce n) := by
 have := Z1 (f := L) (fun j : Nat => ((j : Int), BI c key nonce j)) 0 ((n + 31) / 32) (Nat.zero_le _) (t := BI c key nonce ((n + 31) / 32)) (fun j _ hj => by
  have hlen := Ky c key nonce j
  have e : decide (((BI c key nonce j).length : Int) < (n : Int)) = true := by rw [hlen]; simp only [decide_eq_true_eq]; omega
  rw [hL j _ (by omega) (by omega), e, if_pos rfl, Au]) (by
  have hlen := Ky c key nonce ((n + 31) / 32)
  have e : decide (((BI c key nonce ((n + 31) / 32)).length : Int) < (n : Int)) = false := by rw [hlen]; simp only [decide_eq_false_iff_not]; omega
  rw [hL _ _ (by omega) (by omega), e]; rfl)
 have h2 : ZG L (0, []) = _ := this
 rw [h2, Option.bind_some]
 have h3 : slc (BI c key nonce ((n + 31) / 32)) ((0 : Nat) : Int) (n : Int) = _ := Jo (Nat.zero_le _) (by rw [Ky]; omega)
 have h4 : slc (BI c key nonce ((n + 31) / 32)) (0 : Int) (n : Int) = _ := h3
 rw [h4, List.drop_zero]; rfl
theorem kG (c : GCipher) (h : Yp c = true) (key nonce : Blk) (n : Nat) (hn : n ≤ 100000) : XH ⟨YA c⟩ key nonce (n : Int) = some (TV c key nonce n) := by
 have h1 := HG c key nonce n hn (YR ⟨YA c⟩ key nonce (n : Int)) (fun j out hj ho => by
  have e1 : Zr (Wd (j : Int) 8) = UInt8.ofNat (j / 256) := by
   have := zG j 8 (by omega)
   rw [Nat.shiftRight_eq_div_pow] at this
   have h2 : Wd (j : Int) 8 = ((j / 2 ^ 8 : Nat) : Int) := this
   rw [h2, Xl]
  have ht := v_tag c h key [nonce.toList, [UInt8.ofNat (j / 256), UInt8.ofNat j]] (by simp) (by simp)
  have ef : ([nonce.toList, [UInt8.ofNat (j / 256), UInt8.ofNat j]] : List (List UInt8)).flatten = nonce.toList ++ [UInt8.ofNat (j / 256), UInt8.ofNat j] := by simp
  rw [ef] at ht
  unfold YR
  simp only [jf, Option.bind_some, e1, Xl, ht, ja, YO (show j < 9223372036854775807 by omega)]
  split
  ·rw [XE (by simp; omega)]; rfl
  ·rfl)
 unfold XH
 rw [show (ZG (YR ⟨YA c⟩ key nonce (n : Int)) (0, ([] : List UInt8)) : Option (List UInt8)).bind (fun j7 => (slc j7 (0 : Int) (n : Int)).bind fun l46 => (Z8 l46).bind fun r48 => some r48) = ((ZG (YR ⟨YA c⟩ key nonce (n : Int)) (0, ([] : List UInt8)) : Option (List UInt8)).bind (fun j7 => slc j7 (0 : Int) (n : Int))).bind (fun l46 => (Z8 l46).bind fun r48 => some r48) from (Option.bind_assoc _ _ _).symm, h1, Option.bind_some, Kq _ (by rw [TZ]; omega)]
 rfl
theorem yg (c : GCipher) (h : Yp c = true) (key nonce : Blk) (n : Nat) (hn : n ≤ 100000) : VN c key nonce (n : Int) = some (TV c key nonce n) := by
 have hd : XM [nonce] = some nonce.toList := by
  have := AV [nonce] (by simp)
  simpa [Q5] using this
 have h1 := HG c key nonce n hn (X1 c key nonce (n : Int)) (fun j out hj ho => by
  have e1 : Zr (wr (Int.tdiv (j : Int) 256)) = UInt8.ofNat (j / 256) := by
   have : Int.tdiv (j : Int) 256 = ((j / 256 : Nat) : Int) := by rw [Int.tdiv_eq_ediv_of_nonneg (by omega)]; omega
   rw [this, YI (by omega), Xl]
  have e2 : Zr (Int.tmod (j : Int) 256) = UInt8.ofNat j := by
   have : Int.tmod (j : Int) 256 = ((j % 256 : Nat) : Int) := by rw [Int.tmod_eq_emod_of_nonneg (by omega)]; omega
   rw [this, Xl, AK]
  unfold X1
  split
  ·rw [hd, Option.bind_some, e1, e2, XE (by simp), Option.bind_some, zQ c h key _ (by simp), Option.bind_some, BK, Option.bind_some, XE (by simp; omega), Option.bind_some, YO (by omega)]
   rfl
  ·rfl)
 unfold VN
 rw [show (ZG (X1 c key nonce (n : Int)) (0, ([] : List UInt8)) : Option (List UInt8)).bind (fun j9 => (slc j9 (0 : Int) (n : Int)).bind fun l44 => (XV l44).bind fun r46 => some r46) = ((ZG (X1 c key nonce (n : Int)) (0, ([] : List UInt8)) : Option (List UInt8)).bind (fun j7 => slc j7 (0 : Int) (n : Int))).bind (fun l46 => (XV l46).bind fun r48 => some r48) from (Option.bind_assoc _ _ _).symm, h1, Option.bind_some, Az _ (by rw [TZ]; omega)]
 rfl

def UU (a b : List UInt8) : List UInt8 := List.zipWith (fun x y => x ^^^ y) a b
theorem Hs {a b : List UInt8} (h : b.length = a.length) : (UU a b).length = a.length := by simp [UU, h]
theorem z9 {a b : List UInt8} {i : Nat} (ha : i < a.length) (hb : i < b.length) (h : i < (UU a b).length) : (UU a b)[i] = a[i] ^^^ b[i] := by simp [UU]
theorem y6 (v : GVault) (r : GRecord) (d : List UInt8) (h : 0 ≤ r.Version ∧ r.Version ≤ (v.Keys.length : Int) - 1) (hd : d.length ≤ 100000) :
  Y7 ⟨YA (WM 4)⟩ v r d = some (UU d (TV (WM 4) (Ki v r.Version) r.Nonce d.length)) := by
 unfold Y7
 rw [Kq d (by omega), Option.bind_some, Bj h.1 h.2, Option.bind_some, kG (WM 4) zt _ _ _ hd, Option.bind_some, Option.bind_some]
 generalize hs : TV (WM 4) (Ki v r.Version) r.Nonce d.length = s
 have hsl : s.length = d.length := by rw [← hs, TZ]
 have hxl := Hs hsl
 have := Z1 (f := Yz (s, (s.length : Int), 0)) (fun i : Nat => ((i : Int), (UU d s).take i ++ d.drop i)) 0 d.length (Nat.zero_le _) (t := UU d s) (fun i _ hi => by
  have h1 : i < s.length := by omega
  have h2 : i < (UU d s).length := by omega
  have h3 : ((UU d s).take i ++ d.drop i)[i]? = some d[i] := by
   rw [List.getElem?_append_right (by simp; omega), List.length_take, List.getElem?_drop]
   have e : i + (i - min i (UU d s).length) = i := by omega
   rw [e, List.getElem?_eq_getElem hi]
  have h4 : ((UU d s).take i ++ d.drop i).set i (d[i] ^^^ s[i]) = (UU d s).take (i + 1) ++ d.drop (i + 1) := by
   rw [List.set_append_right _ _ (by simp; omega), List.drop_eq_getElem_cons hi]
   have e : i - ((UU d s).take i).length = 0 := by simp; omega
   rw [e, List.set_cons_zero, List.take_succ_eq_append_getElem h2, z9 hi h1 h2, List.append_assoc]; rfl
  unfold Yz
  simp only [Int.ofNat_lt, h1, decide_true, if_true, YE, List.getElem?_eq_getElem h1, h3, Option.bind_some, Int.toNat_natCast, h4, YO (show i < 9223372036854775807 by omega)]) (by
  have e : (UU d s).take d.length ++ d.drop d.length = UU d s := by rw [List.take_of_length_le (by omega), List.drop_length, List.append_nil]
  unfold Yz
  simp only [hsl, Int.ofNat_lt, Nat.lt_irrefl, decide_false, Bool.false_eq_true, if_false, e])
 have h2 : ZG (Yz (s, (s.length : Int), 0)) (0, d) = _ := this
 rw [h2]; rfl
theorem zZ (v : GVault) (r : GRecord) (d : List UInt8) (h : 0 ≤ r.Version ∧ r.Version ≤ (v.Keys.length : Int) - 1) (hd : d.length ≤ 100000) :
  Vz v r d = some (UU d (TV (WM 4) (Ki v r.Version) r.Nonce d.length)) := by
 unfold Vz
 rw [Hx, Option.bind_some, Bj h.1 h.2, Option.bind_some, yg (WM 4) zt _ _ _ hd, Option.bind_some, Option.bind_some]
 generalize hs : TV (WM 4) (Ki v r.Version) r.Nonce d.length = s
 have hsl : s.length = d.length := by rw [← hs, TZ]
 have hxl := Hs hsl
 have := Z1 (f := X5 d (s, [])) (fun i : Nat => ((UU d s).take i, (i : Int))) 0 d.length (Nat.zero_le _) (t := UU d s) (fun i _ hi => by
  have h1 : i < s.length := by omega
  have h2 : i < (UU d s).length := by omega
  unfold X5
  simp only [Int.ofNat_lt, hi, decide_true, if_true, YE, List.getElem?_eq_getElem h1, List.getElem?_eq_getElem hi, Option.bind_some, YO (show i < 9223372036854775807 by omega)]
  rw [XE (by simp; omega), List.take_succ_eq_append_getElem h2, z9 hi h1 h2]; rfl) (by
  have e : (UU d s).take d.length = UU d s := List.take_of_length_le (by omega)
  unfold X5
  simp only [Int.ofNat_lt, Nat.lt_irrefl, decide_false, Bool.false_eq_true, if_false, e])
 have h2 : ZG (X5 d (s, [])) ([], 0) = _ := this
 rw [h2]; rfl

def kT (v : GVault) (r : GRecord) : List UInt8 := UU r.Body (TV (WM 4) (Ki v r.Version) r.Nonce r.Body.length)
def Tg (v : GVault) (n : Int) : List UInt8 × Int := if Wg v then (if Tv v n < 0 then ([], 4) else if K1 v (Qv v n) = (Qv v n).Tag then (kT v (Qv v n), 0) else ([], 5)) else ([], 1)
theorem Jq (v : GVault) (hb : Wt.ln v) (n : Int) : X6 v n = some (Tg v n) := by
 unfold X6 Tg
 rw [Ao v hb, Option.bind_some]
 unfold kp
 cases hv : Wg v with
 | false => rfl
 | true =>
  simp only [if_true]
  by_cases h : Tv v n < 0
  ·simp [h]
  ·obtain ⟨h1, h2⟩ := Hd h
   obtain ⟨a1, a2, a3, a4⟩ := J8 hv h2
   simp only [h, if_false, bne_self_eq_false, Bool.false_eq_true]
   rw [Ah, Option.bind_some, h1, Option.bind_some, qz v _ ⟨a1, a2⟩ (by omega) (by omega), Option.bind_some, Option.bind_some]
   by_cases ht : K1 v (Qv v n) = (Qv v n).Tag
   ·simp only [ht, decide_true, Bool.not_true, Bool.false_eq_true, if_false, if_true]
    rw [y6 v _ _ ⟨a1, a2⟩ (by omega)]; rfl
   ·simp [ht]
theorem Jr (v : GVault) (hb : Wt.ln v) (n : Int) : W6 v n = some (Tg v n) := by
 unfold W6 Tg
 rw [qK v hb, Option.bind_some]
 cases hv : Wg v with
 | false => rfl
 | true =>
  have hs := HD hv
  simp only [Bool.not_true, Bool.false_eq_true, if_false, if_true]
  rw [yR v n (by omega), Option.bind_some]
  by_cases h : Tv v n < 0
  ·simp [h]
  ·obtain ⟨h1, h2⟩ := Hd h
   obtain ⟨a1, a2, a3, a4⟩ := J8 hv h2
   simp only [h, decide_false, Bool.false_eq_true, if_false, h1, Option.bind_some, kd v _ ⟨a1, a2⟩ (show (Qv v n).Label.length ≤ 1000 by omega) (show (Qv v n).Body.length ≤ 1000 by omega)]
   by_cases ht : K1 v (Qv v n) = (Qv v n).Tag
   ·simp only [ht, decide_true, Bool.not_true, Bool.false_eq_true, if_false, if_true]
    rw [zZ v _ _ ⟨a1, a2⟩ (by omega)]; rfl
   ·simp [ht]
theorem zu (v : GVault) (n : Int) : (Tg v n).1.length ≤ 200 := by
 unfold Tg
 cases hv : Wg v with
 | false => simp
 | true =>
  by_cases h : Tv v n < 0
  ·simp [h]
  ·obtain ⟨h1, h2⟩ := Hd h
   obtain ⟨a1, a2, a3, a4⟩ := J8 hv h2
   by_cases ht : K1 v (Qv v n) = (Qv v n).Tag
   ·simp only [h, ht, if_true, if_false]
    unfold kT
    rw [Hs (by rw [TZ])]; omega
   ·simp [h, ht]
theorem Q7 (v : GVault) (n : Int) (h : Dat.bd v) (_ : Dat.bd n) : XA v n = some true := by
 unfold XA
 refine qG (jC v (Wt.bdln v h)) (by omega) (by omega) fun r _ _ hw => ?_
 have hw : Wt.wt v ≤ 1048576 := by omega
 have hl := Wt.wtln v hw
 have hr := zu v n
 have hle := yz v
 have hln : Wt.ln (Tg v n).1 := Wt.wtln _ (by rw [BX]; omega)
 obtain ⟨x', m1⟩ := zW v hl 1 (by omega) (by omega)
 obtain ⟨r', m2, m3⟩ := zL (Tg v n).1 hln 1 (by omega) (by rw [A2]; omega)
 have e1 : ¬ ((1 : Int) + (KL v : Nat) < 0) := by omega
 have e2 : ¬ ((1 : Int) + (((Tg v n).1.map fun _ => 1).sum : Nat) < 0) := by omega
 simp [jT v hw, Jr v hl, Jq v hl, jw v hl, Hq (Tg v n).1 hln, m1, m2, m3, e1, e2]
end Go.Proofs.YtifdeoikcebbjaaGreat
