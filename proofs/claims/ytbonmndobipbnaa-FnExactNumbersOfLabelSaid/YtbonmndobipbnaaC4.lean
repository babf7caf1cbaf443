/- Plain laws, no program in sight. -/
import Derived.Test.YtbonmndobipbnaaC3
set_option linter.unusedVariables false
set_option linter.unusedSimpArgs false
namespace Go.Proofs.Ytbonmndobipbnaa
open Go
theorem idx_nat {α : Type} {l : List α} {i : Nat} (h : i < l.length) : idx l (i : Int) = some l[i] := by
  unfold idx
  rw [if_pos (by omega)]
  simp
theorem wr_nat {i : Nat} (h : i < 9223372036854775807) : wr ((i : Int) + 1) = ((i + 1 : Nat) : Int) := by
  rw [wr_id (by omega)]; rfl

section
variable {S T : Type} {f : S → Option (Fl S T)}
/-- Rounds that go on. -/
theorem iter_to (g : Nat → S) (m n : Nat) (hmn : m ≤ n) (h : ∀ i, m ≤ i → i < n → f (g i) = some (.nx (g (i + 1)))) : iter f (g m) = iter f (g n) := by
  induction n with
  | zero => have : m = 0 := by omega
            subst this; rfl
  | succ n ih =>
    rcases Nat.lt_or_ge m (n + 1) with h1 | h1
    · rw [ih (by omega) (fun i h2 h3 => h i h2 (by omega)), iter_nx (h n (by omega) (by omega))]
    · have : m = n + 1 := by omega
      subst this; rfl
/-- A loop that runs to its end. -/
theorem iter_run (g : Nat → S) (m n : Nat) (hmn : m ≤ n) {t : T} (h : ∀ i, m ≤ i → i < n → f (g i) = some (.nx (g (i + 1)))) (he : f (g n) = some (.ex t)) : iter f (g m) = some t := by
  rw [iter_to g m n hmn h, iter_ex he]
/-- A loop that may leave early: at the first round of which p holds. -/
theorem iter_find (g : Nat → S) (p : Nat → Bool) (t : Nat → T) {e : T} (n : Nat) : ∀ (k m : Nat), m + k = n → (∀ i, m ≤ i → i < n → f (g i) = some (if p i then .ex (t i) else .nx (g (i + 1)))) → f (g n) = some (.ex e) →
    iter f (g m) = some (((List.range' m k).find? p).elim e t)
  | 0, m, hk, _, he => by
    have : m = n := by omega
    subst this
    rw [iter_ex he]; rfl
  | k + 1, m, hk, h, he => by
    have h1 := h m (Nat.le_refl _) (by omega)
    rw [List.range'_succ, List.find?_cons]
    cases hp : p m with
    | true => rw [hp] at h1; rw [iter_ex h1]; rfl
    | false =>
      rw [hp] at h1
      rw [iter_nx h1, iter_find g p t n k (m + 1) (by omega) (fun i h2 h3 => h i (by omega) h3) he]
end

/-- A search through indices: it leaves with t where p holds of one of them. -/
theorem iter_any {T : Type} {f : Int → Option (Fl Int (Fl Unit T))} (p : Nat → Bool) {t : T} {n m : Nat} (hm : m ≤ n)
    (h : ∀ i, m ≤ i → i < n → f (i : Int) = some (if p i then .ex (.ex t) else .nx ((i + 1 : Nat) : Int))) (he : f (n : Int) = some (.ex (.nx ()))) :
    iter f (m : Int) = some (if (List.range' m (n - m)).any p then .ex t else .nx ()) := by
  rw [iter_find (fun i : Nat => (i : Int)) p (fun _ => .ex t) n (n - m) m (by omega) h he]
  cases hf : (List.range' m (n - m)).find? p with
  | none =>
    have : (List.range' m (n - m)).any p = false := by
      rw [List.any_eq_false]
      rw [List.find?_eq_none] at hf
      exact hf
    rw [this]; rfl
  | some i =>
    have : (List.range' m (n - m)).any p = true := by
      rw [List.any_eq_true]
      exact ⟨i, List.mem_of_find?_eq_some hf, List.find?_some hf⟩
    rw [this]; rfl
theorem any_range {p : Nat → Bool} {m n : Nat} : (List.range' m (n - m)).any p = true ↔ ∃ i, m ≤ i ∧ i < n ∧ p i = true := by
  rw [List.any_eq_true]
  simp only [List.mem_range'_1]
  constructor
  · rintro ⟨i, ⟨h1, h2⟩, h3⟩; exact ⟨i, h1, by omega, h3⟩
  · rintro ⟨i, h1, h2, h3⟩; exact ⟨i, ⟨h1, by omega⟩, h3⟩
/-- A search through the elements of a list. -/
theorem any_list {α : Type} {q : α → Bool} {l : List α} {p : Nat → Bool} (hp : ∀ i (h : i < l.length), p i = q l[i]) : (List.range' 0 (l.length - 0)).any p = l.any q := by
  rw [Bool.eq_iff_iff, any_range, List.any_eq_true]
  constructor
  · rintro ⟨i, _, h, h3⟩; exact ⟨l[i], List.getElem_mem h, by rw [← hp i h]; exact h3⟩
  · rintro ⟨x, hx, h⟩
    obtain ⟨i, hi, rfl⟩ := List.mem_iff_getElem.1 hx
    exact ⟨i, Nat.zero_le _, hi, by rw [hp i hi]; exact h⟩

/-- A search through a list, by a condition of its element. -/
theorem iter_anyL {T α : Type} {f : Int → Option (Fl Int (Fl Unit T))} (l : List α) (q : α → Bool) {t : T} (hl : l.length < 9223372036854775807)
    (h : ∀ i (hi : i < l.length), f (i : Int) = some (if q l[i] then .ex (.ex t) else .nx (wr ((i : Int) + 1)))) (he : f (l.length : Int) = some (.ex (.nx ()))) :
    iter f 0 = some (if l.any q then .ex t else .nx ()) := by
  have := iter_any (f := f) (fun i => if hi : i < l.length then q l[i] else false) (t := t) (n := l.length) (m := 0) (Nat.zero_le _) (fun i _ hi => by
    rw [h i hi, wr_nat (by omega)]; simp [hi]) he
  rw [any_list (q := q) (fun i hi => by simp [hi])] at this
  exact this

/-- How much data hold, beside what is of one size; that all lengths are numbers. -/
class Wt (α : Type) [Dat α] where
  wt : α → Nat
  ln : α → Prop
  bdln : ∀ x, Dat.bd x → ln x
  wtln : ∀ x, wt x ≤ 1048576 → ln x
instance : Wt Int := ⟨fun _ => 0, fun _ => True, fun _ _ => trivial, fun _ _ => trivial⟩
instance : Wt UInt8 := ⟨fun _ => 0, fun _ => True, fun _ _ => trivial, fun _ _ => trivial⟩
instance : Wt Bool := ⟨fun _ => 0, fun _ => True, fun _ _ => trivial, fun _ _ => trivial⟩
instance : Wt Str := ⟨fun s => s.l.length, fun s => s.l.length ≤ 9223372036854775807, fun _ h => h, fun _ h => by omega⟩
instance {n : Nat} : Wt (Vector UInt8 n) := ⟨fun _ => 0, fun _ => True, fun _ _ => trivial, fun _ _ => trivial⟩
instance {n m : Nat} : Wt (Vector (Vector UInt8 m) n) := ⟨fun _ => 0, fun _ => True, fun _ _ => trivial, fun _ _ => trivial⟩
theorem sum_mem {α : Type} {f : α → Nat} {l : List α} {x : α} (h : x ∈ l) : f x ≤ (l.map f).sum := by
  induction l with
  | nil => cases h
  | cons y l ih =>
    rw [List.map_cons, List.sum_cons]
    rcases List.mem_cons.1 h with rfl | h
    · omega
    · have := ih h; omega
instance {α : Type} [Dat α] [Wt α] : Wt (List α) := ⟨fun l => l.length + (l.map Wt.wt).sum, fun l => l.length ≤ 9223372036854775807 ∧ ∀ x ∈ l, Wt.ln x, fun _ h => ⟨h.1, fun x hx => Wt.bdln x (h.2 x hx)⟩,
  fun l h => ⟨by omega, fun x hx => Wt.wtln x (by have := sum_mem (f := Wt.wt) hx; omega)⟩⟩
instance {α β : Type} [Dat α] [Dat β] [Wt α] [Wt β] : Wt (α × β) := ⟨fun x => Wt.wt x.1 + Wt.wt x.2, fun x => Wt.ln x.1 ∧ Wt.ln x.2, fun x h => ⟨Wt.bdln x.1 h.1, Wt.bdln x.2 h.2⟩, fun x h => ⟨Wt.wtln x.1 (by omega), Wt.wtln x.2 (by omega)⟩⟩
theorem wt_list {α : Type} [Dat α] [Wt α] (l : List α) : Wt.wt l = l.length + (l.map Wt.wt).sum := rfl
theorem wt_mem {α : Type} [Dat α] [Wt α] {l : List α} {x : α} (h : x ∈ l) : Wt.wt x ≤ (l.map Wt.wt).sum := sum_mem h
theorem wt_memL {α : Type} [Dat α] [Wt α] {l : List α} {x : α} (h : x ∈ l) : Wt.wt x ≤ Wt.wt l := by
  have := wt_mem h; rw [wt_list]; omega
theorem wt_len {α : Type} [Dat α] [Wt α] (l : List α) : l.length ≤ Wt.wt l := by rw [wt_list]; omega
theorem ln_len {α : Type} [Dat α] [Wt α] {l : List α} (h : Wt.ln l) : l.length ≤ 9223372036854775807 := h.1
theorem ln_mem {α : Type} [Dat α] [Wt α] {l : List α} {x : α} (h : Wt.ln l) (hx : x ∈ l) : Wt.ln x := h.2 x hx

theorem copy_loop {α β : Type} (p0 : List α) (c : α → Option β) (g : α → β) (by_ : Nat) (z : β) (L : List β × Int → Option (Fl (List β × Int) (List β)))
    (hL : ∀ s, L s = if (decide (s.2 < (p0.length : Int))) = true then ((idx p0 s.2).bind fun x => (c x).bind fun r => (idx s.1 s.2).bind fun _ => some (Fl.nx ((s.1.set (s.2).toNat r), wr (s.2 + 1)))) else (some (Fl.ex s.1)))
    (hc : ∀ x ∈ p0, c x = some (g x)) (hl : p0.length * by_ ≤ 140737488355328) (hl' : p0.length < 9223372036854775807) :
    ((mkS by_ z (p0.length : Int)).bind fun l1 => (iter L (l1, 0) : Option (List β)).bind fun j => some j) = some (p0.map g) := by
  have hm : mkS by_ z (p0.length : Int) = some (List.replicate p0.length z) := by
    have h3 : ((p0.length * by_ : Nat) : Int) ≤ ((140737488355328 : Nat) : Int) := Int.ofNat_le.2 hl
    rw [Int.natCast_mul] at h3
    unfold mkS
    rw [if_pos ⟨by omega, h3⟩, Int.toNat_natCast]
  rw [hm]
  simp only [Option.bind_some]
  have hrun := iter_run (f := L) (fun i : Nat => ((p0.take i).map g ++ List.replicate (p0.length - i) z, (i : Int))) 0 p0.length (Nat.zero_le _) (t := p0.map g) (fun i _ hi => by
    rw [hL]
    simp only [Int.ofNat_lt, hi, decide_true, if_true, idx_nat hi, Option.bind_some, hc _ (List.getElem_mem hi)]
    rw [idx_nat (by simp; omega)]
    simp only [Option.bind_some, wr_nat (show i < 9223372036854775807 by omega), Int.toNat_natCast]
    congr 3
    rw [List.set_append_right _ _ (by simp; omega)]
    have e1 : p0.length - i = (p0.length - (i + 1)) + 1 := by omega
    have e2 : i - ((p0.take i).map g).length = 0 := by simp; omega
    rw [e1, List.replicate_succ, e2, List.set_cons_zero]
    rw [List.take_succ_eq_append_getElem hi, List.map_append, List.append_assoc]
    rfl) (by
    rw [hL]
    simp)
  simp at hrun
  simp [hrun]

theorem eq_loop {α : Type} (p0 : List α) (ne : α → α → Option Bool) (L : Int → Option (Fl Int (Fl Unit Bool)))
    (hL : ∀ s, L s = if (decide (s < (p0.length : Int))) = true then (((idx p0 s).bind fun x => (idx p0 s).bind fun y => ne x y : Option Bool).bind fun j => if j = true then (some (Fl.ex (Fl.ex false))) else (some (Fl.nx (wr (s + 1))))) else (some (Fl.ex (Fl.nx ()))))
    (hn : ∀ x ∈ p0, ne x x = some false) (hl : p0.length ≤ 9223372036854775807) :
    (if ((p0.length : Int) != (p0.length : Int)) = true then (some false) else ((iter L 0 : Option (Fl Unit Bool)).bind fun j2 => j2.el (fun _ => some true) (fun r => some r))) = some true := by
  have := iter_run (f := L) (fun i : Nat => (i : Int)) 0 p0.length (Nat.zero_le _) (t := .nx ()) (fun i _ hi => by
    rw [hL]
    simp only [Int.ofNat_lt, hi, decide_true, if_true, idx_nat hi, Option.bind_some, hn _ (List.getElem_mem hi)]
    simp [wr_nat (show i < 9223372036854775807 by omega)]) (by
    rw [hL]; simp)
  have h2 : iter L 0 = some (.nx ()) := this
  simp [h2, Fl.el]

/-- Weighing: what is left, or less than nothing. -/
def Weighs {α : Type} [Dat α] [Wt α] (f : α → Int → Option Int) (x : α) : Prop := ∀ left : Int, 0 ≤ left → left ≤ 1048576 → ∃ r, f x left = some r ∧ r ≤ 1048576 ∧ (0 ≤ r → r + Wt.wt x ≤ left)
theorem weigh_flat {α : Type} [Dat α] [Wt α] {l : List α} (h0 : ∀ x : α, Wt.wt x = 0) (f : List α → Int → Option Int)
    (hf : ∀ left, f l left = if (decide ((wr (left - (l.length : Int))) < 0)) = true then (some (-1)) else (some (wr (left - (l.length : Int))))) (hl : l.length ≤ 9223372036854775807) : Weighs f l := by
  intro left h1 h2
  have hs : (l.map Wt.wt).sum = 0 := by
    clear hf hl
    induction l with
    | nil => rfl
    | cons x l ih => rw [List.map_cons, List.sum_cons, h0, ih]
  have hw : Wt.wt l = l.length := by rw [wt_list, hs]; rfl
  rw [hf, wr_id (by omega), hw]
  by_cases h : left - (l.length : Int) < 0
  · exact ⟨-1, by simp [h], by omega, by omega⟩
  · exact ⟨left - l.length, by simp [h], by omega, by omega⟩
theorem weigh_list {α : Type} [Dat α] [Wt α] {p0 : List α} (f : List α → Int → Option Int) (c : α → Int → Option Int) (L : Int × Int → Option (Fl (Int × Int) (Fl Int Int)))
    (hL : ∀ s, L s = if (decide (s.2 < (p0.length : Int))) = true then ((idx p0 s.2).bind fun x => (c x s.1).bind fun r => if (decide (r < 0)) = true then (some (Fl.ex (Fl.ex (-1)))) else (some (Fl.nx (r, wr (s.2 + 1))))) else (some (Fl.ex (Fl.nx s.1))))
    (hf : ∀ left, f p0 left = if (decide ((wr (left - (p0.length : Int))) < 0)) = true then (some (-1)) else ((iter L (wr (left - (p0.length : Int)), 0) : Option (Fl Int Int)).bind fun j2 => j2.el (fun s => some s) (fun r => some r)))
    (hl : p0.length ≤ 9223372036854775807) (hc : ∀ x ∈ p0, Weighs c x) : Weighs f p0 := by
  intro left h1 h2
  rw [hf, wr_id (by omega)]
  by_cases h : left - (p0.length : Int) < 0
  · exact ⟨-1, by simp [h], by omega, by omega⟩
  simp only [h, decide_false, Bool.false_eq_true, if_false]
  have key : ∀ (k m : Nat) (a : Int), m + k = p0.length → 0 ≤ a → a ≤ 1048576 → ∃ o : Fl Int Int, iter L (a, (m : Int)) = some o ∧ ((o = .ex (-1)) ∨ ∃ r, o = .nx r ∧ 0 ≤ r ∧ r + (((p0.drop m).map Wt.wt).sum : Nat) ≤ a) := by
    intro k
    induction k with
    | zero =>
      intro m a hm h0 h3
      have : m = p0.length := by omega
      subst this
      refine ⟨.nx a, ?_, .inr ⟨a, rfl, h0, ?_⟩⟩
      · rw [iter_ex (t := .nx a)]; rw [hL]; simp
      · simp
    | succ k ih =>
      intro m a hm h0 h3
      have hi : m < p0.length := by omega
      obtain ⟨r, e1, e2, e3⟩ := hc _ (List.getElem_mem hi) a h0 h3
      have hst : L (a, (m : Int)) = (if (decide (r < 0)) = true then (some (Fl.ex (Fl.ex (-1)))) else (some (Fl.nx (r, ((m + 1 : Nat) : Int))))) := by
        rw [hL]
        simp only [Int.ofNat_lt, hi, decide_true, if_true, idx_nat hi, Option.bind_some, e1, wr_nat (show m < 9223372036854775807 by omega)]
      by_cases hr : r < 0
      · simp only [hr, decide_true, if_true] at hst
        exact ⟨_, iter_ex hst, .inl rfl⟩
      · simp only [hr, decide_false, Bool.false_eq_true, if_false] at hst
        obtain ⟨o, k1, k2⟩ := ih (m + 1) r (by omega) (by omega) e2
        refine ⟨o, by rw [iter_nx hst]; exact k1, k2.imp id ?_⟩
        rintro ⟨q, rfl, q1, q2⟩
        refine ⟨q, rfl, q1, ?_⟩
        have e3 := e3 (by omega)
        rw [List.drop_eq_getElem_cons hi, List.map_cons, List.sum_cons]
        omega
  obtain ⟨o, k1, k2⟩ := key p0.length 0 (left - p0.length) (by omega) (by omega) (by omega)
  have k1' : iter L (left - (p0.length : Int), 0) = some o := k1
  rw [k1']
  rcases k2 with rfl | ⟨r, rfl, q1, q2⟩
  · exact ⟨-1, rfl, by omega, by omega⟩
  · refine ⟨r, rfl, by omega, fun _ => ?_⟩
    rw [List.drop_zero] at q2
    rw [wt_list]; omega
@[simp] theorem idx_cast {α : Type} (l : List α) (i : Nat) : idx l (i : Int) = l[i]? := by unfold idx; simp
@[simp] theorem idx_zero {α : Type} (l : List α) : idx l (0 : Int) = l[0]? := idx_cast l 0
/-- A search from index m on: leaves with t at the first index of which p holds. -/
theorem iter_search {T : Type} {f : Int → Option (Fl Int (Fl Unit T))} (n : Nat) (p : Nat → Bool) (t : Nat → T) (hn : n < 9223372036854775807)
    (h : ∀ i, i < n → f (i : Int) = some (if p i then .ex (.ex (t i)) else .nx (wr ((i : Int) + 1)))) (he : f (n : Int) = some (.ex (.nx ()))) (m : Nat) (hm : m ≤ n) :
    iter f (m : Int) = some (match (List.range' m (n - m)).find? p with | some i => .ex (t i) | none => .nx ()) := by
  rw [iter_find (fun i : Nat => (i : Int)) p (fun i => .ex (t i)) n (n - m) m (by omega) (fun i _ hi => by rw [h i hi, wr_nat (by omega)]) he]
  cases (List.range' m (n - m)).find? p <;> rfl
/-- A search that answers one thing. -/
theorem iter_has {T : Type} {f : Int → Option (Fl Int (Fl Unit T))} (n : Nat) (p : Nat → Bool) (t : T) (hn : n < 9223372036854775807)
    (h : ∀ i, i < n → f (i : Int) = some (if p i then .ex (.ex t) else .nx (wr ((i : Int) + 1)))) (he : f (n : Int) = some (.ex (.nx ()))) (m : Nat) (hm : m ≤ n) :
    iter f (m : Int) = some (if (List.range' m (n - m)).any p then .ex t else .nx ()) :=
  iter_any p hm (fun i _ hi => by rw [h i hi, wr_nat (by omega)]) he
theorem app_ok {α : Type} {by_ : Nat} {l m : List α} (h : (l.length + m.length) * by_ ≤ 140737488355328) : app by_ l m = some (l ++ m) := by unfold app; rw [if_pos h]
theorem vec_ext {α : Type} {n : Nat} {v w : Vector α n} (h : ∀ i (hi : i < n), v[i] = w[i]) : v = w := Vector.ext h
@[simp] theorem vidx_cast {α : Type} {n : Nat} (v : Vector α n) (i : Nat) : vidx v (i : Int) = v[i]? := by unfold vidx; simp
theorem copy_arr {n : Nat} (p0 : Vector UInt8 n) (L : Vector UInt8 n × Int → Option (Fl (Vector UInt8 n × Int) (Vector UInt8 n)))
    (hL : ∀ s, L s = if decide (s.2 < (n : Int)) = true then ((vidx p0 s.2).bind fun x => (vidx s.1 s.2).bind fun _ => some (Fl.nx (s.1.setIfInBounds (s.2).toNat x, wr (s.2 + 1)))) else (some (Fl.ex s.1))) (hn : n < 9223372036854775807) (z : Vector UInt8 n) :
    iter L (z, 0) = some p0 := by
  have := iter_run (f := L) (fun i : Nat => (Vector.ofFn fun j : Fin n => if j.1 < i then p0[j] else z[j], (i : Int))) 0 n (Nat.zero_le _) (t := p0) (fun i _ hi => by
    rw [hL]
    simp only [Int.ofNat_lt, hi, decide_true, if_true, vidx_cast, Vector.getElem?_eq_getElem hi, Option.bind_some, Int.toNat_natCast, wr_nat (show i < 9223372036854775807 by omega)]
    congr 3
    apply vec_ext
    intro j hj
    rw [Vector.getElem_setIfInBounds]
    simp only [Vector.getElem_ofFn, Fin.getElem_fin]
    by_cases h : i = j
    · subst h; simp
    · by_cases h2 : j < i
      · simp [h, h2, show j < i + 1 by omega]
      · simp [h, h2, show ¬ j < i + 1 by omega]) (by
    rw [hL]
    simp only [Int.ofNat_lt, Nat.lt_irrefl, decide_false, Bool.false_eq_true, if_false]
    congr 2
    apply vec_ext
    intro j hj
    simp [hj])
  have h0 : (Vector.ofFn fun j : Fin n => if j.1 < 0 then p0[j] else z[j]) = z := by
    apply vec_ext
    intro j hj
    simp
  rw [h0] at this
  exact this
theorem eq_arr {n : Nat} (p0 : Vector UInt8 n) (L : Int → Option (Fl Int (Fl Unit Bool)))
    (hL : ∀ s, L s = if decide (s < (n : Int)) = true then (((vidx p0 s).bind fun x => (vidx p0 s).bind fun y => some (x != y) : Option Bool).bind fun j => if j = true then (some (Fl.ex (Fl.ex false))) else (some (Fl.nx (wr (s + 1))))) else (some (Fl.ex (Fl.nx ())))) (hn : n < 9223372036854775807) :
    ((iter L 0 : Option (Fl Unit Bool)).bind fun j5 => j5.el (fun _ => some true) (fun r => some r)) = some true := by
  have := iter_run (f := L) (fun i : Nat => (i : Int)) 0 n (Nat.zero_le _) (t := .nx ()) (fun i _ hi => by
    rw [hL]
    simp only [Int.ofNat_lt, hi, decide_true, if_true, vidx_cast, Vector.getElem?_eq_getElem hi, Option.bind_some]
    simp [wr_nat (show i < 9223372036854775807 by omega)]) (by rw [hL]; simp)
  have h2 : iter L 0 = some (.nx ()) := this
  rw [h2]; rfl

/-- What is written when numbers are written one after the other from k on. -/
def markV (n : Nat) (k : Int) : Vector UInt8 n := Vector.ofFn fun j => byteI (k + j)
theorem wr_k {k : Int} (h : 0 ≤ k) (h2 : k < 9223372036854775807) : wr (k + 1) = k + 1 := wr_id (by omega)
theorem mark_arr {α : Type} {n : Nat} (get : α → Vector UInt8 n) (put : α → Vector UInt8 n → α) (i : Nat) (I : Int) (hI : I = i) (L : List α × Int × Int → Option (Fl (List α × Int × Int) (List α × Int)))
    (hL : ∀ s, L s = if decide (s.2.2 < (n : Int)) = true then ((idx s.1 I).bind fun x => (vidx (get x) s.2.2).bind fun _ => some (Fl.nx (s.1.set (I).toNat (put x ((get x).setIfInBounds (s.2.2).toNat (byteI s.2.1))), wr (s.2.1 + 1), wr (s.2.2 + 1)))) else (some (Fl.ex (s.1, s.2.1))))
    (hgp : ∀ x v, get (put x v) = v) (hpp : ∀ x v w, put (put x v) w = put x w) (hpg : ∀ x, put x (get x) = x) (hn : n < 9223372036854775807)
    (l : List α) (hi : i < l.length) (k : Int) (h0 : 0 ≤ k) (hk : k + n ≤ 4611686018427387904) : iter L (l, k, 0) = some (l.set i (put l[i] (markV n k)), k + n) := by
  subst hI
  have := iter_run (f := L) (fun j : Nat => (l.set i (put l[i] (Vector.ofFn fun q : Fin n => if q.1 < j then byteI (k + q) else (get l[i])[q])), k + j, (j : Int))) 0 n (Nat.zero_le _) (t := (l.set i (put l[i] (markV n k)), k + n)) (fun j _ hj => by
    rw [hL]
    have hi' : i < (l.set i (put l[i] (Vector.ofFn fun q : Fin n => if q.1 < j then byteI (k + q) else (get l[i])[q]))).length := by simpa using hi
    simp only [Int.ofNat_lt, hj, decide_true, if_true, idx_cast, vidx_cast, List.getElem?_eq_getElem hi', Vector.getElem?_eq_getElem hj, Option.bind_some, Int.toNat_natCast, wr_nat (show j < 9223372036854775807 by omega), List.getElem_set_self, hgp, hpp, List.set_set]
    rw [wr_k (by omega) (by omega)]
    congr 3
    · congr 2
      apply vec_ext
      intro q hq
      rw [Vector.getElem_setIfInBounds]
      simp only [Vector.getElem_ofFn, Fin.getElem_fin]
      by_cases h : j = q
      · subst h; simp
      · by_cases h2 : q < j
        · simp [h, h2, show q < j + 1 by omega]
        · simp [h, h2, show ¬ q < j + 1 by omega]
    · congr 1
      omega) (by
    rw [hL]
    simp only [Int.ofNat_lt, Nat.lt_irrefl, decide_false, Bool.false_eq_true, if_false]
    have e : (Vector.ofFn fun q : Fin n => if q.1 < n then byteI (k + q) else (get l[i])[q]) = markV n k := by
      unfold markV
      apply vec_ext
      intro j hj
      simp [hj]
    rw [e])
  have h0' : (Vector.ofFn fun q : Fin n => if q.1 < 0 then byteI (k + q) else (get l[i])[q]) = get l[i] := by
    apply vec_ext
    intro j hj
    simp
  rw [h0', hpg, List.set_getElem_self] at this
  simpa using this
/-- A mark of n numbers from k on, and the look that finds it. -/
def MarkOk {α : Type} (Fm : α → Int → Option (α × Int)) (Fh : α → Int → Option Int) (x : α) (n : Nat) : Prop :=
  ∀ k : Int, 0 ≤ k → k + n ≤ 4611686018427387904 → ∃ x', Fm x k = some (x', k + n) ∧ Fh x' k = some (k + n)
theorem mark_list {α : Type} (Fm : List α → Int → Option (List α × Int)) (Fh : List α → Int → Option Int) (Lm : List α × Int × Int → Option (Fl (List α × Int × Int) (List α × Int))) (Lh : List α → Int × Int → Option (Fl (Int × Int) (Fl Int Int))) (mk : α → Nat)
    (hFm : ∀ l k, Fm l k = (iter Lm (l, k, 0) : Option (List α × Int)).bind fun j1 => some (j1.1, j1.2)) (hFh : ∀ l k, Fh l k = (iter (Lh l) (k, 0) : Option (Fl Int Int)).bind fun j1 => j1.el (fun s => some s) (fun r => some r))
    (l : List α) (hl : l.length ≤ 9223372036854775807)
    (hm : ∀ (l' : List α) (i : Nat) (k : Int) (hi : i < l'.length), l'[i] ∈ l → i < 9223372036854775807 → 0 ≤ k → k + mk l'[i] ≤ 4611686018427387904 → ∃ x', Lm (l', k, (i : Int)) = some (.nx (l'.set i x', k + mk l'[i], wr ((i : Int) + 1))) ∧
      ∀ (m : List α), m[i]? = some x' → Lh m (k, (i : Int)) = some (.nx (k + mk l'[i], wr ((i : Int) + 1))))
    (hme : ∀ (l' : List α) k, Lm (l', k, (l'.length : Int)) = some (.ex (l', k))) (hhe : ∀ (m : List α) k, Lh m (k, (m.length : Int)) = some (.ex (.nx k))) : MarkOk Fm Fh l (l.map mk).sum := by
  have aux : ∀ (n i : Nat) (l' : List α) (k : Int), i + n = l'.length → l'.length = l.length → l'.drop i = l.drop i → 0 ≤ k → k + (((l.drop i).map mk).sum : Nat) ≤ 4611686018427387904 →
      ∃ l'', iter Lm (l', k, (i : Int)) = some (l'', k + (((l.drop i).map mk).sum : Nat)) ∧ l''.length = l'.length ∧ (∀ j, j < i → l''[j]? = l'[j]?) ∧ iter (Lh l'') (k, (i : Int)) = some (.nx (k + (((l.drop i).map mk).sum : Nat))) := by
    intro n
    induction n with
    | zero =>
      intro i l' k hi hll hd h0 hk
      have hi : i = l'.length := by omega
      subst hi
      have e : l.drop l'.length = [] := by rw [hll]; simp
      rw [e]
      refine ⟨l', ?_, rfl, fun _ _ => rfl, ?_⟩
      · rw [iter_ex (hme l' k)]; simp
      · rw [iter_ex (hhe l' k)]; simp
    | succ n ih =>
      intro i l' k hi hll hd h0 hk
      have hil : i < l'.length := by omega
      have hil2 : i < l.length := by omega
      have e1 : l'[i] = l[i] := by
        have h1 := List.drop_eq_getElem_cons hil
        have h2 := List.drop_eq_getElem_cons hil2
        rw [h1, h2] at hd
        exact (List.cons.inj hd).1
      have e2 : l.drop i = l[i] :: l.drop (i + 1) := List.drop_eq_getElem_cons hil2
      rw [e2, List.map_cons, List.sum_cons] at hk ⊢
      obtain ⟨x', h1, h2⟩ := hm l' i k hil (by rw [e1]; exact List.getElem_mem hil2) (by omega) h0 (by rw [e1]; omega)
      rw [e1] at h1 h2
      rw [wr_nat (by omega)] at h1 h2
      obtain ⟨l'', k1, k2, k3, k4⟩ := ih (i + 1) (l'.set i x') (k + mk l[i]) (by simp; omega) (by simpa using hll) (by
        rw [List.drop_set_of_lt (by omega)]
        have h1 := List.drop_eq_getElem_cons hil
        rw [h1, e2] at hd
        exact (List.cons.inj hd).2) (by omega) (by omega)
      refine ⟨l'', ?_, by simpa using k2, fun j hj => ?_, ?_⟩
      · rw [iter_nx h1, k1]; congr 2; omega
      · rw [k3 j (by omega), List.getElem?_set_ne (by omega)]
      · rw [iter_nx (h2 l'' (by rw [k3 i (by omega)]; simp [hil])), k4]; congr 2; omega
  intro k h0 hk
  obtain ⟨l'', k1, k2, k3, k4⟩ := aux l.length 0 l k (by omega) rfl rfl h0 (by simpa using hk)
  simp only [List.drop_zero] at k1 k4
  refine ⟨l'', ?_, ?_⟩
  · rw [hFm]
    have : iter Lm (l, k, 0) = _ := k1
    rw [this]; rfl
  · rw [hFh]
    have : iter (Lh l'') (k, 0) = _ := k4
    rw [this]; rfl
theorem sum_le_wt {α : Type} [Dat α] [Wt α] (mk : α → Nat) (c : Nat) (h : ∀ x, mk x ≤ c * (1 + Wt.wt x)) (l : List α) : (l.map mk).sum ≤ c * Wt.wt l := by
  rw [wt_list]
  induction l with
  | nil => simp
  | cons x l ih =>
    have := h x
    simp only [List.map_cons, List.sum_cons, List.length_cons]
    have e : c * (l.length + 1 + (Wt.wt x + (l.map Wt.wt).sum)) = c * (1 + Wt.wt x) + c * (l.length + (l.map Wt.wt).sum) := by
      rw [← Nat.mul_add]; congr 1; omega
    omega
theorem wt_bytes (l : List UInt8) : Wt.wt l = l.length := by
  rw [wt_list]
  have : (l.map Wt.wt).sum = 0 := by
    induction l with
    | nil => rfl
    | cons x l ih => rw [List.map_cons, List.sum_cons, ih]; rfl
  omega
theorem v_toByteS (l : List UInt8) (h : Wt.wt l ≤ 1048576) : F_laws_toByteS l = some l := by
  have := wt_len l
  unfold F_laws_toByteS
  have := copy_loop l (fun x => some x) id 1 0 (L0_laws_toByteS l) (fun s => by unfold L0_laws_toByteS; rfl) (fun _ _ => rfl) (by omega) (by omega)
  simpa using this
theorem v_eqByteS (l : List UInt8) (h : Wt.ln l) : F_laws_eqByteS l l = some true := by
  unfold F_laws_eqByteS
  exact eq_loop l (fun x y => some (x != y)) (L0_laws_eqByteS l l) (fun s => by unfold L0_laws_eqByteS; rfl) (fun x _ => by simp) (ln_len h)
theorem v_szByteS (l : List UInt8) (h : Wt.ln l) : Weighs F_laws_szByteS l :=
  weigh_flat (fun _ => rfl) F_laws_szByteS (fun left => by unfold F_laws_szByteS; rfl) (ln_len h)
theorem v_eqInt64S (l : List Int) (h : Wt.ln l) : F_laws_eqInt64S l l = some true := by
  unfold F_laws_eqInt64S
  exact eq_loop l (fun x y => some (x != y)) (L0_laws_eqInt64S l l) (fun s => by unfold L0_laws_eqInt64S; rfl) (fun x _ => by simp) (ln_len h)
theorem v_markInt64S (l : List Int) (h : Wt.ln l) : MarkOk F_laws_markInt64S F_laws_heldInt64S l (l.map fun _ => 1).sum :=
  mark_list F_laws_markInt64S F_laws_heldInt64S L0_laws_markInt64S L0_laws_heldInt64S (fun _ => 1) (fun _ _ => rfl) (fun _ _ => rfl) l (ln_len h) (fun l' i k hi _ _ h0 hk => by
    have e := wr_k (k := k) h0 (by omega)
    refine ⟨k, ?_, fun m hm => ?_⟩
    · unfold L0_laws_markInt64S
      simp only [Int.ofNat_lt, hi, decide_true, if_true, idx_cast, List.getElem?_eq_getElem hi, Option.bind_some, Int.toNat_natCast, e]; rfl
    · have hi' := (List.getElem?_eq_some_iff.1 hm).1
      unfold L0_laws_heldInt64S
      simp only [Int.ofNat_lt, hi', decide_true, if_true, idx_cast, hm, Option.bind_some, bne_self_eq_false, Bool.false_eq_true, if_false, e]; rfl) (fun l' k => by unfold L0_laws_markInt64S; simp) (fun m k => by unfold L0_laws_heldInt64S; simp)
instance : Wt GRecord := ⟨fun x => Wt.wt x.Label + Wt.wt x.Body, fun x => Wt.ln x.Label ∧ Wt.ln x.Body, fun x h => ⟨Wt.bdln x.Label h.2.2.2.1, Wt.bdln x.Body h.2.2.2.2.1⟩, fun x h => ⟨Wt.wtln x.Label (by omega), Wt.wtln x.Body (by omega)⟩⟩
instance : Wt GEvent := ⟨fun _ => 0, fun _ => True, fun _ _ => trivial, fun _ _ => trivial⟩
instance : Wt GVault := ⟨fun x => Wt.wt x.Keys + (Wt.wt x.Records + Wt.wt x.Events), fun x => Wt.ln x.Keys ∧ Wt.ln x.Records ∧ Wt.ln x.Events, fun x h => ⟨Wt.bdln x.Keys h.1, Wt.bdln x.Records h.2.2.1, Wt.bdln x.Events h.2.2.2.1⟩,
  fun x h => ⟨Wt.wtln x.Keys (by omega), Wt.wtln x.Records (by omega), Wt.wtln x.Events (by omega)⟩⟩
theorem v_toBlock (x : Vector UInt8 16) : F_laws_toBlock x = some x := by
  unfold F_laws_toBlock
  rw [copy_arr x (L0_laws_toBlock x) (fun s => by unfold L0_laws_toBlock; rfl) (by omega)]; rfl
theorem v_toDigest (x : Vector UInt8 32) : F_laws_toDigest x = some x := by
  unfold F_laws_toDigest
  rw [copy_arr x (L0_laws_toDigest x) (fun s => by unfold L0_laws_toDigest; rfl) (by omega)]; rfl
theorem v_eqBlock (x : Vector UInt8 16) : F_laws_eqBlock x x = some true := by
  unfold F_laws_eqBlock
  exact eq_arr x (L0_laws_eqBlock x x) (fun s => by unfold L0_laws_eqBlock; rfl) (by omega)
theorem v_eqDigest (x : Vector UInt8 32) : F_laws_eqDigest x x = some true := by
  unfold F_laws_eqDigest
  exact eq_arr x (L0_laws_eqDigest x x) (fun s => by unfold L0_laws_eqDigest; rfl) (by omega)
theorem v_toBlockS (l : List (Vector UInt8 16)) (h : Wt.wt l ≤ 1048576) : F_laws_toBlockS l = some l := by
  have := wt_len l
  unfold F_laws_toBlockS
  have := copy_loop l F_laws_toBlock id 16 (Vector.replicate 16 0) (L0_laws_toBlockS l) (fun s => by unfold L0_laws_toBlockS; rfl) (fun x _ => v_toBlock x) (by omega) (by omega)
  simpa using this
theorem v_eqBlockS (l : List (Vector UInt8 16)) (h : Wt.ln l) : F_laws_eqBlockS l l = some true := by
  unfold F_laws_eqBlockS
  exact eq_loop l (fun x y => (F_laws_eqBlock x y).bind fun r => some (!r)) (L0_laws_eqBlockS l l) (fun s => by unfold L0_laws_eqBlockS; rfl) (fun x _ => by simp [v_eqBlock x]) (ln_len h)
theorem v_szBlockS (l : List (Vector UInt8 16)) (h : Wt.ln l) : Weighs F_laws_szBlockS l :=
  weigh_flat (fun _ => rfl) F_laws_szBlockS (fun left => by unfold F_laws_szBlockS; rfl) (ln_len h)
theorem st_markBlockS (l' : List (Vector UInt8 16)) (i : Nat) (k : Int) (hi : i < l'.length) (h0 : 0 ≤ k) (hk : k + 16 ≤ 4611686018427387904) :
    L0_laws_markBlockS (l', k, (i : Int)) = some (.nx (l'.set i (markV 16 k), k + 16, wr ((i : Int) + 1))) := by
  unfold L0_laws_markBlockS
  have h1 := mark_arr (n := 16) (fun x : Vector UInt8 16 => x) (fun _ v => v) i i rfl (L1_laws_markBlockS (l', k, (i : Int))) (fun s => by unfold L1_laws_markBlockS; rfl) (fun _ _ => rfl) (fun _ _ _ => rfl) (fun _ => rfl) (by omega) l' hi k h0 hk
  simp only [Int.ofNat_lt, hi, decide_true, if_true, h1, Option.bind_some]
  rfl
theorem v_toRecord (x : GRecord) (h : Wt.wt x ≤ 1048576) : F_laws_toRecord x = some x := by
  have h : Wt.wt x.Label + Wt.wt x.Body ≤ 1048576 := h
  unfold F_laws_toRecord
  simp [v_toBlock, v_toDigest, v_toByteS x.Label (by omega), v_toByteS x.Body (by omega)]
theorem v_toRecordS (l : List GRecord) (h : Wt.wt l ≤ 1048576) : F_laws_toRecordS l = some l := by
  have := wt_len l
  unfold F_laws_toRecordS
  have := copy_loop l F_laws_toRecord id 112 ⟨0, 0, Vector.replicate 16 0, [], [], Vector.replicate 32 0⟩ (L0_laws_toRecordS l) (fun s => by unfold L0_laws_toRecordS; rfl) (fun x hx => v_toRecord x (Nat.le_trans (wt_memL hx) h)) (by omega) (by omega)
  simpa using this
theorem v_eqRecord (x : GRecord) (h : Wt.ln x) : F_laws_eqRecord x x = some true := by
  unfold F_laws_eqRecord
  simp [v_eqBlock, v_eqDigest, v_eqByteS x.Label h.1, v_eqByteS x.Body h.2]
theorem v_eqRecordS (l : List GRecord) (h : Wt.ln l) : F_laws_eqRecordS l l = some true := by
  unfold F_laws_eqRecordS
  exact eq_loop l (fun x y => (F_laws_eqRecord x y).bind fun r => some (!r)) (L0_laws_eqRecordS l l) (fun s => by unfold L0_laws_eqRecordS; rfl) (fun x hx => by simp [v_eqRecord x (ln_mem h hx)]) (ln_len h)
/-- Two weighings, one after the other. -/
theorem weigh_then {α β : Type} [Dat α] [Wt α] [Dat β] [Wt β] {f : α → Int → Option Int} {g : β → Int → Option Int} {x : α} {y : β} (hf : Weighs f x) (hg : Weighs g y) (left : Int) (h1 : 0 ≤ left) (h2 : left ≤ 1048576) :
    ∃ r, ((f x left).bind fun r => if decide (r < 0) = true then some (-1) else g y r) = some r ∧ r ≤ 1048576 ∧ (0 ≤ r → r + (Wt.wt x + Wt.wt y : Nat) ≤ left) := by
  obtain ⟨r, e1, e2, e3⟩ := hf left h1 h2
  rw [e1]
  by_cases hr : r < 0
  · exact ⟨-1, by simp [hr], by omega, by omega⟩
  · have e3 := e3 (by omega)
    obtain ⟨q, k1, k2, k3⟩ := hg r (by omega) e2
    refine ⟨q, by simp [hr, k1], k2, fun hq => ?_⟩
    have := k3 hq
    omega
theorem weigh_end {f : Option Int} {left w : Int} (h : ∃ r, f = some r ∧ r ≤ 1048576 ∧ (0 ≤ r → r + w ≤ left)) : ∃ r, (f.bind fun r => if decide (r < 0) = true then some (-1) else some r) = some r ∧ r ≤ 1048576 ∧ (0 ≤ r → r + w ≤ left) := by
  obtain ⟨r, e1, e2, e3⟩ := h
  by_cases hr : r < 0
  · exact ⟨-1, by simp [e1, hr], by omega, by omega⟩
  · exact ⟨r, by simp [e1, hr], e2, e3⟩
theorem v_szRecord (x : GRecord) (h : Wt.ln x) : Weighs F_laws_szRecord x := by
  intro left h1 h2
  have h3 : Weighs (fun (y : List UInt8) r => (F_laws_szByteS y r).bind fun r => if decide (r < 0) = true then some (-1) else some r) x.Body := fun left h1 h2 => weigh_end (v_szByteS x.Body h.2 left h1 h2)
  have := weigh_then (v_szByteS x.Label h.1) h3 left h1 h2
  exact this
theorem v_szRecordS (l : List GRecord) (h : Wt.ln l) : Weighs F_laws_szRecordS l :=
  weigh_list F_laws_szRecordS F_laws_szRecord (L0_laws_szRecordS l) (fun s => by unfold L0_laws_szRecordS; rfl) (fun left => by unfold F_laws_szRecordS; rfl) (ln_len h) (fun x hx => v_szRecord x (ln_mem h hx))
theorem v_toEvent (x : GEvent) : F_laws_toEvent x = some x := by
  unfold F_laws_toEvent
  simp [v_toDigest]
theorem v_toEventS (l : List GEvent) (h : Wt.wt l ≤ 1048576) : F_laws_toEventS l = some l := by
  have := wt_len l
  unfold F_laws_toEventS
  have := copy_loop l F_laws_toEvent id 48 ⟨0, 0, Vector.replicate 32 0⟩ (L0_laws_toEventS l) (fun s => by unfold L0_laws_toEventS; rfl) (fun x _ => v_toEvent x) (by omega) (by omega)
  simpa using this
theorem v_eqEvent (x : GEvent) : F_laws_eqEvent x x = some true := by
  unfold F_laws_eqEvent
  simp [v_eqDigest]
theorem v_eqEventS (l : List GEvent) (h : Wt.ln l) : F_laws_eqEventS l l = some true := by
  unfold F_laws_eqEventS
  exact eq_loop l (fun x y => (F_laws_eqEvent x y).bind fun r => some (!r)) (L0_laws_eqEventS l l) (fun s => by unfold L0_laws_eqEventS; rfl) (fun x _ => by simp [v_eqEvent x]) (ln_len h)
theorem v_szEventS (l : List GEvent) (h : Wt.ln l) : Weighs F_laws_szEventS l :=
  weigh_flat (fun _ => rfl) F_laws_szEventS (fun left => by unfold F_laws_szEventS; rfl) (ln_len h)
theorem wt_vault (x : GVault) : Wt.wt x = Wt.wt x.Keys + (Wt.wt x.Records + Wt.wt x.Events) := rfl
theorem v_toVault (x : GVault) (h : Wt.wt x ≤ 1048576) : F_laws_toVault x = some x := by
  rw [wt_vault] at h
  unfold F_laws_toVault
  simp [v_toDigest, v_toBlockS x.Keys (by omega), v_toRecordS x.Records (by omega), v_toEventS x.Events (by omega)]
theorem v_eqVault (x : GVault) (h : Wt.ln x) : F_laws_eqVault x x = some true := by
  unfold F_laws_eqVault
  simp [v_eqDigest, v_eqBlockS x.Keys h.1, v_eqRecordS x.Records h.2.1, v_eqEventS x.Events h.2.2]
theorem v_szVault (x : GVault) (h : Wt.ln x) : Weighs F_laws_szVault x := by
  intro left h1 h2
  have h3 : Weighs (fun (y : List GEvent) r => (F_laws_szEventS y r).bind fun r => if decide (r < 0) = true then some (-1) else some r) x.Events := fun left h1 h2 => weigh_end (v_szEventS x.Events h.2.2 left h1 h2)
  have h4 : Weighs (α := List GRecord × List GEvent) (fun y r => (F_laws_szRecordS y.1 r).bind fun r => if decide (r < 0) = true then some (-1) else (F_laws_szEventS y.2 r).bind fun r => if decide (r < 0) = true then some (-1) else some r) (x.Records, x.Events) := fun left h1 h2 => weigh_then (v_szRecordS x.Records h.2.1) h3 left h1 h2
  exact weigh_then (v_szBlockS x.Keys h.1) h4 left h1 h2
/-- Only a mark. -/
def MarkGo {α : Type} (Fm : α → Int → Option (α × Int)) (x : α) (n : Nat) : Prop :=
  ∀ k : Int, 0 ≤ k → k + n ≤ 4611686018427387904 → ∃ x', Fm x k = some (x', k + n)
theorem mark_go {α : Type} (Fm : List α → Int → Option (List α × Int)) (Lm : List α × Int × Int → Option (Fl (List α × Int × Int) (List α × Int))) (mk : α → Nat)
    (hFm : ∀ l k, Fm l k = (iter Lm (l, k, 0) : Option (List α × Int)).bind fun j1 => some (j1.1, j1.2)) (l : List α) (hl : l.length ≤ 9223372036854775807)
    (hm : ∀ (l' : List α) (i : Nat) (k : Int) (hi : i < l'.length), l'[i] ∈ l → i < 9223372036854775807 → 0 ≤ k → k + mk l'[i] ≤ 4611686018427387904 → ∃ x', Lm (l', k, (i : Int)) = some (.nx (l'.set i x', k + mk l'[i], wr ((i : Int) + 1))))
    (hme : ∀ (l' : List α) k, Lm (l', k, (l'.length : Int)) = some (.ex (l', k))) : MarkGo Fm l (l.map mk).sum := by
  intro k h0 hk
  have aux : ∀ (n i : Nat) (l' : List α) (k : Int), i + n = l'.length → l'.length = l.length → l'.drop i = l.drop i → 0 ≤ k → k + (((l.drop i).map mk).sum : Nat) ≤ 4611686018427387904 →
      ∃ l'', iter Lm (l', k, (i : Int)) = some (l'', k + (((l.drop i).map mk).sum : Nat)) := by
    intro n
    induction n with
    | zero =>
      intro i l' k hi hll hd h0 hk
      have hi : i = l'.length := by omega
      subst hi
      have e : l.drop l'.length = [] := by rw [hll]; simp
      rw [e]
      exact ⟨l', by rw [iter_ex (hme l' k)]; simp⟩
    | succ n ih =>
      intro i l' k hi hll hd h0 hk
      have hil : i < l'.length := by omega
      have hil2 : i < l.length := by omega
      have h1 := List.drop_eq_getElem_cons hil
      have e2 : l.drop i = l[i] :: l.drop (i + 1) := List.drop_eq_getElem_cons hil2
      rw [h1, e2] at hd
      have e1 := (List.cons.inj hd).1
      rw [e2, List.map_cons, List.sum_cons] at hk ⊢
      obtain ⟨x', h1⟩ := hm l' i k hil (by rw [e1]; exact List.getElem_mem hil2) (by omega) h0 (by rw [e1]; omega)
      rw [e1, wr_nat (by omega)] at h1
      obtain ⟨l'', k1⟩ := ih (i + 1) (l'.set i x') (k + mk l[i]) (by simp; omega) (by simpa using hll) (by
        rw [List.drop_set_of_lt (by omega)]
        exact (List.cons.inj hd).2) (by omega) (by omega)
      exact ⟨l'', by rw [iter_nx h1, k1]; congr 2; omega⟩
  obtain ⟨l'', k1⟩ := aux l.length 0 l k (by omega) rfl rfl h0 (by simpa using hk)
  simp only [List.drop_zero] at k1
  refine ⟨l'', ?_⟩
  rw [hFm]
  have : iter Lm (l, k, 0) = _ := k1
  rw [this]; rfl
theorem g_markByteS (l : List UInt8) (h : Wt.ln l) : MarkGo F_laws_markByteS l (l.map fun _ => 1).sum :=
  mark_go F_laws_markByteS L0_laws_markByteS (fun _ => 1) (fun _ _ => rfl) l (ln_len h) (fun l' i k hi _ _ h0 hk => by
    have e := wr_k (k := k) h0 (by omega)
    refine ⟨byteI k, ?_⟩
    unfold L0_laws_markByteS
    simp only [Int.ofNat_lt, hi, decide_true, if_true, idx_cast, List.getElem?_eq_getElem hi, Option.bind_some, Int.toNat_natCast, e]; rfl) (fun l' k => by unfold L0_laws_markByteS; simp)
theorem g_markBlockS (l : List (Vector UInt8 16)) (h : Wt.ln l) : MarkGo F_laws_markBlockS l (l.map fun _ => 16).sum :=
  mark_go F_laws_markBlockS L0_laws_markBlockS (fun _ => 16) (fun _ _ => rfl) l (ln_len h) (fun l' i k hi _ _ h0 hk => ⟨_, st_markBlockS l' i k hi h0 (by omega)⟩) (fun l' k => by unfold L0_laws_markBlockS; simp)
def mkRecord (x : GRecord) : Nat := 50 + ((x.Label.map fun _ => 1).sum + (x.Body.map fun _ => 1).sum)
theorem st_markRecordS (l' : List GRecord) (i : Nat) (k : Int) (hi : i < l'.length) (h0 : 0 ≤ k) (hk : k + mkRecord l'[i] ≤ 4611686018427387904) {la bo : List UInt8}
    (hla : F_laws_markByteS l'[i].Label (k + 18) = some (la, k + 18 + ((l'[i].Label.map fun _ => 1).sum : Nat))) (hbo : F_laws_markByteS l'[i].Body (k + 18 + ((l'[i].Label.map fun _ => 1).sum : Nat)) = some (bo, k + 18 + ((l'[i].Label.map fun _ => 1).sum : Nat) + ((l'[i].Body.map fun _ => 1).sum : Nat))) :
    L0_laws_markRecordS (l', k, (i : Int)) = some (.nx (l'.set i ⟨k, k + 1, markV 16 (k + 2), la, bo, markV 32 (k + 18 + ((l'[i].Label.map fun _ => 1).sum : Nat) + ((l'[i].Body.map fun _ => 1).sum : Nat))⟩, k + mkRecord l'[i], wr ((i : Int) + 1))) := by
  unfold mkRecord at hk
  have e1 := wr_k (k := k) h0 (by omega)
  have e2 := wr_k (k := k + 1) (by omega) (by omega)
  unfold L0_laws_markRecordS
  have hi2 : i < (l'.set i (⟨k, k + 1, l'[i].Nonce, l'[i].Label, l'[i].Body, l'[i].Tag⟩ : GRecord)).length := by simpa using hi
  have h1 := mark_arr (n := 16) (fun x : GRecord => x.Nonce) (fun x v => ⟨x.Number, x.Version, v, x.Label, x.Body, x.Tag⟩) i i rfl (L1_laws_markRecordS (l', k, (i : Int))) (fun s => by unfold L1_laws_markRecordS; rfl) (fun _ _ => rfl) (fun _ _ _ => rfl) (fun _ => rfl) (by omega) _ hi2 (k + 1 + 1) (by omega) (by omega)
  rw [show k + 1 + 1 + ((16 : Nat) : Int) = k + 18 by omega] at h1
  simp only [List.getElem_set_self, List.set_set] at h1
  simp only [Int.ofNat_lt, hi, decide_true, if_true, idx_cast, List.getElem?_eq_getElem hi, Option.bind_some, Int.toNat_natCast, e1, List.getElem?_set_self hi, List.set_set, e2, h1, hla, hbo]
  have hi3 : i < (l'.set i (⟨k, k + 1, markV 16 (k + 1 + 1), la, bo, l'[i].Tag⟩ : GRecord)).length := by simpa using hi
  have h2 := mark_arr (n := 32) (fun x : GRecord => x.Tag) (fun x v => ⟨x.Number, x.Version, x.Nonce, x.Label, x.Body, v⟩) i i rfl (L2_laws_markRecordS (l', k, (i : Int))) (fun s => by unfold L2_laws_markRecordS; rfl) (fun _ _ => rfl) (fun _ _ _ => rfl) (fun _ => rfl) (by omega) _ hi3
    (k + 18 + ((l'[i].Label.map fun _ => 1).sum : Nat) + ((l'[i].Body.map fun _ => 1).sum : Nat)) (by omega) (by omega)
  simp only [List.getElem_set_self, List.set_set] at h2
  rw [h2]
  simp only [Option.bind_some]
  rw [show k + 1 + 1 = k + 2 by omega]
  congr 3
  congr 1
  unfold mkRecord
  omega
theorem g_markRecordS (l : List GRecord) (h : Wt.ln l) : MarkGo F_laws_markRecordS l (l.map mkRecord).sum :=
  mark_go F_laws_markRecordS L0_laws_markRecordS mkRecord (fun _ _ => rfl) l (ln_len h) (fun l' i k hi hx _ h0 hk => by
    have hk' := hk
    unfold mkRecord at hk'
    have hln : Wt.ln l'[i] := ln_mem h hx
    obtain ⟨la, h1⟩ := g_markByteS l'[i].Label hln.1 (k + 18) (by omega) (by omega)
    obtain ⟨bo, h2⟩ := g_markByteS l'[i].Body hln.2 (k + 18 + ((l'[i].Label.map fun _ => 1).sum : Nat)) (by omega) (by omega)
    exact ⟨_, st_markRecordS l' i k hi h0 hk h1 h2⟩) (fun l' k => by unfold L0_laws_markRecordS; simp)
theorem st_markEventS (l' : List GEvent) (i : Nat) (k : Int) (hi : i < l'.length) (h0 : 0 ≤ k) (hk : k + 34 ≤ 4611686018427387904) :
    L0_laws_markEventS (l', k, (i : Int)) = some (.nx (l'.set i ⟨k, k + 1, markV 32 (k + 2)⟩, k + 34, wr ((i : Int) + 1))) := by
  have e1 := wr_k (k := k) h0 (by omega)
  have e2 := wr_k (k := k + 1) (by omega) (by omega)
  unfold L0_laws_markEventS
  have hi2 : i < (l'.set i (⟨k, k + 1, l'[i].Tag⟩ : GEvent)).length := by simpa using hi
  have h1 := mark_arr (n := 32) (fun x : GEvent => x.Tag) (fun x v => ⟨x.Kind, x.Number, v⟩) i i rfl (L1_laws_markEventS (l', k, (i : Int))) (fun s => by unfold L1_laws_markEventS; rfl) (fun _ _ => rfl) (fun _ _ _ => rfl) (fun _ => rfl) (by omega) _ hi2 (k + 1 + 1) (by omega) (by omega)
  rw [show k + 1 + 1 + ((32 : Nat) : Int) = k + 34 by omega] at h1
  simp only [List.getElem_set_self, List.set_set] at h1
  simp only [Int.ofNat_lt, hi, decide_true, if_true, idx_cast, List.getElem?_eq_getElem hi, Option.bind_some, Int.toNat_natCast, e1, List.getElem?_set_self hi, List.set_set, e2, h1]
  rw [show k + 1 + 1 = k + 2 by omega]
theorem g_markEventS (l : List GEvent) (h : Wt.ln l) : MarkGo F_laws_markEventS l (l.map fun _ => 34).sum :=
  mark_go F_laws_markEventS L0_laws_markEventS (fun _ => 34) (fun _ _ => rfl) l (ln_len h) (fun l' i k hi _ _ h0 hk => ⟨_, st_markEventS l' i k hi h0 (by omega)⟩) (fun l' k => by unfold L0_laws_markEventS; simp)
def mkVault (x : GVault) : Nat := (x.Keys.map fun _ => 16).sum + ((x.Records.map mkRecord).sum + (x.Events.map fun _ => 34).sum)
theorem sum_one (l : List UInt8) : (l.map fun _ => 1).sum = l.length := by
  induction l with
  | nil => rfl
  | cons x l ih => rw [List.map_cons, List.sum_cons, ih, List.length_cons]; omega
theorem mkVault_le (x : GVault) : mkVault x ≤ 50 * Wt.wt x := by
  have h1 := sum_le_wt (fun _ : Vector UInt8 16 => 16) 50 (fun _ => by omega) x.Keys
  have h2 := sum_le_wt mkRecord 50 (fun x => by
    unfold mkRecord
    have e : Wt.wt x = Wt.wt x.Label + Wt.wt x.Body := rfl
    rw [e, wt_bytes, wt_bytes, sum_one, sum_one]; omega) x.Records
  have h3 := sum_le_wt (fun _ : GEvent => 34) 50 (fun _ => by omega) x.Events
  rw [wt_vault]; unfold mkVault; omega
theorem g_markVault (x : GVault) (h : Wt.ln x) : MarkGo F_laws_markVault x (mkVault x) := by
  intro k h0 hk
  unfold mkVault at hk
  obtain ⟨a, h1⟩ := g_markBlockS x.Keys h.1 k h0 (by omega)
  obtain ⟨b, h2⟩ := g_markRecordS x.Records h.2.1 _ (by omega : (0 : Int) ≤ k + ((x.Keys.map fun _ => 16).sum : Nat)) (by omega)
  obtain ⟨c, h3⟩ := g_markEventS x.Events h.2.2 _ (by omega : (0 : Int) ≤ k + ((x.Keys.map fun _ => 16).sum : Nat) + ((x.Records.map mkRecord).sum : Nat)) (by omega)
  refine ⟨⟨a, x.Next, b, c, x.Head⟩, ?_⟩
  unfold F_laws_markVault
  rw [h1]; simp only [Option.bind_some]; rw [h2]; simp only [Option.bind_some]; rw [h3]; simp only [Option.bind_some]
  unfold mkVault
  congr 2
  omega
theorem v_inRange (n a b : Int) : F_impl_inRange n a b = some (decide (a ≤ n ∧ n ≤ b)) := by
  unfold F_impl_inRange
  by_cases h1 : a ≤ n <;> by_cases h2 : n ≤ b <;> simp [h1, h2]
theorem v_l01In (n a b : Int) : F_spec_l01In n a b = some (decide (a ≤ n ∧ n ≤ b)) := by
  unfold F_spec_l01In
  by_cases h1 : a ≤ n <;> by_cases h2 : n ≤ b <;> simp [h1, h2]
/-- A search by a function that answers. -/
theorem find_of {α : Type} (l : List α) (p : α → Option Bool) (q : α → Bool) (L : Int → Option (Fl Int (Fl Unit Int)))
    (hL : ∀ s, L s = if (decide (s < (l.length : Int))) = true then ((idx l s).bind fun x => ((p x)).bind fun r => if r = true then (some (Fl.ex (Fl.ex s))) else (some (Fl.nx (wr (s + 1))))) else (some (Fl.ex (Fl.nx ()))))
    (hl : l.length < 9223372036854775807) (hp : ∀ x ∈ l, p x = some (q x)) :
    ((iter L 0 : Option (Fl Unit Int)).bind fun j1 => j1.el (fun _ => some (-1)) (fun r => some r)) = some (match l.findIdx? q with | some i => (i : Int) | none => -1) := by
  have h := iter_search (f := L) l.length (fun i => (l[i]?.map q).getD false) (fun i => (i : Int)) hl (fun i hi => by
    rw [hL]
    simp only [Int.ofNat_lt, hi, decide_true, if_true, idx_cast, List.getElem?_eq_getElem hi, Option.bind_some, Option.map_some, Option.getD_some, hp _ (List.getElem_mem hi)]
    split <;> rfl) (by rw [hL]; simp) 0 (Nat.zero_le _)
  have h3 : iter L 0 = _ := h
  rw [h3]
  have key : (List.range' 0 (l.length - 0)).find? (fun i => (l[i]?.map q).getD false) = l.findIdx? q := by
    rw [Nat.sub_zero, ← List.range_eq_range']
    clear h h3 hL hp hl
    induction l with
    | nil => rfl
    | cons x l ih =>
      rw [List.length_cons, List.range_succ_eq_map, List.find?_cons, List.findIdx?_cons]
      simp only [List.getElem?_cons_zero, Option.map_some, Option.getD_some]
      cases q x with
      | true => rfl
      | false =>
        simp only [Bool.false_eq_true, if_false]
        rw [List.find?_map, ← ih]
        congr 1
  rw [key]
  cases l.findIdx? q <;> rfl
theorem has_of {α : Type} (l : List α) (q : α → Bool) : decide ((match l.findIdx? q with | some i => (i : Int) | none => -1) ≥ 0) = l.any q := by
  rw [Bool.eq_iff_iff, decide_eq_true_eq]
  cases h : l.findIdx? q with
  | none =>
    have := List.findIdx?_eq_none_iff.1 h
    simp
    exact this
  | some i =>
    have h2 := List.findIdx?_eq_some_iff_getElem.1 h
    obtain ⟨hi, hq, _⟩ := h2
    simp
    exact ⟨_, List.getElem_mem hi, hq⟩
/-- An event. -/
def isEventB (e : GEvent) : Bool := decide ((1 ≤ e.Kind ∧ e.Kind ≤ 4) ∧ (0 ≤ e.Number ∧ e.Number ≤ 1000000))
theorem v_l12Event (e : GEvent) : F_spec_l12Event e = some (isEventB e) := by
  unfold F_spec_l12Event isEventB
  simp only [v_l01In, Option.bind_some]
  by_cases h1 : (1 ≤ e.Kind ∧ e.Kind ≤ 4) <;> by_cases h2 : (0 ≤ e.Number ∧ e.Number ≤ 1000000) <;> simp [h1, h2]
theorem v_isEvent (e : GEvent) : F_impl_isEvent e = some (isEventB e) := by
  unfold F_impl_isEvent isEventB F_impl_isNumber
  simp only [v_inRange, Option.bind_some]
  by_cases h1 : (1 ≤ e.Kind ∧ e.Kind ≤ 4) <;> by_cases h2 : (0 ≤ e.Number ∧ e.Number ≤ 1000000) <;> simp [h1, h2]
theorem v_ContainsEvent (l : List GEvent) (p : GEvent → Option Bool) (q : GEvent → Bool) (hl : l.length < 9223372036854775807) (hp : ∀ x ∈ l, p x = some (q x)) : F_slices_ContainsFunc_impl_Event_impl_Event l p = some (l.any q) := by
  unfold F_slices_ContainsFunc_impl_Event_impl_Event F_slices_IndexFunc_impl_Event_impl_Event
  rw [find_of l p q _ (fun s => by unfold L0_slices_IndexFunc_impl_Event_impl_Event; rfl) hl hp]
  simp only [Option.bind_some, has_of]
/-- The number before. -/
def prevN (l : List GRecord) : Nat → Int
  | 0 => 0
  | i + 1 => (l[i]?.map (·.Number)).getD 0
/-- What is wrong with a record, beside its number. -/
def badRec (v : GVault) (r : GRecord) : Bool := !decide ((0 : Int) ≤ r.Version ∧ r.Version ≤ (v.Keys.length : Int) - 1) || decide (32 < r.Label.length) || decide (200 < r.Body.length)
def badS (v : GVault) (i : Nat) : Bool := match v.Records[i]? with
  | some r => decide (r.Number ≤ prevN v.Records i) || decide (r.Number ≥ v.Next) || badRec v r
  | none => false
def badI (v : GVault) (i : Nat) : Bool := match v.Records[i]? with
  | some r => !decide (1 ≤ r.Number ∧ r.Number ≤ v.Next - 1) || (decide (0 < i) && decide (prevN v.Records i ≥ r.Number)) || badRec v r
  | none => false
def headB (v : GVault) : Bool := decide (1 ≤ v.Keys.length ∧ v.Keys.length ≤ 8 ∧ 1 ≤ v.Next ∧ v.Next ≤ 1000000 ∧ v.Records.length ≤ 12 ∧ v.Events.length ≤ 60)
def isVaultB (v : GVault) : Bool := headB v && !((List.range' 0 (v.Records.length - 0)).any (badS v)) && v.Events.all isEventB
theorem bad_same (v : GVault) : (List.range' 0 (v.Records.length - 0)).any (badI v) = (List.range' 0 (v.Records.length - 0)).any (badS v) := by
  have h : ∀ b c : Bool, (b = false ↔ c = false) → b = c := by intro b c; cases b <;> cases c <;> simp
  apply h
  rw [List.any_eq_false, List.any_eq_false]
  simp only [List.mem_range'_1, Nat.zero_le, true_and, Nat.sub_zero, Nat.zero_add, Bool.not_eq_true]
  constructor
  · intro hI i hi
    have h1 := hI i hi
    unfold badI badS at *
    rw [List.getElem?_eq_getElem hi] at h1 ⊢
    simp only [Bool.or_eq_false_iff, Bool.not_eq_false', decide_eq_true_eq, Bool.and_eq_false_iff, decide_eq_false_iff_not] at h1 ⊢
    refine ⟨⟨?_, by omega⟩, h1.2⟩
    cases i with
    | zero => simp only [prevN]; omega
    | succ i =>
      rcases h1.1.2 with h2 | h2
      · omega
      · omega
  · intro hS
    have pos : ∀ i, i < v.Records.length → 0 ≤ prevN v.Records i ∧ prevN v.Records i < (v.Records[i]?.map (·.Number)).getD 0 := by
      intro i
      induction i with
      | zero =>
        intro hi
        have h1 := hS 0 hi
        unfold badS at h1
        rw [List.getElem?_eq_getElem hi] at h1 ⊢
        simp only [Bool.or_eq_false_iff, decide_eq_false_iff_not, Option.map_some, Option.getD_some] at h1 ⊢
        have e : prevN v.Records 0 = 0 := rfl
        have h2 := h1.1.1
        rw [e] at h2 ⊢
        omega
      | succ i ih =>
        intro hi
        have h0 := ih (by omega)
        have h1 := hS (i + 1) hi
        unfold badS at h1
        have e : prevN v.Records (i + 1) = (v.Records[i]?.map (·.Number)).getD 0 := rfl
        rw [List.getElem?_eq_getElem hi] at h1 ⊢
        simp only [Bool.or_eq_false_iff, decide_eq_false_iff_not, Option.map_some, Option.getD_some] at h1 ⊢
        rw [e] at h1 ⊢
        omega
    intro i hi
    have h1 := hS i hi
    have h2 := pos i hi
    unfold badI badS at *
    rw [List.getElem?_eq_getElem hi] at h1 h2 ⊢
    simp only [Bool.or_eq_false_iff, Bool.not_eq_false', decide_eq_true_eq, Bool.and_eq_false_iff, decide_eq_false_iff_not, Option.map_some, Option.getD_some] at h1 h2 ⊢
    exact ⟨⟨by omega, .inr (by omega)⟩, h1.2⟩
theorem v_l12Is (v : GVault) (hb : Wt.ln v) : F_spec_l12Is v = some (isVaultB v) := by
  have hb1 := ln_len hb.1; have hb2 := ln_len hb.2.1; have hb3 := ln_len hb.2.2
  unfold F_spec_l12Is
  simp only [v_l01In, Option.bind_some]
  by_cases hh : headB v = true
  · have hh' : 1 ≤ v.Keys.length ∧ v.Keys.length ≤ 8 ∧ 1 ≤ v.Next ∧ v.Next ≤ 1000000 ∧ v.Records.length ≤ 12 ∧ v.Events.length ≤ 60 := by simpa [headB] using hh
    have c1 : ¬ ((v.Keys.length : Int) < 1) := by omega
    have c2 : ¬ ((v.Keys.length : Int) > 8) := by omega
    have c3 : 1 ≤ v.Next ∧ v.Next ≤ 1000000 := by omega
    have c4 : ¬ ((v.Records.length : Int) > 12) := by omega
    have c5 : ¬ ((v.Events.length : Int) > 60) := by omega
    simp only [c1, c2, c3, c4, c5, decide_false, decide_true, and_self, Bool.not_true, Bool.false_eq_true, if_false, Option.bind_some]
    have hw : wr ((v.Keys.length : Int) - 1) = (v.Keys.length : Int) - 1 := wr_id (by omega)
    have h1 := iter_find (f := L0_spec_l12Is v) (fun i : Nat => (prevN v.Records i, (i : Int))) (badS v) (fun _ => (.ex false : Fl Unit Bool)) (e := .nx ()) v.Records.length v.Records.length 0 (by omega) (fun i _ hi => by
      unfold L0_spec_l12Is badS
      simp only [Int.ofNat_lt, hi, decide_true, if_true, idx_cast, List.getElem?_eq_getElem hi, Option.bind_some, v_l01In, hw, wr_nat (show i < 9223372036854775807 by omega)]
      have e : prevN v.Records (i + 1) = v.Records[i].Number := by simp [prevN, List.getElem?_eq_getElem hi]
      rw [e]
      unfold badRec
      by_cases d1 : v.Records[i].Number ≤ prevN v.Records i
      · simp [d1]
      · by_cases d2 : v.Records[i].Number ≥ v.Next
        · simp [d1, d2]
        · by_cases d3 : (0 : Int) ≤ v.Records[i].Version ∧ v.Records[i].Version ≤ (v.Keys.length : Int) - 1
          · by_cases d4 : 32 < v.Records[i].Label.length
            · have d4' : (v.Records[i].Label.length : Int) > 32 := by omega
              simp [d1, d2, d3, d4, d4']
            · have d4' : ¬ ((v.Records[i].Label.length : Int) > 32) := by omega
              by_cases d5 : 200 < v.Records[i].Body.length
              · have d5' : (v.Records[i].Body.length : Int) > 200 := by omega
                simp [d1, d2, d3, d4, d4', d5, d5']
              · have d5' : ¬ ((v.Records[i].Body.length : Int) > 200) := by omega
                simp [d1, d2, d3, d4, d4', d5, d5']
          · simp [d1, d2, d3]) (by unfold L0_spec_l12Is; simp)
    have h2 : iter (L0_spec_l12Is v) (0, 0) = _ := h1
    rw [h2]
    have h3 := iter_anyL (f := L1_spec_l12Is v) v.Events (fun e => !isEventB e) (t := false) (by omega) (fun i hi => by
      unfold L1_spec_l12Is
      simp only [Int.ofNat_lt, hi, decide_true, if_true, idx_cast, List.getElem?_eq_getElem hi, Option.bind_some, v_l12Event]
      cases isEventB v.Events[i] <;> simp) (by unfold L1_spec_l12Is; simp)
    rw [h3]
    unfold isVaultB
    rw [hh, Nat.sub_zero]
    cases hf : (List.range' 0 v.Records.length).find? (badS v) with
    | none =>
      have : (List.range' 0 v.Records.length).any (badS v) = false := by
        rw [List.any_eq_false]; exact List.find?_eq_none.1 hf
      rw [this, List.any_eq_not_all_not]
      simp only [Bool.not_not]
      cases v.Events.all isEventB <;> rfl
    | some i =>
      have : (List.range' 0 v.Records.length).any (badS v) = true := by
        rw [List.any_eq_true]; exact ⟨i, List.mem_of_find?_eq_some hf, List.find?_some hf⟩
      rw [this]; rfl
  · have hf : headB v = false := by simpa using hh
    unfold isVaultB
    rw [hf]
    have hh' : ¬ (1 ≤ v.Keys.length ∧ v.Keys.length ≤ 8 ∧ 1 ≤ v.Next ∧ v.Next ≤ 1000000 ∧ v.Records.length ≤ 12 ∧ v.Events.length ≤ 60) := by simpa [headB] using hf
    by_cases c1 : ((v.Keys.length : Int) < 1)
    · simp [c1]
    · by_cases c2 : ((v.Keys.length : Int) > 8)
      · simp [c1, c2]
      · by_cases c3 : 1 ≤ v.Next ∧ v.Next ≤ 1000000
        · by_cases c4 : ((v.Records.length : Int) > 12)
          · simp [c1, c2, c3, c4]
          · have c5 : ((v.Events.length : Int) > 60) := by omega
            simp [c1, c2, c3, c4, c5]
        · simp [c1, c2, c3]
theorem v_impl_IsVault (v : GVault) (hb : Wt.ln v) : F_impl_IsVault v = some (isVaultB v) := by
  have hb1 := ln_len hb.1; have hb2 := ln_len hb.2.1; have hb3 := ln_len hb.2.2
  unfold F_impl_IsVault F_impl_length_impl_Block
  simp only [v_inRange, Option.bind_some]
  by_cases hh : headB v = true
  · have hh' : 1 ≤ v.Keys.length ∧ v.Keys.length ≤ 8 ∧ 1 ≤ v.Next ∧ v.Next ≤ 1000000 ∧ v.Records.length ≤ 12 ∧ v.Events.length ≤ 60 := by simpa [headB] using hh
    have c1 : (1 : Int) ≤ v.Keys.length ∧ (v.Keys.length : Int) ≤ 8 := by omega
    have c3 : 1 ≤ v.Next ∧ v.Next ≤ 1000000 := by omega
    have c4 : ¬ ((v.Records.length : Int) > 12) := by omega
    have c5 : ¬ ((v.Events.length : Int) > 60) := by omega
    simp only [c1, c3, c4, c5, decide_false, decide_true, and_self, Bool.not_true, Bool.false_eq_true, if_false, Option.bind_some]
    have hw : wr ((v.Keys.length : Int) - 1) = (v.Keys.length : Int) - 1 := wr_id (by omega)
    have hw2 : wr (v.Next - 1) = v.Next - 1 := wr_id (by omega)
    have h1 := iter_has (f := L0_impl_IsVault v) v.Records.length (badI v) false (by omega) (fun i hi => by
      unfold L0_impl_IsVault badI F_impl_length_impl_Block
      simp only [Int.ofNat_lt, hi, decide_true, if_true, idx_cast, List.getElem?_eq_getElem hi, Option.bind_some, v_inRange, hw, hw2]
      unfold badRec
      by_cases d1 : 1 ≤ v.Records[i].Number ∧ v.Records[i].Number ≤ v.Next - 1
      · have key : (if decide ((i : Int) > 0) = true then (idx v.Records (wr ((i : Int) - 1))).bind fun x => some (decide (x.Number ≥ v.Records[i].Number)) else some false) = some (decide (0 < i) && decide (prevN v.Records i ≥ v.Records[i].Number)) := by
          cases i with
          | zero => simp
          | succ i =>
            have e1 : wr (((i + 1 : Nat) : Int) - 1) = (i : Int) := by rw [wr_id (by omega)]; omega
            have hi' : i < v.Records.length := by omega
            have e2 : prevN v.Records (i + 1) = v.Records[i].Number := by simp [prevN, List.getElem?_eq_getElem hi']
            have e3 : ((i + 1 : Nat) : Int) > 0 := by omega
            simp only [e1, e2, e3, decide_true, if_true, idx_cast, List.getElem?_eq_getElem hi', Option.bind_some]
            simp
        simp only [d1, decide_true, and_self, Bool.not_true, Bool.false_eq_true, if_false, key, Option.bind_some, Bool.false_or]
        by_cases d2 : (decide (0 < i) && decide (prevN v.Records i ≥ v.Records[i].Number)) = true
        · simp [d2]
        · have d2 : (decide (0 < i) && decide (prevN v.Records i ≥ v.Records[i].Number)) = false := by simpa using d2
          rw [d2]
          by_cases d3 : (0 : Int) ≤ v.Records[i].Version ∧ v.Records[i].Version ≤ (v.Keys.length : Int) - 1
          · by_cases d4 : 32 < v.Records[i].Label.length
            · have d4' : (v.Records[i].Label.length : Int) > 32 := by omega
              simp [d3, d4, d4']
            · have d4' : ¬ ((v.Records[i].Label.length : Int) > 32) := by omega
              by_cases d5 : 200 < v.Records[i].Body.length
              · have d5' : (v.Records[i].Body.length : Int) > 200 := by omega
                simp [d3, d4, d4', d5, d5']
              · have d5' : ¬ ((v.Records[i].Body.length : Int) > 200) := by omega
                simp [d3, d4, d4', d5, d5']
          · simp [d3]
      · simp [d1]) (by unfold L0_impl_IsVault; simp) 0 (Nat.zero_le _)
    have h2 : iter (L0_impl_IsVault v) 0 = _ := h1
    rw [h2, bad_same, v_ContainsEvent v.Events _ (fun e => !isEventB e) (by omega) (fun x _ => by unfold F_impl_IsVault_1; rw [v_isEvent]; rfl)]
    have ha : (v.Events.any fun e => !isEventB e) = !(v.Events.all isEventB) := by rw [List.any_eq_not_all_not]; simp
    unfold isVaultB
    rw [hh, ha]
    generalize (List.range' 0 (v.Records.length - 0)).any (badS v) = z
    cases z <;> simp [Fl.el]
  · have hf : headB v = false := by simpa using hh
    unfold isVaultB
    rw [hf]
    have hh' : ¬ (1 ≤ v.Keys.length ∧ v.Keys.length ≤ 8 ∧ 1 ≤ v.Next ∧ v.Next ≤ 1000000 ∧ v.Records.length ≤ 12 ∧ v.Events.length ≤ 60) := by simpa [headB] using hf
    by_cases c1 : (1 : Int) ≤ v.Keys.length ∧ (v.Keys.length : Int) ≤ 8
    · by_cases c3 : 1 ≤ v.Next ∧ v.Next ≤ 1000000
      · by_cases c4 : ((v.Records.length : Int) > 12)
        · simp [c1, c3, c4]
        · have c5 : ((v.Events.length : Int) > 60) := by omega
          simp [c1, c3, c4, c5]
      · simp [c1, c3]
    · simp [c1]
/-- After the weighing: too much, or all lengths are small. -/
theorem weighed {α : Type} [Dat α] [Wt α] {f : α → Int → Option Int} {x : α} {left : Int} {G : Int → Option Bool} (hf : Weighs f x) (h1 : 0 ≤ left) (h2 : left ≤ 1048576) (hG : ∀ r, 0 ≤ r → r ≤ 1048576 → r + (Wt.wt x : Nat) ≤ left → G r = some true) :
    ((f x left).bind fun r => if decide (r < 0) = true then some true else G r) = some true := by
  obtain ⟨r, e1, e2, e3⟩ := hf left h1 h2
  rw [e1]
  by_cases hr : r < 0
  · simp [hr]
  · have := hG r (by omega) e2 (e3 (by omega))
    simp [hr, this]
/-- The numbers of the records that a test takes. -/
def numsOf (q : GRecord → Bool) (l : List GRecord) : List Int := (l.filter q).map (·.Number)
theorem numsOf_take (q : GRecord → Bool) (l : List GRecord) (i : Nat) (hi : i < l.length) : numsOf q (l.take (i + 1)) = numsOf q (l.take i) ++ (if q l[i] then [l[i].Number] else []) := by
  unfold numsOf
  rw [List.take_succ_eq_append_getElem hi, List.filter_append, List.map_append]
  cases h : q l[i] <;> simp [List.filter, h]
theorem numsOf_len (q : GRecord → Bool) (l : List GRecord) : (numsOf q l).length ≤ l.length := by
  unfold numsOf; rw [List.length_map]; exact List.length_filter_le _ _
theorem v_numbersOf (v : GVault) (p : GRecord → Option Bool) (q : GRecord → Bool) (hl : v.Records.length ≤ 12) (hp : ∀ x ∈ v.Records, p x = some (q x)) : F_impl_Vault_numbersOf v p = some (numsOf q v.Records) := by
  unfold F_impl_Vault_numbersOf
  have h := iter_run (f := L0_impl_Vault_numbersOf v p) (fun i : Nat => ((i : Int), numsOf q (v.Records.take i))) 0 v.Records.length (Nat.zero_le _) (t := numsOf q v.Records) (fun i _ hi => by
    unfold L0_impl_Vault_numbersOf
    have hn := numsOf_len q (v.Records.take i)
    rw [List.length_take] at hn
    simp only [Int.ofNat_lt, hi, decide_true, if_true, idx_cast, List.getElem?_eq_getElem hi, Option.bind_some, hp _ (List.getElem_mem hi), wr_nat (show i < 9223372036854775807 by omega), numsOf_take q v.Records i hi]
    cases q v.Records[i] with
    | true =>
      simp only [if_true]
      rw [app_ok (by simp; omega)]
      rfl
    | false => simp) (by unfold L0_impl_Vault_numbersOf; simp)
  have h2 : iter (L0_impl_Vault_numbersOf v p) (0, []) = _ := h
  rw [h2]; rfl
theorem vault_small {v : GVault} (h : isVaultB v = true) : 1 ≤ v.Keys.length ∧ v.Keys.length ≤ 8 ∧ 1 ≤ v.Next ∧ v.Next ≤ 1000000 ∧ v.Records.length ≤ 12 ∧ v.Events.length ≤ 60 := by
  unfold isVaultB headB at h
  simp only [Bool.and_eq_true, decide_eq_true_eq] at h
  exact h.1.1
theorem ln_ints {l : List Int} (h : l.length ≤ 9223372036854775807) : Wt.ln l := ⟨h, fun _ _ => trivial⟩
theorem list_beq (a b : List UInt8) : decide (a = b) = (a == b) := by rw [Bool.eq_iff_iff]; simp
theorem v_bytesEqual (a b : List UInt8) : F_bytes_Equal a b = some (a == b) := by
  unfold F_bytes_Equal
  rw [← list_beq]
  congr 1
  rw [decide_eq_decide]
  constructor
  · intro h; exact Str.mk.inj h
  · intro h; rw [h]
theorem v_l01Alike (a b : List UInt8) (h : a.length ≤ 9223372036854775807) : F_spec_l01Alike a b = some (a == b) := by
  unfold F_spec_l01Alike
  by_cases hl : a.length = b.length
  · have hne : ((a.length : Int) != (b.length : Int)) = false := by simp [hl]
    have h1 := iter_any (f := L0_spec_l01Alike a b) (fun i => (a[i]? != b[i]?)) (t := false) (n := a.length) (m := 0) (Nat.zero_le _) (fun i _ hi => by
      unfold L0_spec_l01Alike
      have hi' : i < b.length := by omega
      simp only [Int.ofNat_lt, hi, decide_true, if_true, idx_cast, List.getElem?_eq_getElem hi, List.getElem?_eq_getElem hi', Option.bind_some, wr_nat (show i < 9223372036854775807 by omega)]
      have e : (some a[i] != some b[i]) = (a[i] != b[i]) := by
        rw [Bool.eq_iff_iff]; simp
      rw [e]
      split <;> rfl) (by unfold L0_spec_l01Alike; simp)
    have h2 : iter (L0_spec_l01Alike a b) 0 = _ := h1
    rw [hne, h2]
    simp only [Bool.false_eq_true, if_false, Option.bind_some]
    by_cases hab : a = b
    · subst hab
      have : ((List.range' 0 (a.length - 0)).any fun i => a[i]? != a[i]?) = false := by rw [List.any_eq_false]; intro i _; simp
      rw [this]; simp [Fl.el]
    · have : ((List.range' 0 (a.length - 0)).any fun i => a[i]? != b[i]?) = true := by
        rw [any_range]
        apply Classical.byContradiction
        intro hn
        apply hab
        apply List.ext_getElem?
        intro i
        by_cases hi : i < a.length
        · apply Classical.byContradiction
          intro hne2
          exact hn ⟨i, Nat.zero_le _, hi, by simpa using hne2⟩
        · rw [List.getElem?_eq_none (by omega), List.getElem?_eq_none (by omega)]
      rw [this]
      have : (a == b) = false := by simpa using hab
      rw [this]; simp [Fl.el]
  · have hne : ((a.length : Int) != (b.length : Int)) = true := by simp; omega
    rw [hne]
    have : (a == b) = false := by simp; intro h; exact hl (by rw [h])
    rw [this]; rfl
def labelC (v : GVault) (lab : List UInt8) : List Int × Int := if !isVaultB v then ([], 1) else if 32 < lab.length then ([], 2) else (numsOf (fun r => r.Label == lab) v.Records, 0)
theorem v_impl_NumbersOfLabel (v : GVault) (hb : Wt.ln v) (lab : List UInt8) : F_impl_NumbersOfLabel v lab = some (labelC v lab) := by
  unfold F_impl_NumbersOfLabel labelC
  rw [v_impl_IsVault v hb]
  cases hv : isVaultB v with
  | false => simp
  | true =>
    obtain ⟨h1, h2, h3, h4, h5, h6⟩ := vault_small hv
    simp only [Option.bind_some, Bool.not_true, Bool.false_eq_true, if_false]
    by_cases hl : 32 < lab.length
    · have hl' : (lab.length : Int) > 32 := by omega
      simp [hl, hl']
    · have hl' : ¬ ((lab.length : Int) > 32) := by omega
      simp only [hl', decide_false, Bool.false_eq_true, if_false, hl]
      rw [v_numbersOf v _ (fun r => r.Label == lab) h5 (fun x _ => by unfold F_impl_NumbersOfLabel_1; rw [v_bytesEqual]; rfl)]
      rfl
theorem v_spec_NumbersOfLabel (v : GVault) (hb : Wt.ln v) (lab : List UInt8) : F_spec_NumbersOfLabel v lab = some (labelC v lab) := by
  unfold F_spec_NumbersOfLabel labelC
  rw [v_l12Is v hb]
  cases hv : isVaultB v with
  | false => simp
  | true =>
    obtain ⟨h1, h2, h3, h4, h5, h6⟩ := vault_small hv
    simp only [Option.bind_some, Bool.not_true, Bool.false_eq_true, if_false]
    by_cases hl : 32 < lab.length
    · have hl' : (lab.length : Int) > 32 := by omega
      simp [hl, hl']
    · have hl' : ¬ ((lab.length : Int) > 32) := by omega
      simp only [hl', decide_false, Bool.false_eq_true, if_false, hl]
      have h := iter_run (f := L0_spec_NumbersOfLabel v lab) (fun i : Nat => (numsOf (fun r => r.Label == lab) (v.Records.take i), (i : Int))) 0 v.Records.length (Nat.zero_le _) (t := numsOf (fun r => r.Label == lab) v.Records) (fun i _ hi => by
        unfold L0_spec_NumbersOfLabel
        have hn := numsOf_len (fun r => r.Label == lab) (v.Records.take i)
        rw [List.length_take] at hn
        have hr : Wt.ln v.Records[i] := ln_mem hb.2.1 (List.getElem_mem hi)
        simp only [Int.ofNat_lt, hi, decide_true, if_true, idx_cast, List.getElem?_eq_getElem hi, Option.bind_some, v_l01Alike _ _ (ln_len hr.1), wr_nat (show i < 9223372036854775807 by omega), numsOf_take _ v.Records i hi]
        cases v.Records[i].Label == lab with
        | true =>
          simp only [if_true]
          rw [app_ok (by simp; omega)]
          rfl
        | false => simp) (by unfold L0_spec_NumbersOfLabel; simp)
      have h2 : iter (L0_spec_NumbersOfLabel v lab) ([], 0) = _ := h
      rw [h2]; rfl
theorem labelC_len (v : GVault) (lab : List UInt8) : (labelC v lab).1.length ≤ 12 := by
  unfold labelC
  split
  · simp
  · rename_i hv
    split
    · simp
    · have := numsOf_len (fun r => r.Label == lab) v.Records
      have := (vault_small (v := v) (by simpa using hv)).2.2.2.2.1
      simp; omega
theorem sum_oneI (l : List Int) : (l.map fun _ => 1).sum = l.length := by
  induction l with
  | nil => rfl
  | cons x l ih => rw [List.map_cons, List.sum_cons, ih, List.length_cons]; omega
theorem law_FnExactNumbersOfLabel (v : GVault) (lab : List UInt8) (h : Dat.bd v) (_ : Dat.bd lab) : F_laws_FnExactNumbersOfLabel v lab = some true := by
  unfold F_laws_FnExactNumbersOfLabel
  by_cases hlab : (lab.length : Int) > 1048576
  · simp [hlab]
  simp only [hlab, decide_false, Bool.false_eq_true, if_false]
  refine weighed (v_szVault v (Wt.bdln v h)) (by omega) (by omega) fun r _ _ hw => ?_
  have hw : Wt.wt v ≤ 1048576 := by omega
  have hwl : Wt.wt lab ≤ 1048576 := by rw [wt_bytes]; omega
  have hl := Wt.wtln v hw
  have hll := Wt.wtln lab hwl
  have hr := labelC_len v lab
  have hle := mkVault_le v
  obtain ⟨x', m1⟩ := g_markVault v hl 1 (by omega) (by omega)
  obtain ⟨y', m4⟩ := g_markByteS lab hll (1 + (mkVault v : Nat)) (by omega) (by rw [sum_one]; omega)
  obtain ⟨r', m2, m3⟩ := v_markInt64S (labelC v lab).1 (ln_ints (by omega)) 1 (by omega) (by rw [sum_oneI]; omega)
  have e1 : ¬ ((1 : Int) + (mkVault v : Nat) + ((lab.map fun _ => 1).sum : Nat) < 0) := by omega
  have e2 : ¬ ((1 : Int) + (((labelC v lab).1.map fun _ => 1).sum : Nat) < 0) := by omega
  simp [v_toVault v hw, v_toByteS lab hwl, v_spec_NumbersOfLabel v hl, v_impl_NumbersOfLabel v hl, v_eqVault v hl, v_eqByteS lab hll, v_eqInt64S (labelC v lab).1 (ln_ints (by omega)), m1, m2, m3, m4, e1, e2]
end Go.Proofs.Ytbonmndobipbnaa
