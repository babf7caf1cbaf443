/- Plain laws, no program in sight. -/
import Derived.Test.YtbonmndobipbnaaC2
set_option linter.unusedVariables false
set_option linter.unusedSimpArgs false
namespace Go.Proofs.Ytbonmndobipbnaa
open Go
theorem idx_nat {α : Type} {l : List α} {i : Nat} (h : i < l.length) : idx l (i : Int) = some l[i] := by
  unfold idx
  rw [if_pos (by omega)]
  simp
theorem wr_nat {i : Nat} (h : i < 9223372036854775807) : wr ((i : Int) + 1) = ((i + 1 : Nat) : Int) := by
  rw [wr_id (by omega)]; rfl

section
variable {S T : Type} {f : S → Option (Fl S T)}
/-- Rounds that go on. -/
theorem iter_to (g : Nat → S) (m n : Nat) (hmn : m ≤ n) (h : ∀ i, m ≤ i → i < n → f (g i) = some (.nx (g (i + 1)))) : iter f (g m) = iter f (g n) := by
  induction n with
  | zero => have : m = 0 := by omega
            subst this; rfl
  | succ n ih =>
    rcases Nat.lt_or_ge m (n + 1) with h1 | h1
    · rw [ih (by omega) (fun i h2 h3 => h i h2 (by omega)), iter_nx (h n (by omega) (by omega))]
    · have : m = n + 1 := by omega
      subst this; rfl
/-- A loop that runs to its end. -/
theorem iter_run (g : Nat → S) (m n : Nat) (hmn : m ≤ n) {t : T} (h : ∀ i, m ≤ i → i < n → f (g i) = some (.nx (g (i + 1)))) (he : f (g n) = some (.ex t)) : iter f (g m) = some t := by
  rw [iter_to g m n hmn h, iter_ex he]
/-- A loop that may leave early: at the first round of which p holds. -/
theorem iter_find (g : Nat → S) (p : Nat → Bool) (t : Nat → T) {e : T} (n : Nat) : ∀ (k m : Nat), m + k = n → (∀ i, m ≤ i → i < n → f (g i) = some (if p i then .ex (t i) else .nx (g (i + 1)))) → f (g n) = some (.ex e) →
    iter f (g m) = some (((List.range' m k).find? p).elim e t)
  | 0, m, hk, _, he => by
    have : m = n := by omega
    subst this
    rw [iter_ex he]; rfl
  | k + 1, m, hk, h, he => by
    have h1 := h m (Nat.le_refl _) (by omega)
    rw [List.range'_succ, List.find?_cons]
    cases hp : p m with
    | true => rw [hp] at h1; rw [iter_ex h1]; rfl
    | false =>
      rw [hp] at h1
      rw [iter_nx h1, iter_find g p t n k (m + 1) (by omega) (fun i h2 h3 => h i (by omega) h3) he]
end

/-- A search through indices: it leaves with t where p holds of one of them. -/
theorem iter_any {T : Type} {f : Int → Option (Fl Int (Fl Unit T))} (p : Nat → Bool) {t : T} {n m : Nat} (hm : m ≤ n)
    (h : ∀ i, m ≤ i → i < n → f (i : Int) = some (if p i then .ex (.ex t) else .nx ((i + 1 : Nat) : Int))) (he : f (n : Int) = some (.ex (.nx ()))) :
    iter f (m : Int) = some (if (List.range' m (n - m)).any p then .ex t else .nx ()) := by
  rw [iter_find (fun i : Nat => (i : Int)) p (fun _ => .ex t) n (n - m) m (by omega) h he]
  cases hf : (List.range' m (n - m)).find? p with
  | none =>
    have : (List.range' m (n - m)).any p = false := by
      rw [List.any_eq_false]
      rw [List.find?_eq_none] at hf
      exact hf
    rw [this]; rfl
  | some i =>
    have : (List.range' m (n - m)).any p = true := by
      rw [List.any_eq_true]
      exact ⟨i, List.mem_of_find?_eq_some hf, List.find?_some hf⟩
    rw [this]; rfl
theorem any_range {p : Nat → Bool} {m n : Nat} : (List.range' m (n - m)).any p = true ↔ ∃ i, m ≤ i ∧ i < n ∧ p i = true := by
  rw [List.any_eq_true]
  simp only [List.mem_range'_1]
  constructor
  · rintro ⟨i, ⟨h1, h2⟩, h3⟩; exact ⟨i, h1, by omega, h3⟩
  · rintro ⟨i, h1, h2, h3⟩; exact ⟨i, ⟨h1, by omega⟩, h3⟩
/-- A search through the elements of a list. -/
theorem any_list {α : Type} {q : α → Bool} {l : List α} {p : Nat → Bool} (hp : ∀ i (h : i < l.length), p i = q l[i]) : (List.range' 0 (l.length - 0)).any p = l.any q := by
  rw [Bool.eq_iff_iff, any_range, List.any_eq_true]
  constructor
  · rintro ⟨i, _, h, h3⟩; exact ⟨l[i], List.getElem_mem h, by rw [← hp i h]; exact h3⟩
  · rintro ⟨x, hx, h⟩
    obtain ⟨i, hi, rfl⟩ := List.mem_iff_getElem.1 hx
    exact ⟨i, Nat.zero_le _, hi, by rw [hp i hi]; exact h⟩

/-- A search through a list, by a condition of its element. -/
theorem iter_anyL {T α : Type} {f : Int → Option (Fl Int (Fl Unit T))} (l : List α) (q : α → Bool) {t : T} (hl : l.length < 9223372036854775807)
    (h : ∀ i (hi : i < l.length), f (i : Int) = some (if q l[i] then .ex (.ex t) else .nx (wr ((i : Int) + 1)))) (he : f (l.length : Int) = some (.ex (.nx ()))) :
    iter f 0 = some (if l.any q then .ex t else .nx ()) := by
  have := iter_any (f := f) (fun i => if hi : i < l.length then q l[i] else false) (t := t) (n := l.length) (m := 0) (Nat.zero_le _) (fun i _ hi => by
    rw [h i hi, wr_nat (by omega)]; simp [hi]) he
  rw [any_list (q := q) (fun i hi => by simp [hi])] at this
  exact this

/-- How much data hold, beside what is of one size; that all lengths are numbers. -/
class Wt (α : Type) [Dat α] where
  wt : α → Nat
  ln : α → Prop
  bdln : ∀ x, Dat.bd x → ln x
  wtln : ∀ x, wt x ≤ 1048576 → ln x
instance : Wt Int := ⟨fun _ => 0, fun _ => True, fun _ _ => trivial, fun _ _ => trivial⟩
instance : Wt UInt8 := ⟨fun _ => 0, fun _ => True, fun _ _ => trivial, fun _ _ => trivial⟩
instance : Wt Bool := ⟨fun _ => 0, fun _ => True, fun _ _ => trivial, fun _ _ => trivial⟩
instance : Wt Str := ⟨fun s => s.l.length, fun s => s.l.length ≤ 9223372036854775807, fun _ h => h, fun _ h => by omega⟩
instance {n : Nat} : Wt (Vector UInt8 n) := ⟨fun _ => 0, fun _ => True, fun _ _ => trivial, fun _ _ => trivial⟩
instance {n m : Nat} : Wt (Vector (Vector UInt8 m) n) := ⟨fun _ => 0, fun _ => True, fun _ _ => trivial, fun _ _ => trivial⟩
theorem sum_mem {α : Type} {f : α → Nat} {l : List α} {x : α} (h : x ∈ l) : f x ≤ (l.map f).sum := by
  induction l with
  | nil => cases h
  | cons y l ih =>
    rw [List.map_cons, List.sum_cons]
    rcases List.mem_cons.1 h with rfl | h
    · omega
    · have := ih h; omega
instance {α : Type} [Dat α] [Wt α] : Wt (List α) := ⟨fun l => l.length + (l.map Wt.wt).sum, fun l => l.length ≤ 9223372036854775807 ∧ ∀ x ∈ l, Wt.ln x, fun _ h => ⟨h.1, fun x hx => Wt.bdln x (h.2 x hx)⟩,
  fun l h => ⟨by omega, fun x hx => Wt.wtln x (by have := sum_mem (f := Wt.wt) hx; omega)⟩⟩
instance {α β : Type} [Dat α] [Dat β] [Wt α] [Wt β] : Wt (α × β) := ⟨fun x => Wt.wt x.1 + Wt.wt x.2, fun x => Wt.ln x.1 ∧ Wt.ln x.2, fun x h => ⟨Wt.bdln x.1 h.1, Wt.bdln x.2 h.2⟩, fun x h => ⟨Wt.wtln x.1 (by omega), Wt.wtln x.2 (by omega)⟩⟩
theorem wt_list {α : Type} [Dat α] [Wt α] (l : List α) : Wt.wt l = l.length + (l.map Wt.wt).sum := rfl
theorem wt_mem {α : Type} [Dat α] [Wt α] {l : List α} {x : α} (h : x ∈ l) : Wt.wt x ≤ (l.map Wt.wt).sum := sum_mem h
theorem wt_memL {α : Type} [Dat α] [Wt α] {l : List α} {x : α} (h : x ∈ l) : Wt.wt x ≤ Wt.wt l := by
  have := wt_mem h; rw [wt_list]; omega
theorem wt_len {α : Type} [Dat α] [Wt α] (l : List α) : l.length ≤ Wt.wt l := by rw [wt_list]; omega
theorem ln_len {α : Type} [Dat α] [Wt α] {l : List α} (h : Wt.ln l) : l.length ≤ 9223372036854775807 := h.1
theorem ln_mem {α : Type} [Dat α] [Wt α] {l : List α} {x : α} (h : Wt.ln l) (hx : x ∈ l) : Wt.ln x := h.2 x hx

theorem copy_loop {α β : Type} (p0 : List α) (c : α → Option β) (g : α → β) (by_ : Nat) (z : β) (L : List β × Int → Option (Fl (List β × Int) (List β)))
    (hL : ∀ s, L s = if (decide (s.2 < (p0.length : Int))) = true then ((idx p0 s.2).bind fun x => (c x).bind fun r => (idx s.1 s.2).bind fun _ => some (Fl.nx ((s.1.set (s.2).toNat r), wr (s.2 + 1)))) else (some (Fl.ex s.1)))
    (hc : ∀ x ∈ p0, c x = some (g x)) (hl : p0.length * by_ ≤ 140737488355328) (hl' : p0.length < 9223372036854775807) :
    ((mkS by_ z (p0.length : Int)).bind fun l1 => (iter L (l1, 0) : Option (List β)).bind fun j => some j) = some (p0.map g) := by
  have hm : mkS by_ z (p0.length : Int) = some (List.replicate p0.length z) := by
    have h3 : ((p0.length * by_ : Nat) : Int) ≤ ((140737488355328 : Nat) : Int) := Int.ofNat_le.2 hl
    rw [Int.natCast_mul] at h3
    unfold mkS
    rw [if_pos ⟨by omega, h3⟩, Int.toNat_natCast]
  rw [hm]
  simp only [Option.bind_some]
  have hrun := iter_run (f := L) (fun i : Nat => ((p0.take i).map g ++ List.replicate (p0.length - i) z, (i : Int))) 0 p0.length (Nat.zero_le _) (t := p0.map g) (fun i _ hi => by
    rw [hL]
    simp only [Int.ofNat_lt, hi, decide_true, if_true, idx_nat hi, Option.bind_some, hc _ (List.getElem_mem hi)]
    rw [idx_nat (by simp; omega)]
    simp only [Option.bind_some, wr_nat (show i < 9223372036854775807 by omega), Int.toNat_natCast]
    congr 3
    rw [List.set_append_right _ _ (by simp; omega)]
    have e1 : p0.length - i = (p0.length - (i + 1)) + 1 := by omega
    have e2 : i - ((p0.take i).map g).length = 0 := by simp; omega
    rw [e1, List.replicate_succ, e2, List.set_cons_zero]
    rw [List.take_succ_eq_append_getElem hi, List.map_append, List.append_assoc]
    rfl) (by
    rw [hL]
    simp)
  simp at hrun
  simp [hrun]

theorem eq_loop {α : Type} (p0 : List α) (ne : α → α → Option Bool) (L : Int → Option (Fl Int (Fl Unit Bool)))
    (hL : ∀ s, L s = if (decide (s < (p0.length : Int))) = true then (((idx p0 s).bind fun x => (idx p0 s).bind fun y => ne x y : Option Bool).bind fun j => if j = true then (some (Fl.ex (Fl.ex false))) else (some (Fl.nx (wr (s + 1))))) else (some (Fl.ex (Fl.nx ()))))
    (hn : ∀ x ∈ p0, ne x x = some false) (hl : p0.length ≤ 9223372036854775807) :
    (if ((p0.length : Int) != (p0.length : Int)) = true then (some false) else ((iter L 0 : Option (Fl Unit Bool)).bind fun j2 => j2.el (fun _ => some true) (fun r => some r))) = some true := by
  have := iter_run (f := L) (fun i : Nat => (i : Int)) 0 p0.length (Nat.zero_le _) (t := .nx ()) (fun i _ hi => by
    rw [hL]
    simp only [Int.ofNat_lt, hi, decide_true, if_true, idx_nat hi, Option.bind_some, hn _ (List.getElem_mem hi)]
    simp [wr_nat (show i < 9223372036854775807 by omega)]) (by
    rw [hL]; simp)
  have h2 : iter L 0 = some (.nx ()) := this
  simp [h2, Fl.el]

/-- Weighing: what is left, or less than nothing. -/
def Weighs {α : Type} [Dat α] [Wt α] (f : α → Int → Option Int) (x : α) : Prop := ∀ left : Int, 0 ≤ left → left ≤ 1048576 → ∃ r, f x left = some r ∧ r ≤ 1048576 ∧ (0 ≤ r → r + Wt.wt x ≤ left)
theorem weigh_flat {α : Type} [Dat α] [Wt α] {l : List α} (h0 : ∀ x : α, Wt.wt x = 0) (f : List α → Int → Option Int)
    (hf : ∀ left, f l left = if (decide ((wr (left - (l.length : Int))) < 0)) = true then (some (-1)) else (some (wr (left - (l.length : Int))))) (hl : l.length ≤ 9223372036854775807) : Weighs f l := by
  intro left h1 h2
  have hs : (l.map Wt.wt).sum = 0 := by
    clear hf hl
    induction l with
    | nil => rfl
    | cons x l ih => rw [List.map_cons, List.sum_cons, h0, ih]
  have hw : Wt.wt l = l.length := by rw [wt_list, hs]; rfl
  rw [hf, wr_id (by omega), hw]
  by_cases h : left - (l.length : Int) < 0
  · exact ⟨-1, by simp [h], by omega, by omega⟩
  · exact ⟨left - l.length, by simp [h], by omega, by omega⟩
theorem weigh_list {α : Type} [Dat α] [Wt α] {p0 : List α} (f : List α → Int → Option Int) (c : α → Int → Option Int) (L : Int × Int → Option (Fl (Int × Int) (Fl Int Int)))
    (hL : ∀ s, L s = if (decide (s.2 < (p0.length : Int))) = true then ((idx p0 s.2).bind fun x => (c x s.1).bind fun r => if (decide (r < 0)) = true then (some (Fl.ex (Fl.ex (-1)))) else (some (Fl.nx (r, wr (s.2 + 1))))) else (some (Fl.ex (Fl.nx s.1))))
    (hf : ∀ left, f p0 left = if (decide ((wr (left - (p0.length : Int))) < 0)) = true then (some (-1)) else ((iter L (wr (left - (p0.length : Int)), 0) : Option (Fl Int Int)).bind fun j2 => j2.el (fun s => some s) (fun r => some r)))
    (hl : p0.length ≤ 9223372036854775807) (hc : ∀ x ∈ p0, Weighs c x) : Weighs f p0 := by
  intro left h1 h2
  rw [hf, wr_id (by omega)]
  by_cases h : left - (p0.length : Int) < 0
  · exact ⟨-1, by simp [h], by omega, by omega⟩
  simp only [h, decide_false, Bool.false_eq_true, if_false]
  have key : ∀ (k m : Nat) (a : Int), m + k = p0.length → 0 ≤ a → a ≤ 1048576 → ∃ o : Fl Int Int, iter L (a, (m : Int)) = some o ∧ ((o = .ex (-1)) ∨ ∃ r, o = .nx r ∧ 0 ≤ r ∧ r + (((p0.drop m).map Wt.wt).sum : Nat) ≤ a) := by
    intro k
    induction k with
    | zero =>
      intro m a hm h0 h3
      have : m = p0.length := by omega
      subst this
      refine ⟨.nx a, ?_, .inr ⟨a, rfl, h0, ?_⟩⟩
      · rw [iter_ex (t := .nx a)]; rw [hL]; simp
      · simp
    | succ k ih =>
      intro m a hm h0 h3
      have hi : m < p0.length := by omega
      obtain ⟨r, e1, e2, e3⟩ := hc _ (List.getElem_mem hi) a h0 h3
      have hst : L (a, (m : Int)) = (if (decide (r < 0)) = true then (some (Fl.ex (Fl.ex (-1)))) else (some (Fl.nx (r, ((m + 1 : Nat) : Int))))) := by
        rw [hL]
        simp only [Int.ofNat_lt, hi, decide_true, if_true, idx_nat hi, Option.bind_some, e1, wr_nat (show m < 9223372036854775807 by omega)]
      by_cases hr : r < 0
      · simp only [hr, decide_true, if_true] at hst
        exact ⟨_, iter_ex hst, .inl rfl⟩
      · simp only [hr, decide_false, Bool.false_eq_true, if_false] at hst
        obtain ⟨o, k1, k2⟩ := ih (m + 1) r (by omega) (by omega) e2
        refine ⟨o, by rw [iter_nx hst]; exact k1, k2.imp id ?_⟩
        rintro ⟨q, rfl, q1, q2⟩
        refine ⟨q, rfl, q1, ?_⟩
        have e3 := e3 (by omega)
        rw [List.drop_eq_getElem_cons hi, List.map_cons, List.sum_cons]
        omega
  obtain ⟨o, k1, k2⟩ := key p0.length 0 (left - p0.length) (by omega) (by omega) (by omega)
  have k1' : iter L (left - (p0.length : Int), 0) = some o := k1
  rw [k1']
  rcases k2 with rfl | ⟨r, rfl, q1, q2⟩
  · exact ⟨-1, rfl, by omega, by omega⟩
  · refine ⟨r, rfl, by omega, fun _ => ?_⟩
    rw [List.drop_zero] at q2
    rw [wt_list]; omega
@[simp] theorem idx_cast {α : Type} (l : List α) (i : Nat) : idx l (i : Int) = l[i]? := by unfold idx; simp
@[simp] theorem idx_zero {α : Type} (l : List α) : idx l (0 : Int) = l[0]? := idx_cast l 0
/-- A search from index m on: leaves with t at the first index of which p holds. -/
theorem iter_search {T : Type} {f : Int → Option (Fl Int (Fl Unit T))} (n : Nat) (p : Nat → Bool) (t : Nat → T) (hn : n < 9223372036854775807)
    (h : ∀ i, i < n → f (i : Int) = some (if p i then .ex (.ex (t i)) else .nx (wr ((i : Int) + 1)))) (he : f (n : Int) = some (.ex (.nx ()))) (m : Nat) (hm : m ≤ n) :
    iter f (m : Int) = some (match (List.range' m (n - m)).find? p with | some i => .ex (t i) | none => .nx ()) := by
  rw [iter_find (fun i : Nat => (i : Int)) p (fun i => .ex (t i)) n (n - m) m (by omega) (fun i _ hi => by rw [h i hi, wr_nat (by omega)]) he]
  cases (List.range' m (n - m)).find? p <;> rfl
/-- A search that answers one thing. -/
theorem iter_has {T : Type} {f : Int → Option (Fl Int (Fl Unit T))} (n : Nat) (p : Nat → Bool) (t : T) (hn : n < 9223372036854775807)
    (h : ∀ i, i < n → f (i : Int) = some (if p i then .ex (.ex t) else .nx (wr ((i : Int) + 1)))) (he : f (n : Int) = some (.ex (.nx ()))) (m : Nat) (hm : m ≤ n) :
    iter f (m : Int) = some (if (List.range' m (n - m)).any p then .ex t else .nx ()) :=
  iter_any p hm (fun i _ hi => by rw [h i hi, wr_nat (by omega)]) he
theorem iter_hasM {T : Type} {f : Int → Option (Fl Int (Fl Unit T))} (n : Nat) (p : Nat → Bool) (t : T) (hn : n < 9223372036854775807) (m : Nat) (hm : m ≤ n)
    (h : ∀ i, m ≤ i → i < n → f (i : Int) = some (if p i then .ex (.ex t) else .nx (wr ((i : Int) + 1)))) (he : f (n : Int) = some (.ex (.nx ()))) :
    iter f (m : Int) = some (if (List.range' m (n - m)).any p then .ex t else .nx ()) :=
  iter_any p hm (fun i hmi hi => by rw [h i hmi hi, wr_nat (by omega)]) he
/-- A loop over the elements of a list that carries a value. -/
theorem iter_fold {α β S T : Type} {f : S → Option (Fl S T)} (l : List α) (pack : β → Int → S) (g : β → α → β) (b0 : β) {t : T} (hn : l.length < 9223372036854775807)
    (h : ∀ i (hi : i < l.length), f (pack ((l.take i).foldl g b0) (i : Int)) = some (.nx (pack (g ((l.take i).foldl g b0) l[i]) (wr ((i : Int) + 1))))) (he : f (pack (l.foldl g b0) (l.length : Int)) = some (.ex t)) :
    iter f (pack b0 0) = some t := by
  have := iter_run (f := f) (fun i : Nat => pack ((l.take i).foldl g b0) (i : Int)) 0 l.length (Nat.zero_le _) (t := t) (fun i _ hi => by
    rw [h i hi, wr_nat (by omega)]
    congr 3
    rw [List.take_succ_eq_append_getElem hi, List.foldl_append]; rfl) (by rw [List.take_length]; exact he)
  simpa using this
theorem foldl_map_app {α β : Type} (g : α → β) (l : List α) (acc : List β) : l.foldl (fun b x => b ++ [g x]) acc = acc ++ l.map g := by
  induction l generalizing acc with
  | nil => simp
  | cons x l ih => simp [ih]
/-- A loop that appends one value an element. -/
theorem iter_map {α β T : Type} {f : List β × Int → Option (Fl (List β × Int) T)} (l : List α) (g : α → β) {t : T} (hn : l.length < 9223372036854775807)
    (h : ∀ i (hi : i < l.length), f ((l.take i).map g, (i : Int)) = some (.nx ((l.take i).map g ++ [g l[i]], wr ((i : Int) + 1)))) (he : f (l.map g, (l.length : Int)) = some (.ex t)) :
    iter f ([], 0) = some t := by
  have e : ∀ m : List α, m.foldl (fun b x => b ++ [g x]) [] = m.map g := fun m => by rw [foldl_map_app]; rfl
  exact iter_fold (f := f) l (fun b i => (b, i)) (fun b x => b ++ [g x]) [] hn (fun i hi => by simp only [e]; exact h i hi) (by simp only [e]; exact he)
theorem app_ok {α : Type} {by_ : Nat} {l m : List α} (h : (l.length + m.length) * by_ ≤ 140737488355328) : app by_ l m = some (l ++ m) := by unfold app; rw [if_pos h]
theorem slc_ok {α : Type} {l : List α} {i j : Nat} (h : i ≤ j) (h2 : j ≤ l.length) : slc l (i : Int) (j : Int) = some ((l.take j).drop i) := by
  unfold slc; rw [if_pos (by omega)]; simp

@[simp] theorem vidx_cast {α : Type} {n : Nat} (v : Vector α n) (i : Nat) : vidx v (i : Int) = v[i]? := by unfold vidx; simp
theorem wr_k {k : Int} (h : 0 ≤ k) (h2 : k < 9223372036854775807) : wr (k + 1) = k + 1 := wr_id (by omega)
/-- A mark of n numbers from k on, and the look that finds it. -/
def MarkOk {α : Type} (Fm : α → Int → Option (α × Int)) (Fh : α → Int → Option Int) (x : α) (n : Nat) : Prop :=
  ∀ k : Int, 0 ≤ k → k + n ≤ 4611686018427387904 → ∃ x', Fm x k = some (x', k + n) ∧ Fh x' k = some (k + n)
theorem mark_list {α : Type} (Fm : List α → Int → Option (List α × Int)) (Fh : List α → Int → Option Int) (Lm : List α × Int × Int → Option (Fl (List α × Int × Int) (List α × Int))) (Lh : List α → Int × Int → Option (Fl (Int × Int) (Fl Int Int))) (mk : α → Nat)
    (hFm : ∀ l k, Fm l k = (iter Lm (l, k, 0) : Option (List α × Int)).bind fun j1 => some (j1.1, j1.2)) (hFh : ∀ l k, Fh l k = (iter (Lh l) (k, 0) : Option (Fl Int Int)).bind fun j1 => j1.el (fun s => some s) (fun r => some r))
    (l : List α) (hl : l.length ≤ 9223372036854775807)
    (hm : ∀ (l' : List α) (i : Nat) (k : Int) (hi : i < l'.length), l'[i] ∈ l → i < 9223372036854775807 → 0 ≤ k → k + mk l'[i] ≤ 4611686018427387904 → ∃ x', Lm (l', k, (i : Int)) = some (.nx (l'.set i x', k + mk l'[i], wr ((i : Int) + 1))) ∧
      ∀ (m : List α), m[i]? = some x' → Lh m (k, (i : Int)) = some (.nx (k + mk l'[i], wr ((i : Int) + 1))))
    (hme : ∀ (l' : List α) k, Lm (l', k, (l'.length : Int)) = some (.ex (l', k))) (hhe : ∀ (m : List α) k, Lh m (k, (m.length : Int)) = some (.ex (.nx k))) : MarkOk Fm Fh l (l.map mk).sum := by
  have aux : ∀ (n i : Nat) (l' : List α) (k : Int), i + n = l'.length → l'.length = l.length → l'.drop i = l.drop i → 0 ≤ k → k + (((l.drop i).map mk).sum : Nat) ≤ 4611686018427387904 →
      ∃ l'', iter Lm (l', k, (i : Int)) = some (l'', k + (((l.drop i).map mk).sum : Nat)) ∧ l''.length = l'.length ∧ (∀ j, j < i → l''[j]? = l'[j]?) ∧ iter (Lh l'') (k, (i : Int)) = some (.nx (k + (((l.drop i).map mk).sum : Nat))) := by
    intro n
    induction n with
    | zero =>
      intro i l' k hi hll hd h0 hk
      have hi : i = l'.length := by omega
      subst hi
      have e : l.drop l'.length = [] := by rw [hll]; simp
      rw [e]
      refine ⟨l', ?_, rfl, fun _ _ => rfl, ?_⟩
      · rw [iter_ex (hme l' k)]; simp
      · rw [iter_ex (hhe l' k)]; simp
    | succ n ih =>
      intro i l' k hi hll hd h0 hk
      have hil : i < l'.length := by omega
      have hil2 : i < l.length := by omega
      have e1 : l'[i] = l[i] := by
        have h1 := List.drop_eq_getElem_cons hil
        have h2 := List.drop_eq_getElem_cons hil2
        rw [h1, h2] at hd
        exact (List.cons.inj hd).1
      have e2 : l.drop i = l[i] :: l.drop (i + 1) := List.drop_eq_getElem_cons hil2
      rw [e2, List.map_cons, List.sum_cons] at hk ⊢
      obtain ⟨x', h1, h2⟩ := hm l' i k hil (by rw [e1]; exact List.getElem_mem hil2) (by omega) h0 (by rw [e1]; omega)
      rw [e1] at h1 h2
      rw [wr_nat (by omega)] at h1 h2
      obtain ⟨l'', k1, k2, k3, k4⟩ := ih (i + 1) (l'.set i x') (k + mk l[i]) (by simp; omega) (by simpa using hll) (by
        rw [List.drop_set_of_lt (by omega)]
        have h1 := List.drop_eq_getElem_cons hil
        rw [h1, e2] at hd
        exact (List.cons.inj hd).2) (by omega) (by omega)
      refine ⟨l'', ?_, by simpa using k2, fun j hj => ?_, ?_⟩
      · rw [iter_nx h1, k1]; congr 2; omega
      · rw [k3 j (by omega), List.getElem?_set_ne (by omega)]
      · rw [iter_nx (h2 l'' (by rw [k3 i (by omega)]; simp [hil])), k4]; congr 2; omega
  intro k h0 hk
  obtain ⟨l'', k1, k2, k3, k4⟩ := aux l.length 0 l k (by omega) rfl rfl h0 (by simpa using hk)
  simp only [List.drop_zero] at k1 k4
  refine ⟨l'', ?_, ?_⟩
  · rw [hFm]
    have : iter Lm (l, k, 0) = _ := k1
    rw [this]; rfl
  · rw [hFh]
    have : iter (Lh l'') (k, 0) = _ := k4
    rw [this]; rfl
theorem sum_le_wt {α : Type} [Dat α] [Wt α] (mk : α → Nat) (c : Nat) (h : ∀ x, mk x ≤ c * (1 + Wt.wt x)) (l : List α) : (l.map mk).sum ≤ c * Wt.wt l := by
  rw [wt_list]
  induction l with
  | nil => simp
  | cons x l ih =>
    have := h x
    simp only [List.map_cons, List.sum_cons, List.length_cons]
    have e : c * (l.length + 1 + (Wt.wt x + (l.map Wt.wt).sum)) = c * (1 + Wt.wt x) + c * (l.length + (l.map Wt.wt).sum) := by
      rw [← Nat.mul_add]; congr 1; omega
    omega
theorem wt_bytes (l : List UInt8) : Wt.wt l = l.length := by
  rw [wt_list]
  have : (l.map Wt.wt).sum = 0 := by
    induction l with
    | nil => rfl
    | cons x l ih => rw [List.map_cons, List.sum_cons, ih]; rfl
  omega
theorem v_toByteS (l : List UInt8) (h : Wt.wt l ≤ 1048576) : F_laws_toByteS l = some l := by
  have := wt_len l
  unfold F_laws_toByteS
  have := copy_loop l (fun x => some x) id 1 0 (L0_laws_toByteS l) (fun s => by unfold L0_laws_toByteS; rfl) (fun _ _ => rfl) (by omega) (by omega)
  simpa using this
theorem v_eqByteS (l : List UInt8) (h : Wt.ln l) : F_laws_eqByteS l l = some true := by
  unfold F_laws_eqByteS
  exact eq_loop l (fun x y => some (x != y)) (L0_laws_eqByteS l l) (fun s => by unfold L0_laws_eqByteS; rfl) (fun x _ => by simp) (ln_len h)
theorem v_szByteS (l : List UInt8) (h : Wt.ln l) : Weighs F_laws_szByteS l :=
  weigh_flat (fun _ => rfl) F_laws_szByteS (fun left => by unfold F_laws_szByteS; rfl) (ln_len h)
theorem v_markByteS (l : List UInt8) (h : Wt.ln l) : MarkOk F_laws_markByteS F_laws_heldByteS l (l.map fun _ => 1).sum :=
  mark_list F_laws_markByteS F_laws_heldByteS L0_laws_markByteS L0_laws_heldByteS (fun _ => 1) (fun _ _ => rfl) (fun _ _ => rfl) l (ln_len h) (fun l' i k hi _ _ h0 hk => by
    have e := wr_k (k := k) h0 (by omega)
    refine ⟨byteI k, ?_, fun m hm => ?_⟩
    · unfold L0_laws_markByteS
      simp only [Int.ofNat_lt, hi, decide_true, if_true, idx_cast, List.getElem?_eq_getElem hi, Option.bind_some, Int.toNat_natCast, e]; rfl
    · have hi' := (List.getElem?_eq_some_iff.1 hm).1
      unfold L0_laws_heldByteS
      simp only [Int.ofNat_lt, hi', decide_true, if_true, idx_cast, hm, Option.bind_some, bne_self_eq_false, Bool.false_eq_true, if_false, e]; rfl) (fun l' k => by unfold L0_laws_markByteS; simp) (fun m k => by unfold L0_laws_heldByteS; simp)
instance : Wt GShare := ⟨fun x => Wt.wt x.Data, fun x => Wt.ln x.Data, fun x h => Wt.bdln x.Data h.2, fun x h => Wt.wtln x.Data h⟩
theorem v_toShare (x : GShare) (h : Wt.wt x ≤ 1048576) : F_laws_toShare x = some x := by
  unfold F_laws_toShare
  rw [v_toByteS x.Data h]; rfl
theorem v_toShareS (l : List GShare) (h : Wt.wt l ≤ 1048576) : F_laws_toShareS l = some l := by
  have hl := wt_len l
  unfold F_laws_toShareS
  have := copy_loop l F_laws_toShare id 32 ⟨0, []⟩ (L0_laws_toShareS l) (fun s => by unfold L0_laws_toShareS; rfl) (fun x hx => v_toShare x (Nat.le_trans (wt_memL hx) h)) (by omega) (by omega)
  simpa using this
theorem v_eqShare (x : GShare) (h : Wt.ln x) : F_laws_eqShare x x = some true := by
  unfold F_laws_eqShare
  simp [v_eqByteS x.Data h]
theorem v_eqShareS (l : List GShare) (h : Wt.ln l) : F_laws_eqShareS l l = some true := by
  unfold F_laws_eqShareS
  exact eq_loop l (fun x y => (F_laws_eqShare x y).bind fun r => some (!r)) (L0_laws_eqShareS l l) (fun s => by unfold L0_laws_eqShareS; rfl) (fun x hx => by simp [v_eqShare x (ln_mem h hx)]) (ln_len h)
theorem v_szShare (x : GShare) (h : Wt.ln x) : Weighs F_laws_szShare x := by
  intro left h1 h2
  obtain ⟨r, e1, e2, e3⟩ := v_szByteS x.Data h left h1 h2
  unfold F_laws_szShare
  rw [e1]
  by_cases hr : r < 0
  · exact ⟨-1, by simp [hr], by omega, by omega⟩
  · exact ⟨r, by simp [hr], e2, e3⟩
theorem v_szShareS (l : List GShare) (h : Wt.ln l) : Weighs F_laws_szShareS l :=
  weigh_list F_laws_szShareS F_laws_szShare (L0_laws_szShareS l) (fun s => by unfold L0_laws_szShareS; rfl) (fun left => by unfold F_laws_szShareS; rfl) (ln_len h) (fun x hx => v_szShare x (ln_mem h hx))
def mkShare (x : GShare) : Nat := 1 + (x.Data.map fun _ => 1).sum
theorem v_markShareS (l : List GShare) (h : Wt.ln l) : MarkOk F_laws_markShareS F_laws_heldShareS l (l.map mkShare).sum :=
  mark_list F_laws_markShareS F_laws_heldShareS L0_laws_markShareS L0_laws_heldShareS mkShare (fun _ _ => rfl) (fun _ _ => rfl) l (ln_len h) (fun l' i k hi hx hib h0 hk => by
    have hk' : k + 1 + ((l'[i].Data.map fun _ => 1).sum : Nat) ≤ 4611686018427387904 := by unfold mkShare at hk; omega
    have e := wr_k (k := k) h0 (by omega)
    obtain ⟨d', d1, d2⟩ := v_markByteS l'[i].Data (ln_mem h hx : Wt.ln l'[i]) (k + 1) (by omega) hk'
    have e2 : k + ((mkShare l'[i] : Nat) : Int) = k + 1 + ((l'[i].Data.map fun _ => 1).sum : Nat) := by unfold mkShare; omega
    rw [e2]
    refine ⟨⟨byteI k, d'⟩, ?_, fun m hm => ?_⟩
    · unfold L0_laws_markShareS
      have hi2 : i < (l'.set i (⟨byteI k, l'[i].Data⟩ : GShare)).length := by simpa using hi
      simp only [Int.ofNat_lt, hi, decide_true, if_true, idx_cast, List.getElem?_eq_getElem hi, List.getElem?_eq_getElem hi2, Option.bind_some, Int.toNat_natCast, List.getElem_set_self, e, d1, List.set_set]
    · have hi' := (List.getElem?_eq_some_iff.1 hm).1
      have e3 : ¬ (k + 1 + ((l'[i].Data.map fun _ => 1).sum : Nat) < 0) := by omega
      unfold L0_laws_heldShareS
      simp only [Int.ofNat_lt, hi', decide_true, if_true, idx_cast, hm, Option.bind_some, bne_self_eq_false, Bool.false_eq_true, if_false, e, d2, e3, decide_false]) (fun l' k => by unfold L0_laws_markShareS; simp) (fun m k => by unfold L0_laws_heldShareS; simp)
theorem sum_one (l : List UInt8) : (l.map fun _ => 1).sum = l.length := by
  induction l with
  | nil => rfl
  | cons x l ih => rw [List.map_cons, List.sum_cons, ih, List.length_cons]; omega
theorem v_inRange (n a b : Int) : F_impl_inRange n a b = some (decide (a ≤ n ∧ n ≤ b)) := by
  unfold F_impl_inRange
  by_cases h1 : a ≤ n <;> by_cases h2 : n ≤ b <;> simp [h1, h2]
theorem v_l01In (n a b : Int) : F_spec_l01In n a b = some (decide (a ≤ n ∧ n ≤ b)) := by
  unfold F_spec_l01In
  by_cases h1 : a ≤ n <;> by_cases h2 : n ≤ b <;> simp [h1, h2]
/-- A search by a function that answers. -/
theorem find_of {α : Type} (l : List α) (p : α → Option Bool) (q : α → Bool) (L : Int → Option (Fl Int (Fl Unit Int)))
    (hL : ∀ s, L s = if (decide (s < (l.length : Int))) = true then ((idx l s).bind fun x => ((p x)).bind fun r => if r = true then (some (Fl.ex (Fl.ex s))) else (some (Fl.nx (wr (s + 1))))) else (some (Fl.ex (Fl.nx ()))))
    (hl : l.length < 9223372036854775807) (hp : ∀ x ∈ l, p x = some (q x)) :
    ((iter L 0 : Option (Fl Unit Int)).bind fun j1 => j1.el (fun _ => some (-1)) (fun r => some r)) = some (match l.findIdx? q with | some i => (i : Int) | none => -1) := by
  have h := iter_search (f := L) l.length (fun i => (l[i]?.map q).getD false) (fun i => (i : Int)) hl (fun i hi => by
    rw [hL]
    simp only [Int.ofNat_lt, hi, decide_true, if_true, idx_cast, List.getElem?_eq_getElem hi, Option.bind_some, Option.map_some, Option.getD_some, hp _ (List.getElem_mem hi)]
    split <;> rfl) (by rw [hL]; simp) 0 (Nat.zero_le _)
  have h3 : iter L 0 = _ := h
  rw [h3]
  have key : (List.range' 0 (l.length - 0)).find? (fun i => (l[i]?.map q).getD false) = l.findIdx? q := by
    rw [Nat.sub_zero, ← List.range_eq_range']
    clear h h3 hL hp hl
    induction l with
    | nil => rfl
    | cons x l ih =>
      rw [List.length_cons, List.range_succ_eq_map, List.find?_cons, List.findIdx?_cons]
      simp only [List.getElem?_cons_zero, Option.map_some, Option.getD_some]
      cases q x with
      | true => rfl
      | false =>
        simp only [Bool.false_eq_true, if_false]
        rw [List.find?_map, ← ih]
        congr 1
  rw [key]
  cases l.findIdx? q <;> rfl
theorem has_of {α : Type} (l : List α) (q : α → Bool) : decide ((match l.findIdx? q with | some i => (i : Int) | none => -1) ≥ 0) = l.any q := by
  rw [Bool.eq_iff_iff, decide_eq_true_eq]
  cases h : l.findIdx? q with
  | none =>
    have := List.findIdx?_eq_none_iff.1 h
    simp
    exact this
  | some i =>
    have h2 := List.findIdx?_eq_some_iff_getElem.1 h
    obtain ⟨hi, hq, _⟩ := h2
    simp
    exact ⟨_, List.getElem_mem hi, hq⟩
/-- After the weighing: too much, or all lengths are small. -/
theorem weighed {α : Type} [Dat α] [Wt α] {f : α → Int → Option Int} {x : α} {left : Int} {G : Int → Option Bool} (hf : Weighs f x) (h1 : 0 ≤ left) (h2 : left ≤ 1048576) (hG : ∀ r, 0 ≤ r → r ≤ 1048576 → r + (Wt.wt x : Nat) ≤ left → G r = some true) :
    ((f x left).bind fun r => if decide (r < 0) = true then some true else G r) = some true := by
  obtain ⟨r, e1, e2, e3⟩ := hf left h1 h2
  rw [e1]
  by_cases hr : r < 0
  · simp [hr]
  · have := hG r (by omega) e2 (e3 (by omega))
    simp [hr, this]
theorem list_beq (a b : List UInt8) : decide (a = b) = (a == b) := by rw [Bool.eq_iff_iff]; simp
theorem v_bytesEqual (a b : List UInt8) : F_bytes_Equal a b = some (a == b) := by
  unfold F_bytes_Equal
  rw [← list_beq]
  congr 1
  rw [decide_eq_decide]
  constructor
  · intro h; exact Str.mk.inj h
  · intro h; rw [h]
theorem v_l01Alike (a b : List UInt8) (h : a.length ≤ 9223372036854775807) : F_spec_l01Alike a b = some (a == b) := by
  unfold F_spec_l01Alike
  by_cases hl : a.length = b.length
  · have hne : ((a.length : Int) != (b.length : Int)) = false := by simp [hl]
    have h1 := iter_any (f := L0_spec_l01Alike a b) (fun i => (a[i]? != b[i]?)) (t := false) (n := a.length) (m := 0) (Nat.zero_le _) (fun i _ hi => by
      unfold L0_spec_l01Alike
      have hi' : i < b.length := by omega
      simp only [Int.ofNat_lt, hi, decide_true, if_true, idx_cast, List.getElem?_eq_getElem hi, List.getElem?_eq_getElem hi', Option.bind_some, wr_nat (show i < 9223372036854775807 by omega)]
      have e : (some a[i] != some b[i]) = (a[i] != b[i]) := by
        rw [Bool.eq_iff_iff]; simp
      rw [e]
      split <;> rfl) (by unfold L0_spec_l01Alike; simp)
    have h2 : iter (L0_spec_l01Alike a b) 0 = _ := h1
    rw [hne, h2]
    simp only [Bool.false_eq_true, if_false, Option.bind_some]
    by_cases hab : a = b
    · subst hab
      have : ((List.range' 0 (a.length - 0)).any fun i => a[i]? != a[i]?) = false := by rw [List.any_eq_false]; intro i _; simp
      rw [this]; simp [Fl.el]
    · have : ((List.range' 0 (a.length - 0)).any fun i => a[i]? != b[i]?) = true := by
        rw [any_range]
        apply Classical.byContradiction
        intro hn
        apply hab
        apply List.ext_getElem?
        intro i
        by_cases hi : i < a.length
        · apply Classical.byContradiction
          intro hne2
          exact hn ⟨i, Nat.zero_le _, hi, by simpa using hne2⟩
        · rw [List.getElem?_eq_none (by omega), List.getElem?_eq_none (by omega)]
      rw [this]
      have : (a == b) = false := by simpa using hab
      rw [this]; simp [Fl.el]
  · have hne : ((a.length : Int) != (b.length : Int)) = true := by simp; omega
    rw [hne]
    have : (a == b) = false := by simp; intro h; exact hl (by rw [h])
    rw [this]; rfl
theorem bv_nat (a : Nat) (h : a < 9223372036854775808) : (BitVec.ofInt 64 (a : Int)).toNat = a := by
  rw [BitVec.toNat_ofInt]
  omega
theorem xorI_nat (a b : Nat) (ha : a < 9223372036854775808) (hb : b < 9223372036854775808) : xorI (a : Int) (b : Int) = ((a ^^^ b : Nat) : Int) := by
  unfold xorI
  rw [BitVec.toNat_xor, bv_nat a ha, bv_nat b hb]
  have : a ^^^ b < 2 ^ 63 := Nat.xor_lt_two_pow ha hb
  exact wr_id (by omega)
theorem andI_nat (a b : Nat) (ha : a < 9223372036854775808) (hb : b < 9223372036854775808) : andI (a : Int) (b : Int) = ((a &&& b : Nat) : Int) := by
  unfold andI
  rw [BitVec.toNat_and, bv_nat a ha, bv_nat b hb]
  have : a &&& b < 2 ^ 63 := Nat.and_lt_two_pow _ hb
  exact wr_id (by omega)
theorem shlI_nat (a i : Nat) (hi : i ≤ 63) (h : a <<< i < 9223372036854775808) : shlI (a : Int) (i : Int) = ((a <<< i : Nat) : Int) := by
  unfold shlI
  rw [show min ((i : Int)).toNat 64 = i by omega]
  have : ((a : Int) * 2 ^ i) = ((a <<< i : Nat) : Int) := by rw [Nat.shiftLeft_eq]; simp
  rw [this]
  generalize a <<< i = x at h ⊢
  exact wr_id (by omega)
theorem shrI_nat (a i : Nat) (hi : i ≤ 63) : shrI (a : Int) (i : Int) = ((a >>> i : Nat) : Int) := by
  unfold shrI
  rw [show min ((i : Int)).toNat 64 = i by omega, Nat.shiftRight_eq_div_pow, Int.fdiv_eq_ediv_of_nonneg _ (by exact_mod_cast Nat.zero_le _)]
  simp
theorem bit_and (a i : Nat) : ((a >>> i) &&& 1 = 1) ↔ a.testBit i = true := by
  rw [Nat.testBit, Nat.and_comm]
  have h := Nat.and_one_is_mod (a >>> i)
  rw [Nat.and_comm] at h
  rw [h]
  rcases Nat.mod_two_eq_zero_or_one (a >>> i) with h | h <;> simp [h]
theorem tdiv2 (a : Nat) : Int.tdiv (a : Int) 2 = ((a / 2 : Nat) : Int) := by
  rw [Int.tdiv_eq_ediv_of_nonneg (by omega)]; simp
theorem wr_nn (a : Nat) (h : a < 9223372036854775808) : wr (a : Int) = (a : Int) := wr_id (by omega)
theorem wru_nn (a : Nat) (h : a < 9223372036854775808) : IntKind.u64.wrap (a : Int) = (a : Int) := by
  simp only [IntKind.wrap, IntKind.bits, IntKind.signed]
  simp
  omega

/-- The remainder, bit by bit from the top: k bits are looked at. -/
def restR (m deg : Nat) : Nat → Nat → Nat
  | 0, a => a
  | k + 1, a => restR m deg k (if a.testBit (deg + k) then a ^^^ (m <<< k) else a)
theorem shl_lt {m k n : Nat} (h : m < 2 ^ n) : m <<< k < 2 ^ (n + k) := by
  rw [Nat.shiftLeft_eq, Nat.pow_add]
  exact Nat.mul_lt_mul_of_pos_right h (Nat.two_pow_pos _)
theorem lt_of_bit {a n : Nat} (h : a < 2 ^ (n + 1)) (hb : a.testBit n = false) : a < 2 ^ n := by
  apply Nat.lt_pow_two_of_testBit
  intro i hi
  rcases Nat.eq_or_lt_of_le hi with rfl | hi
  · exact hb
  · exact Nat.testBit_lt_two_pow (Nat.lt_of_lt_of_le h (Nat.pow_le_pow_right (by omega) hi))
theorem top_bit {m d : Nat} (h1 : 2 ^ d ≤ m) (h2 : m < 2 ^ (d + 1)) : m.testBit d = true := by
  rw [Nat.testBit, Nat.shiftRight_eq_div_pow]
  have : m / 2 ^ d = 1 := by
    apply Nat.div_eq_of_lt_le
    · simpa using h1
    · rw [Nat.pow_succ] at h2; omega
  rw [this]; rfl
theorem step_lt {m d k a : Nat} (h1 : 2 ^ d ≤ m) (h2 : m < 2 ^ (d + 1)) (ha : a < 2 ^ (d + (k + 1))) (hb : a.testBit (d + k) = true) : a ^^^ (m <<< k) < 2 ^ (d + k) := by
  have hm : m <<< k < 2 ^ (d + (k + 1)) := by have := shl_lt (k := k) h2; rwa [show d + 1 + k = d + (k + 1) by omega] at this
  refine lt_of_bit (Nat.xor_lt_two_pow (by rwa [show d + k + 1 = d + (k + 1) by omega]) (by rwa [show d + k + 1 = d + (k + 1) by omega])) ?_
  rw [Nat.testBit_xor, hb, Nat.testBit_shiftLeft]
  simp [top_bit h1 h2]
theorem restR_top {m d k a : Nat} (h : a < 2 ^ (d + k)) : restR m d (k + 1) a = restR m d k a := by
  conv => lhs; unfold restR
  rw [Nat.testBit_lt_two_pow h]; rfl
/-- The number of binary digits. -/
def lenN (n : Nat) : Nat := if n = 0 then 0 else n.log2 + 1
theorem lenN_half (n : Nat) (h : 0 < n) : lenN n = lenN (n / 2) + 1 := by
  unfold lenN
  rw [if_neg (by omega)]
  by_cases h2 : n / 2 = 0
  · have : n = 1 := by omega
    subst this; rfl
  · rw [if_neg h2]
    conv => lhs; rw [Nat.log2_def]
    rw [if_pos (by omega)]
theorem lenN_of {n p : Nat} (h1 : 2 ^ p ≤ n) (h2 : n < 2 ^ (p + 1)) : lenN n = p + 1 := by
  have h0 : n ≠ 0 := by have := Nat.two_pow_pos p; omega
  unfold lenN
  rw [if_neg h0, (Nat.log2_eq_iff h0).2 ⟨h1, h2⟩]
theorem lenN_le {n p : Nat} (h : n < 2 ^ p) : lenN n ≤ p := by
  unfold lenN
  split
  · omega
  · rename_i h0
    have := (Nat.log2_lt h0).2 h
    omega
theorem v_l01Length (n : Nat) (h : n < 9223372036854775808) : F_spec_l01Length (n : Int) = some ((lenN n : Nat) : Int) := by
  have key : ∀ (f n c : Nat), n < 2 ^ f → f ≤ 63 → c + f ≤ 1000 → iter L0_spec_l01Length ((n : Int), (c : Int)) = some ((c + lenN n : Nat) : Int) := by
    intro f
    induction f with
    | zero =>
      intro n c hn _ _
      have : n = 0 := by simpa using hn
      subst this
      rw [iter_ex (t := (c : Int))]
      · simp [lenN]
      · unfold L0_spec_l01Length; simp
    | succ f ih =>
      intro n c hn hf hc
      by_cases h0 : n = 0
      · subst h0
        rw [iter_ex (t := (c : Int))]
        · simp [lenN]
        · unfold L0_spec_l01Length; simp
      · have hp : 0 < n := by omega
        have hlt : n < 9223372036854775808 := Nat.lt_of_lt_of_le hn (Nat.pow_le_pow_right (by omega : 0 < 2) hf)
        have hst : L0_spec_l01Length ((n : Int), (c : Int)) = some (.nx (((n / 2 : Nat) : Int), ((c + 1 : Nat) : Int))) := by
          unfold L0_spec_l01Length
          have : (n : Int) > 0 := by omega
          simp only [this, decide_true, if_true, tdiv2]
          rw [wr_nn _ (by omega), wr_nat (by omega)]
        rw [iter_nx hst, ih (n / 2) (c + 1) (by rw [Nat.pow_succ] at hn; omega) (by omega) (by omega), lenN_half n hp]
        congr 2; omega
  unfold F_spec_l01Length
  have := key 63 n 0 h (by omega) (by omega)
  have h2 : iter L0_spec_l01Length ((n : Int), 0) = _ := this
  rw [h2]
  simp
theorem v_l01Rest (a b d k : Nat) (hd : d ≤ 20) (hk : k ≤ 20) (h1 : 2 ^ d ≤ b) (h2 : b < 2 ^ (d + 1)) (ha : a < 2 ^ (d + k)) : F_spec_l01Rest (a : Int) (b : Int) = some ((restR b d k a : Nat) : Int) := by
  have big : ∀ n, n ≤ 62 → ∀ x : Nat, x < 2 ^ n → x < 9223372036854775808 := fun n hn x hx => Nat.lt_of_lt_of_le hx (Nat.pow_le_pow_right (by omega : 0 < 2) (by omega : n ≤ 63))
  have key : ∀ (k a : Nat), k ≤ 20 → a < 2 ^ (d + k) → iter (L0_spec_l01Rest (b : Int) ((d + 1 : Nat) : Int)) ((a : Int), ((lenN a : Nat) : Int)) = some ((restR b d k a : Nat) : Int) := by
    intro k
    induction k with
    | zero =>
      intro a _ ha
      have hl := lenN_le (p := d) ha
      rw [iter_ex (t := (a : Int))]
      · rfl
      · unfold L0_spec_l01Rest
        have : ¬ (((lenN a : Nat) : Int) ≥ ((d + 1 : Nat) : Int)) := by omega
        simp only [this, decide_false, Bool.false_eq_true, if_false]
    | succ k ih =>
      intro a hk ha
      cases hb : a.testBit (d + k) with
      | false =>
        have ha' := lt_of_bit (by rwa [show d + k + 1 = d + (k + 1) by omega]) hb
        rw [ih a (by omega) ha', restR_top ha']
      | true =>
        have hge : 2 ^ (d + k) ≤ a := Nat.ge_two_pow_of_testBit hb
        have hl : lenN a = d + k + 1 := lenN_of hge (by rwa [show d + k + 1 = d + (k + 1) by omega])
        have hx := step_lt h1 h2 ha hb
        have hshl : b <<< k < 2 ^ (d + 1 + k) := shl_lt h2
        have hst : L0_spec_l01Rest (b : Int) ((d + 1 : Nat) : Int) ((a : Int), ((lenN a : Nat) : Int)) = some (.nx (((a ^^^ b <<< k : Nat) : Int), ((lenN (a ^^^ b <<< k) : Nat) : Int))) := by
          unfold L0_spec_l01Rest
          have c1 : ((lenN a : Nat) : Int) ≥ ((d + 1 : Nat) : Int) := by rw [hl]; omega
          have c2 : IntKind.u64.wrap (wr (((lenN a : Nat) : Int) - ((d + 1 : Nat) : Int))) = ((k : Nat) : Int) := by
            rw [hl, show ((d + k + 1 : Nat) : Int) - ((d + 1 : Nat) : Int) = ((k : Nat) : Int) by omega, wr_nn _ (by omega), wru_nn _ (by omega)]
          simp only [c1, decide_true, if_true, c2]
          have c3 : nonneg ((k : Nat) : Int) = some () := by unfold nonneg; rw [if_pos (by omega)]
          rw [c3, shlI_nat b k (by omega) (big _ (by omega) _ hshl), xorI_nat a _ (big _ (by omega) _ ha) (big _ (by omega) _ hshl)]
          simp only [Option.bind_some]
          rw [v_l01Length _ (big _ (by omega) _ hx)]
          rfl
        rw [iter_nx hst, ih _ (by omega) hx]
        conv => rhs; unfold restR
        rw [hb]; rfl
  unfold F_spec_l01Rest
  rw [v_l01Length b (big _ (by omega) _ h2), v_l01Length a (big _ (by omega) _ ha)]
  simp only [Option.bind_some]
  rw [lenN_of h1 h2, key k a hk ha]
  rfl
theorem v_rest (a m d : Nat) (hd : d ≤ 15) (ha : a < 2 ^ 16) (hm : m < 2 ^ 20) : F_impl_rest (a : Int) (m : Int) (d : Int) = some ((restR m d (16 - d) a : Nat) : Int) := by
  have key : ∀ (k a : Nat), d + k ≤ 16 → a < 2 ^ 40 → iter (L0_impl_rest (m : Int) (d : Int)) ((a : Int), ((d + k : Nat) : Int) - 1) = some ((restR m d k a : Nat) : Int) := by
    intro k
    induction k with
    | zero =>
      intro a _ _
      rw [iter_ex (t := (a : Int))]
      · rfl
      · unfold L0_impl_rest
        have : ¬ (((d + 0 : Nat) : Int) - 1 ≥ (d : Int)) := by omega
        simp only [this, decide_false, Bool.false_eq_true, if_false]
    | succ k ih =>
      intro a hk ha
      have e0 : ((d + (k + 1) : Nat) : Int) - 1 = ((d + k : Nat) : Int) := by omega
      have hsh : m <<< k < 2 ^ (20 + k) := shl_lt hm
      have hsh2 : m <<< k < 2 ^ 40 := Nat.lt_of_lt_of_le hsh (Nat.pow_le_pow_right (by omega) (by omega))
      have hst : L0_impl_rest (m : Int) (d : Int) ((a : Int), ((d + (k + 1) : Nat) : Int) - 1) = some (.nx (((if a.testBit (d + k) then a ^^^ (m <<< k) else a : Nat) : Int), ((d + k : Nat) : Int) - 1)) := by
        rw [e0]
        unfold L0_impl_rest
        have c1 : ((d + k : Nat) : Int) ≥ (d : Int) := by omega
        have c2 : nonneg ((d + k : Nat) : Int) = some () := by unfold nonneg; rw [if_pos (by omega)]
        have c3 : wr (((d + k : Nat) : Int) - (d : Int)) = ((k : Nat) : Int) := by rw [show ((d + k : Nat) : Int) - (d : Int) = ((k : Nat) : Int) by omega, wr_nn _ (by omega)]
        have c4 : nonneg ((k : Nat) : Int) = some () := by unfold nonneg; rw [if_pos (by omega)]
        have c5 : wr (((d + k : Nat) : Int) - 1) = ((d + k : Nat) : Int) - 1 := wr_id (by omega)
        simp only [c1, decide_true, if_true, c2, c3, c4, c5, Option.bind_some]
        have c6 : andI (shrI (a : Int) ((d + k : Nat) : Int)) 1 = (((a >>> (d + k)) &&& 1 : Nat) : Int) := by
          rw [shrI_nat a (d + k) (by omega)]
          exact andI_nat _ 1 (Nat.lt_of_le_of_lt (Nat.shiftRight_le _ _) (by omega)) (by omega)
        rw [c6, shlI_nat m k (by omega) (by omega), xorI_nat a _ (by omega) (by omega)]
        cases hb : a.testBit (d + k) with
        | true =>
          have := (bit_and a (d + k)).2 hb
          rw [this]; rfl
        | false =>
          have : ¬ ((a >>> (d + k)) &&& 1 = 1) := fun h => by rw [(bit_and a (d + k)).1 h] at hb; cases hb
          have h2 : (((((a >>> (d + k)) &&& 1 : Nat) : Int)) == 1) = false := by
            rw [beq_eq_false_iff_ne]; omega
          rw [h2]; rfl
      rw [iter_nx hst, ih _ (by omega) ?_]
      · conv => rhs; unfold restR
      · split
        · exact Nat.xor_lt_two_pow ha hsh2
        · exact ha
  unfold F_impl_rest
  have := key (16 - d) a (by omega) (by omega)
  rw [show ((d + (16 - d) : Nat) : Int) - 1 = 15 by omega] at this
  rw [this]; rfl

def redB (m d : Nat) : Bool := restR d (lenN d - 1) (16 - (lenN d - 1)) m == 0
def isFieldB (m : Int) : Bool := decide (256 ≤ m ∧ m ≤ 511) && !((List.range' 2 30).any (redB m.toNat))
theorem v_l01Field (m : Int) : F_spec_l01Field m = some (isFieldB m) := by
  unfold F_spec_l01Field isFieldB
  rw [v_l01In]
  by_cases hm : 256 ≤ m ∧ m ≤ 511
  · obtain ⟨n, rfl⟩ := Int.eq_ofNat_of_zero_le (show 0 ≤ m by omega)
    have hn : n < 512 := by omega
    have h := iter_hasM (f := L0_spec_l01Field (n : Int)) 32 (redB n) false (by omega) 2 (by omega) (fun d h2 hd => by
      unfold L0_spec_l01Field
      have c1 : (d : Int) < 32 := by omega
      have hp : ∃ p, p ≤ 4 ∧ 2 ^ p ≤ d ∧ d < 2 ^ (p + 1) := by
        refine ⟨d.log2, ?_, Nat.log2_self_le (by omega), Nat.lt_log2_self⟩
        have := (Nat.log2_lt (n := d) (by omega)).2 (show d < 2 ^ 5 by omega)
        omega
      obtain ⟨p, h3, h4, h5⟩ := hp
      have hl := lenN_of h4 h5
      rw [v_l01Rest n d p (16 - p) (by omega) (by omega) h4 h5 (by rw [show p + (16 - p) = 16 by omega]; omega)]
      simp only [c1, decide_true, if_true, Option.bind_some]
      unfold redB
      rw [hl, show p + 1 - 1 = p by omega]
      generalize restR d p (16 - p) n = q
      have : ((((q : Nat) : Int)) == 0) = (q == 0) := by rw [Bool.eq_iff_iff, beq_iff_eq, beq_iff_eq]; omega
      rw [this]
      cases q == 0 <;> simp) (by unfold L0_spec_l01Field; simp)
    have h2 : iter (L0_spec_l01Field (n : Int)) 2 = _ := h
    rw [h2]
    simp only [hm, decide_true, and_self, Bool.not_true, Bool.false_eq_true, if_false, Option.bind_some, Bool.true_and, Int.toNat_natCast]
    cases (List.range' 2 30).any (redB n) <;> rfl
  · simp [hm]
theorem v_IsField (m : Int) : F_impl_IsField m = some (isFieldB m) := by
  unfold F_impl_IsField isFieldB
  rw [v_inRange]
  by_cases hm : 256 ≤ m ∧ m ≤ 511
  · obtain ⟨n, rfl⟩ := Int.eq_ofNat_of_zero_le (show 0 ≤ m by omega)
    have hn : n < 512 := by omega
    have inner : ∀ p : Nat, p ≤ 4 → iter (L1_impl_IsField (n : Int) (p : Int)) ((2 ^ p : Nat) : Int) = some (if (List.range' (2 ^ p) (2 ^ p)).any (redB n) then Fl.ex false else Fl.nx ()) := by
      intro p hp
      have c2 : nonneg (p : Int) = some () := by unfold nonneg; rw [if_pos (by omega)]
      have hpow : 2 ^ p ≤ 2 ^ 4 := Nat.pow_le_pow_right (by omega) hp
      have hpp := Nat.two_pow_pos p
      have c3 : shlI 2 (p : Int) = ((2 ^ (p + 1) : Nat) : Int) := by
        have := shlI_nat 2 p (by omega) (by rw [Nat.shiftLeft_eq]; omega)
        rw [Nat.shiftLeft_eq] at this
        rw [show (2 : Int) = ((2 : Nat) : Int) from rfl, this, Nat.pow_succ, Nat.mul_comm]
      have h := iter_hasM (f := L1_impl_IsField (n : Int) (p : Int)) (2 ^ (p + 1)) (redB n) false (by rw [Nat.pow_succ]; omega) (2 ^ p) (by rw [Nat.pow_succ]; omega) (fun d h4 h5 => by
        unfold L1_impl_IsField
        have c1 : (d : Int) < ((2 ^ (p + 1) : Nat) : Int) := by omega
        have hd : d < 32 := by rw [Nat.pow_succ] at h5; omega
        have hl := lenN_of h4 h5
        rw [c2, c3, v_rest n d p (by omega) (by omega) (by omega)]
        simp only [c1, decide_true, if_true, Option.bind_some]
        unfold redB
        rw [hl, show p + 1 - 1 = p by omega]
        generalize restR d p (16 - p) n = q
        have : ((((q : Nat) : Int)) == 0) = (q == 0) := by rw [Bool.eq_iff_iff, beq_iff_eq, beq_iff_eq]; omega
        rw [this]
        cases q == 0 <;> simp) (by
          unfold L1_impl_IsField
          rw [c2, c3]; simp)
      rw [show 2 ^ (p + 1) - 2 ^ p = 2 ^ p by rw [Nat.pow_succ]; omega] at h
      exact h
    have h := iter_hasM (f := L0_impl_IsField (n : Int)) 5 (fun p => (List.range' (2 ^ p) (2 ^ p)).any (redB n)) false (by omega) 1 (by omega) (fun p _ hp => by
      unfold L0_impl_IsField
      have c1 : (p : Int) ≤ 4 := by omega
      have c2 : nonneg (p : Int) = some () := by unfold nonneg; rw [if_pos (by omega)]
      have c3 : shlI 1 (p : Int) = ((2 ^ p : Nat) : Int) := by
        have hpow : 2 ^ p ≤ 2 ^ 4 := Nat.pow_le_pow_right (by omega) (by omega)
        have := shlI_nat 1 p (by omega) (by rw [Nat.shiftLeft_eq]; omega)
        rw [Nat.shiftLeft_eq, Nat.one_mul] at this
        exact this
      rw [c2, c3, inner p (by omega)]
      simp only [c1, decide_true, if_true, Option.bind_some]
      cases (List.range' (2 ^ p) (2 ^ p)).any (redB n) <;> rfl) (by unfold L0_impl_IsField; simp)
    have h2 : iter (L0_impl_IsField (n : Int)) 1 = _ := h
    rw [h2]
    have e : ((List.range' 1 (5 - 1)).any fun p => (List.range' (2 ^ p) (2 ^ p)).any (redB n)) = (List.range' 2 30).any (redB n) := by
      have e1 : List.range' 2 30 = List.range' 2 2 ++ (List.range' 4 4 ++ (List.range' 8 8 ++ List.range' 16 16)) := by decide
      have e2 : List.range' 1 (5 - 1) = [1, 2, 3, 4] := by decide
      rw [e1, e2]
      simp only [List.any_append, List.any_cons, List.any_nil, Bool.or_false, Nat.reducePow]
    rw [e]
    simp only [hm, decide_true, and_self, Bool.not_true, Bool.false_eq_true, if_false, Option.bind_some, Bool.true_and, Int.toNat_natCast]
    cases (List.range' 2 30).any (redB n) <;> rfl
  · simp [hm]
def isShareB (s : GShare) : Bool := s.Place != 0 && decide (s.Data.length ≤ 100)
theorem v_l10Share (s : GShare) : F_spec_l10Share s = some (isShareB s) := by
  unfold F_spec_l10Share isShareB
  cases h : s.Place != 0 <;> simp <;> omega
theorem v_isShare (s : GShare) : F_impl_isShare s = some (isShareB s) := by
  unfold F_impl_isShare isShareB
  cases h : s.Place != 0 <;> simp <;> omega

/-- All bytes are different. -/
def diffB (l : List UInt8) : Bool := decide l.Nodup
theorem nodup_any (l : List UInt8) : ((List.range' 0 (l.length - 0)).any fun i => (List.range' 0 (i - 0)).any fun k => l[i]? == l[k]?) = !diffB l := by
  rw [Bool.eq_iff_iff, any_range]
  rw [diffB, Bool.not_eq_true', decide_eq_false_iff_not]
  unfold List.Nodup
  rw [List.pairwise_iff_getElem]
  simp only [any_range, beq_iff_eq]
  constructor
  · rintro ⟨i, _, hi, k, _, hk, h⟩ hn
    have hk' : k < l.length := by omega
    rw [List.getElem?_eq_getElem hi, List.getElem?_eq_getElem hk'] at h
    exact hn k i hk' hi hk (by simpa using h.symm)
  · intro h
    simp only [Classical.not_forall, ne_eq, Decidable.not_not] at h
    obtain ⟨k, i, hk, hi, hki, h⟩ := h
    exact ⟨i, Nat.zero_le _, hi, k, Nat.zero_le _, hki, by rw [List.getElem?_eq_getElem hi, List.getElem?_eq_getElem hk, h]⟩
theorem v_l01Twice (l : List UInt8) (h : l.length < 9223372036854775807) : F_spec_l01Twice l = some (!diffB l) := by
  unfold F_spec_l01Twice
  have := iter_has (f := L0_spec_l01Twice l) l.length (fun i => (List.range' 0 (i - 0)).any fun k => l[i]? == l[k]?) true h (fun i hi => by
    unfold L0_spec_l01Twice
    have h2 := iter_has (f := L1_spec_l01Twice l i) i (fun k => l[i]? == l[k]?) true (by omega) (fun k hk => by
      unfold L1_spec_l01Twice
      have hk' : k < l.length := by omega
      have e1 : decide ((k : Int) < (i : Int)) = true := by simp; omega
      rw [e1]
      simp [List.getElem?_eq_getElem hi, List.getElem?_eq_getElem hk']
      split <;> rfl) (by unfold L1_spec_l01Twice; simp) 0 (Nat.zero_le _)
    have h3 : iter (L1_spec_l01Twice l i) 0 = _ := h2
    simp only [Int.ofNat_lt, hi, decide_true, if_true, h3, Option.bind_some]
    cases (List.range' 0 (i - 0)).any fun k => l[i]? == l[k]? <;> simp [Fl.el]) (by unfold L0_spec_l01Twice; simp) 0 (Nat.zero_le _)
  have h3 : iter (L0_spec_l01Twice l) 0 = _ := this
  rw [h3, nodup_any]
  cases diffB l <;> simp [Fl.el]
theorem v_l10Distinct (l : List GShare) (h : l.length ≤ 140737488355327) : F_spec_l10Distinct l = some (diffB (l.map (·.Place))) := by
  unfold F_spec_l10Distinct
  have := iter_map (f := L0_spec_l10Distinct l) l (·.Place) (t := l.map (·.Place)) (by omega) (fun i hi => by
    unfold L0_spec_l10Distinct
    simp only [Int.ofNat_lt, hi, decide_true, if_true, idx_cast, List.getElem?_eq_getElem hi, Option.bind_some]
    rw [app_ok (by simp; omega)]
    simp) (by unfold L0_spec_l10Distinct; simp)
  rw [this]
  simp only [Option.bind_some]
  rw [v_l01Twice _ (by simp; omega)]
  simp
theorem v_placesOf (l : List GShare) (h : l.length ≤ 140737488355327) : F_impl_placesOf l = some (l.map (·.Place)) := by
  unfold F_impl_placesOf
  have := iter_map (f := L0_impl_placesOf l) l (·.Place) (t := l.map (·.Place)) (by omega) (fun i hi => by
    unfold L0_impl_placesOf
    simp only [Int.ofNat_lt, hi, decide_true, if_true, idx_cast, List.getElem?_eq_getElem hi, Option.bind_some]
    rw [app_ok (by simp; omega)]
    simp) (by unfold L0_impl_placesOf; simp)
  rw [this]; rfl

/-- The code of a list of shares. -/
def evenB (l : List GShare) : Bool := l.all fun s => s.Data.length == (l.headD default).Data.length
def codeC (l : List GShare) : Int :=
  if !(l.all isShareB) then 1 else if !(diffB (l.map (·.Place))) then 1 else if l.length < 1 ∨ 12 < l.length then 2 else if !evenB l then 2 else 0
theorem v_l10Code (l : List GShare) (h : l.length ≤ 140737488355327) : F_spec_l10Code l = some (codeC l) := by
  unfold F_spec_l10Code
  have h1 := iter_anyL (f := L0_spec_l10Code l) l (fun s => !isShareB s) (t := (1 : Int)) (by omega) (fun i hi => by
    unfold L0_spec_l10Code
    simp only [Int.ofNat_lt, hi, decide_true, if_true, idx_cast, List.getElem?_eq_getElem hi, Option.bind_some, v_l10Share]
    cases isShareB l[i] <;> simp) (by unfold L0_spec_l10Code; simp)
  rw [h1, List.any_eq_not_all_not]
  simp only [Bool.not_not, codeC]
  cases ha : l.all isShareB with
  | false => simp [Fl.el]
  | true =>
    simp only [Bool.not_true, Bool.false_eq_true, if_false, Option.bind_some, Fl.el, v_l10Distinct l h]
    cases hd : diffB (l.map (·.Place)) with
    | false => simp
    | true =>
      simp only [Bool.not_true, Bool.false_eq_true, if_false]
      by_cases hlen : l.length < 1
      · have e : (l.length : Int) < 1 := by omega
        simp [hlen, e]
      · by_cases hlen2 : 12 < l.length
        · have e : ¬ ((l.length : Int) < 1) := by omega
          have e2 : (l.length : Int) > 12 := by omega
          simp [hlen2, e, e2]
        · have e : ¬ ((l.length : Int) < 1) := by omega
          have e2 : ¬ ((l.length : Int) > 12) := by omega
          have h0 : 0 < l.length := by omega
          have h2 := iter_has (f := L1_spec_l10Code l) l.length (fun i => (l[i]?.getD default).Data.length != (l.headD default).Data.length) (2 : Int) (by omega) (fun i hi => by
            unfold L1_spec_l10Code
            simp only [Int.ofNat_lt, hi, decide_true, if_true, idx_cast, idx_zero, List.getElem?_eq_getElem hi, List.getElem?_eq_getElem h0, Option.bind_some, Option.getD_some]
            have e3 : (l.headD default) = l[0] := by cases l with | nil => simp at h0 | cons x l => rfl
            rw [e3]
            by_cases hq : l[i].Data.length = l[0].Data.length
            · simp [hq]
            · have : ¬ ((l[i].Data.length : Int) = l[0].Data.length) := by omega
              simp [hq, this]) (by unfold L1_spec_l10Code; simp) 1 (by omega)
          have h3 : iter (L1_spec_l10Code l) 1 = _ := h2
          have key : ((List.range' 1 (l.length - 1)).any fun i => (l[i]?.getD default).Data.length != (l.headD default).Data.length) = !evenB l := by
            rw [Bool.eq_iff_iff, any_range, Bool.not_eq_true', evenB, List.all_eq_false]
            constructor
            · rintro ⟨i, _, hi, hne⟩
              refine ⟨l[i], List.getElem_mem hi, ?_⟩
              simpa [List.getElem?_eq_getElem hi] using hne
            · rintro ⟨x, hx, hne⟩
              obtain ⟨i, hi, rfl⟩ := List.mem_iff_getElem.1 hx
              refine ⟨i, ?_, hi, by simpa [List.getElem?_eq_getElem hi] using hne⟩
              rcases Nat.eq_zero_or_pos i with rfl | hp
              · exfalso; apply hne; cases l with | nil => simp at h0 | cons x l => simp
              · exact hp
          rw [key] at h3
          rw [h3]
          simp [e, e2, hlen, hlen2]
          cases evenB l <;> simp
theorem v_lengthShare (l : List GShare) : F_impl_length_impl_Share l = some (l.length : Int) := rfl
theorem v_ContainsShare (l : List GShare) (p : GShare → Option Bool) (q : GShare → Bool) (hl : l.length < 9223372036854775807) (hp : ∀ x ∈ l, p x = some (q x)) : F_slices_ContainsFunc_impl_Share_impl_Share l p = some (l.any q) := by
  unfold F_slices_ContainsFunc_impl_Share_impl_Share F_slices_IndexFunc_impl_Share_impl_Share
  rw [find_of l p q _ (fun s => by unfold L0_slices_IndexFunc_impl_Share_impl_Share; rfl) hl hp]
  simp only [Option.bind_some, has_of]
theorem indexByte_has (l : List UInt8) (c : UInt8) : decide (indexByte l c ≥ 0) = l.contains c := by
  induction l with
  | nil => rfl
  | cons b l ih =>
    have hge := Lib.indexByte_ge l c
    show decide (Lib.indexByte (b :: l) c ≥ 0) = _
    unfold Lib.indexByte
    rw [List.contains_cons, ← ih]
    by_cases hb : b = c
    · subst hb; simp
    · have hb' : (c == b) = false := by simpa using fun h => hb h.symm
      simp only [beq_eq_false_iff_ne.2 hb, hb', Bool.false_eq_true, if_false, Bool.false_or]
      rw [decide_eq_decide]
      show _ ↔ Lib.indexByte l c ≥ 0
      by_cases h1 : Lib.indexByte l c = -1
      · simp [h1]
      · rw [if_neg (by simpa using h1)]; omega
theorem v_areDifferent (l : List UInt8) (h : l.length < 9223372036854775807) : F_impl_areDifferent l = some (diffB l) := by
  unfold F_impl_areDifferent
  have := iter_has (f := L0_impl_areDifferent l) l.length (fun i => (l.take i).any fun x => l[i]? == some x) false h (fun i hi => by
    unfold L0_impl_areDifferent
    have e1 : slc l (0 : Int) (i : Int) = some (l.take i) := by have := slc_ok (l := l) (i := 0) (j := i) (Nat.zero_le _) (by omega); simpa using this
    simp only [Int.ofNat_lt, hi, decide_true, if_true, idx_cast, List.getElem?_eq_getElem hi, Option.bind_some, e1]
    unfold F_bytes_IndexByte
    simp only [Option.bind_some, indexByte_has]
    have e2 : (l.take i).contains l[i] = (l.take i).any fun x => some l[i] == some x := by
      rw [Bool.eq_iff_iff]; simp [List.any_eq_true]
    rw [e2]
    split <;> rfl) (by unfold L0_impl_areDifferent; simp) 0 (Nat.zero_le _)
  have h3 : iter (L0_impl_areDifferent l) 0 = _ := this
  have key : ((List.range' 0 (l.length - 0)).any fun i => (l.take i).any fun x => l[i]? == some x) = !diffB l := by
    rw [← nodup_any, Bool.eq_iff_iff, any_range, any_range]
    refine exists_congr fun i => and_congr_right fun _ => and_congr_right fun hi => ?_
    rw [any_range, List.any_eq_true]
    constructor
    · rintro ⟨x, hx, h⟩
      obtain ⟨k, hk, rfl⟩ := List.mem_iff_getElem.1 hx
      have hk2 : k < i ∧ k < l.length := by simp at hk; omega
      exact ⟨k, Nat.zero_le _, hk2.1, by rw [List.getElem?_eq_getElem hk2.2]; simpa using h⟩
    · rintro ⟨k, _, hk, h⟩
      have hkl : k < l.length := by omega
      refine ⟨l[k], List.mem_iff_getElem.2 ⟨k, by simp; omega, by simp⟩, ?_⟩
      rw [List.getElem?_eq_getElem hkl] at h; exact h
  rw [h3, key]
  cases diffB l <;> simp [Fl.el]
theorem v_areEven1 (l : List GShare) (h0 : 0 < l.length) (s : GShare) : F_impl_areEven_1 s l = some (s.Data.length != (l.headD default).Data.length) := by
  unfold F_impl_areEven_1
  have e3 : (l.headD default) = l[0] := by cases l with | nil => simp at h0 | cons x l => rfl
  simp only [idx_zero, List.getElem?_eq_getElem h0, Option.bind_some, e3]
  congr 1
  rw [Bool.eq_iff_iff]
  simp only [bne_iff_ne, ne_eq]
  omega
theorem v_areEven (l : List GShare) (h : l.length < 9223372036854775807) : F_impl_areEven l = some (evenB l) := by
  unfold F_impl_areEven
  rw [v_ContainsShare l _ (fun s => s.Data.length != (l.headD default).Data.length) h (fun x hx => v_areEven1 l (List.length_pos_of_mem hx) x)]
  simp only [Option.bind_some, evenB, List.any_eq_not_all_not]
  simp [bne]
section
variable {m : Nat} (h1 : 256 ≤ m) (h2 : m < 512)
include h1 h2
end
section
variable {m : Nat} (h1 : 256 ≤ m) (h2 : m < 512)
include h1 h2
end
section
variable {m : Nat} (h1 : 256 ≤ m) (h2 : m < 512)
include h1 h2
end
def tab (n : Nat) (f : Nat → UInt8) : List UInt8 := (List.range n).map f
@[simp] theorem tab_len (n : Nat) (f : Nat → UInt8) : (tab n f).length = n := by simp [tab]
theorem tab_get {n i : Nat} (f : Nat → UInt8) (h : i < n) : (tab n f)[i]? = some (f i) := by simp [tab, h]
theorem tab_set (n i : Nat) (f : Nat → UInt8) (v : UInt8) : (tab n f).set i v = tab n (fun j => if j = i then v else f j) := by
  apply List.ext_getElem?
  intro j
  rw [List.getElem?_set]
  by_cases hj : j < n
  · rw [tab_get _ hj, tab_get _ hj]
    by_cases h : i = j
    · subst h; simp [hj]
    · simp [h, Ne.symm h]
  · rw [List.getElem?_eq_none (by simp; omega), List.getElem?_eq_none (by simp; omega)]
    simp
    omega
theorem tab_eq {n : Nat} {f g : Nat → UInt8} (h : ∀ i, i < n → f i = g i) : tab n f = tab n g := by
  unfold tab
  apply List.map_congr_left
  intro i hi
  exact h i (by simpa using hi)
theorem list_tab (l : List UInt8) : l = tab l.length (fun i => l.getD i 0) := by
  apply List.ext_getElem?
  intro i
  by_cases h : i < l.length
  · rw [tab_get _ h, List.getElem?_eq_getElem h]; simp [List.getD_eq_getElem?_getD, List.getElem?_eq_getElem h]
  · rw [List.getElem?_eq_none (by omega), List.getElem?_eq_none (by simp; omega)]
theorem getD_of {l : List UInt8} {i : Nat} (h : i < l.length) : l[i]? = some (l.getD i 0) := by simp [List.getD_eq_getElem?_getD, List.getElem?_eq_getElem h]
section
variable (m : Nat) (p : List UInt8)
end
section
variable {m : Nat} (h1 : 256 ≤ m) (h2 : m < 512)
include h1 h2
end
def bothC (m : Int) (l : List GShare) (t : Int) : Int := if !isFieldB m then 1 else if codeC l == 0 && !decide (1 ≤ t ∧ t ≤ 8) then 2 else codeC l
theorem v_checkShares (m : Int) (l : List GShare) (t : Int) (h : l.length ≤ 140737488355327) : F_impl_checkShares m l t = some (bothC m l t) := by
  unfold F_impl_checkShares bothC
  rw [v_IsField, v_ContainsShare l _ (fun s => !isShareB s) (by omega) (fun x _ => by unfold F_impl_checkShares_1; rw [v_isShare]; rfl), v_placesOf l h]
  simp only [Option.bind_some]
  rw [v_areDifferent _ (by simp; omega), v_areEven l (by omega), v_lengthShare]
  have ea : (l.any fun s => !isShareB s) = !(l.all isShareB) := by rw [List.any_eq_not_all_not]; simp
  simp only [ea, v_inRange, Option.bind_some]
  by_cases c0 : isFieldB m = true
  · by_cases c1 : l.all isShareB = true
    · by_cases c2 : diffB (l.map (·.Place)) = true
      · by_cases h1 : l.length < 1 ∨ 12 < l.length
        · have e : ¬ ((1 : Int) ≤ l.length ∧ (l.length : Int) ≤ 12) := by omega
          have hc : codeC l = 2 := by unfold codeC; rw [c1, c2, if_neg (by simp), if_neg (by simp), if_pos h1]
          rw [hc]
          simp [c0, c1, c2, e]
        · have e : ((1 : Int) ≤ l.length ∧ (l.length : Int) ≤ 12) := by omega
          by_cases c3 : evenB l = true
          · have hc : codeC l = 0 := by unfold codeC; rw [c1, c2, c3, if_neg (by simp), if_neg (by simp), if_neg h1, if_neg (by simp)]
            rw [hc]
            by_cases ht : 1 ≤ t ∧ t ≤ 8 <;> simp [c0, c1, c2, c3, e, ht]
          · have c3 : evenB l = false := by simpa using c3
            have hc : codeC l = 2 := by unfold codeC; simp [c1, c2, c3]
            rw [hc]
            simp [c0, c1, c2, c3, e]
      · have c2 : diffB (l.map (·.Place)) = false := by simpa using c2
        have hc : codeC l = 1 := by unfold codeC; simp [c1, c2]
        rw [hc]
        simp [c0, c1, c2]
    · have c1 : l.all isShareB = false := by simpa using c1
      have hc : codeC l = 1 := by unfold codeC; simp [c1]
      rw [hc]
      simp [c0, c1]
  · have c0 : isFieldB m = false := by simpa using c0
    simp [c0]
/-- What a list of shares is whose code is 0. -/
structure Good (l : List GShare) : Prop where
  share : ∀ s ∈ l, s.Place ≠ 0 ∧ s.Data.length ≤ 100
  diff : (l.map (·.Place)).Nodup
  len : 1 ≤ l.length ∧ l.length ≤ 12
  even : ∀ s ∈ l, s.Data.length = (l.headD default).Data.length
theorem good_of {l : List GShare} (h : codeC l = 0) : Good l := by
  unfold codeC at h
  cases h1 : l.all isShareB with
  | false => simp [h1] at h
  | true =>
    cases h2 : diffB (l.map (·.Place)) with
    | false => simp [h1, h2] at h
    | true =>
      by_cases h3 : l.length < 1 ∨ 12 < l.length
      · rw [h1, h2, if_neg (by simp), if_neg (by simp), if_pos h3] at h; cases h
      · cases h4 : evenB l with
        | false => simp [h1, h2, h4] at h
        | true =>
          refine ⟨fun s hs => ?_, by simpa [diffB] using h2, by omega, fun s hs => ?_⟩
          · have := List.all_eq_true.1 h1 s hs
            unfold isShareB at this
            simpa using this
          · have := List.all_eq_true.1 h4 s hs
            simpa using this
theorem Good.take {l : List GShare} (h : Good l) {t : Nat} (h1 : 1 ≤ t) (h2 : t ≤ l.length) : Good (l.take t) := by
  have hd : (l.take t).headD default = l.headD default := by
    cases l with
    | nil => simp
    | cons x l => cases t with
      | zero => omega
      | succ t => rfl
  refine ⟨fun s hs => h.share s (List.mem_of_mem_take hs), ?_, by rw [List.length_take]; have := h.len; omega, fun s hs => by rw [hd]; exact h.even s (List.mem_of_mem_take hs)⟩
  rw [List.map_take]
  exact (List.take_sublist _ _).nodup h.diff
theorem Good.at {l : List GShare} (h : Good l) {i : Nat} (hi : i < l.length) : l[i].Data.length = (l.headD default).Data.length := h.even _ (List.getElem_mem hi)

def dataN (l : List GShare) : Nat := (l.headD default).Data.length
def places (l : List GShare) : List UInt8 := l.map (·.Place)
theorem places_len (l : List GShare) : (places l).length = l.length := by simp [places]
section
variable {m : Nat} (h1 : 256 ≤ m) (h2 : m < 512)
include h1 h2
end
section
variable {m : Nat} (h1 : 256 ≤ m) (h2 : m < 512)
include h1 h2
end
theorem mkShare_sum_le (l : List GShare) : (l.map mkShare).sum ≤ Wt.wt l := by
  have := sum_le_wt mkShare 1 (fun x => by
    unfold mkShare
    have e : Wt.wt x = Wt.wt x.Data := rfl
    rw [e, wt_bytes, sum_one]; omega) l
  omega
def addS (a b : GShare) : GShare := ⟨a.Place, List.zipWith (· ^^^ ·) a.Data b.Data⟩
def addC (a b : List GShare) : List GShare := List.zipWith addS a b
theorem zip_take {α β γ : Type} (f : α → β → γ) (a : List α) (b : List β) (i : Nat) (ha : i < a.length) (hb : i < b.length) : List.zipWith f (a.take (i + 1)) (b.take (i + 1)) = List.zipWith f (a.take i) (b.take i) ++ [f a[i] b[i]] := by
  rw [List.take_succ_eq_append_getElem ha, List.take_succ_eq_append_getElem hb, List.zipWith_append (by simp; omega)]
  rfl
theorem zip_len {α β γ : Type} (f : α → β → γ) (a : List α) (b : List β) (i : Nat) (ha : i ≤ a.length) (hb : i ≤ b.length) : (List.zipWith f (a.take i) (b.take i)).length = i := by simp; omega
theorem v_l10Add (a b : List GShare) (hl : a.length = b.length) (ha : a.length ≤ 12) (hd : ∀ i (h1 : i < a.length) (h2 : i < b.length), a[i].Data.length = b[i].Data.length ∧ a[i].Data.length ≤ 100) : F_spec_l10Add a b = some (addC a b) := by
  unfold F_spec_l10Add
  have h := iter_run (f := L0_spec_l10Add a b) (fun i : Nat => (List.zipWith addS (a.take i) (b.take i), (i : Int))) 0 a.length (Nat.zero_le _) (t := addC a b) (fun i _ hi => by
    unfold L0_spec_l10Add
    have hi2 : i < b.length := by omega
    obtain ⟨d1, d2⟩ := hd i hi hi2
    have h2 := iter_run (f := L1_spec_l10Add a b (List.zipWith addS (a.take i) (b.take i), (i : Int))) (fun j : Nat => (List.zipWith (· ^^^ ·) (a[i].Data.take j) (b[i].Data.take j), (j : Int))) 0 a[i].Data.length (Nat.zero_le _) (t := List.zipWith (· ^^^ ·) a[i].Data b[i].Data) (fun j _ hj => by
      unfold L1_spec_l10Add
      have hj2 : j < b[i].Data.length := by omega
      simp only [idx_cast, List.getElem?_eq_getElem hi, List.getElem?_eq_getElem hi2, Option.bind_some, Int.ofNat_lt, hj, decide_true, if_true, List.getElem?_eq_getElem hj, List.getElem?_eq_getElem hj2, wr_nat (show j < 9223372036854775807 by omega)]
      rw [app_ok (by rw [zip_len _ _ _ _ (by omega) (by omega)]; simp; omega), zip_take _ _ _ _ hj hj2]
      rfl) (by
        unfold L1_spec_l10Add
        simp only [idx_cast, List.getElem?_eq_getElem hi, Option.bind_some, Int.ofNat_lt, Nat.lt_irrefl, decide_false, Bool.false_eq_true, if_false]
        rw [List.take_length, d1, List.take_length])
    have h3 : iter (L1_spec_l10Add a b (List.zipWith addS (a.take i) (b.take i), (i : Int))) ([], 0) = _ := h2
    simp only [Int.ofNat_lt, hi, decide_true, if_true, idx_cast, List.getElem?_eq_getElem hi, Option.bind_some, h3, wr_nat (show i < 9223372036854775807 by omega)]
    rw [app_ok (by rw [zip_len _ _ _ _ (by omega) (by omega)]; simp; omega), zip_take _ _ _ _ hi hi2]
    rfl) (by
      unfold L0_spec_l10Add
      simp only [Int.ofNat_lt, Nat.lt_irrefl, decide_false, Bool.false_eq_true, if_false]
      rw [List.take_length, hl, List.take_length]; rfl)
  have h3 : iter (L0_spec_l10Add a b) ([], 0) = _ := h
  rw [h3]; rfl
theorem v_added (a b : List GShare) (hl : a.length = b.length) (ha : a.length ≤ 12) (hd : ∀ i (h1 : i < a.length) (h2 : i < b.length), a[i].Data.length = b[i].Data.length ∧ a[i].Data.length ≤ 100) : F_impl_added a b = some (addC a b) := by
  unfold F_impl_added
  have h := iter_run (f := L0_impl_added a b) (fun i : Nat => ((i : Int), List.zipWith addS (a.take i) (b.take i))) 0 a.length (Nat.zero_le _) (t := addC a b) (fun i _ hi => by
    unfold L0_impl_added
    have hi2 : i < b.length := by omega
    obtain ⟨d1, d2⟩ := hd i hi hi2
    have hcl : F_slices_Clone_byte_byte a[i].Data = some a[i].Data := by
      unfold F_slices_Clone_byte_byte
      rw [app_ok (by simp; omega)]; rfl
    have hz : List.zipWith (· ^^^ ·) a[i].Data b[i].Data = tab a[i].Data.length (fun j => a[i].Data.getD j 0 ^^^ b[i].Data.getD j 0) := by
      apply List.ext_getElem?
      intro j
      by_cases hj : j < a[i].Data.length
      · rw [tab_get _ hj, List.getElem?_zipWith, getD_of hj, getD_of (by omega : j < b[i].Data.length)]
      · rw [List.getElem?_eq_none (by simp; omega), List.getElem?_eq_none (by simp; omega)]
    have h2 := iter_run (f := L1_impl_added b ((i : Int), List.zipWith addS (a.take i) (b.take i)) a[i].Data) (fun j : Nat => ((j : Int), tab a[i].Data.length (fun q => if q < j then a[i].Data.getD q 0 ^^^ b[i].Data.getD q 0 else a[i].Data.getD q 0))) 0 a[i].Data.length (Nat.zero_le _) (t := List.zipWith (· ^^^ ·) a[i].Data b[i].Data) (fun j _ hj => by
      unfold L1_impl_added
      have hj2 : j < b[i].Data.length := by omega
      simp only [Int.ofNat_lt, hj, decide_true, if_true, idx_cast, List.getElem?_eq_getElem hi2, Option.bind_some, tab_get _ hj, getD_of hj2, tab_set, Int.toNat_natCast, wr_nat (show j < 9223372036854775807 by omega)]
      congr 3
      apply tab_eq
      intro q hq
      by_cases c2 : q = j
      · subst c2
        rw [if_pos rfl, if_neg (Nat.lt_irrefl q), if_pos (Nat.lt_succ_self q)]
      · have d1 : (q < j + 1) ↔ (q < j) := by omega
        simp only [c2, if_false, d1]) (by
        unfold L1_impl_added
        rw [hz]
        simp only [Int.ofNat_lt, Nat.lt_irrefl, decide_false, Bool.false_eq_true, if_false]
        congr 2
        apply tab_eq
        intro q hq
        simp [hq])
    have e0 : a[i].Data = tab a[i].Data.length (fun q => if q < 0 then a[i].Data.getD q 0 ^^^ b[i].Data.getD q 0 else a[i].Data.getD q 0) := by
      conv => lhs; rw [list_tab a[i].Data]
      apply tab_eq
      intro q _
      simp
    rw [← e0] at h2
    have h3 : iter (L1_impl_added b ((i : Int), List.zipWith addS (a.take i) (b.take i)) a[i].Data) (0, a[i].Data) = _ := h2
    simp only [Int.ofNat_lt, hi, decide_true, if_true, idx_cast, List.getElem?_eq_getElem hi, Option.bind_some, hcl, h3, wr_nat (show i < 9223372036854775807 by omega)]
    rw [app_ok (by rw [zip_len _ _ _ _ (by omega) (by omega)]; simp; omega), zip_take _ _ _ _ hi hi2]
    rfl) (by
      unfold L0_impl_added
      simp only [Int.ofNat_lt, Nat.lt_irrefl, decide_false, Bool.false_eq_true, if_false]
      rw [List.take_length, hl, List.take_length]; rfl)
  have h3 : iter (L0_impl_added a b) (0, []) = _ := h
  rw [h3]; rfl
theorem v_l10Places (l : List GShare) (hl : l.length ≤ 140737488355327) : F_spec_l10Places l = some (places l) := by
  unfold F_spec_l10Places
  have := iter_map (f := L0_spec_l10Places l) l (·.Place) (t := l.map (·.Place)) (by omega) (fun i hi => by
    unfold L0_spec_l10Places
    simp only [Int.ofNat_lt, hi, decide_true, if_true, idx_cast, List.getElem?_eq_getElem hi, Option.bind_some]
    rw [app_ok (by simp; omega)]
    simp) (by unfold L0_spec_l10Places; simp)
  rw [this]; rfl
def addSharesC (m : Int) (a b : List GShare) : List GShare × Int :=
  if !isFieldB m then ([], 1) else if codeC a = 1 ∨ codeC b = 1 then ([], 1) else if codeC a ≠ 0 ∨ codeC b ≠ 0 ∨ places a ≠ places b ∨ dataN a ≠ dataN b then ([], 2) else (addC a b, 0)
/-- What is known where the sums are made. -/
theorem add_ok {a b : List GShare} (ha : codeC a = 0) (hb : codeC b = 0) (hp : places a = places b) (hd : dataN a = dataN b) :
    a.length = b.length ∧ a.length ≤ 12 ∧ ∀ i (h1 : i < a.length) (h2 : i < b.length), a[i].Data.length = b[i].Data.length ∧ a[i].Data.length ≤ 100 := by
  have ga := good_of ha
  have gb := good_of hb
  refine ⟨by rw [← places_len a, hp, places_len], ga.len.2, fun i h1 h2 => ⟨?_, (ga.share _ (List.getElem_mem h1)).2⟩⟩
  have e1 := ga.at h1
  have e2 := gb.at h2
  unfold dataN at hd
  omega
theorem idx0 (l : List GShare) (h : 0 < l.length) : idx l (0 : Int) = some l[0] := by rw [idx_zero, List.getElem?_eq_getElem h]
theorem v_spec_AddShares (m : Int) (a b : List GShare) (ha : Wt.wt a ≤ 1048576) (hb : Wt.wt b ≤ 1048576) : F_spec_AddShares m a b = some (addSharesC m a b) := by
  have ha' := wt_len a
  have hb' := wt_len b
  unfold F_spec_AddShares addSharesC
  rw [v_l01Field]
  by_cases c0 : isFieldB m = true
  · simp only [c0, Option.bind_some, Bool.not_true, Bool.false_eq_true, if_false, v_l10Code a (by omega), v_l10Code b (by omega)]
    by_cases c1 : codeC a = 1 ∨ codeC b = 1
    · rcases c1 with c | c <;> simp [c]
    · have d1 : (codeC a == 1) = false := by simp; omega
      have d2 : (codeC b == 1) = false := by simp; omega
      simp only [c1, d1, d2, Bool.false_eq_true, if_false, Option.bind_some]
      by_cases c2 : codeC a = 0
      · by_cases c3 : codeC b = 0
        · have ga := good_of c2
          have gb := good_of c3
          have la := ga.len
          have lb := gb.len
          have da : a[0].Data.length = dataN a := ga.at (by omega)
          have db : b[0].Data.length = dataN b := gb.at (by omega)
          simp only [c2, c3, bne_self_eq_false, Bool.false_eq_true, if_false, v_l10Places a (by omega), v_l10Places b (by omega), Option.bind_some]
          rw [v_l01Alike _ _ (by rw [places_len]; omega)]
          by_cases c4 : places a = places b
          · have e4 : (places a == places b) = true := by simpa using c4
            simp only [e4, Option.bind_some, Bool.not_true, Bool.false_eq_true, if_false, idx0 a (by omega), idx0 b (by omega), da, db]
            by_cases c5 : dataN a = dataN b
            · obtain ⟨o1, o2, o3⟩ := add_ok c2 c3 c4 c5
              have : ((dataN a : Int) != (dataN b : Int)) = false := by simp [c5]
              rw [this, v_l10Add a b o1 o2 o3]
              simp [c4, c5]
            · have : ((dataN a : Int) != (dataN b : Int)) = true := by simp; omega
              rw [this]
              simp [c5]
          · have e4 : (places a == places b) = false := by simpa using c4
            simp [e4, c4]
        · have : (codeC b != 0) = true := by simpa using c3
          simp [c2, c3, this]
      · have : (codeC a != 0) = true := by simpa using c2
        simp [c2, this]
  · have c0 : isFieldB m = false := by simpa using c0
    simp [c0]
theorem bothC_one (m : Int) (l : List GShare) (h : isFieldB m = true) : bothC m l 1 = codeC l := by
  unfold bothC
  rw [h]
  simp
theorem v_impl_AddShares (m : Int) (a b : List GShare) (ha : Wt.wt a ≤ 1048576) (hb : Wt.wt b ≤ 1048576) : F_impl_AddShares m a b = some (addSharesC m a b) := by
  have ha' := wt_len a
  have hb' := wt_len b
  unfold F_impl_AddShares addSharesC
  rw [v_checkShares m a 1 (by omega), v_checkShares m b 1 (by omega)]
  simp only [Option.bind_some]
  by_cases c0 : isFieldB m = true
  · rw [bothC_one m a c0, bothC_one m b c0]
    simp only [c0, Bool.not_true, Bool.false_eq_true, if_false]
    by_cases c1 : codeC a = 1 ∨ codeC b = 1
    · rcases c1 with c | c <;> simp [c]
    · have d1 : (codeC a == 1) = false := by simp; omega
      have d2 : (codeC b == 1) = false := by simp; omega
      simp only [c1, d1, d2, Bool.false_eq_true, if_false, Option.bind_some]
      by_cases c2 : codeC a = 0
      · by_cases c3 : codeC b = 0
        · have ga := good_of c2
          have gb := good_of c3
          have la := ga.len
          have lb := gb.len
          have da : a[0].Data.length = dataN a := ga.at (by omega)
          have db : b[0].Data.length = dataN b := gb.at (by omega)
          have pa : F_impl_placesOf a = some (places a) := v_placesOf a (by omega)
          have pb : F_impl_placesOf b = some (places b) := v_placesOf b (by omega)
          simp only [c2, c3, bne_self_eq_false, Bool.false_eq_true, if_false, pa, pb, Option.bind_some, v_bytesEqual]
          by_cases c4 : places a = places b
          · have e4 : (places a == places b) = true := by simpa using c4
            simp only [e4, Option.bind_some, Bool.not_true, Bool.false_eq_true, if_false, idx0 a (by omega), idx0 b (by omega), da, db]
            by_cases c5 : dataN a = dataN b
            · obtain ⟨o1, o2, o3⟩ := add_ok c2 c3 c4 c5
              have : ((dataN a : Int) != (dataN b : Int)) = false := by simp [c5]
              rw [this, v_added a b o1 o2 o3]
              simp [c4, c5]
            · have : ((dataN a : Int) != (dataN b : Int)) = true := by simp; omega
              rw [this]
              simp [c5]
          · have e4 : (places a == places b) = false := by simpa using c4
            simp [e4, c4]
        · have : (codeC b != 0) = true := by simpa using c3
          simp [c2, c3, this]
      · have : (codeC a != 0) = true := by simpa using c2
        simp [c2, this]
  · have c0 : isFieldB m = false := by simpa using c0
    have e1 : ∀ l, bothC m l 1 = 1 := fun l => by unfold bothC; rw [c0]; rfl
    simp [c0, e1]
theorem addC_wt (a b : List GShare) : Wt.wt (addC a b) ≤ Wt.wt a := by
  unfold addC
  have key : ∀ (a b : List GShare), (List.zipWith addS a b).length + ((List.zipWith addS a b).map Wt.wt).sum ≤ a.length + (a.map Wt.wt).sum := by
    intro a
    induction a with
    | nil => intro b; simp
    | cons x a ih =>
      intro b
      cases b with
      | nil => simp
      | cons y b =>
        have := ih b
        have h2 : Wt.wt (addS x y) ≤ Wt.wt x := by
          have e1 : Wt.wt (addS x y) = Wt.wt (addS x y).Data := rfl
          have e2 : Wt.wt x = Wt.wt x.Data := rfl
          rw [e1, e2, wt_bytes, wt_bytes]
          simp [addS]
          omega
        simp only [List.zipWith_cons_cons, List.length_cons, List.map_cons, List.sum_cons]
        omega
  exact key a b
theorem addSharesC_wt (m : Int) (a b : List GShare) : Wt.wt (addSharesC m a b).1 ≤ Wt.wt a := by
  unfold addSharesC
  have h0 : Wt.wt ([] : List GShare) = 0 := rfl
  split
  · rw [h0]; omega
  · split
    · rw [h0]; omega
    · split
      · rw [h0]; omega
      · exact addC_wt a b
theorem law_FnExactAddShares (m : Int) (a b : List GShare) (_ : Dat.bd m) (h : Dat.bd a) (h' : Dat.bd b) : F_laws_FnExactAddShares m a b = some true := by
  unfold F_laws_FnExactAddShares
  refine weighed (v_szShareS a (Wt.bdln a h)) (by omega) (by omega) fun r r0 r1 hw => ?_
  refine weighed (v_szShareS b (Wt.bdln b h')) r0 r1 fun r' _ _ hw' => ?_
  have hw : Wt.wt a ≤ 1048576 := by omega
  have hw' : Wt.wt b ≤ 1048576 := by omega
  have hln := Wt.wtln a hw
  have hln' := Wt.wtln b hw'
  have hr := addSharesC_wt m a b
  have hrl := Wt.wtln (addSharesC m a b).1 (by omega)
  have k1 := mkShare_sum_le a
  have k2 := mkShare_sum_le b
  have k3 := mkShare_sum_le (addSharesC m a b).1
  obtain ⟨x', m1, _⟩ := v_markShareS a hln 1 (by omega) (by omega)
  obtain ⟨y', m2, _⟩ := v_markShareS b hln' (1 + ((a.map mkShare).sum : Nat)) (by omega) (by omega)
  obtain ⟨r', m3, m4⟩ := v_markShareS (addSharesC m a b).1 hrl 1 (by omega) (by omega)
  have e1 : ¬ ((1 : Int) + ((a.map mkShare).sum : Nat) + ((b.map mkShare).sum : Nat) < 0) := by omega
  have e2 : ¬ ((1 : Int) + (((addSharesC m a b).1.map mkShare).sum : Nat) < 0) := by omega
  simp [v_toShareS a hw, v_toShareS b hw', v_spec_AddShares m a b hw hw', v_impl_AddShares m a b hw hw', v_eqShareS a hln, v_eqShareS b hln', v_eqShareS _ hrl, m1, m2, m3, m4, e1, e2]
end Go.Proofs.Ytbonmndobipbnaa
