/- Plain laws, no program in sight. -/
import Derived.Test.YtifdeoikcebbjaaGreatC4
set_option linter.unusedVariables false
set_option linter.unusedSimpArgs false
set_option maxRecDepth 20000
set_option maxHeartbeats 400000
namespace Go.Proofs.YtifdeoikcebbjaaGreat
open Go
theorem idx_nat {α : Type} {l : List α} {i : Nat} (h : i < l.length) : idx l (i : Int) = some l[i] := by
  unfold idx
  rw [if_pos (by omega)]
  simp
theorem Xs {i : Nat} (h : i < 9223372036854775807) : wr ((i : Int) + 1) = ((i + 1 : Nat) : Int) := by
  rw [YG (by omega)]; rfl

section
variable {S T : Type} {f : S → Option (Fl S T)}
/-- Rounds that go on. -/
theorem iter_to (g : Nat → S) (m n : Nat) (hmn : m ≤ n) (h : ∀ i, m ≤ i → i < n → f (g i) = some (.nx (g (i + 1)))) : ZJ f (g m) = ZJ f (g n) := by
  induction n with
  | zero => have : m = 0 := by omega
            subst this; rfl
  | succ n ih =>
    rcases Nat.lt_or_ge m (n + 1) with h1 | h1
    · rw [ih (by omega) (fun i h2 h3 => h i h2 (by omega)), WP (h n (by omega) (by omega))]
    · have : m = n + 1 := by omega
      subst this; rfl
/-- A loop that runs to its end. -/
theorem Z3 (g : Nat → S) (m n : Nat) (hmn : m ≤ n) {t : T} (h : ∀ i, m ≤ i → i < n → f (g i) = some (.nx (g (i + 1)))) (he : f (g n) = some (.ex t)) : ZJ f (g m) = some t := by
  rw [iter_to g m n hmn h, Ww he]
/-- A loop that may leave early: at the first round of which p holds. -/
theorem iter_find (g : Nat → S) (p : Nat → Bool) (t : Nat → T) {e : T} (n : Nat) : ∀ (k m : Nat), m + k = n → (∀ i, m ≤ i → i < n → f (g i) = some (if p i then .ex (t i) else .nx (g (i + 1)))) → f (g n) = some (.ex e) →
    ZJ f (g m) = some (((List.range' m k).find? p).elim e t)
  | 0, m, hk, _, he => by
    have : m = n := by omega
    subst this
    rw [Ww he]; rfl
  | k + 1, m, hk, h, he => by
    have h1 := h m (Nat.le_refl _) (by omega)
    rw [List.range'_succ, List.find?_cons]
    cases hp : p m with
    | true => rw [hp] at h1; rw [Ww h1]; rfl
    | false =>
      rw [hp] at h1
      rw [WP h1, iter_find g p t n k (m + 1) (by omega) (fun i h2 h3 => h i (by omega) h3) he]
end

/-- A search through indices: it leaves with t where p holds of one of them. -/
theorem iter_any {T : Type} {f : Int → Option (Fl Int (Fl Unit T))} (p : Nat → Bool) {t : T} {n m : Nat} (hm : m ≤ n)
    (h : ∀ i, m ≤ i → i < n → f (i : Int) = some (if p i then .ex (.ex t) else .nx ((i + 1 : Nat) : Int))) (he : f (n : Int) = some (.ex (.nx ()))) :
    ZJ f (m : Int) = some (if (List.range' m (n - m)).any p then .ex t else .nx ()) := by
  rw [iter_find (fun i : Nat => (i : Int)) p (fun _ => .ex t) n (n - m) m (by omega) h he]
  cases hf : (List.range' m (n - m)).find? p with
  | none =>
    have : (List.range' m (n - m)).any p = false := by
      rw [List.any_eq_false]
      rw [List.find?_eq_none] at hf
      exact hf
    rw [this]; rfl
  | some i =>
    have : (List.range' m (n - m)).any p = true := by
      rw [List.any_eq_true]
      exact ⟨i, List.mem_of_find?_eq_some hf, List.find?_some hf⟩
    rw [this]; rfl
theorem any_range {p : Nat → Bool} {m n : Nat} : (List.range' m (n - m)).any p = true ↔ ∃ i, m ≤ i ∧ i < n ∧ p i = true := by
  rw [List.any_eq_true]
  simp only [List.mem_range'_1]
  constructor
  · rintro ⟨i, ⟨h1, h2⟩, h3⟩; exact ⟨i, h1, by omega, h3⟩
  · rintro ⟨i, h1, h2, h3⟩; exact ⟨i, ⟨h1, by omega⟩, h3⟩
/-- A search through the elements of a list. -/
theorem any_list {α : Type} {q : α → Bool} {l : List α} {p : Nat → Bool} (hp : ∀ i (h : i < l.length), p i = q l[i]) : (List.range' 0 (l.length - 0)).any p = l.any q := by
  rw [Bool.eq_iff_iff, any_range, List.any_eq_true]
  constructor
  · rintro ⟨i, _, h, h3⟩; exact ⟨l[i], List.getElem_mem h, by rw [← hp i h]; exact h3⟩
  · rintro ⟨x, hx, h⟩
    obtain ⟨i, hi, rfl⟩ := List.mem_iff_getElem.1 hx
    exact ⟨i, Nat.zero_le _, hi, by rw [hp i hi]; exact h⟩

/-- A search through a list, by a condition of its element. -/
theorem iter_anyL {T α : Type} {f : Int → Option (Fl Int (Fl Unit T))} (l : List α) (q : α → Bool) {t : T} (hl : l.length < 9223372036854775807)
    (h : ∀ i (hi : i < l.length), f (i : Int) = some (if q l[i] then .ex (.ex t) else .nx (wr ((i : Int) + 1)))) (he : f (l.length : Int) = some (.ex (.nx ()))) :
    ZJ f 0 = some (if l.any q then .ex t else .nx ()) := by
  have := iter_any (f := f) (fun i => if hi : i < l.length then q l[i] else false) (t := t) (n := l.length) (m := 0) (Nat.zero_le _) (fun i _ hi => by
    rw [h i hi, Xs (by omega)]; simp [hi]) he
  rw [any_list (q := q) (fun i hi => by simp [hi])] at this
  exact this

/-- How much data hold, beside what is of one size; that all lengths are numbers. -/
class Wt (α : Type) [Dat α] where
  wt : α → Nat
  ln : α → Prop
  bdln : ∀ x, Dat.bd x → ln x
  wtln : ∀ x, wt x ≤ 1048576 → ln x
instance : Wt Int := ⟨fun _ => 0, fun _ => True, fun _ _ => trivial, fun _ _ => trivial⟩
instance : Wt UInt8 := ⟨fun _ => 0, fun _ => True, fun _ _ => trivial, fun _ _ => trivial⟩
instance : Wt Bool := ⟨fun _ => 0, fun _ => True, fun _ _ => trivial, fun _ _ => trivial⟩
instance : Wt Str := ⟨fun s => s.l.length, fun s => s.l.length ≤ 9223372036854775807, fun _ h => h, fun _ h => by omega⟩
instance {n : Nat} : Wt (Vector UInt8 n) := ⟨fun _ => 0, fun _ => True, fun _ _ => trivial, fun _ _ => trivial⟩
instance {n m : Nat} : Wt (Vector (Vector UInt8 m) n) := ⟨fun _ => 0, fun _ => True, fun _ _ => trivial, fun _ _ => trivial⟩
theorem sum_mem {α : Type} {f : α → Nat} {l : List α} {x : α} (h : x ∈ l) : f x ≤ (l.map f).sum := by
  induction l with
  | nil => cases h
  | cons y l ih =>
    rw [List.map_cons, List.sum_cons]
    rcases List.mem_cons.1 h with rfl | h
    · omega
    · have := ih h; omega
instance {α : Type} [Dat α] [Wt α] : Wt (List α) := ⟨fun l => l.length + (l.map Wt.wt).sum, fun l => l.length ≤ 9223372036854775807 ∧ ∀ x ∈ l, Wt.ln x, fun _ h => ⟨h.1, fun x hx => Wt.bdln x (h.2 x hx)⟩,
  fun l h => ⟨by omega, fun x hx => Wt.wtln x (by have := sum_mem (f := Wt.wt) hx; omega)⟩⟩
instance {α β : Type} [Dat α] [Dat β] [Wt α] [Wt β] : Wt (α × β) := ⟨fun x => Wt.wt x.1 + Wt.wt x.2, fun x => Wt.ln x.1 ∧ Wt.ln x.2, fun x h => ⟨Wt.bdln x.1 h.1, Wt.bdln x.2 h.2⟩, fun x h => ⟨Wt.wtln x.1 (by omega), Wt.wtln x.2 (by omega)⟩⟩
theorem wt_list {α : Type} [Dat α] [Wt α] (l : List α) : Wt.wt l = l.length + (l.map Wt.wt).sum := rfl
theorem wt_mem {α : Type} [Dat α] [Wt α] {l : List α} {x : α} (h : x ∈ l) : Wt.wt x ≤ (l.map Wt.wt).sum := sum_mem h
theorem wt_memL {α : Type} [Dat α] [Wt α] {l : List α} {x : α} (h : x ∈ l) : Wt.wt x ≤ Wt.wt l := by
  have := wt_mem h; rw [wt_list]; omega
theorem wt_len {α : Type} [Dat α] [Wt α] (l : List α) : l.length ≤ Wt.wt l := by rw [wt_list]; omega
theorem Tc {α : Type} [Dat α] [Wt α] {l : List α} (h : Wt.ln l) : l.length ≤ 9223372036854775807 := h.1
theorem ln_mem {α : Type} [Dat α] [Wt α] {l : List α} {x : α} (h : Wt.ln l) (hx : x ∈ l) : Wt.ln x := h.2 x hx

theorem copy_loop {α β : Type} (p0 : List α) (c : α → Option β) (g : α → β) (by_ : Nat) (z : β) (L : List β × Int → Option (Fl (List β × Int) (List β)))
    (hL : ∀ s, L s = if (decide (s.2 < (p0.length : Int))) = true then ((idx p0 s.2).bind fun x => (c x).bind fun r => (idx s.1 s.2).bind fun _ => some (Fl.nx ((s.1.set (s.2).toNat r), wr (s.2 + 1)))) else (some (Fl.ex s.1)))
    (hc : ∀ x ∈ p0, c x = some (g x)) (hl : p0.length * by_ ≤ 140737488355328) (hl' : p0.length < 9223372036854775807) :
    ((mkS by_ z (p0.length : Int)).bind fun l1 => (ZJ L (l1, 0) : Option (List β)).bind fun j => some j) = some (p0.map g) := by
  have hm : mkS by_ z (p0.length : Int) = some (List.replicate p0.length z) := by
    have h3 : ((p0.length * by_ : Nat) : Int) ≤ ((140737488355328 : Nat) : Int) := Int.ofNat_le.2 hl
    rw [Int.natCast_mul] at h3
    unfold mkS
    rw [if_pos ⟨by omega, h3⟩, Int.toNat_natCast]
  rw [hm]
  simp only [Option.bind_some]
  have hrun := Z3 (f := L) (fun i : Nat => ((p0.take i).map g ++ List.replicate (p0.length - i) z, (i : Int))) 0 p0.length (Nat.zero_le _) (t := p0.map g) (fun i _ hi => by
    rw [hL]
    simp only [Int.ofNat_lt, hi, decide_true, if_true, idx_nat hi, Option.bind_some, hc _ (List.getElem_mem hi)]
    rw [idx_nat (by simp; omega)]
    simp only [Option.bind_some, Xs (show i < 9223372036854775807 by omega), Int.toNat_natCast]
    congr 3
    rw [List.set_append_right _ _ (by simp; omega)]
    have e1 : p0.length - i = (p0.length - (i + 1)) + 1 := by omega
    have e2 : i - ((p0.take i).map g).length = 0 := by simp; omega
    rw [e1, List.replicate_succ, e2, List.set_cons_zero]
    rw [List.take_succ_eq_append_getElem hi, List.map_append, List.append_assoc]
    rfl) (by
    rw [hL]
    simp)
  simp at hrun
  simp [hrun]

theorem eq_loop {α : Type} (p0 : List α) (ne : α → α → Option Bool) (L : Int → Option (Fl Int (Fl Unit Bool)))
    (hL : ∀ s, L s = if (decide (s < (p0.length : Int))) = true then (((idx p0 s).bind fun x => (idx p0 s).bind fun y => ne x y : Option Bool).bind fun j => if j = true then (some (Fl.ex (Fl.ex false))) else (some (Fl.nx (wr (s + 1))))) else (some (Fl.ex (Fl.nx ()))))
    (hn : ∀ x ∈ p0, ne x x = some false) (hl : p0.length ≤ 9223372036854775807) :
    (if ((p0.length : Int) != (p0.length : Int)) = true then (some false) else ((ZJ L 0 : Option (Fl Unit Bool)).bind fun j2 => j2.el (fun _ => some true) (fun r => some r))) = some true := by
  have := Z3 (f := L) (fun i : Nat => (i : Int)) 0 p0.length (Nat.zero_le _) (t := .nx ()) (fun i _ hi => by
    rw [hL]
    simp only [Int.ofNat_lt, hi, decide_true, if_true, idx_nat hi, Option.bind_some, hn _ (List.getElem_mem hi)]
    simp [Xs (show i < 9223372036854775807 by omega)]) (by
    rw [hL]; simp)
  have h2 : ZJ L 0 = some (.nx ()) := this
  simp [h2, Fl.el]

/-- Weighing: what is left, or less than nothing. -/
def US {α : Type} [Dat α] [Wt α] (f : α → Int → Option Int) (x : α) : Prop := ∀ left : Int, 0 ≤ left → left ≤ 1048576 → ∃ r, f x left = some r ∧ r ≤ 1048576 ∧ (0 ≤ r → r + Wt.wt x ≤ left)
theorem weigh_flat {α : Type} [Dat α] [Wt α] {l : List α} (h0 : ∀ x : α, Wt.wt x = 0) (f : List α → Int → Option Int)
    (hf : ∀ left, f l left = if (decide ((wr (left - (l.length : Int))) < 0)) = true then (some (-1)) else (some (wr (left - (l.length : Int))))) (hl : l.length ≤ 9223372036854775807) : US f l := by
  intro left h1 h2
  have hs : (l.map Wt.wt).sum = 0 := by
    clear hf hl
    induction l with
    | nil => rfl
    | cons x l ih => rw [List.map_cons, List.sum_cons, h0, ih]
  have hw : Wt.wt l = l.length := by rw [wt_list, hs]; rfl
  rw [hf, YG (by omega), hw]
  by_cases h : left - (l.length : Int) < 0
  · exact ⟨-1, by simp [h], by omega, by omega⟩
  · exact ⟨left - l.length, by simp [h], by omega, by omega⟩
theorem weigh_list {α : Type} [Dat α] [Wt α] {p0 : List α} (f : List α → Int → Option Int) (c : α → Int → Option Int) (L : Int × Int → Option (Fl (Int × Int) (Fl Int Int)))
    (hL : ∀ s, L s = if (decide (s.2 < (p0.length : Int))) = true then ((idx p0 s.2).bind fun x => (c x s.1).bind fun r => if (decide (r < 0)) = true then (some (Fl.ex (Fl.ex (-1)))) else (some (Fl.nx (r, wr (s.2 + 1))))) else (some (Fl.ex (Fl.nx s.1))))
    (hf : ∀ left, f p0 left = if (decide ((wr (left - (p0.length : Int))) < 0)) = true then (some (-1)) else ((ZJ L (wr (left - (p0.length : Int)), 0) : Option (Fl Int Int)).bind fun j2 => j2.el (fun s => some s) (fun r => some r)))
    (hl : p0.length ≤ 9223372036854775807) (hc : ∀ x ∈ p0, US c x) : US f p0 := by
  intro left h1 h2
  rw [hf, YG (by omega)]
  by_cases h : left - (p0.length : Int) < 0
  · exact ⟨-1, by simp [h], by omega, by omega⟩
  simp only [h, decide_false, Bool.false_eq_true, if_false]
  have key : ∀ (k m : Nat) (a : Int), m + k = p0.length → 0 ≤ a → a ≤ 1048576 → ∃ o : Fl Int Int, ZJ L (a, (m : Int)) = some o ∧ ((o = .ex (-1)) ∨ ∃ r, o = .nx r ∧ 0 ≤ r ∧ r + (((p0.drop m).map Wt.wt).sum : Nat) ≤ a) := by
    intro k
    induction k with
    | zero =>
      intro m a hm h0 h3
      have : m = p0.length := by omega
      subst this
      refine ⟨.nx a, ?_, .inr ⟨a, rfl, h0, ?_⟩⟩
      · rw [Ww (t := .nx a)]; rw [hL]; simp
      · simp
    | succ k ih =>
      intro m a hm h0 h3
      have hi : m < p0.length := by omega
      obtain ⟨r, e1, e2, e3⟩ := hc _ (List.getElem_mem hi) a h0 h3
      have hst : L (a, (m : Int)) = (if (decide (r < 0)) = true then (some (Fl.ex (Fl.ex (-1)))) else (some (Fl.nx (r, ((m + 1 : Nat) : Int))))) := by
        rw [hL]
        simp only [Int.ofNat_lt, hi, decide_true, if_true, idx_nat hi, Option.bind_some, e1, Xs (show m < 9223372036854775807 by omega)]
      by_cases hr : r < 0
      · simp only [hr, decide_true, if_true] at hst
        exact ⟨_, Ww hst, .inl rfl⟩
      · simp only [hr, decide_false, Bool.false_eq_true, if_false] at hst
        obtain ⟨o, k1, k2⟩ := ih (m + 1) r (by omega) (by omega) e2
        refine ⟨o, by rw [WP hst]; exact k1, k2.imp id ?_⟩
        rintro ⟨q, rfl, q1, q2⟩
        refine ⟨q, rfl, q1, ?_⟩
        have e3 := e3 (by omega)
        rw [List.drop_eq_getElem_cons hi, List.map_cons, List.sum_cons]
        omega
  obtain ⟨o, k1, k2⟩ := key p0.length 0 (left - p0.length) (by omega) (by omega) (by omega)
  have k1' : ZJ L (left - (p0.length : Int), 0) = some o := k1
  rw [k1']
  rcases k2 with rfl | ⟨r, rfl, q1, q2⟩
  · exact ⟨-1, rfl, by omega, by omega⟩
  · refine ⟨r, rfl, by omega, fun _ => ?_⟩
    rw [List.drop_zero] at q2
    rw [wt_list]; omega
@[simp] theorem X6 {α : Type} (l : List α) (i : Nat) : idx l (i : Int) = l[i]? := by unfold idx; simp
@[simp] theorem idx_zero {α : Type} (l : List α) : idx l (0 : Int) = l[0]? := X6 l 0
/-- A search from index m on: leaves with t at the first index of which p holds. -/
theorem iter_search {T : Type} {f : Int → Option (Fl Int (Fl Unit T))} (n : Nat) (p : Nat → Bool) (t : Nat → T) (hn : n < 9223372036854775807)
    (h : ∀ i, i < n → f (i : Int) = some (if p i then .ex (.ex (t i)) else .nx (wr ((i : Int) + 1)))) (he : f (n : Int) = some (.ex (.nx ()))) (m : Nat) (hm : m ≤ n) :
    ZJ f (m : Int) = some (match (List.range' m (n - m)).find? p with | some i => .ex (t i) | none => .nx ()) := by
  rw [iter_find (fun i : Nat => (i : Int)) p (fun i => .ex (t i)) n (n - m) m (by omega) (fun i _ hi => by rw [h i hi, Xs (by omega)]) he]
  cases (List.range' m (n - m)).find? p <;> rfl
/-- A search that answers one thing. -/
theorem iter_has {T : Type} {f : Int → Option (Fl Int (Fl Unit T))} (n : Nat) (p : Nat → Bool) (t : T) (hn : n < 9223372036854775807)
    (h : ∀ i, i < n → f (i : Int) = some (if p i then .ex (.ex t) else .nx (wr ((i : Int) + 1)))) (he : f (n : Int) = some (.ex (.nx ()))) (m : Nat) (hm : m ≤ n) :
    ZJ f (m : Int) = some (if (List.range' m (n - m)).any p then .ex t else .nx ()) :=
  iter_any p hm (fun i _ hi => by rw [h i hi, Xs (by omega)]) he
/-- A loop over the elements of a list that carries a value. -/
theorem iter_fold {α β S T : Type} {f : S → Option (Fl S T)} (l : List α) (pack : β → Int → S) (g : β → α → β) (b0 : β) {t : T} (hn : l.length < 9223372036854775807)
    (h : ∀ i (hi : i < l.length), f (pack ((l.take i).foldl g b0) (i : Int)) = some (.nx (pack (g ((l.take i).foldl g b0) l[i]) (wr ((i : Int) + 1))))) (he : f (pack (l.foldl g b0) (l.length : Int)) = some (.ex t)) :
    ZJ f (pack b0 0) = some t := by
  have := Z3 (f := f) (fun i : Nat => pack ((l.take i).foldl g b0) (i : Int)) 0 l.length (Nat.zero_le _) (t := t) (fun i _ hi => by
    rw [h i hi, Xs (by omega)]
    congr 3
    rw [List.take_succ_eq_append_getElem hi, List.foldl_append]; rfl) (by rw [List.take_length]; exact he)
  simpa using this
theorem foldl_map_app {α β : Type} (g : α → β) (l : List α) (acc : List β) : l.foldl (fun b x => b ++ [g x]) acc = acc ++ l.map g := by
  induction l generalizing acc with
  | nil => simp
  | cons x l ih => simp [ih]
/-- A loop that appends one value an element. -/
theorem iter_map {α β T : Type} {f : List β × Int → Option (Fl (List β × Int) T)} (l : List α) (g : α → β) {t : T} (hn : l.length < 9223372036854775807)
    (h : ∀ i (hi : i < l.length), f ((l.take i).map g, (i : Int)) = some (.nx ((l.take i).map g ++ [g l[i]], wr ((i : Int) + 1)))) (he : f (l.map g, (l.length : Int)) = some (.ex t)) :
    ZJ f ([], 0) = some t := by
  have e : ∀ m : List α, m.foldl (fun b x => b ++ [g x]) [] = m.map g := fun m => by rw [foldl_map_app]; rfl
  exact iter_fold (f := f) l (fun b i => (b, i)) (fun b x => b ++ [g x]) [] hn (fun i hi => by simp only [e]; exact h i hi) (by simp only [e]; exact he)
theorem Wi {α : Type} {by_ : Nat} {l m : List α} (h : (l.length + m.length) * by_ ≤ 140737488355328) : app by_ l m = some (l ++ m) := by unfold app; rw [if_pos h]
theorem slc_ok {α : Type} {l : List α} {i j : Nat} (h : i ≤ j) (h2 : j ≤ l.length) : slc l (i : Int) (j : Int) = some ((l.take j).drop i) := by
  unfold slc; rw [if_pos (by omega)]; simp

theorem vec_ext {α : Type} {n : Nat} {v w : Vector α n} (h : ∀ i (hi : i < n), v[i] = w[i]) : v = w := Vector.ext h
@[simp] theorem Vh {α : Type} {n : Nat} (v : Vector α n) (i : Nat) : ZK v (i : Int) = v[i]? := by unfold ZK; simp
theorem copy_arr {n : Nat} (p0 : Vector UInt8 n) (L : Vector UInt8 n × Int → Option (Fl (Vector UInt8 n × Int) (Vector UInt8 n)))
    (hL : ∀ s, L s = if decide (s.2 < (n : Int)) = true then ((ZK p0 s.2).bind fun x => (ZK s.1 s.2).bind fun _ => some (Fl.nx (s.1.setIfInBounds (s.2).toNat x, wr (s.2 + 1)))) else (some (Fl.ex s.1))) (hn : n < 9223372036854775807) (z : Vector UInt8 n) :
    ZJ L (z, 0) = some p0 := by
  have := Z3 (f := L) (fun i : Nat => (Vector.ofFn fun j : Fin n => if j.1 < i then p0[j] else z[j], (i : Int))) 0 n (Nat.zero_le _) (t := p0) (fun i _ hi => by
    rw [hL]
    simp only [Int.ofNat_lt, hi, decide_true, if_true, Vh, Vector.getElem?_eq_getElem hi, Option.bind_some, Int.toNat_natCast, Xs (show i < 9223372036854775807 by omega)]
    congr 3
    apply vec_ext
    intro j hj
    rw [Vector.getElem_setIfInBounds]
    simp only [Vector.getElem_ofFn, Fin.getElem_fin]
    by_cases h : i = j
    · subst h; simp
    · by_cases h2 : j < i
      · simp [h, h2, show j < i + 1 by omega]
      · simp [h, h2, show ¬ j < i + 1 by omega]) (by
    rw [hL]
    simp only [Int.ofNat_lt, Nat.lt_irrefl, decide_false, Bool.false_eq_true, if_false]
    congr 2
    apply vec_ext
    intro j hj
    simp [hj])
  have h0 : (Vector.ofFn fun j : Fin n => if j.1 < 0 then p0[j] else z[j]) = z := by
    apply vec_ext
    intro j hj
    simp
  rw [h0] at this
  exact this
theorem eq_arr {n : Nat} (p0 : Vector UInt8 n) (L : Int → Option (Fl Int (Fl Unit Bool)))
    (hL : ∀ s, L s = if decide (s < (n : Int)) = true then (((ZK p0 s).bind fun x => (ZK p0 s).bind fun y => some (x != y) : Option Bool).bind fun j => if j = true then (some (Fl.ex (Fl.ex false))) else (some (Fl.nx (wr (s + 1))))) else (some (Fl.ex (Fl.nx ())))) (hn : n < 9223372036854775807) :
    ((ZJ L 0 : Option (Fl Unit Bool)).bind fun j5 => j5.el (fun _ => some true) (fun r => some r)) = some true := by
  have := Z3 (f := L) (fun i : Nat => (i : Int)) 0 n (Nat.zero_le _) (t := .nx ()) (fun i _ hi => by
    rw [hL]
    simp only [Int.ofNat_lt, hi, decide_true, if_true, Vh, Vector.getElem?_eq_getElem hi, Option.bind_some]
    simp [Xs (show i < 9223372036854775807 by omega)]) (by rw [hL]; simp)
  have h2 : ZJ L 0 = some (.nx ()) := this
  rw [h2]; rfl

theorem v_toByteS (l : List UInt8) (h : Wt.wt l ≤ 1048576) : WU l = some l := by
  have := wt_len l
  unfold WU
  have := copy_loop l (fun x => some x) id 1 0 (UL l) (fun s => by unfold UL; rfl) (fun _ _ => rfl) (by omega) (by omega)
  simpa using this
theorem v_eqByteS (l : List UInt8) (h : Wt.ln l) : Vg l l = some true := by
  unfold Vg
  exact eq_loop l (fun x y => some (x != y)) (UK l l) (fun s => by unfold UK; rfl) (fun x _ => by simp) (Tc h)
theorem v_szByteS (l : List UInt8) (h : Wt.ln l) : US Xq l :=
  weigh_flat (fun _ => rfl) Xq (fun left => by unfold Xq; rfl) (Tc h)
instance : Wt GRecord := ⟨fun x => Wt.wt x.Label + Wt.wt x.Body, fun x => Wt.ln x.Label ∧ Wt.ln x.Body, fun x h => ⟨Wt.bdln x.Label h.2.2.2.1, Wt.bdln x.Body h.2.2.2.2.1⟩, fun x h => ⟨Wt.wtln x.Label (by omega), Wt.wtln x.Body (by omega)⟩⟩
instance : Wt GEvent := ⟨fun _ => 0, fun _ => True, fun _ _ => trivial, fun _ _ => trivial⟩
instance : Wt GVault := ⟨fun x => Wt.wt x.Keys + (Wt.wt x.Records + Wt.wt x.Events), fun x => Wt.ln x.Keys ∧ Wt.ln x.Records ∧ Wt.ln x.Events, fun x h => ⟨Wt.bdln x.Keys h.1, Wt.bdln x.Records h.2.2.1, Wt.bdln x.Events h.2.2.2.1⟩,
  fun x h => ⟨Wt.wtln x.Keys (by omega), Wt.wtln x.Records (by omega), Wt.wtln x.Events (by omega)⟩⟩
theorem v_toBlock (x : Vector UInt8 16) : Wa x = some x := by
  unfold Wa
  rw [copy_arr x (UO x) (fun s => by unfold UO; rfl) (by omega)]; rfl
theorem v_toDigest (x : Vector UInt8 32) : XJ x = some x := by
  unfold XJ
  rw [copy_arr x (Ut x) (fun s => by unfold Ut; rfl) (by omega)]; rfl
theorem v_eqBlock (x : Vector UInt8 16) : X0 x x = some true := by
  unfold X0
  exact eq_arr x (UJ x x) (fun s => by unfold UJ; rfl) (by omega)
theorem v_eqDigest (x : Vector UInt8 32) : Xa x x = some true := by
  unfold Xa
  exact eq_arr x (Us x x) (fun s => by unfold Us; rfl) (by omega)
theorem v_toBlockS (l : List (Vector UInt8 16)) (h : Wt.wt l ≤ 1048576) : VA l = some l := by
  have := wt_len l
  unfold VA
  have := copy_loop l Wa id 16 (Vector.replicate 16 0) (Uu l) (fun s => by unfold Uu; rfl) (fun x _ => v_toBlock x) (by omega) (by omega)
  simpa using this
theorem v_eqBlockS (l : List (Vector UInt8 16)) (h : Wt.ln l) : VB l l = some true := by
  unfold VB
  exact eq_loop l (fun x y => (X0 x y).bind fun r => some (!r)) (Ue l l) (fun s => by unfold Ue; rfl) (fun x _ => by simp [v_eqBlock x]) (Tc h)
theorem v_szBlockS (l : List (Vector UInt8 16)) (h : Wt.ln l) : US Wr l :=
  weigh_flat (fun _ => rfl) Wr (fun left => by unfold Wr; rfl) (Tc h)
theorem v_toRecord (x : GRecord) (h : Wt.wt x ≤ 1048576) : Ws x = some x := by
  have h : Wt.wt x.Label + Wt.wt x.Body ≤ 1048576 := h
  unfold Ws
  simp [v_toBlock, v_toDigest, v_toByteS x.Label (by omega), v_toByteS x.Body (by omega)]
theorem v_toRecordS (l : List GRecord) (h : Wt.wt l ≤ 1048576) : WY l = some l := by
  have := wt_len l
  unfold WY
  have := copy_loop l Ws id 112 ⟨0, 0, Vector.replicate 16 0, [], [], Vector.replicate 32 0⟩ (VW l) (fun s => by unfold VW; rfl) (fun x hx => v_toRecord x (Nat.le_trans (wt_memL hx) h)) (by omega) (by omega)
  simpa using this
theorem v_eqRecord (x : GRecord) (h : Wt.ln x) : Wv x x = some true := by
  unfold Wv
  simp [v_eqBlock, v_eqDigest, v_eqByteS x.Label h.1, v_eqByteS x.Body h.2]
theorem v_eqRecordS (l : List GRecord) (h : Wt.ln l) : Va l l = some true := by
  unfold Va
  exact eq_loop l (fun x y => (Wv x y).bind fun r => some (!r)) (VT l l) (fun s => by unfold VT; rfl) (fun x hx => by simp [v_eqRecord x (ln_mem h hx)]) (Tc h)
/-- Two weighings, one after the other. -/
theorem weigh_then {α β : Type} [Dat α] [Wt α] [Dat β] [Wt β] {f : α → Int → Option Int} {g : β → Int → Option Int} {x : α} {y : β} (hf : US f x) (hg : US g y) (left : Int) (h1 : 0 ≤ left) (h2 : left ≤ 1048576) :
    ∃ r, ((f x left).bind fun r => if decide (r < 0) = true then some (-1) else g y r) = some r ∧ r ≤ 1048576 ∧ (0 ≤ r → r + (Wt.wt x + Wt.wt y : Nat) ≤ left) := by
  obtain ⟨r, e1, e2, e3⟩ := hf left h1 h2
  rw [e1]
  by_cases hr : r < 0
  · exact ⟨-1, by simp [hr], by omega, by omega⟩
  · have e3 := e3 (by omega)
    obtain ⟨q, k1, k2, k3⟩ := hg r (by omega) e2
    refine ⟨q, by simp [hr, k1], k2, fun hq => ?_⟩
    have := k3 hq
    omega
theorem weigh_end {f : Option Int} {left w : Int} (h : ∃ r, f = some r ∧ r ≤ 1048576 ∧ (0 ≤ r → r + w ≤ left)) : ∃ r, (f.bind fun r => if decide (r < 0) = true then some (-1) else some r) = some r ∧ r ≤ 1048576 ∧ (0 ≤ r → r + w ≤ left) := by
  obtain ⟨r, e1, e2, e3⟩ := h
  by_cases hr : r < 0
  · exact ⟨-1, by simp [e1, hr], by omega, by omega⟩
  · exact ⟨r, by simp [e1, hr], e2, e3⟩
theorem v_szRecord (x : GRecord) (h : Wt.ln x) : US VG x := by
  intro left h1 h2
  have h3 : US (fun (y : List UInt8) r => (Xq y r).bind fun r => if decide (r < 0) = true then some (-1) else some r) x.Body := fun left h1 h2 => weigh_end (v_szByteS x.Body h.2 left h1 h2)
  have := weigh_then (v_szByteS x.Label h.1) h3 left h1 h2
  exact this
theorem v_szRecordS (l : List GRecord) (h : Wt.ln l) : US Xh l :=
  weigh_list Xh VG (VS l) (fun s => by unfold VS; rfl) (fun left => by unfold Xh; rfl) (Tc h) (fun x hx => v_szRecord x (ln_mem h hx))
theorem v_toEvent (x : GEvent) : Vb x = some x := by
  unfold Vb
  simp [v_toDigest]
theorem v_toEventS (l : List GEvent) (h : Wt.wt l ≤ 1048576) : VK l = some l := by
  have := wt_len l
  unfold VK
  have := copy_loop l Vb id 48 ⟨0, 0, Vector.replicate 32 0⟩ (Up l) (fun s => by unfold Up; rfl) (fun x _ => v_toEvent x) (by omega) (by omega)
  simpa using this
theorem v_eqEvent (x : GEvent) : W7 x x = some true := by
  unfold W7
  simp [v_eqDigest]
theorem v_eqEventS (l : List GEvent) (h : Wt.ln l) : VH l l = some true := by
  unfold VH
  exact eq_loop l (fun x y => (W7 x y).bind fun r => some (!r)) (Um l l) (fun s => by unfold Um; rfl) (fun x _ => by simp [v_eqEvent x]) (Tc h)
theorem v_szEventS (l : List GEvent) (h : Wt.ln l) : US Y9 l :=
  weigh_flat (fun _ => rfl) Y9 (fun left => by unfold Y9; rfl) (Tc h)
theorem wt_vault (x : GVault) : Wt.wt x = Wt.wt x.Keys + (Wt.wt x.Records + Wt.wt x.Events) := rfl
theorem v_toVault (x : GVault) (h : Wt.wt x ≤ 1048576) : Wc x = some x := by
  rw [wt_vault] at h
  unfold Wc
  simp [v_toDigest, v_toBlockS x.Keys (by omega), v_toRecordS x.Records (by omega), v_toEventS x.Events (by omega)]
theorem v_eqVault (x : GVault) (h : Wt.ln x) : Ub x x = some true := by
  unfold Ub
  simp [v_eqDigest, v_eqBlockS x.Keys h.1, v_eqRecordS x.Records h.2.1, v_eqEventS x.Events h.2.2]
theorem v_szVault (x : GVault) (h : Wt.ln x) : US U0 x := by
  intro left h1 h2
  have h3 : US (fun (y : List GEvent) r => (Y9 y r).bind fun r => if decide (r < 0) = true then some (-1) else some r) x.Events := fun left h1 h2 => weigh_end (v_szEventS x.Events h.2.2 left h1 h2)
  have h4 : US (α := List GRecord × List GEvent) (fun y r => (Xh y.1 r).bind fun r => if decide (r < 0) = true then some (-1) else (Y9 y.2 r).bind fun r => if decide (r < 0) = true then some (-1) else some r) (x.Records, x.Events) := fun left h1 h2 => weigh_then (v_szRecordS x.Records h.2.1) h3 left h1 h2
  exact weigh_then (v_szBlockS x.Keys h.1) h4 left h1 h2
theorem v_inRange (n a b : Int) : YL n a b = some (decide (a ≤ n ∧ n ≤ b)) := by
  unfold YL
  by_cases h1 : a ≤ n <;> by_cases h2 : n ≤ b <;> simp [h1, h2]
theorem v_l01In (n a b : Int) : WB n a b = some (decide (a ≤ n ∧ n ≤ b)) := by
  unfold WB
  by_cases h1 : a ≤ n <;> by_cases h2 : n ≤ b <;> simp [h1, h2]
/-- A search by a function that answers. -/
theorem find_of {α : Type} (l : List α) (p : α → Option Bool) (q : α → Bool) (L : Int → Option (Fl Int (Fl Unit Int)))
    (hL : ∀ s, L s = if (decide (s < (l.length : Int))) = true then ((idx l s).bind fun x => ((p x)).bind fun r => if r = true then (some (Fl.ex (Fl.ex s))) else (some (Fl.nx (wr (s + 1))))) else (some (Fl.ex (Fl.nx ()))))
    (hl : l.length < 9223372036854775807) (hp : ∀ x ∈ l, p x = some (q x)) :
    ((ZJ L 0 : Option (Fl Unit Int)).bind fun j1 => j1.el (fun _ => some (-1)) (fun r => some r)) = some (match l.findIdx? q with | some i => (i : Int) | none => -1) := by
  have h := iter_search (f := L) l.length (fun i => (l[i]?.map q).getD false) (fun i => (i : Int)) hl (fun i hi => by
    rw [hL]
    simp only [Int.ofNat_lt, hi, decide_true, if_true, X6, List.getElem?_eq_getElem hi, Option.bind_some, Option.map_some, Option.getD_some, hp _ (List.getElem_mem hi)]
    split <;> rfl) (by rw [hL]; simp) 0 (Nat.zero_le _)
  have h3 : ZJ L 0 = _ := h
  rw [h3]
  have key : (List.range' 0 (l.length - 0)).find? (fun i => (l[i]?.map q).getD false) = l.findIdx? q := by
    rw [Nat.sub_zero, ← List.range_eq_range']
    clear h h3 hL hp hl
    induction l with
    | nil => rfl
    | cons x l ih =>
      rw [List.length_cons, List.range_succ_eq_map, List.find?_cons, List.findIdx?_cons]
      simp only [List.getElem?_cons_zero, Option.map_some, Option.getD_some]
      cases q x with
      | true => rfl
      | false =>
        simp only [Bool.false_eq_true, if_false]
        rw [List.find?_map, ← ih]
        congr 1
  rw [key]
  cases l.findIdx? q <;> rfl
theorem has_of {α : Type} (l : List α) (q : α → Bool) : decide ((match l.findIdx? q with | some i => (i : Int) | none => -1) ≥ 0) = l.any q := by
  rw [Bool.eq_iff_iff, decide_eq_true_eq]
  cases h : l.findIdx? q with
  | none =>
    have := List.findIdx?_eq_none_iff.1 h
    simp
    exact this
  | some i =>
    have h2 := List.findIdx?_eq_some_iff_getElem.1 h
    obtain ⟨hi, hq, _⟩ := h2
    simp
    exact ⟨_, List.getElem_mem hi, hq⟩
/-- An event. -/
def V0 (e : GEvent) : Bool := decide ((1 ≤ e.Kind ∧ e.Kind ≤ 4) ∧ (0 ≤ e.Number ∧ e.Number ≤ 1000000))
theorem v_l12Event (e : GEvent) : VL e = some (V0 e) := by
  unfold VL V0
  simp only [v_l01In, Option.bind_some]
  by_cases h1 : (1 ≤ e.Kind ∧ e.Kind ≤ 4) <;> by_cases h2 : (0 ≤ e.Number ∧ e.Number ≤ 1000000) <;> simp [h1, h2]
theorem v_isEvent (e : GEvent) : V9 e = some (V0 e) := by
  unfold V9 V0 UN
  simp only [v_inRange, Option.bind_some]
  by_cases h1 : (1 ≤ e.Kind ∧ e.Kind ≤ 4) <;> by_cases h2 : (0 ≤ e.Number ∧ e.Number ≤ 1000000) <;> simp [h1, h2]
theorem v_ContainsEvent (l : List GEvent) (p : GEvent → Option Bool) (q : GEvent → Bool) (hl : l.length < 9223372036854775807) (hp : ∀ x ∈ l, p x = some (q x)) : ZU l p = some (l.any q) := by
  unfold ZU Yc
  rw [find_of l p q _ (fun s => by unfold Yr; rfl) hl hp]
  simp only [Option.bind_some, has_of]
/-- The number before. -/
def prevN (l : List GRecord) : Nat → Int
  | 0 => 0
  | i + 1 => (l[i]?.map (·.Number)).getD 0
/-- What is wrong with a record, beside its number. -/
def badRec (v : GVault) (r : GRecord) : Bool := !decide ((0 : Int) ≤ r.Version ∧ r.Version ≤ (v.Keys.length : Int) - 1) || decide (32 < r.Label.length) || decide (200 < r.Body.length)
def badS (v : GVault) (i : Nat) : Bool := match v.Records[i]? with
  | some r => decide (r.Number ≤ prevN v.Records i) || decide (r.Number ≥ v.Next) || badRec v r
  | none => false
def badI (v : GVault) (i : Nat) : Bool := match v.Records[i]? with
  | some r => !decide (1 ≤ r.Number ∧ r.Number ≤ v.Next - 1) || (decide (0 < i) && decide (prevN v.Records i ≥ r.Number)) || badRec v r
  | none => false
def headB (v : GVault) : Bool := decide (1 ≤ v.Keys.length ∧ v.Keys.length ≤ 8 ∧ 1 ≤ v.Next ∧ v.Next ≤ 1000000 ∧ v.Records.length ≤ 12 ∧ v.Events.length ≤ 60)
def X9 (v : GVault) : Bool := headB v && !((List.range' 0 (v.Records.length - 0)).any (badS v)) && v.Events.all V0
theorem bad_same (v : GVault) : (List.range' 0 (v.Records.length - 0)).any (badI v) = (List.range' 0 (v.Records.length - 0)).any (badS v) := by
  have h : ∀ b c : Bool, (b = false ↔ c = false) → b = c := by intro b c; cases b <;> cases c <;> simp
  apply h
  rw [List.any_eq_false, List.any_eq_false]
  simp only [List.mem_range'_1, Nat.zero_le, true_and, Nat.sub_zero, Nat.zero_add, Bool.not_eq_true]
  constructor
  · intro hI i hi
    have h1 := hI i hi
    unfold badI badS at *
    rw [List.getElem?_eq_getElem hi] at h1 ⊢
    simp only [Bool.or_eq_false_iff, Bool.not_eq_false', decide_eq_true_eq, Bool.and_eq_false_iff, decide_eq_false_iff_not] at h1 ⊢
    refine ⟨⟨?_, by omega⟩, h1.2⟩
    cases i with
    | zero => simp only [prevN]; omega
    | succ i =>
      rcases h1.1.2 with h2 | h2
      · omega
      · omega
  · intro hS
    have pos : ∀ i, i < v.Records.length → 0 ≤ prevN v.Records i ∧ prevN v.Records i < (v.Records[i]?.map (·.Number)).getD 0 := by
      intro i
      induction i with
      | zero =>
        intro hi
        have h1 := hS 0 hi
        unfold badS at h1
        rw [List.getElem?_eq_getElem hi] at h1 ⊢
        simp only [Bool.or_eq_false_iff, decide_eq_false_iff_not, Option.map_some, Option.getD_some] at h1 ⊢
        have e : prevN v.Records 0 = 0 := rfl
        have h2 := h1.1.1
        rw [e] at h2 ⊢
        omega
      | succ i ih =>
        intro hi
        have h0 := ih (by omega)
        have h1 := hS (i + 1) hi
        unfold badS at h1
        have e : prevN v.Records (i + 1) = (v.Records[i]?.map (·.Number)).getD 0 := rfl
        rw [List.getElem?_eq_getElem hi] at h1 ⊢
        simp only [Bool.or_eq_false_iff, decide_eq_false_iff_not, Option.map_some, Option.getD_some] at h1 ⊢
        rw [e] at h1 ⊢
        omega
    intro i hi
    have h1 := hS i hi
    have h2 := pos i hi
    unfold badI badS at *
    rw [List.getElem?_eq_getElem hi] at h1 h2 ⊢
    simp only [Bool.or_eq_false_iff, Bool.not_eq_false', decide_eq_true_eq, Bool.and_eq_false_iff, decide_eq_false_iff_not, Option.map_some, Option.getD_some] at h1 h2 ⊢
    exact ⟨⟨by omega, .inr (by omega)⟩, h1.2⟩
theorem v_l12Is (v : GVault) (hb : Wt.ln v) : U9 v = some (X9 v) := by
  have hb1 := Tc hb.1; have hb2 := Tc hb.2.1; have hb3 := Tc hb.2.2
  unfold U9
  simp only [v_l01In, Option.bind_some]
  by_cases hh : headB v = true
  · have hh' : 1 ≤ v.Keys.length ∧ v.Keys.length ≤ 8 ∧ 1 ≤ v.Next ∧ v.Next ≤ 1000000 ∧ v.Records.length ≤ 12 ∧ v.Events.length ≤ 60 := by simpa [headB] using hh
    have c1 : ¬ ((v.Keys.length : Int) < 1) := by omega
    have c2 : ¬ ((v.Keys.length : Int) > 8) := by omega
    have c3 : 1 ≤ v.Next ∧ v.Next ≤ 1000000 := by omega
    have c4 : ¬ ((v.Records.length : Int) > 12) := by omega
    have c5 : ¬ ((v.Events.length : Int) > 60) := by omega
    simp only [c1, c2, c3, c4, c5, decide_false, decide_true, and_self, Bool.not_true, Bool.false_eq_true, if_false, Option.bind_some]
    have hw : wr ((v.Keys.length : Int) - 1) = (v.Keys.length : Int) - 1 := YG (by omega)
    have h1 := iter_find (f := VO v) (fun i : Nat => (prevN v.Records i, (i : Int))) (badS v) (fun _ => (.ex false : Fl Unit Bool)) (e := .nx ()) v.Records.length v.Records.length 0 (by omega) (fun i _ hi => by
      unfold VO badS
      simp only [Int.ofNat_lt, hi, decide_true, if_true, X6, List.getElem?_eq_getElem hi, Option.bind_some, v_l01In, hw, Xs (show i < 9223372036854775807 by omega)]
      have e : prevN v.Records (i + 1) = v.Records[i].Number := by simp [prevN, List.getElem?_eq_getElem hi]
      rw [e]
      unfold badRec
      by_cases d1 : v.Records[i].Number ≤ prevN v.Records i
      · simp [d1]
      · by_cases d2 : v.Records[i].Number ≥ v.Next
        · simp [d1, d2]
        · by_cases d3 : (0 : Int) ≤ v.Records[i].Version ∧ v.Records[i].Version ≤ (v.Keys.length : Int) - 1
          · by_cases d4 : 32 < v.Records[i].Label.length
            · have d4' : (v.Records[i].Label.length : Int) > 32 := by omega
              simp [d1, d2, d3, d4, d4']
            · have d4' : ¬ ((v.Records[i].Label.length : Int) > 32) := by omega
              by_cases d5 : 200 < v.Records[i].Body.length
              · have d5' : (v.Records[i].Body.length : Int) > 200 := by omega
                simp [d1, d2, d3, d4, d4', d5, d5']
              · have d5' : ¬ ((v.Records[i].Body.length : Int) > 200) := by omega
                simp [d1, d2, d3, d4, d4', d5, d5']
          · simp [d1, d2, d3]) (by unfold VO; simp)
    have h2 : ZJ (VO v) (0, 0) = _ := h1
    rw [h2]
    have h3 := iter_anyL (f := UC v) v.Events (fun e => !V0 e) (t := false) (by omega) (fun i hi => by
      unfold UC
      simp only [Int.ofNat_lt, hi, decide_true, if_true, X6, List.getElem?_eq_getElem hi, Option.bind_some, v_l12Event]
      cases V0 v.Events[i] <;> simp) (by unfold UC; simp)
    rw [h3]
    unfold X9
    rw [hh, Nat.sub_zero]
    cases hf : (List.range' 0 v.Records.length).find? (badS v) with
    | none =>
      have : (List.range' 0 v.Records.length).any (badS v) = false := by
        rw [List.any_eq_false]; exact List.find?_eq_none.1 hf
      rw [this, List.any_eq_not_all_not]
      simp only [Bool.not_not]
      cases v.Events.all V0 <;> rfl
    | some i =>
      have : (List.range' 0 v.Records.length).any (badS v) = true := by
        rw [List.any_eq_true]; exact ⟨i, List.mem_of_find?_eq_some hf, List.find?_some hf⟩
      rw [this]; rfl
  · have hf : headB v = false := by simpa using hh
    unfold X9
    rw [hf]
    have hh' : ¬ (1 ≤ v.Keys.length ∧ v.Keys.length ≤ 8 ∧ 1 ≤ v.Next ∧ v.Next ≤ 1000000 ∧ v.Records.length ≤ 12 ∧ v.Events.length ≤ 60) := by simpa [headB] using hf
    by_cases c1 : ((v.Keys.length : Int) < 1)
    · simp [c1]
    · by_cases c2 : ((v.Keys.length : Int) > 8)
      · simp [c1, c2]
      · by_cases c3 : 1 ≤ v.Next ∧ v.Next ≤ 1000000
        · by_cases c4 : ((v.Records.length : Int) > 12)
          · simp [c1, c2, c3, c4]
          · have c5 : ((v.Events.length : Int) > 60) := by omega
            simp [c1, c2, c3, c4, c5]
        · simp [c1, c2, c3]
theorem v_impl_IsVault (v : GVault) (hb : Wt.ln v) : VZ v = some (X9 v) := by
  have hb1 := Tc hb.1; have hb2 := Tc hb.2.1; have hb3 := Tc hb.2.2
  unfold VZ Ys
  simp only [v_inRange, Option.bind_some]
  by_cases hh : headB v = true
  · have hh' : 1 ≤ v.Keys.length ∧ v.Keys.length ≤ 8 ∧ 1 ≤ v.Next ∧ v.Next ≤ 1000000 ∧ v.Records.length ≤ 12 ∧ v.Events.length ≤ 60 := by simpa [headB] using hh
    have c1 : (1 : Int) ≤ v.Keys.length ∧ (v.Keys.length : Int) ≤ 8 := by omega
    have c3 : 1 ≤ v.Next ∧ v.Next ≤ 1000000 := by omega
    have c4 : ¬ ((v.Records.length : Int) > 12) := by omega
    have c5 : ¬ ((v.Events.length : Int) > 60) := by omega
    simp only [c1, c3, c4, c5, decide_false, decide_true, and_self, Bool.not_true, Bool.false_eq_true, if_false, Option.bind_some]
    have hw : wr ((v.Keys.length : Int) - 1) = (v.Keys.length : Int) - 1 := YG (by omega)
    have hw2 : wr (v.Next - 1) = v.Next - 1 := YG (by omega)
    have h1 := iter_has (f := Wu v) v.Records.length (badI v) false (by omega) (fun i hi => by
      unfold Wu badI Ys
      simp only [Int.ofNat_lt, hi, decide_true, if_true, X6, List.getElem?_eq_getElem hi, Option.bind_some, v_inRange, hw, hw2]
      unfold badRec
      by_cases d1 : 1 ≤ v.Records[i].Number ∧ v.Records[i].Number ≤ v.Next - 1
      · have key : (if decide ((i : Int) > 0) = true then (idx v.Records (wr ((i : Int) - 1))).bind fun x => some (decide (x.Number ≥ v.Records[i].Number)) else some false) = some (decide (0 < i) && decide (prevN v.Records i ≥ v.Records[i].Number)) := by
          cases i with
          | zero => simp
          | succ i =>
            have e1 : wr (((i + 1 : Nat) : Int) - 1) = (i : Int) := by rw [YG (by omega)]; omega
            have hi' : i < v.Records.length := by omega
            have e2 : prevN v.Records (i + 1) = v.Records[i].Number := by simp [prevN, List.getElem?_eq_getElem hi']
            have e3 : ((i + 1 : Nat) : Int) > 0 := by omega
            simp only [e1, e2, e3, decide_true, if_true, X6, List.getElem?_eq_getElem hi', Option.bind_some]
            simp
        simp only [d1, decide_true, and_self, Bool.not_true, Bool.false_eq_true, if_false, key, Option.bind_some, Bool.false_or]
        by_cases d2 : (decide (0 < i) && decide (prevN v.Records i ≥ v.Records[i].Number)) = true
        · simp [d2]
        · have d2 : (decide (0 < i) && decide (prevN v.Records i ≥ v.Records[i].Number)) = false := by simpa using d2
          rw [d2]
          by_cases d3 : (0 : Int) ≤ v.Records[i].Version ∧ v.Records[i].Version ≤ (v.Keys.length : Int) - 1
          · by_cases d4 : 32 < v.Records[i].Label.length
            · have d4' : (v.Records[i].Label.length : Int) > 32 := by omega
              simp [d3, d4, d4']
            · have d4' : ¬ ((v.Records[i].Label.length : Int) > 32) := by omega
              by_cases d5 : 200 < v.Records[i].Body.length
              · have d5' : (v.Records[i].Body.length : Int) > 200 := by omega
                simp [d3, d4, d4', d5, d5']
              · have d5' : ¬ ((v.Records[i].Body.length : Int) > 200) := by omega
                simp [d3, d4, d4', d5, d5']
          · simp [d3]
      · simp [d1]) (by unfold Wu; simp) 0 (Nat.zero_le _)
    have h2 : ZJ (Wu v) 0 = _ := h1
    rw [h2, bad_same, v_ContainsEvent v.Events _ (fun e => !V0 e) (by omega) (fun x _ => by unfold Vf; rw [v_isEvent]; rfl)]
    have ha : (v.Events.any fun e => !V0 e) = !(v.Events.all V0) := by rw [List.any_eq_not_all_not]; simp
    unfold X9
    rw [hh, ha]
    generalize (List.range' 0 (v.Records.length - 0)).any (badS v) = z
    cases z <;> simp [Fl.el]
  · have hf : headB v = false := by simpa using hh
    unfold X9
    rw [hf]
    have hh' : ¬ (1 ≤ v.Keys.length ∧ v.Keys.length ≤ 8 ∧ 1 ≤ v.Next ∧ v.Next ≤ 1000000 ∧ v.Records.length ≤ 12 ∧ v.Events.length ≤ 60) := by simpa [headB] using hf
    by_cases c1 : (1 : Int) ≤ v.Keys.length ∧ (v.Keys.length : Int) ≤ 8
    · by_cases c3 : 1 ≤ v.Next ∧ v.Next ≤ 1000000
      · by_cases c4 : ((v.Records.length : Int) > 12)
        · simp [c1, c3, c4]
        · have c5 : ((v.Events.length : Int) > 60) := by omega
          simp [c1, c3, c4, c5]
      · simp [c1, c3]
    · simp [c1]
/-- After the weighing: too much, or all lengths are small. -/
theorem weighed {α : Type} [Dat α] [Wt α] {f : α → Int → Option Int} {x : α} {left : Int} {G : Int → Option Bool} (hf : US f x) (h1 : 0 ≤ left) (h2 : left ≤ 1048576) (hG : ∀ r, 0 ≤ r → r ≤ 1048576 → r + (Wt.wt x : Nat) ≤ left → G r = some true) :
    ((f x left).bind fun r => if decide (r < 0) = true then some true else G r) = some true := by
  obtain ⟨r, e1, e2, e3⟩ := hf left h1 h2
  rw [e1]
  by_cases hr : r < 0
  · simp [hr]
  · have := hG r (by omega) e2 (e3 (by omega))
    simp [hr, this]
theorem vault_small {v : GVault} (h : X9 v = true) : 1 ≤ v.Keys.length ∧ v.Keys.length ≤ 8 ∧ 1 ≤ v.Next ∧ v.Next ≤ 1000000 ∧ v.Records.length ≤ 12 ∧ v.Events.length ≤ 60 := by
  unfold X9 headB at h
  simp only [Bool.and_eq_true, decide_eq_true_eq] at h
  exact h.1.1
theorem bv_nat (a : Nat) (h : a < 9223372036854775808) : (BitVec.ofInt 64 (a : Int)).toNat = a := by
  rw [BitVec.toNat_ofInt]
  omega
theorem xorI_nat (a b : Nat) (ha : a < 9223372036854775808) (hb : b < 9223372036854775808) : U4 (a : Int) (b : Int) = ((a ^^^ b : Nat) : Int) := by
  unfold U4
  rw [BitVec.toNat_xor, bv_nat a ha, bv_nat b hb]
  have : a ^^^ b < 2 ^ 63 := Nat.xor_lt_two_pow ha hb
  exact YG (by omega)
theorem andI_nat (a b : Nat) (ha : a < 9223372036854775808) (hb : b < 9223372036854775808) : andI (a : Int) (b : Int) = ((a &&& b : Nat) : Int) := by
  unfold andI
  rw [BitVec.toNat_and, bv_nat a ha, bv_nat b hb]
  have : a &&& b < 2 ^ 63 := Nat.and_lt_two_pow _ hb
  exact YG (by omega)
theorem shlI_nat (a i : Nat) (hi : i ≤ 63) (h : a <<< i < 9223372036854775808) : shlI (a : Int) (i : Int) = ((a <<< i : Nat) : Int) := by
  unfold shlI
  rw [show min ((i : Int)).toNat 64 = i by omega]
  have : ((a : Int) * 2 ^ i) = ((a <<< i : Nat) : Int) := by rw [Nat.shiftLeft_eq]; simp
  rw [this]
  generalize a <<< i = x at h ⊢
  exact YG (by omega)
theorem shrI_nat (a i : Nat) (hi : i ≤ 63) : Ux (a : Int) (i : Int) = ((a >>> i : Nat) : Int) := by
  unfold Ux
  rw [show min ((i : Int)).toNat 64 = i by omega, Nat.shiftRight_eq_div_pow, Int.fdiv_eq_ediv_of_nonneg _ (by exact_mod_cast Nat.zero_le _)]
  simp
theorem bit_and (a i : Nat) : ((a >>> i) &&& 1 = 1) ↔ a.testBit i = true := by
  rw [Nat.testBit, Nat.and_comm]
  have h := Nat.and_one_is_mod (a >>> i)
  rw [Nat.and_comm] at h
  rw [h]
  rcases Nat.mod_two_eq_zero_or_one (a >>> i) with h | h <;> simp [h]
theorem tmod2 (a : Nat) : Int.tmod (a : Int) 2 = ((a % 2 : Nat) : Int) := by
  rw [Int.tmod_eq_emod_of_nonneg (by omega)]; simp
theorem tdiv2 (a : Nat) : Int.tdiv (a : Int) 2 = ((a / 2 : Nat) : Int) := by
  rw [Int.tdiv_eq_ediv_of_nonneg (by omega)]; simp
theorem wr_nn (a : Nat) (h : a < 9223372036854775808) : wr (a : Int) = (a : Int) := YG (by omega)
theorem wru_nn (a : Nat) (h : a < 9223372036854775808) : IntKind.u64.wrap (a : Int) = (a : Int) := by
  simp only [IntKind.wrap, IntKind.bits, IntKind.signed]
  simp
  omega

/-- The remainder, bit by bit from the top: k bits are looked at. -/
def Yx (m deg : Nat) : Nat → Nat → Nat
  | 0, a => a
  | k + 1, a => Yx m deg k (if a.testBit (deg + k) then a ^^^ (m <<< k) else a)
theorem shl_lt {m k n : Nat} (h : m < 2 ^ n) : m <<< k < 2 ^ (n + k) := by
  rw [Nat.shiftLeft_eq, Nat.pow_add]
  exact Nat.mul_lt_mul_of_pos_right h (Nat.two_pow_pos _)
theorem lt_of_bit {a n : Nat} (h : a < 2 ^ (n + 1)) (hb : a.testBit n = false) : a < 2 ^ n := by
  apply Nat.lt_pow_two_of_testBit
  intro i hi
  rcases Nat.eq_or_lt_of_le hi with rfl | hi
  · exact hb
  · exact Nat.testBit_lt_two_pow (Nat.lt_of_lt_of_le h (Nat.pow_le_pow_right (by omega) hi))
theorem top_bit {m d : Nat} (h1 : 2 ^ d ≤ m) (h2 : m < 2 ^ (d + 1)) : m.testBit d = true := by
  rw [Nat.testBit, Nat.shiftRight_eq_div_pow]
  have : m / 2 ^ d = 1 := by
    apply Nat.div_eq_of_lt_le
    · simpa using h1
    · rw [Nat.pow_succ] at h2; omega
  rw [this]; rfl
theorem step_lt {m d k a : Nat} (h1 : 2 ^ d ≤ m) (h2 : m < 2 ^ (d + 1)) (ha : a < 2 ^ (d + (k + 1))) (hb : a.testBit (d + k) = true) : a ^^^ (m <<< k) < 2 ^ (d + k) := by
  have hm : m <<< k < 2 ^ (d + (k + 1)) := by have := shl_lt (k := k) h2; rwa [show d + 1 + k = d + (k + 1) by omega] at this
  refine lt_of_bit (Nat.xor_lt_two_pow (by rwa [show d + k + 1 = d + (k + 1) by omega]) (by rwa [show d + k + 1 = d + (k + 1) by omega])) ?_
  rw [Nat.testBit_xor, hb, Nat.testBit_shiftLeft]
  simp [top_bit h1 h2]
theorem restR_lt {m d : Nat} (h1 : 2 ^ d ≤ m) (h2 : m < 2 ^ (d + 1)) : ∀ (k a : Nat), a < 2 ^ (d + k) → Yx m d k a < 2 ^ d
  | 0, a, h => by simpa [Yx] using h
  | k + 1, a, h => by
    unfold Yx
    cases hb : a.testBit (d + k) with
    | true => simp only [if_true]; exact restR_lt h1 h2 k _ (step_lt h1 h2 h hb)
    | false => simp only [Bool.false_eq_true, if_false]; exact restR_lt h1 h2 k a (lt_of_bit h hb)
theorem restR_xor (m d : Nat) : ∀ (k a b : Nat), Yx m d k (a ^^^ b) = Yx m d k a ^^^ Yx m d k b
  | 0, _, _ => rfl
  | k + 1, a, b => by
    simp only [Yx]
    rw [Nat.testBit_xor]
    cases a.testBit (d + k) <;> cases b.testBit (d + k) <;> simp only [Bool.xor_false, Bool.false_xor, Bool.xor_self, Bool.xor_true, Bool.not_false, Bool.not_true, Bool.false_eq_true, if_true, if_false]
    · exact restR_xor m d k a b
    · rw [Nat.xor_assoc]; exact restR_xor m d k a _
    · rw [← restR_xor m d k]; congr 1; rw [Nat.xor_assoc, Nat.xor_comm b, ← Nat.xor_assoc]
    · rw [← restR_xor m d k]; congr 1
      rw [Nat.xor_assoc, ← Nat.xor_assoc (m <<< k), Nat.xor_comm (m <<< k) b, Nat.xor_assoc, Nat.xor_self, Nat.xor_zero]
theorem Un {m d : Nat} : ∀ (k a : Nat), a < 2 ^ d → Yx m d k a = a
  | 0, _, _ => rfl
  | k + 1, a, h => by
    unfold Yx
    rw [Nat.testBit_lt_two_pow (Nat.lt_of_lt_of_le h (Nat.pow_le_pow_right (by omega) (by omega)))]
    simp only [Bool.false_eq_true, if_false]
    exact Un k a h
theorem restR_top {m d k a : Nat} (h : a < 2 ^ (d + k)) : Yx m d (k + 1) a = Yx m d k a := by
  conv => lhs; unfold Yx
  rw [Nat.testBit_lt_two_pow h]; rfl
theorem restR_shift (m d : Nat) : ∀ (k x : Nat), Yx m d (k + 1) (x <<< 1) = (if ((Yx m d k x) <<< 1).testBit d then ((Yx m d k x) <<< 1) ^^^ m else (Yx m d k x) <<< 1)
  | 0, x => by simp [Yx]
  | k + 1, x => by
    conv => lhs; unfold Yx
    conv => rhs; unfold Yx
    have e : (x <<< 1).testBit (d + (k + 1)) = x.testBit (d + k) := by
      rw [Nat.testBit_shiftLeft]
      have : d + (k + 1) ≥ 1 := by omega
      simp only [this, decide_true, Bool.true_and]
      congr 1
    rw [e]
    cases x.testBit (d + k) with
    | false => simp only [Bool.false_eq_true, if_false]; exact restR_shift m d k x
    | true =>
      simp only [if_true]
      have e2 : x <<< 1 ^^^ m <<< (k + 1) = (x ^^^ m <<< k) <<< 1 := by
        rw [Nat.shiftLeft_xor_distrib, ← Nat.shiftLeft_add]
      rw [e2]
      exact restR_shift m d k _

/-- The number of binary digits. -/
def lenN (n : Nat) : Nat := if n = 0 then 0 else n.log2 + 1
theorem v_rest (a m d : Nat) (hd : d ≤ 15) (ha : a < 2 ^ 16) (hm : m < 2 ^ 20) : UU (a : Int) (m : Int) (d : Int) = some ((Yx m d (16 - d) a : Nat) : Int) := by
  have key : ∀ (k a : Nat), d + k ≤ 16 → a < 2 ^ 40 → ZJ (Ul (m : Int) (d : Int)) ((a : Int), ((d + k : Nat) : Int) - 1) = some ((Yx m d k a : Nat) : Int) := by
    intro k
    induction k with
    | zero =>
      intro a _ _
      rw [Ww (t := (a : Int))]
      · rfl
      · unfold Ul
        have : ¬ (((d + 0 : Nat) : Int) - 1 ≥ (d : Int)) := by omega
        simp only [this, decide_false, Bool.false_eq_true, if_false]
    | succ k ih =>
      intro a hk ha
      have e0 : ((d + (k + 1) : Nat) : Int) - 1 = ((d + k : Nat) : Int) := by omega
      have hsh : m <<< k < 2 ^ (20 + k) := shl_lt hm
      have hsh2 : m <<< k < 2 ^ 40 := Nat.lt_of_lt_of_le hsh (Nat.pow_le_pow_right (by omega) (by omega))
      have hst : Ul (m : Int) (d : Int) ((a : Int), ((d + (k + 1) : Nat) : Int) - 1) = some (.nx (((if a.testBit (d + k) then a ^^^ (m <<< k) else a : Nat) : Int), ((d + k : Nat) : Int) - 1)) := by
        rw [e0]
        unfold Ul
        have c1 : ((d + k : Nat) : Int) ≥ (d : Int) := by omega
        have c2 : Xn ((d + k : Nat) : Int) = some () := by unfold Xn; rw [if_pos (by omega)]
        have c3 : wr (((d + k : Nat) : Int) - (d : Int)) = ((k : Nat) : Int) := by rw [show ((d + k : Nat) : Int) - (d : Int) = ((k : Nat) : Int) by omega, wr_nn _ (by omega)]
        have c4 : Xn ((k : Nat) : Int) = some () := by unfold Xn; rw [if_pos (by omega)]
        have c5 : wr (((d + k : Nat) : Int) - 1) = ((d + k : Nat) : Int) - 1 := YG (by omega)
        simp only [c1, decide_true, if_true, c2, c3, c4, c5, Option.bind_some]
        have c6 : andI (Ux (a : Int) ((d + k : Nat) : Int)) 1 = (((a >>> (d + k)) &&& 1 : Nat) : Int) := by
          rw [shrI_nat a (d + k) (by omega)]
          exact andI_nat _ 1 (Nat.lt_of_le_of_lt (Nat.shiftRight_le _ _) (by omega)) (by omega)
        rw [c6, shlI_nat m k (by omega) (by omega), xorI_nat a _ (by omega) (by omega)]
        cases hb : a.testBit (d + k) with
        | true =>
          have := (bit_and a (d + k)).2 hb
          rw [this]; rfl
        | false =>
          have : ¬ ((a >>> (d + k)) &&& 1 = 1) := fun h => by rw [(bit_and a (d + k)).1 h] at hb; cases hb
          have h2 : (((((a >>> (d + k)) &&& 1 : Nat) : Int)) == 1) = false := by
            rw [beq_eq_false_iff_ne]; omega
          rw [h2]; rfl
      rw [WP hst, ih _ (by omega) ?_]
      · conv => rhs; unfold Yx
      · split
        · exact Nat.xor_lt_two_pow ha hsh2
        · exact ha
  unfold UU
  have := key (16 - d) a (by omega) (by omega)
  rw [show ((d + (16 - d) : Nat) : Int) - 1 = 15 by omega] at this
  rw [this]; rfl

/-- A product without carry, by the bits of the second from the lowest. -/
def mulC : Nat → Nat → Nat → Nat
  | 0, _, _ => 0
  | n + 1, a, b => (if b % 2 = 1 then a else 0) ^^^ mulC n (a <<< 1) (b / 2)
theorem mulC_zero : ∀ (n a : Nat), mulC n a 0 = 0
  | 0, _ => rfl
  | n + 1, a => by simp [mulC, mulC_zero n]
theorem mulC_lt : ∀ (n a b p : Nat), a < 2 ^ p → mulC n a b < 2 ^ (p + n)
  | 0, _, _, _, _ => by simp [mulC]; exact Nat.two_pow_pos _
  | n + 1, a, b, p, h => by
    unfold mulC
    have h1 : a <<< 1 < 2 ^ (p + 1) := shl_lt h
    have h2 := mulC_lt n (a <<< 1) (b / 2) (p + 1) h1
    rw [show p + 1 + n = p + (n + 1) by omega] at h2
    refine Nat.xor_lt_two_pow ?_ h2
    have h3 : 2 ^ p ≤ 2 ^ (p + (n + 1)) := Nat.pow_le_pow_right (by omega) (by omega)
    have h4 := Nat.two_pow_pos (p + (n + 1))
    split <;> omega
/-- The product up to a bit. -/
def prC : Nat → Nat → Nat → Nat
  | 0, _, _ => 0
  | i + 1, a, b => prC i a b ^^^ (if b.testBit i then a <<< i else 0)
theorem prC_succ : ∀ (n a b : Nat), prC (n + 1) a b = (if b % 2 = 1 then a else 0) ^^^ prC n (a <<< 1) (b / 2)
  | 0, a, b => by
    simp only [prC, Nat.zero_xor, Nat.xor_zero, Nat.shiftLeft_zero]
    have : b.testBit 0 = decide (b % 2 = 1) := by simp [Nat.testBit_zero]
    rw [this]; simp
  | n + 1, a, b => by
    conv => lhs; unfold prC
    rw [prC_succ n a b]
    conv => rhs; unfold prC
    rw [← Nat.xor_assoc]
    congr 1
    rw [Nat.testBit_succ, ← Nat.shiftLeft_add, Nat.add_comm 1 n]
theorem prC_eq : ∀ (n a b : Nat), prC n a b = mulC n a b
  | 0, _, _ => rfl
  | n + 1, a, b => by rw [prC_succ, prC_eq n]; rfl
theorem prC_lt (a b : Nat) (h : a < 256) : ∀ i, i ≤ 8 → prC i a b < 2 ^ 16
  | 0, _ => by simp [prC]
  | i + 1, hi => by
    unfold prC
    have h1 : a <<< i < 2 ^ (8 + i) := shl_lt h
    have h2 : 2 ^ (8 + i) ≤ 2 ^ 16 := Nat.pow_le_pow_right (by omega) (by omega)
    refine Nat.xor_lt_two_pow (prC_lt a b h i (by omega)) ?_
    split
    · omega
    · omega
/-- The product of two elements. -/
def Z2 (m : Nat) (a b : UInt8) : UInt8 := Zx ((Yx m 8 8 (mulC 8 a.toNat b.toNat) : Nat) : Int)
theorem UB (m : Nat) (hm : m < 512) (a b : UInt8) : Z5 (m : Int) a b = some (Z2 m a b) := by
  have ha : a.toNat < 256 := a.toNat_lt
  have hb : b.toNat < 256 := b.toNat_lt
  have h := Z3 (f := Y2 a b) (fun i : Nat => (((prC i a.toNat b.toNat : Nat) : Int), (i : Int))) 0 8 (Nat.zero_le _) (t := ((prC 8 a.toNat b.toNat : Nat) : Int)) (fun i _ hi => by
    unfold Y2
    have c1 : ((i : Int) < 8) := by omega
    have c2 : Xn (i : Int) = some () := by unfold Xn; rw [if_pos (by omega)]
    have c3 : prC i a.toNat b.toNat < 2 ^ 16 := prC_lt _ _ ha i (by omega)
    have c4 : a.toNat <<< i < 2 ^ (8 + i) := shl_lt ha
    have c5 : 2 ^ (8 + i) ≤ 2 ^ 16 := Nat.pow_le_pow_right (by omega) (by omega)
    have c6 : (((shrB b (i : Int)) &&& 1) == 1) = b.toNat.testBit i := by
      have e1 : (shrB b (i : Int)).toNat = b.toNat >>> i := by
        unfold shrB Zx
        rw [show min ((i : Int)).toNat 8 = i by omega, Int.fdiv_eq_ediv_of_nonneg _ (by exact_mod_cast Nat.zero_le _)]
        have : ((b.toNat : Int) / 2 ^ i) = ((b.toNat >>> i : Nat) : Int) := by rw [Nat.shiftRight_eq_div_pow]; simp
        rw [this]
        have h3 : b.toNat >>> i ≤ b.toNat := Nat.shiftRight_le _ _
        generalize b.toNat >>> i = q at h3 ⊢
        have h4 : (((q : Nat) : Int) % 256).toNat = q := by omega
        rw [h4]
        simp
        omega
      rw [Bool.eq_iff_iff, beq_iff_eq, ← bit_and, ← UInt8.toNat_inj, UInt8.toNat_and, e1]
      simp
    simp only [c1, decide_true, if_true, c2, Option.bind_some, c6, Xs (show i < 9223372036854775807 by omega)]
    rw [shlI_nat _ i (by omega) (by omega), xorI_nat _ _ (by omega) (by omega)]
    cases hbit : b.toNat.testBit i with
    | true => simp [prC, hbit]
    | false => simp [prC, hbit]) (by unfold Y2; simp)
  have h2 : ZJ (Y2 a b) (0, 0) = _ := h
  unfold Z5
  rw [h2]
  simp only [Option.bind_some]
  have h3 := v_rest (prC 8 a.toNat b.toNat) m 8 (by omega) (prC_lt _ _ ha 8 (by omega)) (by omega)
  have h4 : UU ((prC 8 a.toNat b.toNat : Nat) : Int) (m : Int) 8 = _ := h3
  rw [h4, prC_eq]
  rfl
theorem v_l01Times (m : Nat) (hm : m < 512) (hm2 : 256 ≤ m) (a b : UInt8) : YB (m : Int) a b = some (Z2 m a b) := by
  have ha : a.toNat < 256 := a.toNat_lt
  have hb : b.toNat < 256 := b.toNat_lt
  have h1 : 2 ^ 8 ≤ m := hm2
  have h2 : m < 2 ^ (8 + 1) := hm
  have hR : ∀ i, i ≤ 8 → Yx m 8 8 (a.toNat <<< i) < 256 := fun i hi => restR_lt h1 h2 8 _ (by
    have := shl_lt (k := i) (show a.toNat < 2 ^ 8 from ha)
    exact Nat.lt_of_lt_of_le this (Nat.pow_le_pow_right (by omega) (by omega)))
  have hdbl : ∀ i, i ≤ 7 → Yx m 8 8 (a.toNat <<< (i + 1)) = if 256 ≤ (Yx m 8 8 (a.toNat <<< i)) * 2 then (Yx m 8 8 (a.toNat <<< i)) * 2 ^^^ m else (Yx m 8 8 (a.toNat <<< i)) * 2 := by
    intro i hi
    have hx : a.toNat <<< i < 2 ^ (8 + 7) := Nat.lt_of_lt_of_le (shl_lt (show a.toNat < 2 ^ 8 from ha)) (Nat.pow_le_pow_right (by omega) (by omega))
    have e : a.toNat <<< (i + 1) = (a.toNat <<< i) <<< 1 := by rw [← Nat.shiftLeft_add]
    rw [e, restR_shift m 8 7, ← restR_top hx]
    have hlt := hR i (by omega)
    generalize Yx m 8 8 (a.toNat <<< i) = y at hlt ⊢
    have e2 : y <<< 1 = y * 2 := by rw [Nat.shiftLeft_eq]
    rw [e2]
    have e3 : (y * 2).testBit 8 = decide (256 ≤ y * 2) := by
      by_cases hy : 256 ≤ y * 2
      · rw [top_bit (d := 8) hy (by omega)]; simp [hy]
      · rw [Nat.testBit_lt_two_pow (by omega : y * 2 < 2 ^ 8)]; simp [hy]
    rw [e3]
    by_cases hy : 256 ≤ y * 2 <;> simp [hy]
  have key : ∀ (n i o r : Nat), i + n ≤ 8 → r < 2 ^ n → o < 256 → ZJ (YR (m : Int)) ((o : Int), ((Yx m 8 8 (a.toNat <<< i) : Nat) : Int), (r : Int)) = some ((o ^^^ Yx m 8 8 (mulC n (a.toNat <<< i) r) : Nat) : Int) := by
    intro n
    induction n with
    | zero =>
      intro i o r _ hr ho
      have : r = 0 := by simpa using hr
      subst this
      rw [Ww (t := (o : Int))]
      · rw [mulC_zero, Un 8 0 (by omega), Nat.xor_zero]
      · unfold YR; simp
    | succ n ih =>
      intro i o r hi hr ho
      by_cases h0 : r = 0
      · subst h0
        rw [Ww (t := (o : Int))]
        · rw [mulC_zero, Un 8 0 (by omega), Nat.xor_zero]
        · unfold YR; simp
      · have hy := hR i (by omega)
        have hst : YR (m : Int) ((o : Int), ((Yx m 8 8 (a.toNat <<< i) : Nat) : Int), (r : Int)) = some (.nx (((o ^^^ Yx m 8 8 (if r % 2 = 1 then a.toNat <<< i else 0) : Nat) : Int), ((Yx m 8 8 (a.toNat <<< (i + 1)) : Nat) : Int), ((r / 2 : Nat) : Int))) := by
          rw [hdbl i (by omega)]
          unfold YR
          have c1 : (r : Int) > 0 := by omega
          have hr2 : r < 512 := Nat.lt_of_lt_of_le hr (Nat.le_trans (Nat.pow_le_pow_right (by omega) (by omega : n + 1 ≤ 9)) (by omega))
          simp only [c1, decide_true, if_true, tmod2, tdiv2]
          have e1 : wr (((Yx m 8 8 (a.toNat <<< i) : Nat) : Int) * 2) = (((Yx m 8 8 (a.toNat <<< i)) * 2 : Nat) : Int) := by rw [YG (by omega)]; omega
          have e2 : wr ((r / 2 : Nat) : Int) = ((r / 2 : Nat) : Int) := wr_nn _ (by omega)
          rw [e1, e2, xorI_nat _ _ (by omega) (by omega), xorI_nat _ _ (by omega) (by omega)]
          have e3 : ((((r % 2 : Nat) : Int)) == 1) = decide (r % 2 = 1) := by
            rw [Bool.eq_iff_iff, beq_iff_eq, decide_eq_true_eq]; omega
          rw [e3]
          have e4 : decide ((((Yx m 8 8 (a.toNat <<< i)) * 2 : Nat) : Int) ≥ 256) = decide (256 ≤ (Yx m 8 8 (a.toNat <<< i)) * 2) := by rw [decide_eq_decide]; omega
          rw [e4]
          have e5 : Yx m 8 8 0 = 0 := Un 8 0 (by omega)
          by_cases c2 : r % 2 = 1 <;> by_cases c3 : 256 ≤ (Yx m 8 8 (a.toNat <<< i)) * 2 <;> simp only [c2, c3, decide_true, decide_false, Bool.false_eq_true, if_true, if_false, Option.bind_some, e5, Nat.xor_zero]
        rw [WP hst, ih (i + 1) _ (r / 2) (by omega) (by rw [Nat.pow_succ] at hr; omega) ?_]
        · conv => rhs; unfold mulC
          rw [restR_xor, Nat.xor_assoc, Nat.shiftLeft_add]
        · refine Nat.xor_lt_two_pow (n := 8) ho ?_
          split
          · exact hR i (by omega)
          · rw [Un 8 0 (by omega)]; omega
  have := key 8 0 0 b.toNat (by omega) hb (by omega)
  rw [Nat.shiftLeft_zero, Un 8 a.toNat ha, Nat.zero_xor] at this
  have h3 : ZJ (YR (m : Int)) (0, bI a, bI b) = _ := this
  unfold YB
  rw [h3]
  rfl

def powC (m : Nat) : Nat → UInt8 → Nat → UInt8 → UInt8
  | 0, _, _, o => o
  | f + 1, a, k, o => if k = 0 then o else powC m f (Z2 m a a) (k / 2) (if k % 2 = 1 then Z2 m o a else o)
theorem pow_loop (m : Nat) (L : UInt8 × Int × UInt8 → Option (Fl (UInt8 × Int × UInt8) UInt8)) (T : UInt8 → UInt8 → Option UInt8) (hT : ∀ a b, T a b = some (Z2 m a b))
    (hL : ∀ s, L s = if (decide (s.2.1 > 0)) = true then (((if ((Int.tmod s.2.1 2) == 1) = true then ((T s.2.2 s.1).bind fun r => some r) else (some s.2.2) : Option UInt8).bind fun j12 => (T s.1 s.1).bind fun r20 => some (r20, j12) : Option (UInt8 × UInt8)).bind fun j9 => some (Fl.nx (j9.1, wr (Int.tdiv s.2.1 2), j9.2))) else (some (Fl.ex s.2.2))) :
    ∀ (f k : Nat) (a o : UInt8), k < 2 ^ f → f ≤ 62 → ZJ L (a, (k : Int), o) = some (powC m f a k o) := by
  intro f
  induction f with
  | zero =>
    intro k a o hk _
    have : k = 0 := by simpa using hk
    subst this
    exact Ww (by rw [hL]; simp [powC])
  | succ f ih =>
    intro k a o hk hf
    by_cases h0 : k = 0
    · subst h0
      exact Ww (by rw [hL]; simp [powC])
    · have hlt : k < 9223372036854775808 := Nat.lt_of_lt_of_le hk (Nat.pow_le_pow_right (by omega : 0 < 2) (by omega : f + 1 ≤ 63))
      have hst : L (a, (k : Int), o) = some (.nx (Z2 m a a, ((k / 2 : Nat) : Int), if k % 2 = 1 then Z2 m o a else o)) := by
        rw [hL]
        have c1 : (k : Int) > 0 := by omega
        have e3 : ((((k % 2 : Nat) : Int)) == 1) = decide (k % 2 = 1) := by
          rw [Bool.eq_iff_iff, beq_iff_eq, decide_eq_true_eq]; omega
        simp only [c1, decide_true, if_true, tmod2, tdiv2, hT, e3, Option.bind_some, wr_nn (k / 2) (by omega)]
        by_cases c2 : k % 2 = 1 <;> simp [c2]
      rw [WP hst, ih (k / 2) _ _ (by rw [Nat.pow_succ] at hk; omega) (by omega)]
      conv => rhs; unfold powC
      rw [if_neg h0]
theorem v_field_power (m : Nat) (hm : m < 512) (a : UInt8) (k f : Nat) (hk : k < 2 ^ f) (hf : f ≤ 62) : Xi (m : Int) a (k : Int) = some (powC m f a k 1) := by
  unfold Xi
  rw [pow_loop m (WM (m : Int)) _ (UB m hm) (fun s => by unfold WM; rfl) f k a 1 hk hf]; rfl
theorem v_l01Power (m : Nat) (hm : m < 512) (hm2 : 256 ≤ m) (a : UInt8) (k f : Nat) (hk : k < 2 ^ f) (hf : f ≤ 62) : Wq (m : Int) a (k : Int) = some (powC m f a k 1) := by
  unfold Wq
  rw [pow_loop m (Uj (m : Int)) _ (v_l01Times m hm hm2) (fun s => by unfold Uj; rfl) f k a 1 hk hf]; rfl
def invC (m : Nat) (a : UInt8) : UInt8 := powC m 8 a 254 1
theorem v_field_inverse (m : Nat) (hm : m < 512) (a : UInt8) : Yf (m : Int) a = some (invC m a) := by
  unfold Yf
  have := v_field_power m hm a 254 8 (by omega) (by omega)
  have h2 : Xi (m : Int) a 254 = _ := this
  rw [h2]; rfl
theorem v_l01Inv (m : Nat) (hm : m < 512) (hm2 : 256 ≤ m) (a : UInt8) : WI (m : Int) a = some (invC m a) := by
  unfold WI
  have := v_l01Power m hm hm2 a 254 8 (by omega) (by omega)
  have h2 : Wq (m : Int) a 254 = _ := this
  rw [h2]; rfl

def redB (m d : Nat) : Bool := Yx d (lenN d - 1) (16 - (lenN d - 1)) m == 0
def isFieldB (m : Int) : Bool := decide (256 ≤ m ∧ m ≤ 511) && !((List.range' 2 30).any (redB m.toNat))
theorem field_range {m : Int} (h : isFieldB m = true) : ∃ n : Nat, m = n ∧ 256 ≤ n ∧ n < 512 := by
  unfold isFieldB at h
  simp only [Bool.and_eq_true, decide_eq_true_eq] at h
  exact ⟨m.toNat, by omega, by omega, by omega⟩
/-- All bytes are different. -/
def diffB (l : List UInt8) : Bool := decide l.Nodup
/-- Twice an element. -/
def dbl (m y : Nat) : Nat := if (y <<< 1).testBit 8 then (y <<< 1) ^^^ m else y <<< 1
theorem xor_swap (a b c d : Nat) : (a ^^^ b) ^^^ (c ^^^ d) = (a ^^^ c) ^^^ (b ^^^ d) := by
  rw [Nat.xor_assoc, Nat.xor_assoc, ← Nat.xor_assoc b, ← Nat.xor_assoc c, Nat.xor_comm b c]
theorem dbl_xor (m x y : Nat) : dbl m (x ^^^ y) = dbl m x ^^^ dbl m y := by
  unfold dbl
  rw [Nat.shiftLeft_xor_distrib, Nat.testBit_xor]
  cases (x <<< 1).testBit 8 <;> cases (y <<< 1).testBit 8 <;> simp only [Bool.xor_false, Bool.false_xor, Bool.xor_self, Bool.xor_true, Bool.not_false, Bool.not_true, Bool.false_eq_true, if_true, if_false]
  · rw [Nat.xor_assoc]
  · rw [Nat.xor_assoc, Nat.xor_assoc, Nat.xor_comm m]
  · rw [xor_swap, Nat.xor_self, Nat.xor_zero]
theorem dbl_zero (m : Nat) : dbl m 0 = 0 := by simp [dbl]
/-- A polynomial in dbl, by the bits of b. -/
def opP (m : Nat) : Nat → Nat → Nat → Nat
  | 0, _, _ => 0
  | n + 1, b, x => (if b % 2 = 1 then x else 0) ^^^ opP m n (b / 2) (dbl m x)
theorem opP_succ (m n b x : Nat) : opP m (n + 1) b x = (if b % 2 = 1 then x else 0) ^^^ opP m n (b / 2) (dbl m x) := rfl
theorem opP_xor (m : Nat) : ∀ (n b x y : Nat), opP m n b (x ^^^ y) = opP m n b x ^^^ opP m n b y
  | 0, _, _, _ => by simp [opP]
  | n + 1, b, x, y => by
    unfold opP
    rw [dbl_xor, opP_xor m n, xor_swap]
    congr 1
    split <;> simp
theorem opP_zero (m : Nat) : ∀ (n b : Nat), opP m n b 0 = 0
  | 0, _ => rfl
  | n + 1, b => by unfold opP; rw [dbl_zero, opP_zero m n]; simp
theorem opP_dbl (m : Nat) : ∀ (n b x : Nat), opP m n b (dbl m x) = dbl m (opP m n b x)
  | 0, _, _ => (dbl_zero m).symm
  | n + 1, b, x => by
    unfold opP
    rw [opP_dbl m n, dbl_xor]
    congr 1
    split
    · rfl
    · exact (dbl_zero m).symm
theorem opP_comm (m : Nat) : ∀ (n b k c x : Nat), opP m n b (opP m k c x) = opP m k c (opP m n b x)
  | 0, _, k, c, _ => (opP_zero m k c).symm
  | n + 1, b, k, c, x => by
    rw [opP_succ, opP_succ, ← opP_dbl, opP_comm m n, opP_xor]
    congr 1
    split
    · rfl
    · exact (opP_zero m k c).symm
theorem half_bits (a : Nat) : (if a % 2 = 1 then 1 else 0) ^^^ (a / 2) <<< 1 = a := by
  rw [Nat.shiftLeft_eq]
  have h : (if a % 2 = 1 then 1 else 0) = a % 2 := by split <;> omega
  rw [h]
  apply Nat.eq_of_testBit_eq
  intro i
  rw [Nat.testBit_xor]
  cases i with
  | zero =>
    simp [Nat.testBit_zero]
  | succ i =>
    rw [Nat.testBit_succ, Nat.testBit_succ, Nat.testBit_succ]
    have h1 : a % 2 / 2 = 0 := by omega
    have h2 : a / 2 * 2 ^ 1 / 2 = a / 2 := by omega
    rw [h1, h2]; simp
theorem dbl_one (m i : Nat) (hi : i < 7) : dbl m (1 <<< i) = 1 <<< (i + 1) := by
  unfold dbl
  rw [← Nat.shiftLeft_add]
  have : (1 <<< (i + 1)).testBit 8 = false := by
    apply Nat.testBit_lt_two_pow
    rw [Nat.shiftLeft_eq, Nat.one_mul]
    exact Nat.pow_lt_pow_right (by omega) (by omega)
  rw [this]; rfl
theorem opP_one (m : Nat) : ∀ (n i a : Nat), n + i ≤ 8 → a < 2 ^ n → opP m n a (1 <<< i) = a <<< i
  | 0, i, a, _, ha => by
    have : a = 0 := by simpa using ha
    subst this; simp [opP]
  | n + 1, i, a, hn, ha => by
    have e : a <<< i = (if a % 2 = 1 then 1 <<< i else 0) ^^^ (a / 2) <<< (i + 1) := by
      conv => lhs; rw [← half_bits a]
      rw [Nat.shiftLeft_xor_distrib, ← Nat.shiftLeft_add, Nat.add_comm 1 i]
      congr 1
      split <;> simp
    unfold opP
    rw [e]
    congr 1
    rcases Nat.eq_zero_or_pos n with rfl | hp
    · have : a / 2 = 0 := by have : a < 2 := by simpa using ha
                             omega
      rw [this]; simp [opP]
    · rw [dbl_one m i (by omega)]
      exact opP_one m n (i + 1) (a / 2) (by omega) (by rw [Nat.pow_succ] at ha; omega)

theorem restR_dbl (m x : Nat) (hx : x < 2 ^ 15) : Yx m 8 8 (x <<< 1) = dbl m (Yx m 8 8 x) := by
  rw [restR_shift m 8 7, ← restR_top (d := 8) (k := 7) hx]; rfl
theorem mul_op (m : Nat) : ∀ (n i a b : Nat), i + n ≤ 8 → a < 2 ^ 8 → Yx m 8 8 (mulC n (a <<< i) b) = opP m n b (Yx m 8 8 (a <<< i))
  | 0, _, _, _, _, _ => by simp [mulC, opP, Un 8 0]
  | n + 1, i, a, b, hn, ha => by
    unfold mulC opP
    rw [restR_xor]
    have hx : a <<< i < 2 ^ 15 := Nat.lt_of_lt_of_le (shl_lt ha) (Nat.pow_le_pow_right (by omega) (by omega))
    rw [← restR_dbl m _ hx, ← Nat.shiftLeft_add, mul_op m n (i + 1) a (b / 2) (by omega) ha]
    congr 1
    split
    · rfl
    · exact Un 8 0 (by omega)
/-- The product, as numbers. -/
theorem times_nat (m : Nat) (h1 : 256 ≤ m) (h2 : m < 512) (a b : UInt8) : (Z2 m a b).toNat = opP m 8 b.toNat a.toNat := by
  have ha : a.toNat < 2 ^ 8 := a.toNat_lt
  have hr : Yx m 8 8 (mulC 8 a.toNat b.toNat) < 256 := restR_lt (d := 8) h1 h2 8 _ (mulC_lt 8 a.toNat b.toNat 8 ha)
  have e := mul_op m 8 0 a.toNat b.toNat (by omega) ha
  rw [Nat.shiftLeft_zero, Un 8 _ ha] at e
  unfold Z2 Zx
  rw [e] at hr ⊢
  generalize opP m 8 b.toNat a.toNat = q at hr ⊢
  have : (((q : Nat) : Int) % 256).toNat = q := by omega
  rw [this]
  simp
  omega
section
variable {m : Nat} (h1 : 256 ≤ m) (h2 : m < 512)
include h1 h2
theorem times_comm (a b : UInt8) : Z2 m a b = Z2 m b a := by
  apply UInt8.toNat_inj.1
  rw [times_nat m h1 h2, times_nat m h1 h2]
  have ea := opP_one m 8 0 a.toNat (by omega) a.toNat_lt
  have eb := opP_one m 8 0 b.toNat (by omega) b.toNat_lt
  simp only [Nat.shiftLeft_zero] at ea eb
  rw [← ea, opP_comm, eb, ea]
theorem times_xor (a b c : UInt8) : Z2 m (a ^^^ b) c = Z2 m a c ^^^ Z2 m b c := by
  apply UInt8.toNat_inj.1
  rw [UInt8.toNat_xor, times_nat m h1 h2, times_nat m h1 h2, times_nat m h1 h2, UInt8.toNat_xor, opP_xor]
theorem times_xor' (a b c : UInt8) : Z2 m a (b ^^^ c) = Z2 m a b ^^^ Z2 m a c := by
  rw [times_comm h1 h2, times_xor h1 h2, times_comm h1 h2 b, times_comm h1 h2 c]
theorem times_zero (a : UInt8) : Z2 m 0 a = 0 := by
  apply UInt8.toNat_inj.1
  rw [times_nat m h1 h2]
  exact opP_zero m 8 _
end
def vf {α : Type} (n : Nat) (f : Nat → α) : Vector α n := Vector.ofFn fun i => f i.1
theorem vf_get {α : Type} {n i : Nat} (f : Nat → α) (h : i < n) : (vf n f)[i] = f i := by simp [vf]
theorem vf_getq {α : Type} {n i : Nat} (f : Nat → α) (h : i < n) : (vf n f)[i]? = some (f i) := by rw [Vector.getElem?_eq_getElem h, vf_get f h]
theorem ZP {α : Type} {n i : Nat} (f : Nat → α) (h : i < n) : ZK (vf n f) (i : Int) = some (f i) := by rw [Vh, vf_getq f h]
theorem YN {α : Type} {n : Nat} {f g : Nat → α} (h : ∀ i, i < n → f i = g i) : vf n f = vf n g := by
  apply vec_ext
  intro i hi
  rw [vf_get f hi, vf_get g hi, h i hi]
theorem U2 {α : Type} {n : Nat} (f : Nat → α) (k : Nat) (x : α) : (vf n f).setIfInBounds k x = vf n (fun i => if i = k then x else f i) := by
  apply vec_ext
  intro i hi
  rw [Vector.getElem_setIfInBounds, vf_get _ hi, vf_get _ hi]
  by_cases h : k = i
  · subst h; simp
  · rw [if_neg h, if_neg (fun e => h e.symm)]
theorem UR {α : Type} (n : Nat) (x : α) : Vector.replicate n x = vf n (fun _ => x) := by
  apply vec_ext
  intro i hi
  rw [vf_get _ hi]; simp
theorem vf_of {α : Type} [Inhabited α] {n : Nat} (v : Vector α n) : v = vf n (fun i => v[i]?.getD default) := by
  apply vec_ext
  intro i hi
  rw [vf_get _ hi, Vector.getElem?_eq_getElem hi]; rfl
abbrev Mat := Vector (Vector UInt8 4) 4
def mf (f : Nat → Nat → UInt8) : Mat := vf 4 fun i => vf 4 (f i)
theorem XZ {f g : Nat → Nat → UInt8} (h : ∀ i, i < 4 → ∀ j, j < 4 → f i j = g i j) : mf f = mf g := YN fun i hi => YN fun j hj => h i hi j hj
theorem Uk {i : Nat} (f : Nat → Nat → UInt8) (h : i < 4) : ZK (mf f) (i : Int) = some (vf 4 (f i)) := ZP _ h
theorem mf_set (f : Nat → Nat → UInt8) (k : Nat) (g : Nat → UInt8) : (mf f).setIfInBounds k (vf 4 g) = mf (fun i j => if i = k then g j else f i j) := by
  unfold mf
  rw [U2]
  apply YN
  intro i hi
  by_cases h : i = k
  · simp [h]
  · simp [h]
theorem mf_zero : Vector.replicate 4 (Vector.replicate 4 (0 : UInt8)) = mf (fun _ _ => 0) := by rw [UR 4 (0 : UInt8), UR]; rfl
theorem lt4 {i : Nat} (h : i < 4) : decide ((i : Int) < 4) = true := by simp; omega
theorem lt4' {i : Nat} (h : ¬ i < 4) : decide ((i : Int) < 4) = false := by simp; omega
theorem wr4 {i : Nat} (h : i < 1000) : wr ((i : Int) + 1) = ((i + 1 : Nat) : Int) := Xs (by omega)

def unitF (i j : Nat) : UInt8 := if i = j then 1 else 0
theorem unit_loop (L : Mat × Int → Option (Fl (Mat × Int) Mat))
    (hL : ∀ s8, L s8 = if (decide (s8.2 < 4)) = true then ((ZK s8.1 s8.2).bind fun (x14 : (Vector UInt8 4)) => (ZK x14 s8.2).bind fun (x17 : UInt8) => some (Fl.nx ((s8.1.setIfInBounds (s8.2).toNat (x14.setIfInBounds (s8.2).toNat 1)), wr (s8.2 + 1)))) else (some (Fl.ex s8.1))) :
    ZJ L (Vector.replicate 4 (Vector.replicate 4 (0 : UInt8)), 0) = some (mf unitF) := by
  have := Z3 (f := L) (fun i : Nat => (mf fun r c => if r < i then unitF r c else 0, (i : Int))) 0 4 (by omega) (t := mf unitF) (fun i _ hi => by
    rw [hL]
    simp only [lt4 hi, if_true, Uk _ hi, ZP _ hi, Option.bind_some, Int.toNat_natCast, U2, mf_set, wr4 (show i < 1000 by omega)]
    congr 3
    apply XZ
    intro r hr c hc
    by_cases h1 : r = i
    · subst h1; simp [unitF, eq_comm]
    · simp only [h1, if_false]
      by_cases h2 : r < i
      · rw [if_pos h2, if_pos (by omega)]
      · rw [if_neg h2, if_neg (by omega)]) (by
    rw [hL]
    simp only [lt4' (show ¬ 4 < 4 by omega), Bool.false_eq_true, if_false]
    exact congrArg (fun z => some (Fl.ex z)) (XZ fun r hr c hc => by rw [if_pos hr]))
  rw [mf_zero]
  simpa using this
theorem v_impl_UnitMatrix : Wx = some (mf unitF) := by
  unfold Wx
  rw [unit_loop UT fun s => rfl]; rfl

abbrev MF := Nat → Nat → UInt8
def pivot (f : MF) (k : Nat) : Nat := ((List.range' k (4 - k)).find? fun i => !(f i k == 0)).getD 4
def swapF (f : MF) (i k : Nat) : MF := fun r c => if r = k then f i c else if r = i then f k c else f r c
def scaleF (m : Nat) (f : MF) (k : Nat) (by_ : UInt8) : MF := fun r c => if r = k then Z2 m (f k c) by_ else f r c
/-- Rows of g combined with the row k, by the column k of f. -/
def VU (m : Nat) (f g : MF) (k : Nat) : MF := fun r c => if r = k then g r c else g r c ^^^ Z2 m (f r k) (g k c)
structure Red where
  a : MF
  b : MF
  det : UInt8
def redStep (m : Nat) (s : Red) (k : Nat) : Option Red :=
  let i := pivot s.a k
  if i = 4 then none else
    let f := swapF s.a i k
    let g := swapF s.b i k
    let q := invC m (f k k)
    let f2 := scaleF m f k q
    let g2 := scaleF m g k q
    some ⟨VU m f2 f2 k, VU m f2 g2 k, Z2 m s.det (f k k)⟩
def redFrom (m : Nat) : Nat → Nat → Red → Option Red
  | 0, _, s => some s
  | n + 1, k, s => (redStep m s k).bind (redFrom m n (k + 1))
/-- Determinant and inverse. -/
def invertC (m : Nat) (a : MF) : UInt8 × Mat := match redFrom m 4 0 ⟨a, unitF, 1⟩ with
  | some s => (s.det, mf s.b)
  | none => (0, mf fun _ _ => 0)
theorem pivot_loop (L : Int → Option (Fl Int Int)) (f : MF) (k : Nat) (hk : k < 4)
    (hL : ∀ s, L s = (if (decide (s < 4)) = true then ((ZK (mf f) s).bind fun (x30 : (Vector UInt8 4)) => (ZK x30 (k : Int)).bind fun (x33 : UInt8) => some (x33 == 0)) else (some false) : Option (Bool)).bind fun (j25 : Bool) => if j25 = true then (some (Fl.nx (wr (s + 1)))) else (some (Fl.ex s))) :
    ZJ L (k : Int) = some ((pivot f k : Nat) : Int) := by
  have := iter_find (f := L) (fun i : Nat => (i : Int)) (fun i => !(f i k == 0)) (fun i => (i : Int)) (e := (4 : Int)) 4 (4 - k) k (by omega) (fun i _ hi => by
    rw [hL]
    simp only [lt4 hi, if_true, Uk _ hi, ZP _ hk, Option.bind_some]
    cases h : (f i k == 0)
    · simp
    · simp [wr4 (show i < 1000 by omega)]) (by rw [hL]; simp)
  rw [this]
  unfold pivot
  cases (List.range' k (4 - k)).find? fun i => !(f i k == 0) <;> rfl
theorem pivot_lt {f : MF} {k : Nat} (h : pivot f k ≠ 4) : pivot f k < 4 := by
  unfold pivot at h ⊢
  cases hf : (List.range' k (4 - k)).find? fun i => !(f i k == 0) with
  | none => rw [hf] at h; exact absurd rfl h
  | some i =>
    have := List.mem_range'_1.1 (List.mem_of_find?_eq_some hf)
    simp only [Option.getD_some]
    omega
/-- What both ways do to a row and the row of the other matrix, one column after the other. -/
theorem rows_loop (L : Mat × Mat × Int → Option (Fl (Mat × Mat × Int) (Mat × Mat))) (f g : MF) (k : Nat) (hk : k < 4) (p q : Nat → UInt8)
    (hL : ∀ c, c < 4 → ∀ a b : MF, (∀ r, r ≠ k → a r = f r) → (∀ r, r ≠ k → b r = g r) → a k c = f k c → b k c = g k c → L (mf a, mf b, (c : Int)) = some (Fl.nx ((mf a).setIfInBounds k ((vf 4 (a k)).setIfInBounds c (p c)), (mf b).setIfInBounds k ((vf 4 (b k)).setIfInBounds c (q c)), wr ((c : Int) + 1))))
    (he : ∀ a b : Mat, L (a, b, 4) = some (Fl.ex (a, b))) :
    ZJ L (mf f, mf g, 0) = some (mf (fun r c => if r = k then p c else f r c), mf (fun r c => if r = k then q c else g r c)) := by
  have k1 : (mf fun r c => if r = k then (if c < 4 then p c else f k c) else f r c) = mf fun r c => if r = k then p c else f r c := XZ fun r _ c hc => by rw [if_pos hc]
  have k2 : (mf fun r c => if r = k then (if c < 4 then q c else g k c) else g r c) = mf fun r c => if r = k then q c else g r c := XZ fun r _ c hc => by rw [if_pos hc]
  have := Z3 (f := L) (fun i : Nat => (mf fun r c => if r = k then (if c < i then p c else f k c) else f r c, mf fun r c => if r = k then (if c < i then q c else g k c) else g r c, (i : Int))) 0 4 (by omega)
    (t := (mf (fun r c => if r = k then p c else f r c), mf (fun r c => if r = k then q c else g r c))) (fun i _ hi => by
    rw [hL i hi _ _ (fun r hr => by funext c; rw [if_neg hr]) (fun r hr => by funext c; rw [if_neg hr]) (by simp) (by simp)]
    simp only [U2, mf_set, wr4 (show i < 1000 by omega)]
    congr 3
    · apply XZ
      intro r hr c hc
      by_cases h : r = k
      · simp only [h, if_true]
        by_cases h2 : c = i
        · subst h2; simp
        · by_cases h3 : c < i
          · rw [if_neg h2, if_pos h3, if_pos (by omega)]
          · rw [if_neg h2, if_neg h3, if_neg (by omega)]
      · simp only [h, if_false]
    · congr 1
      apply XZ
      intro r hr c hc
      by_cases h : r = k
      · simp only [h, if_true]
        by_cases h2 : c = i
        · subst h2; simp
        · by_cases h3 : c < i
          · rw [if_neg h2, if_pos h3, if_pos (by omega)]
          · rw [if_neg h2, if_neg h3, if_neg (by omega)]
      · simp only [h, if_false]) (by
    simp only [k1, k2]
    exact he _ _)
  have e1 : mf (fun r c => if r = k then (if c < 0 then p c else f k c) else f r c) = mf f := XZ fun r hr c hc => by
    by_cases h : r = k
    · subst h; simp
    · simp [h]
  have e2 : mf (fun r c => if r = k then (if c < 0 then q c else g k c) else g r c) = mf g := XZ fun r hr c hc => by
    by_cases h : r = k
    · subst h; simp
    · simp [h]
  simp only [e1, e2] at this
  exact this
theorem red_loop {S : Type} (m : Nat) (L : S → Option (Fl S (Fl (Mat × UInt8) (UInt8 × Mat)))) (pk : Red → Nat → S)
    (hstep : ∀ k, k < 4 → ∀ s, L (pk s k) = some (match redStep m s k with | none => .ex (.ex (0, mf fun _ _ => 0)) | some s' => .nx (pk s' (k + 1))))
    (hend : ∀ s, L (pk s 4) = some (.ex (.nx (mf s.b, s.det)))) : ∀ (n k : Nat) (s : Red), k + n = 4 → ZJ L (pk s k) = some (match redFrom m n k s with | some s' => .nx (mf s'.b, s'.det) | none => .ex (0, mf fun _ _ => 0))
  | 0, k, s, h => by
    have : k = 4 := by omega
    subst this
    rw [Ww (hend s)]; rfl
  | n + 1, k, s, h => by
    have h1 := hstep k (by omega) s
    unfold redFrom
    cases hr : redStep m s k with
    | none => rw [hr] at h1; rw [Ww h1]; rfl
    | some s' => rw [hr] at h1; rw [WP h1]; exact red_loop m L pk hstep hend n (k + 1) s' (by omega)
theorem ne_cast {i k : Nat} : (((i : Int)) != ((k : Nat) : Int)) = decide (i ≠ k) := by
  by_cases h : i = k
  · subst h; simp
  · have : (i : Int) ≠ (k : Int) := by omega
    simp [h, this]
/-- The rows, one after the other. -/
theorem elim_loop (m : Nat) (L : Mat × Mat × Int → Option (Fl (Mat × Mat × Int) (Mat × Mat))) (f g : MF) (k : Nat)
    (hL : ∀ i, i < 4 → ∀ a b : MF, (a i = f i) → (b i = g i) → (a k = f k) → (b k = g k) → L (mf a, mf b, (i : Int)) = some (Fl.nx (mf (fun r c => if r = i then VU m f f k r c else a r c), mf (fun r c => if r = i then VU m f g k r c else b r c), wr ((i : Int) + 1))))
    (he : ∀ a b : Mat, L (a, b, 4) = some (Fl.ex (a, b))) : ZJ L (mf f, mf g, 0) = some (mf (VU m f f k), mf (VU m f g k)) := by
  have ek : ∀ h : MF, VU m f h k k = h k := fun h => by funext c; simp [VU]
  have k1 : (mf fun r c => if r < 4 then VU m f f k r c else f r c) = mf (VU m f f k) := XZ fun r hr c _ => by rw [if_pos hr]
  have k2 : (mf fun r c => if r < 4 then VU m f g k r c else g r c) = mf (VU m f g k) := XZ fun r hr c _ => by rw [if_pos hr]
  have := Z3 (f := L) (fun i : Nat => (mf fun r c => if r < i then VU m f f k r c else f r c, mf fun r c => if r < i then VU m f g k r c else g r c, (i : Int))) 0 4 (by omega)
    (t := (mf (VU m f f k), mf (VU m f g k))) (fun i _ hi => by
    rw [hL i hi _ _ (by funext c; simp) (by funext c; simp) (by funext c; by_cases h : k < i <;> simp [h, ek]) (by funext c; by_cases h : k < i <;> simp [h, ek])]
    rw [wr4 (show i < 1000 by omega)]
    have e : ∀ (x y : MF), (mf fun r c => if r = i then x r c else if r < i then x r c else y r c) = mf fun r c => if r < i + 1 then x r c else y r c := fun x y => XZ fun r _ c _ => by
      by_cases h1 : r = i
      · subst h1; simp
      · by_cases h2 : r < i
        · rw [if_neg h1, if_pos h2, if_pos (by omega)]
        · rw [if_neg h1, if_neg h2, if_neg (by omega)]
    rw [e, e]) (by
    simp only [k1, k2]
    exact he _ _)
  simpa using this

theorem swap_set (f : MF) {i k : Nat} : ((mf f).setIfInBounds i (vf 4 (f k))).setIfInBounds k (vf 4 (f i)) = mf (swapF f i k) := by
  rw [mf_set, mf_set]; rfl
section
variable (m : Nat) (hm : m < 512) (hm2 : 256 ≤ m)
include hm
theorem impl_scale (A B : Mat) (det : UInt8) (q : UInt8) (f g : MF) (k : Nat) (hk : k < 4) : ZJ (Xv (m : Int) (A, B, (k : Int), det) q) (mf f, mf g, 0) = some (mf (scaleF m f k q), mf (scaleF m g k q)) := by
  refine rows_loop _ f g k hk (fun c => Z2 m (f k c) q) (fun c => Z2 m (g k c) q) (fun c hc a b _ _ ha hb => ?_) (fun a b => ?_)
  · unfold Xv
    simp only [lt4 hc, if_true, Uk _ hk, ZP _ hc, Option.bind_some, UB m hm, ha, hb, Int.toNat_natCast]
  · unfold Xv; simp
theorem impl_row (A B : Mat) (det : UInt8) (s1 : Mat × Mat × Int) (x : UInt8) (f g : MF) (k i : Nat) (hk : k < 4) (hi : i < 4) (hik : i ≠ k) (hs : s1.2.2 = (i : Int)) :
    ZJ (Xm (m : Int) (A, B, (k : Int), det) s1 x) (mf f, mf g, 0) = some (mf (fun r c => if r = i then f i c ^^^ Z2 m x (f k c) else f r c), mf (fun r c => if r = i then g i c ^^^ Z2 m x (g k c) else g r c)) := by
  refine rows_loop _ f g i hi (fun c => f i c ^^^ Z2 m x (f k c)) (fun c => g i c ^^^ Z2 m x (g k c)) (fun c hc a b ha' hb' ha hb => ?_) (fun a b => ?_)
  · unfold Xm
    have e1 := ha' k (Ne.symm hik)
    have e2 := hb' k (Ne.symm hik)
    simp only [hs, lt4 hc, if_true, Uk _ hk, Uk _ hi, ZP _ hc, Option.bind_some, UB m hm, ha, hb, e1, e2, Int.toNat_natCast]
  · unfold Xm; simp
include hm2
theorem impl_elim (A B : Mat) (det : UInt8) (f g : MF) (k : Nat) (hk : k < 4) : ZJ (Xo (m : Int) (A, B, (k : Int), det)) (mf f, mf g, 0) = some (mf (VU m f f k), mf (VU m f g k)) := by
  refine elim_loop m _ f g k (fun i hi a b hai hbi hak hbk => ?_) (fun a b => by unfold Xo; simp)
  unfold Xo
  have hfi : a i k = f i k := by rw [hai]
  simp only [lt4 hi, if_true, Uk _ hi, ZP _ hk, Option.bind_some, ne_cast, hfi]
  by_cases h : i = k
  · subst h
    simp only [ne_eq, not_true_eq_false, decide_false, Bool.false_eq_true, if_false, Option.bind_some]
    congr 3
    · exact XZ fun r _ c _ => by
        by_cases h : r = i
        · subst h; simp [VU, hai]
        · simp [h]
    · congr 1
      exact XZ fun r _ c _ => by
        by_cases h : r = i
        · subst h; simp [VU, hbi]
        · simp [h]
  · have hd : decide (i ≠ k) = true := by simpa using h
    simp only [hd, if_true, Option.bind_some]
    by_cases h0 : f i k = 0
    · simp only [h0, bne_self_eq_false, Bool.false_eq_true, if_false, Option.bind_some]
      congr 3
      · exact XZ fun r _ c _ => by
          by_cases h2 : r = i
          · subst h2; simp [VU, hai, h, h0, times_zero hm2 hm]
          · simp [h2]
      · congr 1
        exact XZ fun r _ c _ => by
          by_cases h2 : r = i
          · subst h2; simp [VU, hbi, h, h0, times_zero hm2 hm]
          · simp [h2]
    · have hb0 : (f i k != 0) = true := by simpa using h0
      simp only [hb0, if_true, Option.bind_some]
      rw [impl_row m hm A B det _ _ a b k i hk hi h rfl]
      simp only [Option.bind_some]
      congr 3
      · exact XZ fun r _ c _ => by
          by_cases h2 : r = i
          · subst h2; simp [VU, hai, hak, h]
          · simp [h2]
      · congr 1
        exact XZ fun r _ c _ => by
          by_cases h2 : r = i
          · subst h2; simp [VU, hbi, hbk, h]
          · simp [h2]
theorem impl_step (k : Nat) (hk : k < 4) (s : Red) : Yy (m : Int) (mf s.a, mf s.b, (k : Int), s.det) = some (match redStep m s k with | none => .ex (.ex (0, mf fun _ _ => 0)) | some s' => .nx (mf s'.a, mf s'.b, ((k + 1 : Nat) : Int), s'.det)) := by
  unfold Yy
  have hp := pivot_loop (V5 (mf s.a, mf s.b, (k : Int), s.det)) s.a k hk (fun x => rfl)
  simp only [lt4 hk, if_true, hp, Option.bind_some]
  unfold redStep
  by_cases h4 : pivot s.a k = 4
  · have : ((4 : Nat) : Int) = 4 := rfl
    simp only [h4, this, beq_self_eq_true, if_true, mf_zero]
  · have hi := pivot_lt h4
    have h5 : (((pivot s.a k : Nat) : Int) == 4) = false := by
      have : ((pivot s.a k : Nat) : Int) ≠ 4 := by omega
      simpa using this
    generalize hpi : pivot s.a k = i at *
    simp only [h4, h5, Bool.false_eq_true, if_false]
    have x1 : ZK ((mf s.a).setIfInBounds i (vf 4 (s.a k))) (k : Int) = some (vf 4 (fun c => if k = i then s.a k c else s.a k c)) := by rw [mf_set]; exact Uk _ hk
    have x2 : ZK ((mf s.b).setIfInBounds i (vf 4 (s.b k))) (k : Int) = some (vf 4 (fun c => if k = i then s.b k c else s.b k c)) := by rw [mf_set]; exact Uk _ hk
    simp only [Uk _ hk, Uk _ hi, Option.bind_some, Int.toNat_natCast, x1, x2, swap_set, ZP _ hk, UB m hm, v_field_inverse m hm, impl_scale m hm _ _ _ _ _ _ k hk, impl_elim m hm hm2 _ _ _ _ _ k hk, wr4 (show k < 1000 by omega)]
theorem v_field_invert (f : MF) : Y4 (m : Int) (mf f) = some (invertC m f) := by
  unfold Y4
  have h := red_loop m (Yy (m : Int)) (fun s k => (mf s.a, mf s.b, (k : Int), s.det)) (impl_step m hm hm2) (fun s => by unfold Yy; simp) 4 0 ⟨f, unitF, 1⟩ rfl
  have h2 : ZJ (Yy (m : Int)) (mf f, mf unitF, 0, 1) = _ := h
  rw [v_impl_UnitMatrix, Option.bind_some, h2]
  unfold invertC
  cases redFrom m 4 0 ⟨f, unitF, 1⟩ <;> rfl
end
theorem vidx_list {n i : Nat} (v : Vector UInt8 n) (h : i < n) : ZK v (i : Int) = some (v.toList.getD i 0) := by
  rw [Vh, Vector.getElem?_eq_getElem h]
  simp [List.getD_eq_getElem?_getD, h]
theorem bI_toNat (x : UInt8) : (bI x).toNat = x.toNat := rfl
def placesB (p : Vector UInt8 16) : Bool := p.toList.all (fun x => decide (x < 16)) && diffB p.toList
def mfOf (a : Mat) : MF := fun i j => (a[i]?.getD default)[j]?.getD default
theorem mf_mfOf (a : Mat) : a = mf (mfOf a) := calc a = vf 4 (fun i => a[i]?.getD default) := vf_of a
    _ = _ := YN fun i _ => vf_of _
def detC (m : Nat) (a : Mat) : UInt8 := (invertC m (mfOf a)).1
def invM (m : Nat) (a : Mat) : Mat := (invertC m (mfOf a)).2
def Yt (c : GCipher) : Bool := isFieldB c.Field && diffB c.Box.toList && placesB c.Places && decide (1 ≤ c.Rounds ∧ c.Rounds ≤ 20) && (detC c.Field.toNat c.Mix != 0)
theorem v_invert (m : Nat) (hm : m < 512) (hm2 : 256 ≤ m) (a : Mat) : Y4 (m : Int) a = some (detC m a, invM m a) := by
  have := v_field_invert m hm hm2 (mfOf a)
  rw [← mf_mfOf] at this
  exact this
theorem cipher_field {c : GCipher} (h : Yt c = true) : ∃ m : Nat, c.Field = m ∧ 256 ≤ m ∧ m < 512 := by
  unfold Yt at h
  simp only [Bool.and_eq_true] at h
  exact field_range h.1.1.1.1
/-- A loop that sets one byte after the other, from m on. -/
theorem XC {n : Nat} (L : Vector UInt8 n × Int → Option (Fl (Vector UInt8 n × Int) (Vector UInt8 n))) (f h : Nat → UInt8) (hn : n < 9223372036854775807) (m : Nat) (hm : m ≤ n) (h0 : ∀ j, j < m → h j = f j)
    (hL : ∀ i, m ≤ i → i < n → ∀ a : Nat → UInt8, (∀ j, j < i → a j = h j) → (∀ j, i ≤ j → a j = f j) → L (vf n a, (i : Int)) = some (.nx ((vf n a).setIfInBounds i (h i), wr ((i : Int) + 1))))
    (he : ∀ v, L (v, (n : Int)) = some (.ex v)) : ZJ L (vf n f, (m : Int)) = some (vf n h) := by
  have k1 : (vf n fun j => if j < n then h j else f j) = vf n h := YN fun j hj => by rw [if_pos hj]
  have k0 : (vf n fun j => if j < m then h j else f j) = vf n f := YN fun j hj => by
    by_cases h1 : j < m
    · rw [if_pos h1, h0 j h1]
    · rw [if_neg h1]
  have := Z3 (f := L) (fun i : Nat => (vf n fun j => if j < i then h j else f j, (i : Int))) m n hm (t := vf n h) (fun i hmi hi => by
    rw [hL i hmi hi _ (fun j hj => by rw [if_pos hj]) (fun j hj => by rw [if_neg (by omega)]), U2, Xs (show i < 9223372036854775807 by omega)]
    refine congrArg (fun z => some (Fl.nx (z, ((i + 1 : Nat) : Int)))) (YN fun j hj => ?_)
    by_cases h1 : j = i
    · subst h1; simp
    · by_cases h2 : j < i
      · rw [if_neg h1, if_pos h2, if_pos (by omega)]
      · rw [if_neg h1, if_neg h2, if_neg (by omega)]) (by
    simp only [k1]
    exact he _)
  simp only [k0] at this
  exact this
def at256 (b : Vector UInt8 256) (x : UInt8) : UInt8 := b[x.toNat]'(UInt8.toNat_lt x)
theorem vidx_at (b : Vector UInt8 256) (x : UInt8) : ZK b (bI x) = some (at256 b x) := by
  have : ZK b ((x.toNat : Nat) : Int) = _ := Vh b x.toNat
  rw [Vector.getElem?_eq_getElem (UInt8.toNat_lt x)] at this
  exact this
abbrev Blk := Vector UInt8 16
def bf (v : Blk) (i : Nat) : UInt8 := v[i]?.getD default
theorem vf_bf (v : Blk) : v = vf 16 (bf v) := vf_of v
theorem lt16 {i : Nat} (h : i < 16) : decide ((i : Int) < 16) = true := by simp; omega
def xorF (f g : Nat → UInt8) : Nat → UInt8 := fun i => f i ^^^ g i
theorem v_l01Xor (f g : Nat → UInt8) : YW (vf 16 f) (vf 16 g) = some (vf 16 (xorF f g)) := by
  unfold YW
  have := XC (WV (vf 16 g)) f (xorF f g) (by omega) 0 (by omega) (fun j hj => by omega) (fun i _ hi a _ ha => by
    unfold WV
    simp only [lt16 hi, if_true, ZP _ hi, Option.bind_some, Int.toNat_natCast, ha i (Nat.le_refl _), xorF]) (fun v => by unfold WV; simp)
  have h2 : ZJ (WV (vf 16 g)) (vf 16 f, 0) = _ := this
  rw [h2]; rfl
theorem UV (f g : Nat → UInt8) : Ym (vf 16 f) (vf 16 g) = some (vf 16 (xorF f g)) := by
  unfold Ym
  have := XC (XG (vf 16 g)) f (xorF f g) (by omega) 0 (by omega) (fun j hj => by omega) (fun i _ hi a _ ha => by
    unfold XG
    simp only [lt16 hi, if_true, ZP _ hi, Option.bind_some, Int.toNat_natCast, ha i (Nat.le_refl _), xorF]) (fun v => by unfold XG; simp)
  have h2 : ZJ (XG (vf 16 g)) (vf 16 f, 0) = _ := this
  rw [h2]; rfl
def boxF (b : Vector UInt8 256) (f : Nat → UInt8) : Nat → UInt8 := fun i => at256 b (f i)
theorem v_l04Boxes (b : Vector UInt8 256) (f : Nat → UInt8) : VJ b (vf 16 f) = some (vf 16 (boxF b f)) := by
  unfold VJ
  have := XC (XQ b) f (boxF b f) (by omega) 0 (by omega) (fun j hj => by omega) (fun i _ hi a _ ha => by
    unfold XQ
    simp only [lt16 hi, if_true, ZP _ hi, Option.bind_some, Int.toNat_natCast, ha i (Nat.le_refl _), vidx_at, boxF]) (fun v => by unfold XQ; simp)
  have h2 : ZJ (XQ b) (vf 16 f, 0) = _ := this
  rw [h2]; rfl
/-- Places of a permutation of 16. -/
def moveF (p : Blk) (f : Nat → UInt8) : Nat → UInt8 := fun i => f (bf p i).toNat
theorem places_lt {p : Blk} (h : placesB p = true) {i : Nat} (hi : i < 16) : (bf p i).toNat < 16 := by
  unfold placesB at h
  simp only [Bool.and_eq_true, List.all_eq_true, decide_eq_true_eq] at h
  have e : bf p i = p[i] := by unfold bf; rw [Vector.getElem?_eq_getElem hi]; rfl
  have := h.1 p[i] (by simp)
  rw [UInt8.lt_iff_toNat_lt] at this
  rw [e]; exact this
theorem vidx_bf (p : Blk) {i : Nat} (h : i < 16) : ZK p (i : Int) = some (bf p i) := by
  rw [Vh]; unfold bf; rw [Vector.getElem?_eq_getElem h]; rfl
theorem vidx_b16 (f : Nat → UInt8) {x : UInt8} (h : x.toNat < 16) : ZK (vf 16 f) (bI x) = some (f x.toNat) := ZP f h
theorem v_l03Move (p : Blk) (hp : placesB p = true) (f : Nat → UInt8) : V2 p (vf 16 f) = some (vf 16 (moveF p f)) := by
  unfold V2
  have := XC (Wp p (vf 16 f)) (fun _ => 0) (moveF p f) (by omega) 0 (by omega) (fun j hj => by omega) (fun i _ hi a _ ha => by
    unfold Wp
    simp only [lt16 hi, if_true, ZP _ hi, vidx_bf _ hi, Option.bind_some, Int.toNat_natCast, vidx_b16 f (places_lt hp hi), moveF]) (fun v => by unfold Wp; simp)
  have h2 : ZJ (Wp p (vf 16 f)) (vf 16 (fun _ => 0), 0) = _ := this
  rw [UR 16 (0 : UInt8), h2]; rfl
theorem v_move (p : Blk) (hp : placesB p = true) (f : Nat → UInt8) : X7 p (vf 16 f) = some (vf 16 (moveF p f)) := by
  unfold X7
  have := XC (Y1 p (vf 16 f)) (fun _ => 0) (moveF p f) (by omega) 0 (by omega) (fun j hj => by omega) (fun i _ hi a _ ha => by
    unfold Y1
    simp only [lt16 hi, if_true, ZP _ hi, vidx_bf _ hi, Option.bind_some, Int.toNat_natCast, vidx_b16 f (places_lt hp hi), moveF]) (fun v => by unfold Y1; simp)
  have h2 : ZJ (Y1 p (vf 16 f)) (vf 16 (fun _ => 0), 0) = _ := this
  rw [UR 16 (0 : UInt8), h2]; rfl

def nextF (b : Vector UInt8 256) (f : Nat → UInt8) (r : Int) : Nat → UInt8
  | 0 => f 0 ^^^ at256 b (f 15 ^^^ Zx r)
  | i + 1 => f (i + 1) ^^^ at256 b (nextF b f r i)
theorem v_l04Next (b : Vector UInt8 256) (f : Nat → UInt8) (r : Int) : V8 b (vf 16 f) r = some (vf 16 (nextF b f r)) := by
  unfold V8
  have := XC (Wo b r) f (nextF b f r) (by omega) 0 (by omega) (fun j hj => by omega) (fun i _ hi a hb ha => by
    unfold Wo
    cases i with
    | zero =>
      have e1 : Int.tmod (wr (((0 : Nat) : Int) + 15)) 16 = ((15 : Nat) : Int) := by decide
      simp only [e1, lt16 hi, if_true, ZP a (show 15 < 16 by omega), Option.bind_some]
      have e2 : (((0 : Nat) : Int) == 0) = true := rfl
      simp only [e2, if_true, Option.bind_some, vidx_at, ZP a hi, Int.toNat_natCast, ha 0 (by omega), ha 15 (by omega), nextF]
    | succ i =>
      have e1 : Int.tmod (wr (((i + 1 : Nat) : Int) + 15)) 16 = ((i : Nat) : Int) := by
        rw [YG (by omega)]
        have : (((i + 1 : Nat) : Int) + 15) = ((i + 16 : Nat) : Int) := by omega
        rw [this]
        have : Int.tmod ((i + 16 : Nat) : Int) 16 = (((i + 16) % 16 : Nat) : Int) := rfl
        rw [this]
        omega
      have e2 : (((i + 1 : Nat) : Int) == 0) = false := by have : ((i + 1 : Nat) : Int) ≠ 0 := by omega
                                                           simpa using this
      simp only [e1, e2, lt16 hi, if_true, ZP a (show i < 16 by omega), Option.bind_some, Bool.false_eq_true, if_false, vidx_at, ZP a hi, Int.toNat_natCast, ha (i + 1) (Nat.le_refl _), hb i (by omega), nextF]) (fun v => by unfold Wo; simp)
  have h2 : ZJ (Wo b r) (vf 16 f, 0) = _ := this
  rw [h2]; rfl
theorem v_nextKey (e : Ref Gengine) (f : Nat → UInt8) (r : Int) : Xf e (vf 16 f) r = some (vf 16 (nextF e.v.box f r)) := by
  unfold Xf
  have x0 : ZK (vf 16 f) (0 : Int) = some (f 0) := ZP f (show 0 < 16 by omega)
  have x15 : ZK (vf 16 f) (15 : Int) = some (f 15) := ZP f (show 15 < 16 by omega)
  have z : (0 : Int).toNat = 0 := rfl
  simp only [x0, x15, Option.bind_some, vidx_at, z, U2]
  have := XC (YC e) (fun i => if i = 0 then f 0 ^^^ at256 e.v.box (f 15 ^^^ Zx r) else f i) (nextF e.v.box f r) (by omega) 1 (by omega) (fun j hj => by
    have : j = 0 := by omega
    subst this; simp [nextF]) (fun i h1 hi a hb ha => by
    unfold YC
    obtain ⟨i, rfl⟩ : ∃ k, i = k + 1 := ⟨i - 1, by omega⟩
    have e1 : wr (((i + 1 : Nat) : Int) - 1) = ((i : Nat) : Int) := by rw [YG (by omega)]; omega
    simp only [e1, lt16 hi, if_true, ZP a (show i < 16 by omega), ZP a hi, Option.bind_some, vidx_at, Int.toNat_natCast, ha (i + 1) (Nat.le_refl _), hb i (by omega), nextF]
    simp) (fun v => by unfold YC; simp)
  have h2 : ZJ (YC e) (vf 16 (fun i => if i = 0 then f 0 ^^^ at256 e.v.box (f 15 ^^^ Zx r) else f i), 1) = _ := this
  rw [h2]; rfl
def keyN (b : Vector UInt8 256) (k : Nat → UInt8) : Nat → Nat → UInt8
  | 0 => k
  | r + 1 => nextF b (keyN b k r) ((r + 1 : Nat) : Int)
def Vz (b : Vector UInt8 256) (k : Nat → UInt8) (n : Nat) : List Blk := (List.range (n + 1)).map fun r => vf 16 (keyN b k r)
theorem keys_succ (b : Vector UInt8 256) (k : Nat → UInt8) (n : Nat) : Vz b k (n + 1) = Vz b k n ++ [vf 16 (nextF b (keyN b k n) ((n + 1 : Nat) : Int))] := by
  unfold Vz
  rw [List.range_succ, List.map_append]; rfl
theorem keys_len (b : Vector UInt8 256) (k : Nat → UInt8) (n : Nat) : (Vz b k n).length = n + 1 := by simp [Vz]
theorem keys_idx (b : Vector UInt8 256) (k : Nat → UInt8) {n r : Nat} (h : r ≤ n) : idx (Vz b k n) (r : Int) = some (vf 16 (keyN b k r)) := by
  rw [X6]; unfold Vz; rw [List.getElem?_map, List.getElem?_range (by omega)]; rfl
theorem v_l04Keys (c : GCipher) (k : Nat → UInt8) (n : Nat) (hn : n ≤ 1000) : Ua c (vf 16 k) (n : Int) = some (Vz c.Box k n) := by
  unfold Ua
  have := Z3 (f := Wm c (n : Int)) (fun i : Nat => (vf 16 (keyN c.Box k (i - 1)), Vz c.Box k (i - 1), (i : Int))) 1 (n + 1) (by omega) (t := Vz c.Box k n) (fun i h1 hi => by
    unfold Wm
    obtain ⟨i, rfl⟩ : ∃ q, i = q + 1 := ⟨i - 1, by omega⟩
    have e1 : decide (((i + 1 : Nat) : Int) ≤ (n : Int)) = true := by simp; omega
    have e2 : app 16 (Vz c.Box k i) [vf 16 (nextF c.Box (keyN c.Box k i) ((i + 1 : Nat) : Int))] = _ := Wi (by rw [keys_len]; simp; omega)
    simp only [Nat.add_sub_cancel, e1, if_true, v_l04Next, Option.bind_some, e2, Xs (show i + 1 < 9223372036854775807 by omega), keys_succ]
    rfl) (by
    unfold Wm
    have e1 : decide (((n + 1 : Nat) : Int) ≤ (n : Int)) = false := by simp; omega
    simp only [e1, Bool.false_eq_true, if_false, Nat.add_sub_cancel])
  have h2 : ZJ (Wm c (n : Int)) (vf 16 k, [vf 16 k], 1) = _ := this
  rw [h2]; rfl
theorem v_keys (e : Ref Gengine) (k : Nat → UInt8) (n : Nat) (hn : n ≤ 1000) : Wb e (vf 16 k) (n : Int) = some (Vz e.v.box k n) := by
  unfold Wb
  have := Z3 (f := Y6 e (n : Int)) (fun i : Nat => (vf 16 (keyN e.v.box k (i - 1)), Vz e.v.box k (i - 1), (i : Int))) 1 (n + 1) (by omega) (t := Vz e.v.box k n) (fun i h1 hi => by
    unfold Y6
    obtain ⟨i, rfl⟩ : ∃ q, i = q + 1 := ⟨i - 1, by omega⟩
    have e1 : decide (((i + 1 : Nat) : Int) ≤ (n : Int)) = true := by simp; omega
    have e2 : app 16 (Vz e.v.box k i) [vf 16 (nextF e.v.box (keyN e.v.box k i) ((i + 1 : Nat) : Int))] = _ := Wi (by rw [keys_len]; simp; omega)
    simp only [Nat.add_sub_cancel, e1, if_true, v_nextKey, Option.bind_some, e2, Xs (show i + 1 < 9223372036854775807 by omega), keys_succ]
    rfl) (by
    unfold Y6
    have e1 : decide (((n + 1 : Nat) : Int) ≤ (n : Int)) = false := by simp; omega
    simp only [e1, Bool.false_eq_true, if_false, Nat.add_sub_cancel])
  have h2 : ZJ (Y6 e (n : Int)) (vf 16 k, [vf 16 k], 1) = _ := this
  rw [h2]; rfl

/-- Row r of a matrix times a column that starts at c. -/
def rowF (m : Nat) (a : MF) (f : Nat → UInt8) (c r : Nat) : UInt8 := ((Z2 m (a r 0) (f c) ^^^ Z2 m (a r 1) (f (c + 1))) ^^^ Z2 m (a r 2) (f (c + 2))) ^^^ Z2 m (a r 3) (f (c + 3))
def VX (m : Nat) (a : MF) (f : Nat → UInt8) : Nat → UInt8 := fun i => rowF m a f (i / 4 * 4) (i % 4)
theorem set_set (f : Nat → UInt8) (k : Nat) (x y : UInt8) : (fun i => if i = k then y else if i = k then x else f i) = fun i => if i = k then y else f i := by
  funext i; by_cases h : i = k <;> simp [h]
theorem wr_at {c r : Nat} (hc : c < 4) (hr : r < 4) : wr (wr (4 * (c : Int)) + (r : Int)) = ((c * 4 + r : Nat) : Int) := by
  rw [YG (x := 4 * (c : Int)) (by omega), YG (by omega)]; omega
theorem mix_row (m : Nat) (hm : m < 512) (hm2 : 256 ≤ m) (a : MF) (f g : Nat → UInt8) (c r : Nat) (hc : c < 4) (hr : r < 4) (s1 s2 : Blk × Int) (h1 : s1.2 = (c : Int)) (h2 : s2.2 = (r : Int)) (hg : g (c * 4 + r) = 0) :
    ZJ (Xx (m : Int) (mf a) (vf 16 f) s1 s2) (vf 16 g, 0) = some (vf 16 fun i => if i = c * 4 + r then rowF m a f (c * 4) r else g i) := by
  have hcr : c * 4 + r < 16 := by omega
  have step : ∀ (j : Nat) (h : Nat → UInt8), j < 4 → Xx (m : Int) (mf a) (vf 16 f) s1 s2 (vf 16 h, (j : Int)) = some (.nx (vf 16 (fun i => if i = c * 4 + r then h (c * 4 + r) ^^^ Z2 m (a r j) (f (c * 4 + j)) else h i), ((j + 1 : Nat) : Int))) := fun j h hj => by
    unfold Xx
    simp only [h1, h2, lt4 hj, if_true, wr_at hc hr, wr_at hc hj, ZP _ hcr, Uk _ hr, ZP _ hj, ZP f (show c * 4 + j < 16 by omega), Option.bind_some, v_l01Times m hm hm2, Int.toNat_natCast, U2, wr4 (show j < 1000 by omega)]
  have e0 := step 0 g (by omega)
  have e1 := step 1 (fun i => if i = c * 4 + r then g (c * 4 + r) ^^^ Z2 m (a r 0) (f (c * 4 + 0)) else g i) (by omega)
  have e2 := step 2 (fun i => if i = c * 4 + r then (g (c * 4 + r) ^^^ Z2 m (a r 0) (f (c * 4 + 0))) ^^^ Z2 m (a r 1) (f (c * 4 + 1)) else g i) (by omega)
  have e3 := step 3 (fun i => if i = c * 4 + r then ((g (c * 4 + r) ^^^ Z2 m (a r 0) (f (c * 4 + 0))) ^^^ Z2 m (a r 1) (f (c * 4 + 1))) ^^^ Z2 m (a r 2) (f (c * 4 + 2)) else g i) (by omega)
  have e4 : ∀ v : Blk, Xx (m : Int) (mf a) (vf 16 f) s1 s2 (v, ((4 : Nat) : Int)) = some (.ex v) := fun v => by unfold Xx; simp
  simp only [if_true, set_set] at e1 e2 e3
  have e0' : Xx (m : Int) (mf a) (vf 16 f) s1 s2 (vf 16 g, 0) = _ := e0
  rw [WP e0', WP e1, WP e2, WP e3, Ww (e4 _)]
  refine congrArg some (YN fun i _ => ?_)
  by_cases h : i = c * 4 + r
  · simp [h, hg, rowF]
  · simp [h]
theorem v_l03Mix (m : Nat) (hm : m < 512) (hm2 : 256 ≤ m) (a : MF) (f : Nat → UInt8) : UD (m : Int) (mf a) (vf 16 f) = some (vf 16 (VX m a f)) := by
  unfold UD
  -- after c columns and r rows of the next
  have inner : ∀ c : Nat, c < 4 → ∀ s1 : Blk × Int, s1.2 = (c : Int) → ZJ (Vc (m : Int) (mf a) (vf 16 f) s1) (vf 16 (fun i => if i < c * 4 then VX m a f i else 0), 0) = some (vf 16 fun i => if i < (c + 1) * 4 then VX m a f i else 0) := fun c hc s1 h1 => by
    have k1 : (vf 16 fun i => if i < c * 4 + 4 then VX m a f i else 0) = vf 16 fun i => if i < (c + 1) * 4 then VX m a f i else 0 := by rw [show c * 4 + 4 = (c + 1) * 4 by omega]
    have := Z3 (f := Vc (m : Int) (mf a) (vf 16 f) s1) (fun r : Nat => (vf 16 fun i => if i < c * 4 + r then VX m a f i else 0, (r : Int))) 0 4 (by omega) (t := vf 16 fun i => if i < (c + 1) * 4 then VX m a f i else 0) (fun r _ hr => by
      unfold Vc
      have h2 := mix_row m hm hm2 a f (fun i => if i < c * 4 + r then VX m a f i else 0) c r hc hr s1 (vf 16 fun i => if i < c * 4 + r then VX m a f i else 0, (r : Int)) h1 rfl (by simp)
      simp only [lt4 hr, if_true, h2, Option.bind_some, wr4 (show r < 1000 by omega)]
      refine congrArg (fun z => some (Fl.nx (z, ((r + 1 : Nat) : Int)))) (YN fun i _ => ?_)
      by_cases h : i = c * 4 + r
      · subst h
        have q1 : (c * 4 + r) / 4 = c := by omega
        have q2 : (c * 4 + r) % 4 = r := by omega
        rw [if_pos rfl, if_pos (by omega)]
        unfold VX; rw [q1, q2]
      · by_cases h3 : i < c * 4 + r
        · rw [if_neg h, if_pos h3, if_pos (by omega)]
        · rw [if_neg h, if_neg h3, if_neg (by omega)]) (by
      unfold Vc
      simp only [k1]
      simp)
    exact this
  have := Z3 (f := WS (m : Int) (mf a) (vf 16 f)) (fun c : Nat => (vf 16 fun i => if i < c * 4 then VX m a f i else 0, (c : Int))) 0 4 (by omega) (t := vf 16 (VX m a f)) (fun c _ hc => by
    unfold WS
    have h2 := inner c hc (vf 16 fun i => if i < c * 4 then VX m a f i else 0, (c : Int)) rfl
    simp only [lt4 hc, if_true, h2, Option.bind_some, wr4 (show c < 1000 by omega)]) (by
    unfold WS
    have : (vf 16 fun i => if i < 4 * 4 then VX m a f i else 0) = vf 16 (VX m a f) := YN fun i hi => by rw [if_pos (by omega)]
    simp only [this]
    simp)
  have e0 : (vf 16 fun i => if i < 0 * 4 then VX m a f i else 0) = vf 16 fun _ => (0 : UInt8) := YN fun i _ => by rw [if_neg (by omega)]
  simp only [e0] at this
  have h2 : ZJ (WS (m : Int) (mf a) (vf 16 f)) (vf 16 fun _ => (0 : UInt8), 0) = _ := this
  rw [UR 16 (0 : UInt8), h2]; rfl

abbrev Tab := Vector (Vector (Vector UInt8 256) 4) 4
def tabT (m : Nat) (a : MF) : Tab := vf 4 fun i => vf 4 fun j => vf 256 fun x => Z2 m (a i j) (UInt8.ofNat x)
theorem vidx_tab (m : Nat) (a : MF) (i j : Nat) (x : UInt8) : ZK (vf 256 fun x => Z2 m (a i j) (UInt8.ofNat x)) (bI x) = some (Z2 m (a i j) x) := by
  rw [show bI x = ((x.toNat : Nat) : Int) from rfl, ZP _ (UInt8.toNat_lt x)]
  simp
theorem v_mix (m : Nat) (a : MF) (f : Nat → UInt8) : WX ⟨tabT m a⟩ (vf 16 f) = some (vf 16 (VX m a f)) := by
  unfold WX
  have i0 : ∀ (v : Vector (Vector UInt8 256) 4), ZK v (0 : Int) = v[0]? := fun v => Vh v 0
  have i1 : ∀ (v : Vector (Vector UInt8 256) 4), ZK v (1 : Int) = v[1]? := fun v => Vh v 1
  have i2 : ∀ (v : Vector (Vector UInt8 256) 4), ZK v (2 : Int) = v[2]? := fun v => Vh v 2
  have i3 : ∀ (v : Vector (Vector UInt8 256) 4), ZK v (3 : Int) = v[3]? := fun v => Vh v 3
  have inner : ∀ c : Nat, c < 4 → ∀ s1 : Blk × Int, s1.2 = ((c * 4 : Nat) : Int) → ZJ (XE ⟨tabT m a⟩ s1 (f (c * 4), f (c * 4 + 1), f (c * 4 + 2), f (c * 4 + 3))) (vf 16 (fun i => if i < c * 4 then VX m a f i else f i), 0) = some (vf 16 fun i => if i < (c + 1) * 4 then VX m a f i else f i) := fun c hc s1 h1 => by
    have k1 : (vf 16 fun i => if i < c * 4 + 4 then VX m a f i else f i) = vf 16 fun i => if i < (c + 1) * 4 then VX m a f i else f i := by rw [show c * 4 + 4 = (c + 1) * 4 by omega]
    have := Z3 (f := XE ⟨tabT m a⟩ s1 (f (c * 4), f (c * 4 + 1), f (c * 4 + 2), f (c * 4 + 3))) (fun r : Nat => (vf 16 fun i => if i < c * 4 + r then VX m a f i else f i, (r : Int))) 0 4 (by omega) (t := vf 16 fun i => if i < (c + 1) * 4 then VX m a f i else f i) (fun r _ hr => by
      unfold XE
      have e1 : wr (s1.2 + (r : Int)) = ((c * 4 + r : Nat) : Int) := by rw [h1, YG (by omega)]; omega
      have et : ZK (tabT m a) (r : Int) = some (vf 4 fun j => vf 256 fun x => Z2 m (a r j) (UInt8.ofNat x)) := ZP _ hr
      simp only [lt4 hr, if_true, et, i0, i1, i2, i3, vf_getq _ (show 0 < 4 by omega), vf_getq _ (show 1 < 4 by omega), vf_getq _ (show 2 < 4 by omega), vf_getq _ (show 3 < 4 by omega), vidx_tab, e1, ZP _ (show c * 4 + r < 16 by omega), Option.bind_some, Int.toNat_natCast, U2, wr4 (show r < 1000 by omega)]
      refine congrArg (fun z => some (Fl.nx (z, ((r + 1 : Nat) : Int)))) (YN fun i _ => ?_)
      by_cases h : i = c * 4 + r
      · subst h
        have q1 : (c * 4 + r) / 4 = c := by omega
        have q2 : (c * 4 + r) % 4 = r := by omega
        rw [if_pos rfl, if_pos (by omega)]
        unfold VX; rw [q1, q2]; rfl
      · by_cases h3 : i < c * 4 + r
        · rw [if_neg h, if_pos h3, if_pos (by omega)]
        · rw [if_neg h, if_neg h3, if_neg (by omega)]) (by
      unfold XE
      simp only [k1]
      simp)
    exact this
  have := Z3 (f := XB ⟨tabT m a⟩) (fun c : Nat => (vf 16 fun i => if i < c * 4 then VX m a f i else f i, ((c * 4 : Nat) : Int))) 0 4 (by omega) (t := vf 16 (VX m a f)) (fun c _ hc => by
    unfold XB
    have hd : decide (((c * 4 : Nat) : Int) < ((vf 16 fun i => if i < c * 4 then VX m a f i else f i).toList.length : Int)) = true := by rw [Vector.length_toList]; simp; omega
    have x0 := ZP (n := 16) (fun i => if i < c * 4 then VX m a f i else f i) (show c * 4 < 16 by omega)
    have x1 := ZP (n := 16) (fun i => if i < c * 4 then VX m a f i else f i) (show c * 4 + 1 < 16 by omega)
    have x2 := ZP (n := 16) (fun i => if i < c * 4 then VX m a f i else f i) (show c * 4 + 2 < 16 by omega)
    have x3 := ZP (n := 16) (fun i => if i < c * 4 then VX m a f i else f i) (show c * 4 + 3 < 16 by omega)
    have w1 : wr (((c * 4 : Nat) : Int) + 1) = ((c * 4 + 1 : Nat) : Int) := by rw [YG (by omega)]; omega
    have w2 : wr (((c * 4 : Nat) : Int) + 2) = ((c * 4 + 2 : Nat) : Int) := by rw [YG (by omega)]; omega
    have w3 : wr (((c * 4 : Nat) : Int) + 3) = ((c * 4 + 3 : Nat) : Int) := by rw [YG (by omega)]; omega
    have w4 : wr (((c * 4 : Nat) : Int) + 4) = (((c + 1) * 4 : Nat) : Int) := by rw [YG (by omega)]; omega
    rw [if_neg (by omega)] at x0 x1 x2 x3
    have h2 := inner c hc (vf 16 fun i => if i < c * 4 then VX m a f i else f i, ((c * 4 : Nat) : Int)) rfl
    simp only [hd, if_true, x0, w1, x1, w2, x2, w3, x3, Option.bind_some, h2, w4]) (by
    unfold XB
    have : (vf 16 fun i => if i < 4 * 4 then VX m a f i else f i) = vf 16 (VX m a f) := YN fun i hi => by rw [if_pos (by omega)]
    simp only [this]
    simp)
  have e0 : (vf 16 fun i => if i < 0 * 4 then VX m a f i else f i) = vf 16 f := YN fun i _ => by rw [if_neg (by omega)]
  simp only [e0] at this
  have h2 : ZJ (XB ⟨tabT m a⟩) (vf 16 f, 0) = _ := this
  rw [h2]; rfl

def tb (g : Nat → Nat → Nat → UInt8) : Tab := vf 4 fun i => vf 4 fun j => vf 256 (g i j)
theorem tb_ext {g h : Nat → Nat → Nat → UInt8} (e : ∀ i, i < 4 → ∀ j, j < 4 → ∀ x, x < 256 → g i j x = h i j x) : tb g = tb h :=
  YN fun i hi => YN fun j hj => YN fun x hx => e i hi j hj x hx
theorem vidx_tb (g : Nat → Nat → Nat → UInt8) {i : Nat} (hi : i < 4) : ZK (tb g) (i : Int) = some (vf 4 fun j => vf 256 (g i j)) := ZP _ hi
theorem vidx_tb2 (g : Nat → Nat → Nat → UInt8) (i : Nat) {j : Nat} (hj : j < 4) : ZK (vf 4 fun j => vf 256 (g i j)) (j : Int) = some (vf 256 (g i j)) := ZP _ hj
theorem tb_set (g : Nat → Nat → Nat → UInt8) (i j : Nat) (h : Nat → UInt8) : (tb g).setIfInBounds i ((vf 4 fun j => vf 256 (g i j)).setIfInBounds j (vf 256 h)) = tb (fun i' j' => if i' = i ∧ j' = j then h else g i' j') := by
  unfold tb
  rw [U2, U2]
  refine YN fun i' _ => ?_
  by_cases h1 : i' = i
  · subst h1
    rw [if_pos rfl]
    refine YN fun j' _ => ?_
    by_cases h2 : j' = j
    · subst h2; simp
    · simp [h2]
  · rw [if_neg h1]
    refine YN fun j' _ => ?_
    simp [h1]
theorem orI_nat (a b : Nat) (ha : a < 9223372036854775808) (hb : b < 9223372036854775808) : orI (a : Int) (b : Int) = ((a ||| b : Nat) : Int) := by
  unfold orI
  rw [BitVec.toNat_or, bv_nat a ha, bv_nat b hb]
  have : a ||| b < 2 ^ 63 := Nat.or_lt_two_pow ha hb
  exact YG (by omega)
theorem Vl (n : Nat) : Zx (n : Int) = UInt8.ofNat n := by
  unfold Zx
  have : ((n : Int) % 256).toNat = n % 256 := by omega
  rw [this]
  apply UInt8.toNat_inj.1
  simp
theorem tb_set' (g : Nat → Nat → Nat → UInt8) (i j : Nat) (h : Nat → UInt8) : (tb g).setIfInBounds i (vf 4 fun j' => if j' = j then vf 256 h else vf 256 (g i j')) = tb (fun i' j' => if i' = i ∧ j' = j then h else g i' j') := by
  have := tb_set g i j h
  rw [U2] at this
  exact this
theorem or_pow {p low : Nat} (h : low < 2 ^ p) : 2 ^ p ||| low = 2 ^ p + low := by
  have := Nat.two_pow_add_eq_or_of_lt h 1
  simpa using this.symm
theorem byte_pow {p low : Nat} (hp : p < 8) (h : low < 2 ^ p) : UInt8.ofNat (2 ^ p + low) = UInt8.ofNat (2 ^ p) ^^^ UInt8.ofNat low := by
  apply UInt8.toNat_inj.1
  have h7 : 2 ^ p ≤ 2 ^ 7 := Nat.pow_le_pow_right (by omega) (by omega)
  rw [UInt8.toNat_xor]
  simp only [UInt8.toNat_ofNat']
  rw [Nat.mod_eq_of_lt (by omega), Nat.mod_eq_of_lt (by omega), Nat.mod_eq_of_lt (by omega)]
  rw [← or_pow h]
  apply Nat.eq_of_testBit_eq
  intro i
  rw [Nat.testBit_or, Nat.testBit_xor, Nat.testBit_two_pow]
  by_cases hi : p = i
  · subst hi
    rw [Nat.testBit_lt_two_pow h]; simp
  · simp [hi]
section
variable (m : Nat) (hm : m < 512) (hm2 : 256 ≤ m) (a : MF)
include hm hm2
/-- The table of one element, as far as it has come. -/
def upTo (m : Nat) (a : MF) (i j n : Nat) (g : Nat → Nat → Nat → UInt8) : Nat → Nat → Nat → UInt8 := fun i' j' => if i' = i ∧ j' = j then (fun x => if x < n then Z2 m (a i j) (UInt8.ofNat x) else 0) else g i' j'
theorem low_loop (i j p : Nat) (hi : i < 4) (hj : j < 4) (hp : p < 8) (g : Nat → Nat → Nat → UInt8) (s0 s1 s2 : Tab × Int) (h0 : s0.2 = (i : Int)) (h1 : s1.2 = (j : Int)) (h2 : s2.2 = ((2 ^ p : Nat) : Int)) :
    ZJ (XX s0 s1 s2 (Z2 m (a i j) (UInt8.ofNat (2 ^ p)))) (tb (upTo m a i j (2 ^ p) g), 0) = some (tb (upTo m a i j (2 ^ (p + 1)) g)) := by
  have h7 : 2 ^ p ≤ 2 ^ 7 := Nat.pow_le_pow_right (by omega) (by omega)
  have k1 : 2 ^ p + 2 ^ p = 2 ^ (p + 1) := by rw [Nat.pow_succ]; omega
  have := Z3 (f := XX s0 s1 s2 (Z2 m (a i j) (UInt8.ofNat (2 ^ p)))) (fun low : Nat => (tb (upTo m a i j (2 ^ p + low) g), (low : Int))) 0 (2 ^ p) (Nat.zero_le _) (t := tb (upTo m a i j (2 ^ (p + 1)) g)) (fun low _ hl => by
    unfold XX
    have hd : decide ((low : Int) < ((2 ^ p : Nat) : Int)) = true := by simp only [decide_eq_true_eq]; omega
    have ho : orI ((2 ^ p : Nat) : Int) (low : Int) = ((2 ^ p + low : Nat) : Int) := by rw [orI_nat _ _ (by omega) (by omega), or_pow hl]
    have eg : upTo m a i j (2 ^ p + low) g i j = fun x => if x < 2 ^ p + low then Z2 m (a i j) (UInt8.ofNat x) else 0 := by simp [upTo]
    simp only [h0, h1, h2, hd, if_true, vidx_tb _ hi, vidx_tb2 _ i hj, eg, ZP _ (show low < 256 by omega), ho, ZP _ (show 2 ^ p + low < 256 by omega), Option.bind_some, Int.toNat_natCast, U2, Xs (show low < 9223372036854775807 by omega)]
    rw [if_pos (show low < 2 ^ p + low from Nat.lt_add_of_pos_left (Nat.two_pow_pos p)), ← times_xor' hm2 hm, ← byte_pow hp hl]
    have := tb_set' (upTo m a i j (2 ^ p + low) g) i j (fun x => if x = 2 ^ p + low then Z2 m (a i j) (UInt8.ofNat (2 ^ p + low)) else if x < 2 ^ p + low then Z2 m (a i j) (UInt8.ofNat x) else 0)
    rw [this]
    refine congrArg (fun z => some (Fl.nx (z, ((low + 1 : Nat) : Int)))) (tb_ext fun i' _ j' _ x _ => ?_)
    unfold upTo
    by_cases h : i' = i ∧ j' = j
    · simp only [h, and_self, if_true]
      by_cases hx : x = 2 ^ p + low
      · subst hx; simp
      · by_cases hx2 : x < 2 ^ p + low
        · rw [if_neg hx, if_pos hx2, if_pos (by omega)]
        · rw [if_neg hx, if_neg hx2, if_neg (by omega)]
    · simp only [h, if_false]) (by
    unfold XX
    simp only [h2, k1]
    simp)
  exact this
theorem bit_loop (i j : Nat) (hi : i < 4) (hj : j < 4) (g : Nat → Nat → Nat → UInt8) (s0 s1 : Tab × Int) (h0 : s0.2 = (i : Int)) (h1 : s1.2 = (j : Int)) :
    ZJ (XU (m : Int) s0 s1 (a i j)) (tb (upTo m a i j 1 g), 1) = some (tb (upTo m a i j 256 g)) := by
  have := Z3 (f := XU (m : Int) s0 s1 (a i j)) (fun p : Nat => (tb (upTo m a i j (2 ^ p) g), ((2 ^ p : Nat) : Int))) 0 8 (by omega) (t := tb (upTo m a i j 256 g)) (fun p _ hp => by
    unfold XU
    have h7 : 2 ^ p ≤ 2 ^ 7 := Nat.pow_le_pow_right (by omega) (by omega)
    have hd : decide (((2 ^ p : Nat) : Int) < 256) = true := by simp only [decide_eq_true_eq]; omega
    have hb : Zx ((2 ^ p : Nat) : Int) = UInt8.ofNat (2 ^ p) := by rw [Vl]
    have hw : wr (((2 ^ p : Nat) : Int) * 2) = ((2 ^ (p + 1) : Nat) : Int) := by
      rw [Nat.pow_succ]
      generalize 2 ^ p = q at h7 ⊢
      rw [YG (by omega)]; omega
    have h3 := low_loop m hm hm2 a i j p hi hj hp g s0 s1 (tb (upTo m a i j (2 ^ p) g), ((2 ^ p : Nat) : Int)) h0 h1 rfl
    simp only [hd, if_true, hb, UB m hm, Option.bind_some, h3, hw]) (by unfold XU; simp)
  exact this
theorem v_newMixer (A : Mat) (hA : A = mf a) : Wl (m : Int) A = some ⟨tabT m a⟩ := by
  subst hA
  unfold Wl
  let G : Nat → Nat → Nat → Nat → Nat → UInt8 := fun r c i j x => if i < r ∨ (i = r ∧ j < c) then Z2 m (a i j) (UInt8.ofNat x) else 0
  have hGt : ∀ r c i j x, (i < r ∨ (i = r ∧ j < c)) → G r c i j x = Z2 m (a i j) (UInt8.ofNat x) := fun r c i j x h => if_pos h
  have hGf : ∀ r c i j x, ¬ (i < r ∨ (i = r ∧ j < c)) → G r c i j x = 0 := fun r c i j x h => if_neg h
  have hGe : ∀ r c r' c' i j x, ((i < r ∨ (i = r ∧ j < c)) ↔ (i < r' ∨ (i = r' ∧ j < c'))) → G r c i j x = G r' c' i j x := fun r c r' c' i j x h => by show (if _ then _ else _) = (if _ then _ else _); simp only [h]
  have z0 : ∀ i j, Z2 m (a i j) (UInt8.ofNat 0) = 0 := fun i j => by rw [times_comm hm2 hm]; exact times_zero hm2 hm _
  have col : ∀ r : Nat, r < 4 → ∀ s0 : Tab × Int, s0.2 = (r : Int) → ZJ (XR (m : Int) s0 (vf 4 (a r))) (tb (G r 0), 0) = some (tb (G (r + 1) 0)) := fun r hr s0 h0 => by
    have k1 : tb (G r 4) = tb (G (r + 1) 0) := tb_ext fun i hi j hj x _ => by
      exact hGe _ _ _ _ _ _ _ (by omega)
    have := Z3 (f := XR (m : Int) s0 (vf 4 (a r))) (fun c : Nat => (tb (G r c), (c : Int))) 0 4 (by omega) (t := tb (G (r + 1) 0)) (fun c _ hc => by
      unfold XR
      have e1 : tb (G r c) = tb (upTo m a r c 1 (G r c)) := tb_ext fun i _ j _ x _ => by
        unfold upTo
        by_cases h : i = r ∧ j = c
        · obtain ⟨rfl, rfl⟩ := h
          simp only [and_self, if_true]
          rw [hGf _ _ _ _ _ (by omega)]
          by_cases hx : x < 1
          · have : x = 0 := by omega
            subst this; rw [if_pos hx, z0]
          · rw [if_neg hx]
        · simp only [h, if_false]
      have e2 : tb (upTo m a r c 256 (G r c)) = tb (G r (c + 1)) := tb_ext fun i _ j _ x hx => by
        unfold upTo
        by_cases h : i = r ∧ j = c
        · obtain ⟨rfl, rfl⟩ := h
          simp only [and_self, if_true, hx]
          rw [hGt _ _ _ _ _ (by omega)]
        · simp only [h, if_false]
          exact hGe _ _ _ _ _ _ _ (by omega)
      have h3 := bit_loop m hm hm2 a r c hr hc (G r c) s0 (tb (G r c), (c : Int)) h0 rfl
      rw [← e1, e2] at h3
      simp only [lt4 hc, if_true, ZP _ hc, h3, Option.bind_some, wr4 (show c < 1000 by omega)]) (by
      unfold XR
      simp only [k1]
      simp)
    exact this
  have kz : tb (G 0 0) = Vector.replicate 4 (Vector.replicate 4 (Vector.replicate 256 (0 : UInt8))) := by
    rw [UR 256 (0 : UInt8), UR 4, UR 4]
    exact tb_ext fun i _ j _ x _ => by
      exact hGf _ _ _ _ _ (by omega)
  have k4 : tb (G 4 0) = tabT m a := tb_ext fun i hi j _ x _ => by
    exact hGt _ _ _ _ _ (by omega)
  have := Z3 (f := XY (m : Int) (mf a)) (fun r : Nat => (tb (G r 0), (r : Int))) 0 4 (by omega) (t := tabT m a) (fun r _ hr => by
    unfold XY
    have h3 := col r hr (tb (G r 0), (r : Int)) rfl
    simp only [lt4 hr, if_true, Uk _ hr, h3, Option.bind_some, wr4 (show r < 1000 by omega)]) (by
    unfold XY
    simp only [k4]
    simp)
  have h2 : ZJ (XY (m : Int) (mf a)) (tb (G 0 0), 0) = _ := this
  rw [← kz, h2]; rfl
end

def invB (n : Nat) (p : Vector UInt8 n) : Nat → Vector UInt8 n
  | 0 => Vector.replicate n 0
  | i + 1 => (invB n p i).setIfInBounds (p.toList.getD i 0).toNat (Zx (i : Int))
theorem v_Box_inverse (p : Vector UInt8 256) : X5 p = some (invB 256 p 256) := by
  unfold X5
  have := Z3 (f := Y5 p) (fun i : Nat => (invB 256 p i, (i : Int))) 0 256 (by omega) (t := invB 256 p 256) (fun i _ hi => by
    unfold Y5
    have hd : decide ((i : Int) < 256) = true := by simp; omega
    simp only [hd, if_true, vidx_list p hi, vidx_at, Option.bind_some, bI_toNat, Xs (show i < 9223372036854775807 by omega)]
    rfl) (by unfold Y5; simp)
  have h2 : ZJ (Y5 p) (Vector.replicate 256 0, 0) = _ := this
  rw [h2]; rfl
theorem bf_list (p : Blk) {i : Nat} (h : i < 16) : p.toList.getD i 0 = bf p i := by
  have h1 := vidx_list p h
  rw [vidx_bf p h] at h1
  exact (Option.some.inj h1).symm
theorem v_Places_inverse (p : Blk) (hp : placesB p = true) : Xe p = some (invB 16 p 16) := by
  unfold Xe
  have := Z3 (f := YD p) (fun i : Nat => (invB 16 p i, (i : Int))) 0 16 (by omega) (t := invB 16 p 16) (fun i _ hi => by
    unfold YD
    have hlt := places_lt hp hi
    have hv : ZK (invB 16 p i) (bI (bf p i)) = some (bf (invB 16 p i) (bf p i).toNat) := vidx_bf _ hlt
    simp only [lt16 hi, if_true, vidx_bf p hi, hv, Option.bind_some, bI_toNat, Xs (show i < 9223372036854775807 by omega)]
    rw [← bf_list p hi]
    rfl) (by unfold YD; simp)
  have h2 : ZJ (YD p) (Vector.replicate 16 0, 0) = _ := this
  rw [h2]; rfl

def YY (c : GCipher) : Gengine := ⟨c.Box, invB 256 c.Box 256, c.Places, invB 16 c.Places 16, ⟨tabT c.Field.toNat (mfOf c.Mix)⟩, ⟨tabT c.Field.toNat (mfOf (invM c.Field.toNat c.Mix))⟩, c.Rounds⟩
theorem cipher_places {c : GCipher} (h : Yt c = true) : placesB c.Places = true := by
  unfold Yt at h
  simp only [Bool.and_eq_true] at h
  exact h.1.1.2
theorem cipher_rounds {c : GCipher} (h : Yt c = true) : 1 ≤ c.Rounds ∧ c.Rounds ≤ 20 := by
  unfold Yt at h
  simp only [Bool.and_eq_true, decide_eq_true_eq] at h
  exact h.1.2
theorem v_newEngine (c : GCipher) (h : Yt c = true) : W4 c = some ⟨YY c⟩ := by
  obtain ⟨m, hm, h1, h2⟩ := cipher_field h
  have e : c.Field.toNat = m := by omega
  unfold W4 YY
  rw [e]
  simp only [hm, v_invert m h2 h1, Option.bind_some, v_Box_inverse, v_Places_inverse _ (cipher_places h), v_newMixer m h2 h1 (mfOf c.Mix) c.Mix (mf_mfOf _), v_newMixer m h2 h1 (mfOf (invM m c.Mix)) (invM m c.Mix) (mf_mfOf _)]

def roundF (c : GCipher) (n r : Nat) (k f : Nat → UInt8) : Nat → UInt8 :=
  xorF (if r < n then VX c.Field.toNat (mfOf c.Mix) (moveF c.Places (boxF c.Box f)) else moveF c.Places (boxF c.Box f)) k
def encN (c : GCipher) (k f : Nat → UInt8) (n : Nat) : Nat → Nat → UInt8
  | 0 => xorF f k
  | r + 1 => roundF c n (r + 1) (keyN c.Box k (r + 1)) (encN c k f n r)
def encC (c : GCipher) (k f : Nat → UInt8) (n : Nat) : Nat → UInt8 := encN c k f n n
theorem v_l04Encipher (c : GCipher) (h : Yt c = true) (k f : Nat → UInt8) (n : Nat) (hn : n ≤ 1000) : YM c (vf 16 k) (vf 16 f) (n : Int) = some (vf 16 (encC c k f n)) := by
  obtain ⟨m, hm, h1, h2⟩ := cipher_field h
  have e : c.Field.toNat = m := by omega
  have hp := cipher_places h
  unfold YM
  have i0 : idx (Vz c.Box k n) (0 : Int) = some (vf 16 k) := keys_idx c.Box k (Nat.zero_le n)
  simp only [v_l04Keys c k n hn, Option.bind_some, i0, v_l01Xor]
  have := Z3 (f := Y3 c (n : Int) (Vz c.Box k n)) (fun i : Nat => (vf 16 (encN c k f n (i - 1)), (i : Int))) 1 (n + 1) (by omega) (t := vf 16 (encC c k f n)) (fun i hi1 hi => by
    unfold Y3
    obtain ⟨r, rfl⟩ : ∃ q, i = q + 1 := ⟨i - 1, by omega⟩
    have e1 : decide (((r + 1 : Nat) : Int) ≤ (n : Int)) = true := by simp only [decide_eq_true_eq]; omega
    have YU := v_l03Mix m h2 h1 (mfOf c.Mix) (moveF c.Places (boxF c.Box (encN c k f n r)))
    rw [← mf_mfOf] at YU
    simp only [Nat.add_sub_cancel, e1, if_true, v_l04Boxes, Option.bind_some, v_l03Move c.Places hp, hm, YU, keys_idx c.Box k (show r + 1 ≤ n by omega), Xs (show r + 1 < 9223372036854775807 by omega)]
    by_cases hr : r + 1 < n
    · have e2 : decide (((r + 1 : Nat) : Int) < (n : Int)) = true := by simp only [decide_eq_true_eq]; omega
      simp only [e2, if_true, Option.bind_some, v_l01Xor, encN, roundF, hr, e]
    · have e2 : decide (((r + 1 : Nat) : Int) < (n : Int)) = false := by simp only [decide_eq_false_iff_not]; omega
      simp only [e2, Bool.false_eq_true, if_false, Option.bind_some, v_l01Xor, encN, roundF, hr]) (by
    unfold Y3
    have e1 : decide (((n + 1 : Nat) : Int) ≤ (n : Int)) = false := by simp only [decide_eq_false_iff_not]; omega
    simp only [e1, Bool.false_eq_true, if_false, Nat.add_sub_cancel, encC])
  have h3 : ZJ (Y3 c (n : Int) (Vz c.Box k n)) (vf 16 (xorF f k), 1) = _ := this
  rw [h3]; rfl
theorem boxes_loop (e : Ref Gengine) (s : Blk × Int) (f : Nat → UInt8) (hs : s.1 = vf 16 f) : ZJ (Yi e s) (vf 16 f, 0) = some (vf 16 (boxF e.v.box f)) := by
  have := XC (Yi e s) f (boxF e.v.box f) (by omega) 0 (by omega) (fun j hj => by omega) (fun i _ hi a _ ha => by
    unfold Yi
    simp only [hs, lt16 hi, if_true, ZP _ hi, Option.bind_some, Int.toNat_natCast, vidx_at, boxF]) (fun v => by unfold Yi; simp)
  exact this
theorem v_encipherWith (c : GCipher) (h : Yt c = true) (k f : Nat → UInt8) (n : Nat) (hn : n ≤ 1000) : YA ⟨YY c⟩ (Vz c.Box k n) (vf 16 f) = some (vf 16 (encC c k f n)) := by
  have hp := cipher_places h
  unfold YA
  have i0 : idx (Vz c.Box k n) (0 : Int) = some (vf 16 k) := keys_idx c.Box k (Nat.zero_le n)
  simp only [Option.bind_some, i0, UV]
  have := Z3 (f := Yh ⟨YY c⟩ (Vz c.Box k n)) (fun i : Nat => (vf 16 (encN c k f n (i - 1)), (i : Int))) 1 (n + 1) (by omega) (t := vf 16 (encC c k f n)) (fun i hi1 hi => by
    unfold Yh
    obtain ⟨r, rfl⟩ : ∃ q, i = q + 1 := ⟨i - 1, by omega⟩
    have e1 : decide (((r + 1 : Nat) : Int) < ((Vz c.Box k n).length : Int)) = true := by rw [keys_len]; simp only [decide_eq_true_eq]; omega
    have e3 : wr (((Vz c.Box k n).length : Int) - 1) = (n : Int) := by rw [keys_len, YG (by omega)]; omega
    have hb := boxes_loop ⟨YY c⟩ (vf 16 (encN c k f n r), ((r + 1 : Nat) : Int)) (encN c k f n r) rfl
    have hmv := v_move c.Places hp (boxF c.Box (encN c k f n r))
    have YU := v_mix c.Field.toNat (mfOf c.Mix) (moveF c.Places (boxF c.Box (encN c k f n r)))
    have hsl : ∀ g : Nat → UInt8, slc (vf 16 g).toList (0 : Int) (16 : Int) = some (vf 16 g).toList := fun g => by
      have := slc_ok (l := (vf 16 g).toList) (i := 0) (j := 16) (by omega) (by simp)
      simp only [List.drop_zero] at this
      rw [List.take_of_length_le (by simp)] at this
      exact this
    have q1 : (YY c).box = c.Box := rfl
    have q2 : (YY c).places = c.Places := rfl
    have q3 : (YY c).mixer = ⟨tabT c.Field.toNat (mfOf c.Mix)⟩ := rfl
    simp only [q1] at hb
    simp only [Nat.add_sub_cancel, e1, if_true, hb, Option.bind_some, q2, q3, hmv, e3, hsl, YU, keys_idx c.Box k (show r + 1 ≤ n by omega), Xs (show r + 1 < 9223372036854775807 by omega)]
    by_cases hr : r + 1 < n
    · have e2 : decide (((r + 1 : Nat) : Int) < (n : Int)) = true := by simp only [decide_eq_true_eq]; omega
      simp only [e2, if_true, Option.bind_some, UV, encN, roundF, hr]
    · have e2 : decide (((r + 1 : Nat) : Int) < (n : Int)) = false := by simp only [decide_eq_false_iff_not]; omega
      simp only [e2, Bool.false_eq_true, if_false, Option.bind_some, UV, encN, roundF, hr]) (by
    unfold Yh
    have e1 : decide (((n + 1 : Nat) : Int) < ((Vz c.Box k n).length : Int)) = false := by rw [keys_len]; simp only [decide_eq_false_iff_not]; omega
    simp only [e1, Bool.false_eq_true, if_false, Nat.add_sub_cancel, encC])
  have h3 : ZJ (Yh ⟨YY c⟩ (Vz c.Box k n)) (vf 16 (xorF f k), 1) = _ := this
  rw [h3]; rfl
theorem v_engine_encipher (c : GCipher) (h : Yt c = true) (k f : Nat → UInt8) : Yp ⟨YY c⟩ (vf 16 k) (vf 16 f) = some (vf 16 (encC c k f c.Rounds.toNat)) := by
  have hr := cipher_rounds h
  obtain ⟨n, hn⟩ : ∃ n : Nat, c.Rounds = n := ⟨c.Rounds.toNat, by omega⟩
  have e1 : (YY c).rounds = (n : Int) := hn
  have e2 : (YY c).box = c.Box := rfl
  have hk := v_keys ⟨YY c⟩ k n (by omega)
  rw [e2] at hk
  unfold Yp
  simp only [e1, hk, Option.bind_some, v_encipherWith c h k f n (by omega), hn, Int.toNat_natCast]
theorem v_encipher_rounds (c : GCipher) (h : Yt c = true) (k f : Nat → UInt8) : YM c (vf 16 k) (vf 16 f) c.Rounds = some (vf 16 (encC c k f c.Rounds.toNat)) := by
  have hr := cipher_rounds h
  obtain ⟨n, hn⟩ : ∃ n : Nat, c.Rounds = n := ⟨c.Rounds.toNat, by omega⟩
  rw [hn]
  exact v_l04Encipher c h k f n (by omega)
theorem ofNat_mod (x : Nat) : UInt8.ofNat (x % 256) = UInt8.ofNat x := by
  apply UInt8.toNat_inj.1; simp
def tab (n : Nat) (f : Nat → UInt8) : List UInt8 := (List.range n).map f
@[simp] theorem tab_len (n : Nat) (f : Nat → UInt8) : (tab n f).length = n := by simp [tab]
theorem grow_nil {α : Type} (by_ : Nat) (z : α) (n : Nat) (h : n * by_ ≤ 140737488355328) (hby : 0 < by_) :
    ((if (decide ((n : Int) < 0)) = true then (none) else (some ()) : Option (Unit)).bind fun (_ : Unit) => (if (decide ((wr ((n : Int) - (wr (0 - 0)))) > 0)) = true then ((mkS by_ z (wr ((n : Int) - (wr (0 - 0))))).bind fun (l14 : List α) => (slc l14 (0 : Int) (0 : Int)).bind fun (l16 : List α) => some l16) else (some ([])) : Option (List α)).bind fun (j6 : List α) => some j6) = some [] := by
  have hn : n ≤ 140737488355328 := Nat.le_trans (Nat.le_mul_of_pos_right _ hby) h
  have e0 : wr (0 - 0) = 0 := by decide
  have e1 : wr ((n : Int) - (wr (0 - 0))) = (n : Int) := by rw [e0, YG (by omega)]; omega
  have e2 : ¬ ((n : Int) < 0) := by omega
  rw [e1]
  simp only [e2, decide_false, Bool.false_eq_true, if_false, Option.bind_some]
  by_cases h3 : (n : Int) > 0
  · have hm : mkS by_ z (n : Int) = some (List.replicate n z) := by
      have h4 : ((n * by_ : Nat) : Int) ≤ 140737488355328 := by omega
      rw [Int.natCast_mul] at h4
      unfold mkS
      rw [if_pos ⟨by omega, h4⟩, Int.toNat_natCast]
    have hs : slc (List.replicate n z) (0 : Int) (0 : Int) = some [] := by
      have := slc_ok (l := List.replicate n z) (i := 0) (j := 0) (Nat.le_refl _) (Nat.zero_le _)
      simpa using this
    simp [h3, hm, hs]
  · have h4 : decide ((n : Int) > 0) = false := by simp only [decide_eq_false_iff_not]; exact h3
    simp only [h4, Bool.false_eq_true, if_false, Option.bind_some]
theorem concat_loops {α : Type} (by_ : Nat) (p0 : List (List α)) (L0 : Int × Int → Option (Fl (Int × Int) Int)) (L1 : Int × List α → Option (Fl (Int × List α) (List α)))
    (h0 : ∀ s, L0 s = if (decide (s.1 < (p0.length : Int))) = true then (((idx p0 s.1).bind fun (x : List α) => (if (decide ((wr (s.2 + (x.length : Int))) < 0)) = true then (none) else (some ()) : Option (Unit)).bind fun (_ : Unit) => some (wr (s.2 + (x.length : Int))) : Option (Int)).bind fun (j : Int) => some (Fl.nx (wr (s.1 + 1), j))) else (some (Fl.ex s.2)))
    (h1 : ∀ s, L1 s = if (decide (s.1 < (p0.length : Int))) = true then ((idx p0 s.1).bind fun (x : List α) => (app by_ s.2 x).bind fun (_ : List α) => some (Fl.nx (wr (s.1 + 1), (s.2 ++ x)))) else (some (Fl.ex s.2)))
    (hl : p0.flatten.length * by_ ≤ 140737488355328) (hby : 0 < by_) (hn : p0.length < 9223372036854775807) :
    ZJ L0 (0, 0) = some (p0.flatten.length : Int) ∧ ZJ L1 (0, []) = some p0.flatten := by
  have hlen : p0.flatten.length ≤ 140737488355328 := Nat.le_trans (Nat.le_mul_of_pos_right _ hby) hl
  have hstep : ∀ i (hi : i < p0.length), (p0.take (i + 1)).flatten = (p0.take i).flatten ++ p0[i] := fun i hi => by
    rw [List.take_succ_eq_append_getElem hi, List.flatten_append]; simp
  have hle : ∀ i, (p0.take i).flatten.length ≤ p0.flatten.length := fun i => by
    have : p0.flatten = (p0.take i).flatten ++ (p0.drop i).flatten := by rw [← List.flatten_append, List.take_append_drop]
    rw [this, List.length_append]; omega
  constructor
  · have := Z3 (f := L0) (fun i : Nat => ((i : Int), ((p0.take i).flatten.length : Int))) 0 p0.length (Nat.zero_le _) (t := (p0.flatten.length : Int)) (fun i _ hi => by
      have hs := congrArg List.length (hstep i hi)
      rw [List.length_append] at hs
      have h3 := hle (i + 1)
      have e1 : wr (((p0.take i).flatten.length : Int) + (p0[i].length : Int)) = ((p0.take (i + 1)).flatten.length : Int) := by rw [YG (by omega)]; omega
      have e2 : ¬ (((p0.take (i + 1)).flatten.length : Int) < 0) := by omega
      rw [h0]
      simp only [Int.ofNat_lt, hi, decide_true, if_true, X6, List.getElem?_eq_getElem hi, Option.bind_some, e1, e2, decide_false, Bool.false_eq_true, if_false, Xs (show i < 9223372036854775807 by omega)]) (by
      rw [h0]; simp)
    exact this
  · have := Z3 (f := L1) (fun i : Nat => ((i : Int), (p0.take i).flatten)) 0 p0.length (Nat.zero_le _) (t := p0.flatten) (fun i _ hi => by
      have hs := congrArg List.length (hstep i hi)
      rw [List.length_append] at hs
      have h3 := hle (i + 1)
      have hap : app by_ (p0.take i).flatten p0[i] = some ((p0.take i).flatten ++ p0[i]) := Wi (by
        have : ((p0.take i).flatten.length + p0[i].length) * by_ ≤ p0.flatten.length * by_ := Nat.mul_le_mul_right _ (by omega)
        omega)
      rw [h1]
      simp only [Int.ofNat_lt, hi, decide_true, if_true, X6, List.getElem?_eq_getElem hi, Option.bind_some, hap, Xs (show i < 9223372036854775807 by omega), hstep i hi]) (by
      rw [h1]; simp)
    exact this
def rotB (k : Nat) (b : UInt8) : UInt8 := shlB b (k : Int) ||| shrB b ((8 - k : Nat) : Int)
theorem v_rot1 (b : UInt8) : Yd b 1 = some (rotB 1 b) := by
  have e1 : wru (BitVec.ofInt 64 (IntKind.u64.wrap 1) &&& BitVec.ofInt 64 7).toNat = 1 := by decide +kernel
  have e2 : IntKind.u64.wrap (8 - 1) = 7 := by decide +kernel
  have e3 : Xn 1 = some () := rfl
  have e4 : Xn 7 = some () := rfl
  unfold Yd
  simp only [e1, e2, e3, e4, Option.bind_some]
  rfl
theorem v_rot4 (b : UInt8) : Yd b 4 = some (rotB 4 b) := by
  have e1 : wru (BitVec.ofInt 64 (IntKind.u64.wrap 4) &&& BitVec.ofInt 64 7).toNat = 4 := by decide +kernel
  have e2 : IntKind.u64.wrap (8 - 4) = 4 := by decide +kernel
  have e3 : Xn 4 = some () := rfl
  unfold Yd
  simp only [e1, e2, e3, Option.bind_some]
  rfl
def turnB (k : Nat) (b : UInt8) : UInt8 := Zx (andI (orI (shlI (bI b) (k : Int)) (Ux (shlI (bI b) (k : Int)) 8)) 255)
theorem byte_all {p : UInt8 → Bool} (h : ((List.range 256).all fun n => p (UInt8.ofNat n)) = true) (b : UInt8) : p b = true := by
  have := List.all_eq_true.1 h b.toNat (by simpa using UInt8.toNat_lt b)
  simpa using this
theorem turn0 (b : UInt8) : turnB 0 b = b := by
  have := byte_all (p := fun b => turnB 0 b == b) (by decide +kernel) b
  simpa using this
theorem turn1 (b : UInt8) : turnB 1 b = rotB 1 b := by
  have := byte_all (p := fun b => turnB 1 b == rotB 1 b) (by decide +kernel) b
  simpa using this
theorem turn4 (b : UInt8) : turnB 4 b = rotB 4 b := by
  have := byte_all (p := fun b => turnB 4 b == rotB 4 b) (by decide +kernel) b
  simpa using this
theorem v_turn (b : UInt8) (k : Nat) (h : k < 64) : Xr b (k : Int) = some (turnB k b) := by
  have e1 : IntKind.u64.wrap (k : Int) = (k : Int) := wru_nn k (by omega)
  unfold Xr
  rw [e1]
  have e2 : Xn (k : Int) = some () := by unfold Xn; rw [if_pos (by omega)]
  rw [e2]; rfl
def houseB (x : UInt8) : UInt8 := ((invC 285 x ^^^ rotB 1 (invC 285 x)) ^^^ rotB 4 (invC 285 x)) ^^^ 90
def UP (n : Int) : GCipher := ⟨285, vf 256 fun x => houseB (UInt8.ofNat x), mf fun i j => invC 285 (UInt8.ofNat (i ^^^ (4 + j))), vf 16 fun i => UInt8.ofNat ((13 * i + 4) % 16), n⟩
theorem lt256n {i : Nat} (h : i < 256) : decide ((i : Int) < 256) = true := by simp; omega
theorem fill256 (L : Vector UInt8 256 × Int → Option (Fl (Vector UInt8 256 × Int) (Vector UInt8 256))) (h : Nat → UInt8) (hL : ∀ i : Nat, i < 256 → ∀ a : Nat → UInt8, L (vf 256 a, (i : Int)) = some (.nx ((vf 256 a).setIfInBounds i (h i), wr ((i : Int) + 1))))
    (he : ∀ v, L (v, 256) = some (.ex v)) : ZJ L (Vector.replicate 256 0, 0) = some (vf 256 h) := by
  rw [UR]
  exact XC L (fun _ => 0) h (by omega) 0 (by omega) (fun j hj => by omega) (fun i _ hi a _ _ => hL i hi a) he
theorem mix_fill (E : UInt8 → Option UInt8) (hE : ∀ a, E a = some (invC 285 a)) (L1 : Mat × Int → Mat × Int → Option (Fl (Mat × Int) Mat)) (L0 : Mat × Int → Option (Fl (Mat × Int) Mat))
    (h1 : ∀ s t, L1 s t = if (decide (t.2 < 4)) = true then ((E (Zx (U4 s.2 (wr (4 + t.2))))).bind fun r => (ZK t.1 s.2).bind fun x => (ZK x t.2).bind fun _ => some (Fl.nx ((t.1.setIfInBounds (s.2).toNat (x.setIfInBounds (t.2).toNat r)), wr (t.2 + 1)))) else (some (Fl.ex t.1)))
    (h0 : ∀ s, L0 s = if (decide (s.2 < 4)) = true then ((ZJ (L1 s) (s.1, 0) : Option Mat).bind fun j => some (Fl.nx (j, wr (s.2 + 1)))) else (some (Fl.ex s.1))) :
    ZJ L0 (Vector.replicate 4 (Vector.replicate 4 (0 : UInt8)), 0) = some (mf fun i j => invC 285 (UInt8.ofNat (i ^^^ (4 + j)))) := by
  have inner : ∀ (i : Nat) (hi : i < 4) (g : MF), ZJ (L1 (mf g, (i : Int))) (mf g, 0) = some (mf fun r c => if r = i then invC 285 (UInt8.ofNat (i ^^^ (4 + c))) else g r c) := by
    intro i hi g
    have := Z3 (f := L1 (mf g, (i : Int))) (fun j : Nat => (mf fun r c => if r = i ∧ c < j then invC 285 (UInt8.ofNat (i ^^^ (4 + c))) else g r c, (j : Int))) 0 4 (by omega) (t := mf fun r c => if r = i then invC 285 (UInt8.ofNat (i ^^^ (4 + c))) else g r c) (fun j _ hj => by
      have e1 : wr (4 + (j : Int)) = ((4 + j : Nat) : Int) := by rw [YG (by omega)]; omega
      rw [h1]
      simp only [lt4 hj, if_true, e1, xorI_nat i (4 + j) (by omega) (by omega), Vl, hE, Option.bind_some, Uk _ hi, ZP _ hj, Int.toNat_natCast, U2, mf_set, wr4 (show j < 1000 by omega)]
      refine congrArg (fun z => some (Fl.nx (z, ((j + 1 : Nat) : Int)))) (XZ fun r _ c _ => ?_)
      by_cases hr : r = i
      · subst hr
        by_cases hc : c = j
        · subst hc; simp
        · by_cases hc2 : c < j
          · simp [hc, hc2, show c < j + 1 by omega]
          · simp [hc, hc2, show ¬ c < j + 1 by omega]
      · simp [hr]) (by
      rw [h1]
      simp only [show decide (((4 : Nat) : Int) < 4) = false from rfl, Bool.false_eq_true, if_false]
      refine congrArg (fun z => some (Fl.ex z)) (XZ fun r _ c hc => ?_)
      by_cases hr : r = i <;> simp [hr, hc])
    have e0 : (mf fun r c => if r = i ∧ c < 0 then invC 285 (UInt8.ofNat (i ^^^ (4 + c))) else g r c) = mf g := XZ fun r _ c _ => by simp
    simp only [e0] at this
    exact this
  have := Z3 (f := L0) (fun i : Nat => (mf fun r c => if r < i then invC 285 (UInt8.ofNat (r ^^^ (4 + c))) else 0, (i : Int))) 0 4 (by omega) (t := mf fun i j => invC 285 (UInt8.ofNat (i ^^^ (4 + j)))) (fun i _ hi => by
    rw [h0]
    simp only [lt4 hi, if_true, inner i hi, Option.bind_some, wr4 (show i < 1000 by omega)]
    refine congrArg (fun z => some (Fl.nx (z, ((i + 1 : Nat) : Int)))) (XZ fun r _ c _ => ?_)
    by_cases hr : r = i
    · subst hr; simp
    · by_cases hc2 : r < i
      · simp [hr, hc2, show r < i + 1 by omega]
      · simp [hr, hc2, show ¬ r < i + 1 by omega]) (by
    rw [h0]
    simp only [show decide (((4 : Nat) : Int) < 4) = false from rfl, Bool.false_eq_true, if_false]
    exact congrArg (fun z => some (Fl.ex z)) (XZ fun r hr c hc => by simp [hr]))
  have e0 : (mf fun r c => if r < 0 then invC 285 (UInt8.ofNat (r ^^^ (4 + c))) else 0) = mf fun _ _ => 0 := XZ fun r _ c _ => by simp
  simp only [e0] at this
  rw [mf_zero]
  exact this
theorem place_fill (L : Blk × Int → Option (Fl (Blk × Int) Blk))
    (hL : ∀ s, L s = if (decide (s.2 < 16)) = true then ((ZK s.1 s.2).bind fun _ => some (Fl.nx ((s.1.setIfInBounds (s.2).toNat (Zx (Int.tmod (wr ((wr (13 * s.2)) + 4)) 16))), wr (s.2 + 1)))) else (some (Fl.ex s.1))) :
    ZJ L (Vector.replicate 16 0, 0) = some (vf 16 fun i => UInt8.ofNat ((13 * i + 4) % 16)) := by
  rw [UR]
  exact XC L (fun _ => 0) (fun i => UInt8.ofNat ((13 * i + 4) % 16)) (by omega) 0 (by omega) (fun j hj => by omega) (fun i _ hi a _ _ => by
    have e1 : wr (13 * (i : Int)) = 13 * (i : Int) := YG (by omega)
    have e2 : wr (13 * (i : Int) + 4) = ((13 * i + 4 : Nat) : Int) := by rw [YG (by omega)]; omega
    have e3 : Int.tmod ((13 * i + 4 : Nat) : Int) 16 = (((13 * i + 4) % 16 : Nat) : Int) := by rw [Int.tmod_eq_emod_of_nonneg (by omega)]; omega
    rw [hL]
    simp only [lt16 hi, if_true, ZP _ hi, Option.bind_some, e1, e2, e3, Vl, Int.toNat_natCast]) (fun v => by rw [hL]; simp)
theorem v_houseCipher (n : Int) : Wd n = some (UP n) := by
  have hinv : ∀ a, Yf 285 a = some (invC 285 a) := fun a => v_field_inverse 285 (by omega) a
  have h1 := fill256 XM (fun x => houseB (UInt8.ofNat x)) (fun i hi a => by
    unfold XM
    simp only [lt256n hi, if_true, Vl, hinv, v_rot1, v_rot4, Option.bind_some, ZP _ hi, Int.toNat_natCast]
    rfl) (fun v => by unfold XM; simp)
  have h2 := mix_fill (Yf 285) hinv WQ WO (fun s t => by unfold WQ; rfl) (fun s => by unfold WO; rfl)
  have h3 := place_fill WN (fun s => by unfold WN; rfl)
  unfold Wd UP
  simp only [h1, h2, h3, Option.bind_some]
theorem pow_swap (L : UInt8 × UInt8 × Int → Option (Fl (UInt8 × UInt8 × Int) UInt8)) (T : UInt8 → UInt8 → Option UInt8) (hT : ∀ a b, T a b = some (Z2 285 a b))
    (hL : ∀ s, L s = if (decide (s.2.2 > 0)) = true then (((if ((Int.tmod s.2.2 2) == 1) = true then ((T s.1 s.2.1).bind fun r => some r) else (some s.1) : Option UInt8).bind fun j24 => (T s.2.1 s.2.1).bind fun r32 => some (j24, r32) : Option (UInt8 × UInt8)).bind fun j21 => some (Fl.nx (j21.1, j21.2, wr (Int.tdiv s.2.2 2)))) else (some (Fl.ex s.1))) :
    ∀ (f k : Nat) (a o : UInt8), k < 2 ^ f → f ≤ 62 → ZJ L (o, a, (k : Int)) = some (powC 285 f a k o) := by
  intro f
  induction f with
  | zero =>
    intro k a o hk _
    have : k = 0 := by simpa using hk
    subst this
    exact Ww (by rw [hL]; simp [powC])
  | succ f ih =>
    intro k a o hk hf
    by_cases h0 : k = 0
    · subst h0
      exact Ww (by rw [hL]; simp [powC])
    · have hlt : k < 9223372036854775808 := Nat.lt_of_lt_of_le hk (Nat.pow_le_pow_right (by omega : 0 < 2) (by omega : f + 1 ≤ 63))
      have hst : L (o, a, (k : Int)) = some (.nx (if k % 2 = 1 then Z2 285 o a else o, Z2 285 a a, ((k / 2 : Nat) : Int))) := by
        rw [hL]
        have c1 : (k : Int) > 0 := by omega
        have e3 : ((((k % 2 : Nat) : Int)) == 1) = decide (k % 2 = 1) := by
          rw [Bool.eq_iff_iff, beq_iff_eq, decide_eq_true_eq]; omega
        simp only [c1, decide_true, if_true, tmod2, tdiv2, hT, e3, Option.bind_some, wr_nn (k / 2) (by omega)]
        by_cases c2 : k % 2 = 1 <;> simp [c2]
      rw [WP hst, ih (k / 2) _ _ (by rw [Nat.pow_succ] at hk; omega) (by omega)]
      conv => rhs; unfold powC
      rw [if_neg h0]
theorem v_l02Power : VE 285 254 = some (vf 256 fun x => invC 285 (UInt8.ofNat x)) := by
  have hp := pow_swap (Vi 285) (YB 285) (v_l01Times 285 (by omega) (by omega)) (fun s => by unfold Vi; rfl)
  have hp2 : ∀ a, ZJ (Vi 285) (1, a, 254) = some (invC 285 a) := fun a => hp 8 254 a 1 (by omega) (by omega)
  have h1 := fill256 (W3 285 254) (fun x => invC 285 (UInt8.ofNat x)) (fun i hi a => by
    unfold W3
    simp only [lt256n hi, if_true, Vl, hp2, Option.bind_some, ZP _ hi, Int.toNat_natCast]) (fun v => by unfold W3; simp)
  unfold VE
  simp only [h1, Option.bind_some]
def rots (x : UInt8) : UInt8 := ((90 ^^^ x) ^^^ rotB 1 x) ^^^ rotB 4 x
theorem v_l02Rotations : XK ([0, 1, 4] : List Int) 90 = some (vf 256 fun x => rots (UInt8.ofNat x)) := by
  have t0 : ∀ b, Xr b 0 = some b := fun b => by have := v_turn b 0 (by omega); rw [turn0] at this; exact this
  have t1 : ∀ b, Xr b 1 = some (rotB 1 b) := fun b => by have := v_turn b 1 (by omega); rw [turn1] at this; exact this
  have t4 : ∀ b, Xr b 4 = some (rotB 4 b) := fun b => by have := v_turn b 4 (by omega); rw [turn4] at this; exact this
  have w1 : wr 1 = 1 := by decide
  have w2 : wr 2 = 2 := by decide
  have w3 : wr 3 = 3 := by decide
  have hin : ∀ (s : Vector UInt8 256 × Int), ZJ (Z7 [0, 1, 4] s) (90, 0) = some (rots (Zx s.2)) := by
    intro s
    rw [WP (f := Z7 [0, 1, 4] s) (s := (90, 0)) (s' := (90 ^^^ Zx s.2, 1)) (by unfold Z7; simp [t0, w1, idx])]
    rw [WP (f := Z7 [0, 1, 4] s) (s' := ((90 ^^^ Zx s.2) ^^^ rotB 1 (Zx s.2), 2)) (by unfold Z7; simp [t1, w2, idx])]
    rw [WP (f := Z7 [0, 1, 4] s) (s' := (((90 ^^^ Zx s.2) ^^^ rotB 1 (Zx s.2)) ^^^ rotB 4 (Zx s.2), 3)) (by unfold Z7; simp [t4, w3, idx])]
    exact Ww (by unfold Z7; simp; rfl)
  have h1 := fill256 (Xp [0, 1, 4] 90) (fun x => rots (UInt8.ofNat x)) (fun i hi a => by
    unfold Xp
    simp only [lt256n hi, if_true, hin, Vl, Option.bind_some, ZP _ hi, Int.toNat_natCast]) (fun v => by unfold Xp; simp)
  unfold XK
  simp only [h1, Option.bind_some]
theorem v_l02Then (f g : Nat → UInt8) : V4 (vf 256 f) (vf 256 g) = some (vf 256 fun x => g (f x).toNat) := by
  have hv : ∀ x : UInt8, ZK (vf 256 g) (bI x) = some (g x.toNat) := fun x => ZP g (UInt8.toNat_lt x)
  have h1 := fill256 (VC (vf 256 f) (vf 256 g)) (fun x => g (f x).toNat) (fun i hi a => by
    unfold VC
    simp only [lt256n hi, if_true, Option.bind_some, ZP _ hi, hv, Int.toNat_natCast]) (fun v => by unfold VC; simp)
  unfold V4
  simp only [h1, Option.bind_some]
theorem rots_house (x : UInt8) : rots (UInt8.ofNat (invC 285 x).toNat) = houseB x := by
  rw [UInt8.ofNat_toNat]
  unfold rots houseB
  ac_rfl
theorem v_l04House (n : Int) : VD n = some (UP n) := by
  have hinv : ∀ a, WI 285 a = some (invC 285 a) := fun a => v_l01Inv 285 (by omega) (by omega) a
  have h2 := mix_fill (WI 285) hinv Uo Uh (fun s t => by unfold Uo; rfl) (fun s => by unfold Uh; rfl)
  have h3 := place_fill Uq (fun s => by unfold Uq; rfl)
  unfold VD UP
  simp only [v_l02Power, v_l02Rotations, v_l02Then, rots_house, h2, h3, Option.bind_some]

theorem vf_list {α : Type} (n : Nat) (f : Nat → α) : (vf n f).toList = (List.range n).map f := by
  apply List.ext_getElem
  · simp
  · intro i h1 h2
    simp at h1
    rw [Vector.getElem_toList, vf_get f h1]; simp
theorem house_box : diffB ((List.range 256).map fun x => houseB (UInt8.ofNat x)) = true := by decide +kernel
theorem house_place : placesB (vf 16 fun i => UInt8.ofNat ((13 * i + 4) % 16)) = true := by
  unfold placesB
  rw [vf_list]
  decide +kernel
theorem house_field : isFieldB 285 = true := by decide +kernel
theorem house_det : (detC 285 (mf fun i j => invC 285 (UInt8.ofNat (i ^^^ (4 + j)))) != 0) = true := by decide +kernel
theorem house_is (n : Int) (h : 1 ≤ n ∧ n ≤ 20) : Yt (UP n) = true := by
  unfold Yt UP
  simp only [vf_list, house_box, house_place, house_field, Bool.true_and, h, decide_true, Bool.and_true, and_self]
  exact house_det
theorem v_concatByte (p0 : List (List UInt8)) (hl : p0.flatten.length ≤ 140737488355328) (hn : p0.length < 9223372036854775807) : Z1 p0 = some p0.flatten := by
  obtain ⟨a1, a2⟩ := concat_loops 1 p0 (Y0 p0) (YX p0) (fun s => by unfold Y0; rfl) (fun s => by unfold YX; rfl) (by omega) (by omega) hn
  have hg : Yv (p0.flatten.length : Int) = some [] := by
    unfold Yv
    exact grow_nil 1 _ _ (by omega) (by omega)
  unfold Z1
  simp only [a1, a2, hg, Option.bind_some]
theorem v_cloneByte (l : List UInt8) (h : l.length ≤ 140737488355328) : YJ l = some l := by
  unfold YJ
  rw [Wi (by simp; omega)]; rfl
theorem v_l01Copy (l : List UInt8) (h : l.length ≤ 140737488355328) : Ud l = some l := by
  unfold Ud
  rw [Wi (by simp; omega)]; rfl
theorem toArr_vf {l : List UInt8} {n : Nat} (h : n ≤ l.length) : toArr n l = some (vf n fun j => l.getD j 0) := by
  unfold toArr
  rw [dif_pos h]
  refine congrArg some (vec_ext fun i hi => ?_)
  rw [vf_get _ hi, List.getD_eq_getElem?_getD, List.getElem?_eq_getElem (by omega)]
  simp
theorem slc_getD {l : List UInt8} {i j : Nat} (h : i ≤ j) (h2 : j ≤ l.length) : ∃ r, slc l (i : Int) (j : Int) = some r ∧ r.length = j - i ∧ ∀ k, k < j - i → r.getD k 0 = l.getD (i + k) 0 := by
  refine ⟨_, slc_ok h h2, by simp; omega, fun k hk => ?_⟩
  rw [List.getD_eq_getElem?_getD, List.getD_eq_getElem?_getD, List.getElem?_drop, List.getElem?_take, if_pos (by omega)]

def beL (n : Int) : Nat → List UInt8
  | 0 => []
  | k + 1 => Zx (Ux n ((8 * k : Nat) : Int)) :: beL n k
theorem beL_len (n : Int) : ∀ k, (beL n k).length = k
  | 0 => rfl
  | k + 1 => by rw [beL, List.length_cons, beL_len n k]
theorem be_loop (n : Int) (L : List UInt8 × Int → Option (Fl (List UInt8 × Int) (List UInt8))) (K : Nat)
    (hL : ∀ (k : Nat) (acc : List UInt8), k < K → acc.length ≤ 100000000 → L (acc, (k : Int)) = some (.nx (acc ++ [Zx (Ux n ((8 * k : Nat) : Int))], (k : Int) - 1))) (he : ∀ acc, L (acc, -1) = some (.ex acc)) :
    ∀ (k : Nat) (acc : List UInt8), k ≤ K → acc.length + k ≤ 100000000 → ZJ L (acc, (k : Int) - 1) = some (acc ++ beL n k) := by
  intro k
  induction k with
  | zero => intro acc _ _; rw [show ((0 : Nat) : Int) - 1 = -1 from rfl, Ww (he acc)]; simp [beL]
  | succ k ih =>
    intro acc hk hl
    have e : ((k + 1 : Nat) : Int) - 1 = (k : Int) := by omega
    rw [e, WP (hL k acc (by omega) (by omega)), ih _ (by omega) (by simp; omega)]
    simp [beL]
theorem v_bigEndian (n : Int) (m : Nat) (hm : m ≤ 100) : YQ n (m : Int) = some (beL n m) := by
  have h := be_loop n (WA n) 100 (fun k acc hk hl => by
    unfold WA
    have e1 : wr (8 * (k : Int)) = ((8 * k : Nat) : Int) := by rw [YG (by omega)]; omega
    have e2 : Xn ((8 * k : Nat) : Int) = some () := by unfold Xn; rw [if_pos (by omega)]
    have e3 : wr ((k : Int) - 1) = (k : Int) - 1 := YG (by omega)
    have e4 : decide ((k : Int) ≥ 0) = true := by simp
    simp only [e1, e2, e3, e4, if_true, Option.bind_some]
    rw [Wi (by simp; omega)]; rfl) (fun acc => by unfold WA; simp) m [] hm (by simp; omega)
  have e : wr ((m : Int) - 1) = (m : Int) - 1 := YG (by omega)
  unfold YQ
  rw [e, h]; rfl
theorem and255 (x : Int) : Zx (andI x 255) = Zx x := by
  have h1 : (BitVec.ofInt 64 255) = (255 : BitVec 64) := rfl
  have h2 : (BitVec.ofInt 64 x &&& BitVec.ofInt 64 255).toNat = (x % 256).toNat := by
    rw [BitVec.toNat_and, h1, show (255 : BitVec 64).toNat = 2 ^ 8 - 1 from rfl, Nat.and_two_pow_sub_one_eq_mod, BitVec.toNat_ofInt]
    omega
  unfold andI Zx
  rw [h2, YG (by omega)]
  congr 1
  omega
theorem v_l12Four (n : Int) : V7 n = some (beL n 4) := by
  have e0 : Ux n 0 = n := by unfold Ux; simp
  unfold V7
  simp only [and255]
  have : beL n 4 = [Zx (Ux n 24), Zx (Ux n 16), Zx (Ux n 8), Zx (Ux n 0)] := rfl
  rw [this, e0]

def W1 (n : Nat) : Nat := (24 - n % 16) % 16
def padC (d : List UInt8) : List UInt8 := ((d ++ [128]) ++ List.replicate (W1 (d.length + 1)) 0) ++ beL (d.length : Int) 8
theorem padC_len (d : List UInt8) : ∃ n, (padC d).length = 16 * n ∧ n ≤ d.length + 2 := by
  have : (padC d).length = d.length + 1 + W1 (d.length + 1) + 8 := by simp [padC, beL_len]; omega
  refine ⟨(d.length + 1 + W1 (d.length + 1) + 8) / 16, ?_, ?_⟩
  · rw [this]; unfold W1; omega
  · unfold W1; omega
theorem pad_loop (L : List UInt8 → Option (Fl (List UInt8) (List UInt8))) (hL : ∀ s, L s = if ((Int.tmod (s.length : Int) 16) != 8) = true then ((app 1 s ([0] : List UInt8)).bind fun (_ : List UInt8) => some (Fl.nx (s ++ ([0] : List UInt8)))) else (some (Fl.ex s)))
    (l : List UInt8) (hl : l.length ≤ 100000000) : ZJ L l = some (l ++ List.replicate (W1 l.length) 0) := by
  have ht : ∀ n : Nat, Int.tmod (n : Int) 16 = ((n % 16 : Nat) : Int) := fun n => by rw [Int.tmod_eq_emod_of_nonneg (by omega)]; omega
  have := Z3 (f := L) (fun i : Nat => l ++ List.replicate i 0) 0 (W1 l.length) (Nat.zero_le _) (t := l ++ List.replicate (W1 l.length) 0) (fun i _ hi => by
    rw [hL, ht]
    have hz : W1 l.length < 16 := by unfold W1; omega
    have e : ((((l ++ List.replicate i 0).length % 16 : Nat) : Int) != 8) = true := by
      simp only [List.length_append, List.length_replicate, bne_iff_ne, ne_eq]
      unfold W1 at hi; omega
    rw [e, if_pos rfl, Wi (by simp; omega)]
    simp [List.replicate_succ']) (by
    rw [hL, ht]
    have e : ((((l ++ List.replicate (W1 l.length) 0).length % 16 : Nat) : Int) != 8) = false := by
      simp only [List.length_append, List.length_replicate, bne_eq_false_iff_eq]
      unfold W1; omega
    rw [e]; rfl)
  simpa using this
theorem v_padMessage (d : List UInt8) (h : d.length ≤ 10000000) : Wy d = some (padC d) := by
  have h1 := pad_loop Vt (fun s => by unfold Vt; rfl) (d ++ [128]) (by simp; omega)
  have h2 := v_bigEndian (d.length : Int) 8 (by omega)
  have h3 : YQ (d.length : Int) 8 = some (beL (d.length : Int) 8) := h2
  have hz : W1 (d.length + 1) < 16 := by unfold W1; omega
  have e : (d ++ [128]).length = d.length + 1 := by simp
  rw [e] at h1
  unfold Wy padC
  rw [v_cloneByte d (by omega), Option.bind_some, Wi (by simp; omega), Option.bind_some, h1, Option.bind_some, h3, Option.bind_some, Wi (by simp [beL_len]; omega)]
  rfl
theorem v_l08Pad (d : List UInt8) (h : d.length ≤ 10000000) : UE d = some (padC d) := by
  have h1 := pad_loop U3 (fun s => by unfold U3; rfl) (d ++ [128]) (by simp; omega)
  have hz : W1 (d.length + 1) < 16 := by unfold W1; omega
  have e : (d ++ [128]).length = d.length + 1 := by simp
  rw [e] at h1
  have h2 := be_loop (d.length : Int) (WZ d) 100 (fun k acc hk hl => by
    unfold WZ
    have e1 : wr (8 * (k : Int)) = ((8 * k : Nat) : Int) := by rw [YG (by omega)]; omega
    have e5 : IntKind.u64.wrap ((8 * k : Nat) : Int) = ((8 * k : Nat) : Int) := wru_nn _ (by omega)
    have e2 : Xn ((8 * k : Nat) : Int) = some () := by unfold Xn; rw [if_pos (by omega)]
    have e3 : wr ((k : Int) - 1) = (k : Int) - 1 := YG (by omega)
    have e4 : decide ((k : Int) ≥ 0) = true := by simp
    simp only [e1, e5, e2, e3, e4, if_true, Option.bind_some, and255]
    rw [Wi (by simp; omega)]; rfl) (fun acc => by unfold WZ; simp) 8 ((d ++ [128]) ++ List.replicate (W1 (d.length + 1)) 0) (by omega) (by simp; omega)
  have h3 : ZJ (WZ d) ((d ++ [128]) ++ List.replicate (W1 (d.length + 1)) 0, 7) = some (((d ++ [128]) ++ List.replicate (W1 (d.length + 1)) 0) ++ beL (d.length : Int) 8) := h2
  unfold UE padC
  rw [v_l01Copy d (by omega), Option.bind_some, Wi (by simp; omega), Option.bind_some, h1, Option.bind_some, h3]
  rfl

def blkAt (l : List UInt8) (i : Nat) : Blk := vf 16 fun j => l.getD (16 * i + j) 0
def Xy (l : List UInt8) (n : Nat) : List Blk := (List.range n).map (blkAt l)
theorem blocksC_len (l : List UInt8) (n : Nat) : (Xy l n).length = n := by simp [Xy]
theorem blocksC_succ (l : List UInt8) (n : Nat) : Xy l (n + 1) = Xy l n ++ [blkAt l n] := by simp [Xy, List.range_succ]
theorem v_blocksOf (l : List UInt8) (n : Nat) (hl : l.length = 16 * n) (hn : n ≤ 100000000) : Vv l = some (Xy l n) := by
  have := Z3 (f := XP l) (fun i : Nat => (Xy l i, ((16 * i : Nat) : Int))) 0 n (Nat.zero_le _) (t := Xy l n) (fun i _ hi => by
    unfold XP
    have e1 : wr (((16 * i : Nat) : Int) + 16) = ((16 * (i + 1) : Nat) : Int) := by rw [YG (by omega)]; omega
    have e2 : decide (((16 * i : Nat) : Int) < (l.length : Int)) = true := by simp; omega
    obtain ⟨r, r1, r2, r3⟩ := slc_getD (l := l) (i := 16 * i) (j := 16 * (i + 1)) (by omega) (by omega)
    have e3 : toArr 16 r = some (blkAt l i) := by
      rw [toArr_vf (by omega)]
      exact congrArg some (YN fun j hj => r3 j (by omega))
    simp only [e1, e2, if_true, r1, e3, Option.bind_some]
    rw [Wi (by rw [blocksC_len]; simp; omega), blocksC_succ]; rfl) (by
    unfold XP
    have e2 : decide (((16 * n : Nat) : Int) < (l.length : Int)) = false := by simp; omega
    simp only [e2, Bool.false_eq_true, if_false])
  have h2 : ZJ (XP l) ([], 0) = _ := this
  unfold Vv
  rw [h2]; rfl
theorem v_l01Blocks (l : List UInt8) (n : Nat) (hl : l.length = 16 * n) (hn : n ≤ 100000000) : Ve l = some (Xy l n) := by
  have := Z3 (f := XF l) (fun i : Nat => (Xy l i, ((16 * i : Nat) : Int))) 0 n (Nat.zero_le _) (t := Xy l n) (fun i _ hi => by
    unfold XF
    have e1 : wr (((16 * i : Nat) : Int) + 16) = ((16 * (i + 1) : Nat) : Int) := by rw [YG (by omega)]; omega
    have e2 : decide (((16 * (i + 1) : Nat) : Int) ≤ (l.length : Int)) = true := by simp; omega
    have h3 := XC (Xz l (Xy l i, ((16 * i : Nat) : Int))) (fun _ => 0) (fun j => l.getD (16 * i + j) 0) (by omega) 0 (by omega) (fun j hj => by omega) (fun j _ hj a _ _ => by
      unfold Xz
      have e4 : wr (((16 * i : Nat) : Int) + (j : Int)) = ((16 * i + j : Nat) : Int) := by rw [YG (by omega)]; omega
      have e5 : 16 * i + j < l.length := by omega
      simp only [lt16 hj, if_true, e4, X6, List.getElem?_eq_getElem e5, ZP _ hj, Option.bind_some, Int.toNat_natCast, List.getD_eq_getElem?_getD, Option.getD_some]) (fun v => by unfold Xz; simp)
    have h4 : ZJ (Xz l (Xy l i, ((16 * i : Nat) : Int))) (Vector.replicate 16 0, 0) = some (blkAt l i) := by rw [UR]; exact h3
    simp only [e1, e2, if_true, h4, Option.bind_some]
    rw [Wi (by rw [blocksC_len]; simp; omega), blocksC_succ]; rfl) (by
    unfold XF
    have e1 : wr (((16 * n : Nat) : Int) + 16) = ((16 * (n + 1) : Nat) : Int) := by rw [YG (by omega)]; omega
    have e2 : decide (((16 * (n + 1) : Nat) : Int) ≤ (l.length : Int)) = false := by simp; omega
    simp only [e1, e2, Bool.false_eq_true, if_false])
  have h2 : ZJ (XF l) ([], 0) = _ := this
  unfold Ve
  rw [h2]; rfl

abbrev Dig := Vector UInt8 32
def df (v : Dig) (i : Nat) : UInt8 := v[i]?.getD default
theorem vf_df (v : Dig) : v = vf 32 (df v) := vf_of v
def startV : Dig := vf 32 fun i => UInt8.ofNat (17 * i)
theorem lt32 {i : Nat} (h : i < 32) : decide ((i : Int) < 32) = true := by simp; omega
theorem v_Start : Xw = some startV := by
  have h := XC YH (fun _ => 0) (fun i => UInt8.ofNat (17 * i)) (by omega) 0 (by omega) (fun j hj => by omega) (fun i _ hi a _ _ => by
    unfold YH
    have e1 : wr (17 * (i : Int)) = ((17 * i : Nat) : Int) := by rw [YG (by omega)]; omega
    simp only [lt32 hi, if_true, ZP _ hi, Option.bind_some, e1, Vl, Int.toNat_natCast]) (fun v => by unfold YH; simp)
  have h2 : ZJ YH (Vector.replicate 32 0, 0) = some startV := by rw [UR]; exact h
  unfold Xw
  rw [h2]; rfl
theorem v_l08Start : VI = some startV := by
  have h := XC XT (fun _ => 0) (fun i => UInt8.ofNat (17 * i)) (by omega) 0 (by omega) (fun j hj => by omega) (fun i _ hi a _ _ => by
    unfold XT
    have e1 : wr (17 * (i : Int)) = ((17 * i : Nat) : Int) := by rw [YG (by omega)]; omega
    have e2 : Int.tmod ((17 * i : Nat) : Int) 256 = ((17 * i % 256 : Nat) : Int) := by rw [Int.tmod_eq_emod_of_nonneg (by omega)]; omega
    simp only [lt32 hi, if_true, ZP _ hi, Option.bind_some, e1, e2, Vl, ofNat_mod, Int.toNat_natCast]) (fun v => by unfold XT; simp)
  have h2 : ZJ XT (Vector.replicate 32 0, 0) = some startV := by rw [UR]; exact h
  unfold VI
  rw [h2]; rfl
def hiF (s : Nat → UInt8) : Nat → UInt8 := fun i => s (16 + i)
def joinF (f g : Nat → UInt8) : Nat → UInt8 := fun i => if i < 16 then f i else g (i - 16)
def halfC (c : GCipher) (k a : Nat → UInt8) : Nat → UInt8 := xorF (encC c k a c.Rounds.toNat) a
def absC (c : GCipher) (s m : Nat → UInt8) : Nat → UInt8 :=
  joinF (halfC c (hiF s) (xorF s m)) (halfC c (halfC c (hiF s) (xorF s m)) (xorF (hiF s) m))
theorem v_l08Halves (s : Nat → UInt8) : W8 (vf 32 s) = some (vf 16 s, vf 16 (hiF s)) := by
  have := Z3 (f := XA (vf 32 s)) (fun i : Nat => (vf 16 (fun j => if j < i then hiF s j else 0), vf 16 (fun j => if j < i then s j else 0), (i : Int))) 0 16 (by omega) (t := (vf 16 (hiF s), vf 16 s)) (fun i _ hi => by
    unfold XA
    have e1 : wr (16 + (i : Int)) = ((16 + i : Nat) : Int) := by rw [YG (by omega)]; omega
    simp only [lt16 hi, if_true, e1, ZP _ (show i < 32 by omega), ZP _ (show 16 + i < 32 by omega), ZP _ hi, Option.bind_some, Int.toNat_natCast, U2, Xs (show i < 9223372036854775807 by omega)]
    have e : ∀ f : Nat → UInt8, (vf 16 fun j => if j = i then f i else if j < i then f j else 0) = vf 16 fun j => if j < i + 1 then f j else 0 := fun f => YN fun j _ => by
      by_cases h1 : j = i
      · subst h1; simp
      · by_cases h2 : j < i
        · rw [if_neg h1, if_pos h2, if_pos (by omega)]
        · rw [if_neg h1, if_neg h2, if_neg (by omega)]
    have ea := e (hiF s)
    have eb := e s
    rw [eb]
    have ea' : (vf 16 fun j => if j = i then s (16 + i) else if j < i then hiF s j else 0) = vf 16 fun j => if j < i + 1 then hiF s j else 0 := ea
    rw [ea']) (by
    unfold XA
    simp only [show decide (((16 : Nat) : Int) < 16) = false from rfl, Bool.false_eq_true, if_false]
    refine congrArg (fun z => some (Fl.ex z)) (congr (congrArg Prod.mk (YN fun j hj => by rw [if_pos hj])) (YN fun j hj => by rw [if_pos hj])))
  have h2 : ZJ (XA (vf 32 s)) (vf 16 (fun _ => 0), vf 16 (fun _ => 0), 0) = some (vf 16 (hiF s), vf 16 s) := by
    have e0 : ∀ f : Nat → UInt8, (vf 16 fun j => if j < 0 then f j else 0) = vf 16 fun _ => 0 := fun f => YN fun j _ => by simp
    simp only [e0] at this
    exact this
  unfold W8
  rw [UR, h2]; rfl
theorem v_l08Absorb (c : GCipher) (h : Yt c = true) (s m : Nat → UInt8) : XV c (vf 32 s) (vf 16 m) = some (vf 32 (absC c s m)) := by
  have hj : ∀ f g : Nat → UInt8, ZJ (XH (vf 16 f) (vf 16 g)) (Vector.replicate 32 0, 0) = some (vf 32 (joinF f g)) := by
    intro f g
    have := Z3 (f := XH (vf 16 f) (vf 16 g)) (fun i : Nat => (vf 32 (fun j => if j < i then f j else if 16 ≤ j ∧ j < 16 + i then g (j - 16) else 0), (i : Int))) 0 16 (by omega) (t := vf 32 (joinF f g)) (fun i _ hi => by
      unfold XH
      have e1 : wr (16 + (i : Int)) = ((16 + i : Nat) : Int) := by rw [YG (by omega)]; omega
      simp only [lt16 hi, if_true, e1, ZP _ (show i < 32 by omega), ZP _ (show 16 + i < 32 by omega), ZP _ hi, Option.bind_some, Int.toNat_natCast, U2, Xs (show i < 9223372036854775807 by omega)]
      refine congrArg (fun z => some (Fl.nx (z, ((i + 1 : Nat) : Int)))) (YN fun j hj => ?_)
      by_cases h1 : j = 16 + i
      · subst h1
        rw [if_pos rfl, if_neg (by omega), if_pos (by omega)]
        congr 1; omega
      · rw [if_neg h1]
        by_cases h2 : j = i
        · subst h2; rw [if_pos rfl, if_pos (by omega)]
        · rw [if_neg h2]
          by_cases h3 : j < i
          · rw [if_pos h3, if_pos (by omega)]
          · rw [if_neg h3, if_neg (show ¬ j < i + 1 by omega)]
            by_cases h4 : 16 ≤ j ∧ j < 16 + i
            · rw [if_pos h4, if_pos (by omega)]
            · rw [if_neg h4, if_neg (by omega)]) (by
      unfold XH
      simp only [show decide (((16 : Nat) : Int) < 16) = false from rfl, Bool.false_eq_true, if_false]
      refine congrArg (fun z => some (Fl.ex z)) (YN fun j hj => ?_)
      unfold joinF
      by_cases h3 : j < 16
      · rw [if_pos h3, if_pos h3]
      · rw [if_neg h3, if_neg h3, if_pos (by omega)])
    have e0 : (vf 32 fun j => if j < 0 then f j else if 16 ≤ j ∧ j < 16 + 0 then g (j - 16) else 0) = vf 32 fun _ => 0 := YN fun j _ => by rw [if_neg (by omega), if_neg (by omega)]
    simp only [e0] at this
    rw [UR]
    exact this
  unfold XV
  simp only [v_l08Halves, Option.bind_some, v_l01Xor, v_encipher_rounds c h, hj]
  rfl
theorem v_absorb (c : GCipher) (h : Yt c = true) (s m : Nat → UInt8) : YP ⟨YY c⟩ (vf 32 s) (vf 16 m) = some (vf 32 (absC c s m)) := by
  have g1 : ∀ {n : Nat} (f : Nat → UInt8) (k : Nat), k < n → (vf n f).toList.getD k 0 = f k := fun f k hk => by
    rw [vf_list, List.getD_eq_getElem?_getD, List.getElem?_map, List.getElem?_range hk]; rfl
  have hl : ∀ {n : Nat} (f : Nat → UInt8), (vf n f).toList.length = n := fun f => by simp
  have cut : ∀ {n : Nat} (f : Nat → UInt8) (i j : Nat), i ≤ j → j ≤ n → ∃ r, slc (vf n f).toList (i : Int) (j : Int) = some r ∧ r.length = j - i ∧ toArr (j - i) r = some (vf (j - i) fun k => f (i + k)) ∧ ∀ k, k < j - i → r.getD k 0 = f (i + k) := by
    intro n f i j hij hjn
    obtain ⟨r, r1, r2, r3⟩ := slc_getD (l := (vf n f).toList) (i := i) (j := j) hij (by rw [hl]; exact hjn)
    have r4 : ∀ k, k < j - i → r.getD k 0 = f (i + k) := fun k hk => by rw [r3 k hk, g1 f (i + k) (by omega)]
    refine ⟨r, r1, r2, ?_, r4⟩
    rw [toArr_vf (by omega)]
    exact congrArg some (YN r4)
  obtain ⟨l, l1, l2, l3, l4⟩ := cut (n := 32) s 0 16 (by omega) (by omega)
  obtain ⟨l', l1', l2', l3', l4'⟩ := cut (n := 32) s 16 32 (by omega) (by omega)
  have a1 : slc (vf 32 s).toList (0 : Int) (16 : Int) = some l := l1
  have a2 : slc (vf 32 s).toList (16 : Int) (32 : Int) = some l' := l1'
  have a3 : toArr 16 l = some (vf 16 s) := by
    have : toArr 16 l = some (vf 16 fun k => s (0 + k)) := l3
    rw [this]; exact congrArg some (YN fun k _ => by rw [Nat.zero_add])
  have a4 : toArr 16 l' = some (vf 16 (hiF s)) := l3'
  have join : ∀ f g : Nat → UInt8, ((slc (vf 16 f).toList (0 : Int) (16 : Int)).bind fun (l56 : (List UInt8)) => (slc (vf 16 g).toList (0 : Int) (16 : Int)).bind fun (l59 : (List UInt8)) => (Z1 ([l56, l59] : (List (List UInt8)))).bind fun (r64 : (List UInt8)) => (toArr 32 r64).bind fun (x67 : (Vector UInt8 32)) => some x67 : Option ((Vector UInt8 32))) = some (vf 32 (joinF f g)) := by
    intro f g
    obtain ⟨p, p1, p2, _, p4⟩ := cut (n := 16) f 0 16 (by omega) (by omega)
    obtain ⟨q, q1, q2, _, q4⟩ := cut (n := 16) g 0 16 (by omega) (by omega)
    have b1 : slc (vf 16 f).toList (0 : Int) (16 : Int) = some p := p1
    have b2 : slc (vf 16 g).toList (0 : Int) (16 : Int) = some q := q1
    have b3 : Z1 [p, q] = some (p ++ q) := by
      have := v_concatByte [p, q] (by simp; omega) (by simp)
      simpa using this
    rw [b1, Option.bind_some, b2, Option.bind_some, b3, Option.bind_some, toArr_vf (by simp; omega), Option.bind_some]
    refine congrArg some (YN fun k hk => ?_)
    unfold joinF
    rw [List.getD_eq_getElem?_getD]
    by_cases h1 : k < 16
    · rw [if_pos h1, List.getElem?_append_left (by omega), ← List.getD_eq_getElem?_getD, p4 k (by omega), Nat.zero_add]
    · rw [if_neg h1, List.getElem?_append_right (by omega), ← List.getD_eq_getElem?_getD, q4 (k - p.length) (by omega), Nat.zero_add, show p.length = 16 from p2]
  have in1 : ∀ k a : Nat → UInt8, ((Yp ⟨YY c⟩ (vf 16 k) (vf 16 a)).bind fun (r34 : (Vector UInt8 16)) => (Ym r34 (vf 16 a)).bind fun (r36 : (Vector UInt8 16)) => some r36 : Option (Vector UInt8 16)) = some (vf 16 (halfC c k a)) := fun k a => by
    rw [v_engine_encipher c h, Option.bind_some, UV, Option.bind_some]; rfl
  unfold YP
  rw [a1, Option.bind_some, a3, Option.bind_some, a2, Option.bind_some, a4, Option.bind_some, UV, Option.bind_some, in1, Option.bind_some, UV, Option.bind_some, in1, Option.bind_some, join, Option.bind_some]
  rfl

def absV (c : GCipher) (s : Dig) (m : Blk) : Dig := vf 32 (absC c (df s) (bf m))
theorem absV_vf (c : GCipher) (h : Yt c = true) (s : Dig) (m : Blk) : YP ⟨YY c⟩ s m = some (absV c s m) ∧ XV c s m = some (absV c s m) := by
  have h1 := v_absorb c h (df s) (bf m)
  have h2 := v_l08Absorb c h (df s) (bf m)
  rw [← vf_df, ← vf_bf] at h1 h2
  exact ⟨h1, h2⟩
def digC (c : GCipher) (d : List UInt8) : Dig := (Xy (padC d) ((padC d).length / 16)).foldl (absV c) startV
theorem v_digest (c : GCipher) (h : Yt c = true) (ps : List (List UInt8)) (hl : ps.flatten.length ≤ 10000000) (hn : ps.length < 9223372036854775807) : YS ⟨YY c⟩ ps = some (digC c ps.flatten) := by
  obtain ⟨n, n1, n2⟩ := padC_len ps.flatten
  have e : (padC ps.flatten).length / 16 = n := by omega
  have h1 := iter_fold (f := YI ⟨YY c⟩ (Xy (padC ps.flatten) n)) (Xy (padC ps.flatten) n) (fun (b : Dig) i => (b, i)) (absV c) startV (t := digC c ps.flatten) (by rw [blocksC_len]; omega) (fun i hi => by
    unfold YI
    simp only [Int.ofNat_lt, hi, decide_true, if_true, X6, List.getElem?_eq_getElem hi, Option.bind_some, (absV_vf c h _ _).1]) (by
    unfold YI digC
    rw [e]; simp)
  unfold YS
  rw [v_Start, Option.bind_some, v_concatByte ps (by omega) hn, Option.bind_some, v_padMessage _ hl, Option.bind_some, v_blocksOf _ n n1 (by omega), Option.bind_some]
  have h2 : ZJ (YI ⟨YY c⟩ (Xy (padC ps.flatten) n)) (startV, 0) = _ := h1
  rw [h2]; rfl
theorem v_l08Of (c : GCipher) (h : Yt c = true) (d : List UInt8) (hl : d.length ≤ 10000000) : Ur c d = some (digC c d) := by
  obtain ⟨n, n1, n2⟩ := padC_len d
  have e : (padC d).length / 16 = n := by omega
  have h1 := iter_fold (f := VP c (Xy (padC d) n)) (Xy (padC d) n) (fun (b : Dig) i => (b, i)) (absV c) startV (t := digC c d) (by rw [blocksC_len]; omega) (fun i hi => by
    unfold VP
    simp only [Int.ofNat_lt, hi, decide_true, if_true, X6, List.getElem?_eq_getElem hi, Option.bind_some, (absV_vf c h _ _).2]) (by
    unfold VP digC
    rw [e]; simp)
  unfold Ur
  rw [v_l08Pad _ hl, Option.bind_some, v_l01Blocks _ n n1 (by omega), Option.bind_some, v_l08Start, Option.bind_some]
  have h2 : ZJ (VP c (Xy (padC d) n)) (startV, 0) = _ := h1
  rw [h2]; rfl
theorem v_l08Bytes (d : Dig) : VF d = some d.toList := by
  have h := iter_map (f := WW d) (List.range 32) (fun i => df d i) (t := d.toList) (by simp) (fun i hi => by
    have hi' : i < 32 := by simpa using hi
    unfold WW
    have hv : ZK d (i : Int) = some (df d i) := by
      have := ZP (df d) hi'
      rwa [← vf_df] at this
    simp only [lt32 hi', if_true, hv, Option.bind_some]
    rw [Wi (by simp; omega)]
    simp) (by
    unfold WW
    have e : (List.range 32).map (fun i => df d i) = d.toList := by
      conv => rhs; rw [vf_df d]
      rw [vf_list]
    simp only [List.length_range, show decide (((32 : Nat) : Int) < 32) = false from rfl, Bool.false_eq_true, if_false, e])
  unfold VF
  rw [h]; rfl
theorem house4 : Yt (UP 4) = true := house_is 4 (by omega)
theorem v_l12Cipher : Vd = some (UP 4) := by
  unfold Vd
  rw [v_l04House]; rfl
theorem v_house (n : Int) (h : 1 ≤ n ∧ n ≤ 20) : U5 n = some ⟨YY (UP n)⟩ := by
  unfold U5
  rw [v_houseCipher, Option.bind_some, v_newEngine _ (house_is n h)]; rfl
theorem v_vaultEngine : X8 = some ⟨YY (UP 4)⟩ := by
  unfold X8
  rw [v_house 4 (by omega)]; rfl
theorem slc_all (d : Dig) : slc d.toList (0 : Int) (32 : Int) = some d.toList := by
  have h1 : slc d.toList ((0 : Nat) : Int) ((32 : Nat) : Int) = _ := slc_ok (Nat.zero_le _) (by simp)
  have h2 : slc d.toList (0 : Int) (32 : Int) = _ := h1
  rw [h2, List.drop_zero, List.take_of_length_le (by simp)]
def Uy (k : Blk) (b : UInt8) : Blk := vf 16 fun i => bf k i ^^^ b
theorem mask_loop (b : UInt8) (L : Blk × Int → Option (Fl (Blk × Int) Blk)) (hL : ∀ s, L s = if (decide (s.2 < 16)) = true then ((ZK s.1 s.2).bind fun x => (ZK s.1 s.2).bind fun _ => some (Fl.nx ((s.1.setIfInBounds (s.2).toNat (x ^^^ b)), wr (s.2 + 1)))) else (some (Fl.ex s.1))) (k : Blk) :
    ZJ L (k, 0) = some (Uy k b) := by
  have h := XC L (bf k) (fun i => bf k i ^^^ b) (by omega) 0 (by omega) (fun j hj => by omega) (fun i _ hi a _ ha => by
    rw [hL]
    simp only [lt16 hi, if_true, ZP _ hi, Option.bind_some, Int.toNat_natCast, ha i (Nat.le_refl _)]) (fun v => by rw [hL]; simp)
  rw [← vf_bf] at h
  exact h
theorem v_changedKey (k : Blk) (b : UInt8) : YZ k b = some (Uy k b).toList := by
  have hs : ∀ v : Blk, slc v.toList (0 : Int) (16 : Int) = some v.toList := fun v => by
    have h1 : slc v.toList ((0 : Nat) : Int) ((16 : Nat) : Int) = _ := slc_ok (Nat.zero_le _) (by simp)
    have h2 : slc v.toList (0 : Int) (16 : Int) = _ := h1
    rw [h2, List.drop_zero, List.take_of_length_le (by simp)]
  unfold YZ
  rw [mask_loop b (Vr b) (fun s => by unfold Vr; rfl), Option.bind_some, hs]; rfl
theorem v_l12Changed (k : Blk) (b : UInt8) : WE k b = some (Uy k b) := by
  unfold WE
  rw [mask_loop b (Vo b) (fun s => by unfold Vo; rfl)]; rfl
/-- A loop that appends the bytes of an array, each by a function. -/
theorem put_loop {n : Nat} (v : Vector UInt8 n) (g : UInt8 → UInt8) (L : List UInt8 × Int → Option (Fl (List UInt8 × Int) (List UInt8))) (acc : List UInt8) (hn : n ≤ 1000) (ha : acc.length ≤ 100000000)
    (hL : ∀ s, L s = if (decide (s.2 < (n : Int))) = true then ((ZK v s.2).bind fun x => (app 1 s.1 ([g x] : List UInt8)).bind fun _ => some (Fl.nx ((s.1 ++ ([g x] : List UInt8)), wr (s.2 + 1)))) else (some (Fl.ex s.1))) :
    ZJ L (acc, 0) = some (acc ++ v.toList.map g) := by
  have hlen : v.toList.length = n := by simp
  have := Z3 (f := L) (fun i : Nat => (acc ++ (v.toList.take i).map g, (i : Int))) 0 n (Nat.zero_le _) (t := acc ++ v.toList.map g) (fun i _ hi => by
    have hi' : i < v.toList.length := by omega
    rw [hL]
    simp only [Int.ofNat_lt, hi, decide_true, if_true, Vh, Vector.getElem?_eq_getElem hi, Option.bind_some, Xs (show i < 9223372036854775807 by omega)]
    rw [Wi (by simp; omega), List.take_succ_eq_append_getElem hi']
    simp) (by
    rw [hL]
    have e : v.toList.take n = v.toList := List.take_of_length_le (by omega)
    simp only [Int.ofNat_lt, Nat.lt_irrefl, decide_false, Bool.false_eq_true, if_false, e])
  simpa using this
theorem mask_list (k : Blk) (b : UInt8) : (Uy k b).toList = k.toList.map fun x => x ^^^ b := by
  conv => rhs; rw [vf_bf k]
  unfold Uy
  rw [vf_list, vf_list, List.map_map]; rfl
theorem v_l08Masked (k : Blk) (b : UInt8) : XS k b = some (Uy k b).toList := by
  unfold XS
  rw [put_loop k (fun x => x ^^^ b) (VV k b) [] (by omega) (by simp) (fun s => by unfold VV; rfl), mask_list]; rfl
theorem toArr_vec {n : Nat} (v : Vector UInt8 n) : toArr n v.toList = some v := by
  unfold toArr
  rw [dif_pos (by simp)]
  refine congrArg some (vec_ext fun i hi => ?_)
  simp
def dataC (l : List Blk) : List UInt8 := (l.map fun b => b.toList).flatten
theorem v_l01Data (l : List Blk) (h : l.length ≤ 1000000) : WT l = some (dataC l) := by
  have hlen : ∀ i, i ≤ l.length → (dataC (l.take i)).length = 16 * i := by
    intro i
    induction i with
    | zero => intro _; rfl
    | succ i ih =>
      intro hi
      have e : dataC (l.take (i + 1)) = dataC (l.take i) ++ (l[i]'(by omega)).toList := by
        unfold dataC
        rw [List.take_succ_eq_append_getElem (by omega), List.map_append, List.flatten_append]; simp
      rw [e, List.length_append, ih (by omega)]; simp; omega
  have := Z3 (f := Wn l) (fun i : Nat => (dataC (l.take i), (i : Int))) 0 l.length (Nat.zero_le _) (t := dataC l) (fun i _ hi => by
    unfold Wn
    have h1 := put_loop l[i] (fun x => x) (UH l (dataC (l.take i), (i : Int))) (dataC (l.take i)) (by omega) (by rw [hlen i (by omega)]; omega) (fun s => by
      unfold UH
      simp only [X6, List.getElem?_eq_getElem hi, Option.bind_some]; rfl)
    simp only [Int.ofNat_lt, hi, decide_true, if_true, h1, Option.bind_some, Xs (show i < 9223372036854775807 by omega)]
    refine congrArg (fun z => some (Fl.nx (z, ((i + 1 : Nat) : Int)))) ?_
    unfold dataC
    rw [List.take_succ_eq_append_getElem hi, List.map_append, List.flatten_append]; simp) (by
    unfold Wn
    simp)
  have h2 : ZJ (Wn l) ([], 0) = _ := this
  unfold WT
  rw [h2]; rfl

def tagC (c : GCipher) (key : Blk) (d : List UInt8) : Dig := digC c ((Uy key 165).toList ++ (digC c ((Uy key 90).toList ++ d)).toList)
theorem v_tag (c : GCipher) (h : Yt c = true) (key : Blk) (ps : List (List UInt8)) (hl : ps.flatten.length ≤ 1000000) (hn : ps.length < 9223372036854775807) : WC ⟨YY c⟩ key ps = some (tagC c key ps.flatten) := by
  have e1 : ([(Uy key 90).toList, ps.flatten] : List (List UInt8)).flatten = (Uy key 90).toList ++ ps.flatten := by simp
  have d1 := v_digest c h [(Uy key 90).toList, ps.flatten] (by rw [e1, List.length_append, Vector.length_toList]; omega) (by simp)
  rw [e1] at d1
  have d2 := v_digest c h [(Uy key 165).toList, (digC c ((Uy key 90).toList ++ ps.flatten)).toList] (by simp) (by simp)
  have e2 : ([(Uy key 165).toList, (digC c ((Uy key 90).toList ++ ps.flatten)).toList] : List (List UInt8)).flatten = (Uy key 165).toList ++ (digC c ((Uy key 90).toList ++ ps.flatten)).toList := by simp
  rw [e2] at d2
  unfold WC
  rw [v_changedKey, Option.bind_some, v_concatByte ps (by omega) hn, Option.bind_some, d1, Option.bind_some, v_changedKey, Option.bind_some, slc_all, Option.bind_some, d2]
  rfl
theorem v_l08Tag (c : GCipher) (h : Yt c = true) (key : Blk) (d : List UInt8) (hl : d.length ≤ 1000000) : VQ c key d = some (tagC c key d) := by
  unfold VQ
  rw [v_l08Masked, Option.bind_some, Wi (by simp; omega), Option.bind_some, v_l08Of c h _ (by simp; omega), Option.bind_some, v_l08Masked, Option.bind_some, v_l08Bytes, Option.bind_some, Wi (by simp), Option.bind_some, v_l08Of c h _ (by simp)]
  rfl

def Tb (v : GVault) (n : Int) : Int := match v.Records.findIdx? (fun r => r.Number == n) with | some i => (i : Int) | none => -1
theorem v_place (v : GVault) (n : Int) (h : v.Records.length < 9223372036854775807) : X1 v n = some (Tb v n) := by
  unfold X1 Z6
  rw [find_of v.Records _ (fun r => r.Number == n) _ (fun s => by unfold Yn; rfl) h (fun x _ => rfl)]
  rfl
theorem v_l12Place (v : GVault) (n : Int) (h : v.Records.length < 9223372036854775807) : Vw v n = some (Tb v n) := by
  unfold Vw
  have := find_of v.Records (fun r => some (r.Number == n)) (fun r => r.Number == n) (Ui v n) (fun s => by
    unfold Ui
    simp only [Option.bind_some]) h (fun x _ => rfl)
  exact this
theorem place_at {v : GVault} {n : Int} (h : ¬ Tb v n < 0) : ∃ i : Nat, Tb v n = i ∧ ∃ hi : i < v.Records.length, v.Records[i].Number = n := by
  unfold Tb at h ⊢
  cases hf : v.Records.findIdx? (fun r => r.Number == n) with
  | none => rw [hf] at h; simp at h
  | some i =>
    obtain ⟨hi, hq, _⟩ := List.findIdx?_eq_some_iff_getElem.1 hf
    exact ⟨i, rfl, hi, by simpa using hq⟩
def recAt (v : GVault) (n : Int) : Int × Int := if X9 v then (if Tb v n < 0 then (0, 4) else (Tb v n, 0)) else (0, 1)
theorem v_checkRecord (v : GVault) (hb : Wt.ln v) (n : Int) : We v n = some (recAt v n) := by
  unfold We recAt
  rw [v_impl_IsVault v hb, Option.bind_some]
  cases hv : X9 v with
  | false => rfl
  | true =>
    have hs := vault_small hv
    simp only [Bool.not_true, Bool.false_eq_true, if_false, if_true]
    rw [v_place v n (by omega), Option.bind_some]
    by_cases h : Tb v n < 0 <;> simp [h]
theorem vault_rec {v : GVault} (h : X9 v = true) {r : GRecord} (hr : r ∈ v.Records) : 0 ≤ r.Version ∧ r.Version ≤ (v.Keys.length : Int) - 1 ∧ r.Label.length ≤ 32 ∧ r.Body.length ≤ 200 := by
  unfold X9 at h
  simp only [Bool.and_eq_true, Bool.not_eq_true', List.any_eq_false, List.mem_range'_1] at h
  obtain ⟨i, hi, rfl⟩ := List.mem_iff_getElem.1 hr
  have := h.1.2 i (by omega)
  unfold badS badRec at this
  rw [List.getElem?_eq_getElem hi] at this
  simp only [Bool.or_eq_true, Bool.not_eq_true', decide_eq_true_eq, decide_eq_false_iff_not, not_or, Classical.not_not] at this
  omega

def keyAt (v : GVault) (n : Int) : Blk := v.Keys.getD n.toNat default
theorem idx_key {v : GVault} {n : Int} (h0 : 0 ≤ n) (h1 : n ≤ (v.Keys.length : Int) - 1) : idx v.Keys n = some (keyAt v n) := by
  have e : n = ((n.toNat : Nat) : Int) := by omega
  have hl : n.toNat < v.Keys.length := by omega
  rw [e, X6]
  unfold keyAt
  rw [Int.toNat_natCast, List.getD_eq_getElem?_getD, List.getElem?_eq_getElem hl]; rfl
def recBytes (r : GRecord) : List UInt8 := ((((beL r.Number 4 ++ [Zx r.Version]) ++ r.Nonce.toList) ++ [Zx (r.Label.length : Int)]) ++ r.Label) ++ r.Body
def tagRec (v : GVault) (r : GRecord) : Dig := tagC (UP 4) (Uy (keyAt v r.Version) 129) (recBytes r)
theorem blk_all (v : Blk) : slc v.toList (0 : Int) (16 : Int) = some v.toList := by
  have h1 : slc v.toList ((0 : Nat) : Int) ((16 : Nat) : Int) = _ := slc_ok (Nat.zero_le _) (by simp)
  have h2 : slc v.toList (0 : Int) (16 : Int) = _ := h1
  rw [h2, List.drop_zero, List.take_of_length_le (by simp)]
theorem v_tagOf (v : GVault) (r : GRecord) (h : 0 ≤ r.Version ∧ r.Version ≤ (v.Keys.length : Int) - 1) (hl : r.Label.length ≤ 1000) (hb : r.Body.length ≤ 1000) : XL ⟨YY (UP 4)⟩ v r = some (tagRec v r) := by
  have hbe : YQ r.Number 4 = some (beL r.Number 4) := v_bigEndian _ 4 (by omega)
  have ht := v_tag (UP 4) house4 (Uy (keyAt v r.Version) 129) [beL r.Number 4, [Zx r.Version], r.Nonce.toList, [Zx (r.Label.length : Int)], r.Label, r.Body] (by simp [beL_len]; omega) (by simp)
  have e : ([beL r.Number 4, [Zx r.Version], r.Nonce.toList, [Zx (r.Label.length : Int)], r.Label, r.Body] : List (List UInt8)).flatten = recBytes r := by simp [recBytes]
  rw [e] at ht
  unfold XL
  rw [idx_key h.1 h.2, Option.bind_some, v_changedKey, Option.bind_some, toArr_vec, Option.bind_some, hbe, Option.bind_some, blk_all, Option.bind_some, ht]
  rfl
theorem v_l12Tag (v : GVault) (r : GRecord) (h : 0 ≤ r.Version ∧ r.Version ≤ (v.Keys.length : Int) - 1) (hl : r.Label.length ≤ 1000) (hb : r.Body.length ≤ 1000) : UF v r = some (tagRec v r) := by
  have hd : WT [r.Nonce] = some r.Nonce.toList := by
    have := v_l01Data [r.Nonce] (by simp)
    simpa [dataC] using this
  have ht := v_l08Tag (UP 4) house4 (Uy (keyAt v r.Version) 129) (recBytes r) (by simp [recBytes, beL_len]; omega)
  unfold UF
  rw [v_l12Four, Option.bind_some, Wi (by simp [beL_len]), Option.bind_some, Option.bind_some, hd, Option.bind_some, Wi (by simp [beL_len]), Option.bind_some, Wi (by simp [beL_len]), Option.bind_some, Wi (by simp [beL_len]; omega), Option.bind_some, Wi (by simp [beL_len]; omega), Option.bind_some, v_l12Cipher, Option.bind_some, idx_key h.1 h.2, Option.bind_some, v_l12Changed, Option.bind_some]
  have ht' : VQ (UP 4) (Uy (keyAt v r.Version) 129) (((((beL r.Number 4 ++ [Zx r.Version]) ++ r.Nonce.toList) ++ [Zx (r.Label.length : Int)]) ++ r.Label) ++ r.Body) = some (tagRec v r) := ht
  rw [ht']; rfl
def atRec (v : GVault) (n : Int) : GRecord := v.Records.getD (Tb v n).toNat ⟨0, 0, default, [], [], default⟩
theorem atRec_mem {v : GVault} {n : Int} (h : ¬ Tb v n < 0) : idx v.Records (Tb v n) = some (atRec v n) ∧ atRec v n ∈ v.Records := by
  obtain ⟨i, e, hi, _⟩ := place_at h
  unfold atRec
  rw [e, X6, Int.toNat_natCast, List.getD_eq_getElem?_getD, List.getElem?_eq_getElem hi]
  exact ⟨rfl, List.getElem_mem hi⟩
def tagResC (v : GVault) (n : Int) : Dig × Int := if X9 v then (if Tb v n < 0 then (Vector.replicate 32 0, 4) else (tagRec v (atRec v n), 0)) else (Vector.replicate 32 0, 1)
theorem v_spec_TagOfRecord (v : GVault) (hb : Wt.ln v) (n : Int) : X3 v n = some (tagResC v n) := by
  unfold X3 tagResC
  rw [v_l12Is v hb, Option.bind_some]
  cases hv : X9 v with
  | false => rfl
  | true =>
    have hs := vault_small hv
    simp only [Bool.not_true, Bool.false_eq_true, if_false, if_true]
    rw [v_l12Place v n (by omega), Option.bind_some]
    by_cases h : Tb v n < 0
    · simp [h]
    · obtain ⟨h1, h2⟩ := atRec_mem h
      obtain ⟨a1, a2, a3, a4⟩ := vault_rec hv h2
      simp only [h, decide_false, Bool.false_eq_true, if_false]
      rw [h1, Option.bind_some, v_l12Tag v _ ⟨a1, a2⟩ (by omega) (by omega)]; rfl
theorem v_impl_TagOfRecord (v : GVault) (hb : Wt.ln v) (n : Int) : X4 v n = some (tagResC v n) := by
  unfold X4 tagResC
  rw [v_checkRecord v hb, Option.bind_some]
  unfold recAt
  cases hv : X9 v with
  | false => rfl
  | true =>
    simp only [if_true]
    by_cases h : Tb v n < 0
    · simp [h]
    · obtain ⟨h1, h2⟩ := atRec_mem h
      obtain ⟨a1, a2, a3, a4⟩ := vault_rec hv h2
      simp only [h, if_false, bne_self_eq_false, Bool.false_eq_true]
      rw [v_vaultEngine, Option.bind_some, h1, Option.bind_some, v_tagOf v _ ⟨a1, a2⟩ (by omega) (by omega)]; rfl
theorem law_FnExactTagOfRecord (v : GVault) (n : Int) (h : Dat.bd v) (_ : Dat.bd n) : Xb v n = some true := by
  unfold Xb
  refine weighed (v_szVault v (Wt.bdln v h)) (by omega) (by omega) fun r _ _ hw => ?_
  have hw : Wt.wt v ≤ 1048576 := by omega
  have hl := Wt.wtln v hw
  simp [v_toVault v hw, v_spec_TagOfRecord v hl, v_impl_TagOfRecord v hl, v_eqDigest, v_eqVault v hl]
end Go.Proofs.YtifdeoikcebbjaaGreat
