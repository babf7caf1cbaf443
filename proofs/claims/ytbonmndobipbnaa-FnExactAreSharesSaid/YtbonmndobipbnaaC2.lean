/- Plain laws, no program in sight. -/
import Derived.Test.YtbonmndobipbnaaC1
set_option linter.unusedVariables false
set_option linter.unusedSimpArgs false
namespace Go.Proofs.Ytbonmndobipbnaa
open Go
theorem idx_nat {α : Type} {l : List α} {i : Nat} (h : i < l.length) : idx l (i : Int) = some l[i] := by
  unfold idx
  rw [if_pos (by omega)]
  simp
theorem wr_nat {i : Nat} (h : i < 9223372036854775807) : wr ((i : Int) + 1) = ((i + 1 : Nat) : Int) := by
  rw [wr_id (by omega)]; rfl

section
variable {S T : Type} {f : S → Option (Fl S T)}
/-- Rounds that go on. -/
theorem iter_to (g : Nat → S) (m n : Nat) (hmn : m ≤ n) (h : ∀ i, m ≤ i → i < n → f (g i) = some (.nx (g (i + 1)))) : iter f (g m) = iter f (g n) := by
  induction n with
  | zero => have : m = 0 := by omega
            subst this; rfl
  | succ n ih =>
    rcases Nat.lt_or_ge m (n + 1) with h1 | h1
    · rw [ih (by omega) (fun i h2 h3 => h i h2 (by omega)), iter_nx (h n (by omega) (by omega))]
    · have : m = n + 1 := by omega
      subst this; rfl
/-- A loop that runs to its end. -/
theorem iter_run (g : Nat → S) (m n : Nat) (hmn : m ≤ n) {t : T} (h : ∀ i, m ≤ i → i < n → f (g i) = some (.nx (g (i + 1)))) (he : f (g n) = some (.ex t)) : iter f (g m) = some t := by
  rw [iter_to g m n hmn h, iter_ex he]
/-- A loop that may leave early: at the first round of which p holds. -/
theorem iter_find (g : Nat → S) (p : Nat → Bool) (t : Nat → T) {e : T} (n : Nat) : ∀ (k m : Nat), m + k = n → (∀ i, m ≤ i → i < n → f (g i) = some (if p i then .ex (t i) else .nx (g (i + 1)))) → f (g n) = some (.ex e) →
    iter f (g m) = some (((List.range' m k).find? p).elim e t)
  | 0, m, hk, _, he => by
    have : m = n := by omega
    subst this
    rw [iter_ex he]; rfl
  | k + 1, m, hk, h, he => by
    have h1 := h m (Nat.le_refl _) (by omega)
    rw [List.range'_succ, List.find?_cons]
    cases hp : p m with
    | true => rw [hp] at h1; rw [iter_ex h1]; rfl
    | false =>
      rw [hp] at h1
      rw [iter_nx h1, iter_find g p t n k (m + 1) (by omega) (fun i h2 h3 => h i (by omega) h3) he]
end

/-- A search through indices: it leaves with t where p holds of one of them. -/
theorem iter_any {T : Type} {f : Int → Option (Fl Int (Fl Unit T))} (p : Nat → Bool) {t : T} {n m : Nat} (hm : m ≤ n)
    (h : ∀ i, m ≤ i → i < n → f (i : Int) = some (if p i then .ex (.ex t) else .nx ((i + 1 : Nat) : Int))) (he : f (n : Int) = some (.ex (.nx ()))) :
    iter f (m : Int) = some (if (List.range' m (n - m)).any p then .ex t else .nx ()) := by
  rw [iter_find (fun i : Nat => (i : Int)) p (fun _ => .ex t) n (n - m) m (by omega) h he]
  cases hf : (List.range' m (n - m)).find? p with
  | none =>
    have : (List.range' m (n - m)).any p = false := by
      rw [List.any_eq_false]
      rw [List.find?_eq_none] at hf
      exact hf
    rw [this]; rfl
  | some i =>
    have : (List.range' m (n - m)).any p = true := by
      rw [List.any_eq_true]
      exact ⟨i, List.mem_of_find?_eq_some hf, List.find?_some hf⟩
    rw [this]; rfl
theorem any_range {p : Nat → Bool} {m n : Nat} : (List.range' m (n - m)).any p = true ↔ ∃ i, m ≤ i ∧ i < n ∧ p i = true := by
  rw [List.any_eq_true]
  simp only [List.mem_range'_1]
  constructor
  · rintro ⟨i, ⟨h1, h2⟩, h3⟩; exact ⟨i, h1, by omega, h3⟩
  · rintro ⟨i, h1, h2, h3⟩; exact ⟨i, ⟨h1, by omega⟩, h3⟩
/-- A search through the elements of a list. -/
theorem any_list {α : Type} {q : α → Bool} {l : List α} {p : Nat → Bool} (hp : ∀ i (h : i < l.length), p i = q l[i]) : (List.range' 0 (l.length - 0)).any p = l.any q := by
  rw [Bool.eq_iff_iff, any_range, List.any_eq_true]
  constructor
  · rintro ⟨i, _, h, h3⟩; exact ⟨l[i], List.getElem_mem h, by rw [← hp i h]; exact h3⟩
  · rintro ⟨x, hx, h⟩
    obtain ⟨i, hi, rfl⟩ := List.mem_iff_getElem.1 hx
    exact ⟨i, Nat.zero_le _, hi, by rw [hp i hi]; exact h⟩

/-- A search through a list, by a condition of its element. -/
theorem iter_anyL {T α : Type} {f : Int → Option (Fl Int (Fl Unit T))} (l : List α) (q : α → Bool) {t : T} (hl : l.length < 9223372036854775807)
    (h : ∀ i (hi : i < l.length), f (i : Int) = some (if q l[i] then .ex (.ex t) else .nx (wr ((i : Int) + 1)))) (he : f (l.length : Int) = some (.ex (.nx ()))) :
    iter f 0 = some (if l.any q then .ex t else .nx ()) := by
  have := iter_any (f := f) (fun i => if hi : i < l.length then q l[i] else false) (t := t) (n := l.length) (m := 0) (Nat.zero_le _) (fun i _ hi => by
    rw [h i hi, wr_nat (by omega)]; simp [hi]) he
  rw [any_list (q := q) (fun i hi => by simp [hi])] at this
  exact this

/-- How much data hold, beside what is of one size. -/
class Wt (α : Type) where wt : α → Nat
instance : Wt Int := ⟨fun _ => 0⟩
instance : Wt UInt8 := ⟨fun _ => 0⟩
instance : Wt Bool := ⟨fun _ => 0⟩
instance : Wt Str := ⟨fun s => s.l.length⟩
instance {α : Type} {n : Nat} : Wt (Vector α n) := ⟨fun _ => 0⟩
instance {α : Type} [Wt α] : Wt (List α) := ⟨fun l => l.length + (l.map Wt.wt).sum⟩
instance {α β : Type} [Wt α] [Wt β] : Wt (α × β) := ⟨fun x => Wt.wt x.1 + Wt.wt x.2⟩
theorem wt_list {α : Type} [Wt α] (l : List α) : Wt.wt l = l.length + (l.map Wt.wt).sum := rfl
theorem wt_mem {α : Type} [Wt α] {l : List α} {x : α} (h : x ∈ l) : Wt.wt x ≤ (l.map Wt.wt).sum := by
  induction l with
  | nil => cases h
  | cons y l ih =>
    rw [List.map_cons, List.sum_cons]
    rcases List.mem_cons.1 h with rfl | h
    · omega
    · have := ih h; omega
theorem wt_memL {α : Type} [Wt α] {l : List α} {x : α} (h : x ∈ l) : Wt.wt x ≤ Wt.wt l := by
  have := wt_mem h; rw [wt_list]; omega
theorem wt_len {α : Type} [Wt α] (l : List α) : l.length ≤ Wt.wt l := by rw [wt_list]; omega

theorem copy_loop {α β : Type} (p0 : List α) (c : α → Option β) (g : α → β) (by_ : Nat) (z : β) (L : List β × Int → Option (Fl (List β × Int) (List β)))
    (hL : ∀ s, L s = if (decide (s.2 < (p0.length : Int))) = true then ((idx p0 s.2).bind fun x => (c x).bind fun r => (idx s.1 s.2).bind fun _ => some (Fl.nx ((s.1.set (s.2).toNat r), wr (s.2 + 1)))) else (some (Fl.ex s.1)))
    (hc : ∀ x ∈ p0, c x = some (g x)) (hl : p0.length * by_ ≤ 140737488355328) (hl' : p0.length < 9223372036854775807) :
    ((mkS by_ z (p0.length : Int)).bind fun l1 => (iter L (l1, 0) : Option (List β)).bind fun j => some j) = some (p0.map g) := by
  have hm : mkS by_ z (p0.length : Int) = some (List.replicate p0.length z) := by
    have h3 : ((p0.length * by_ : Nat) : Int) ≤ ((140737488355328 : Nat) : Int) := Int.ofNat_le.2 hl
    rw [Int.natCast_mul] at h3
    unfold mkS
    rw [if_pos ⟨by omega, h3⟩, Int.toNat_natCast]
  rw [hm]
  simp only [Option.bind_some]
  have hrun := iter_run (f := L) (fun i : Nat => ((p0.take i).map g ++ List.replicate (p0.length - i) z, (i : Int))) 0 p0.length (Nat.zero_le _) (t := p0.map g) (fun i _ hi => by
    rw [hL]
    simp only [Int.ofNat_lt, hi, decide_true, if_true, idx_nat hi, Option.bind_some, hc _ (List.getElem_mem hi)]
    rw [idx_nat (by simp; omega)]
    simp only [Option.bind_some, wr_nat (show i < 9223372036854775807 by omega), Int.toNat_natCast]
    congr 3
    rw [List.set_append_right _ _ (by simp; omega)]
    have e1 : p0.length - i = (p0.length - (i + 1)) + 1 := by omega
    have e2 : i - ((p0.take i).map g).length = 0 := by simp; omega
    rw [e1, List.replicate_succ, e2, List.set_cons_zero]
    rw [List.take_succ_eq_append_getElem hi, List.map_append, List.append_assoc]
    rfl) (by
    rw [hL]
    simp)
  simp at hrun
  simp [hrun]

theorem eq_loop {α : Type} (p0 : List α) (ne : α → α → Option Bool) (L : Int → Option (Fl Int (Fl Unit Bool)))
    (hL : ∀ s, L s = if (decide (s < (p0.length : Int))) = true then (((idx p0 s).bind fun x => (idx p0 s).bind fun y => ne x y : Option Bool).bind fun j => if j = true then (some (Fl.ex (Fl.ex false))) else (some (Fl.nx (wr (s + 1))))) else (some (Fl.ex (Fl.nx ()))))
    (hn : ∀ x ∈ p0, ne x x = some false) (hl : p0.length < 9223372036854775807) :
    (if ((p0.length : Int) != (p0.length : Int)) = true then (some false) else ((iter L 0 : Option (Fl Unit Bool)).bind fun j2 => j2.el (fun _ => some true) (fun r => some r))) = some true := by
  have := iter_run (f := L) (fun i : Nat => (i : Int)) 0 p0.length (Nat.zero_le _) (t := .nx ()) (fun i _ hi => by
    rw [hL]
    simp only [Int.ofNat_lt, hi, decide_true, if_true, idx_nat hi, Option.bind_some, hn _ (List.getElem_mem hi)]
    simp [wr_nat (show i < 9223372036854775807 by omega)]) (by
    rw [hL]; simp)
  have h2 : iter L 0 = some (.nx ()) := this
  simp [h2, Fl.el]

/-- Weighing: what is left, or less than nothing. -/
def Weighs {α : Type} [Wt α] (f : α → Int → Option Int) (x : α) : Prop := ∀ left : Int, 0 ≤ left → left ≤ 1048576 → ∃ r, f x left = some r ∧ r ≤ 1048576 ∧ (0 ≤ r → r + Wt.wt x ≤ left)
theorem weigh_flat {α : Type} [Wt α] {l : List α} (h0 : ∀ x : α, Wt.wt x = 0) (f : List α → Int → Option Int)
    (hf : ∀ left, f l left = if (decide ((wr (left - (l.length : Int))) < 0)) = true then (some (-1)) else (some (wr (left - (l.length : Int))))) (hl : l.length ≤ 9223372036854775807) : Weighs f l := by
  intro left h1 h2
  have hs : (l.map Wt.wt).sum = 0 := by
    clear hf hl
    induction l with
    | nil => rfl
    | cons x l ih => rw [List.map_cons, List.sum_cons, h0, ih]
  have hw : Wt.wt l = l.length := by rw [wt_list, hs]; rfl
  rw [hf, wr_id (by omega), hw]
  by_cases h : left - (l.length : Int) < 0
  · exact ⟨-1, by simp [h], by omega, by omega⟩
  · exact ⟨left - l.length, by simp [h], by omega, by omega⟩
theorem weigh_list {α : Type} [Wt α] {p0 : List α} (f : List α → Int → Option Int) (c : α → Int → Option Int) (L : Int × Int → Option (Fl (Int × Int) (Fl Int Int)))
    (hL : ∀ s, L s = if (decide (s.2 < (p0.length : Int))) = true then ((idx p0 s.2).bind fun x => (c x s.1).bind fun r => if (decide (r < 0)) = true then (some (Fl.ex (Fl.ex (-1)))) else (some (Fl.nx (r, wr (s.2 + 1))))) else (some (Fl.ex (Fl.nx s.1))))
    (hf : ∀ left, f p0 left = if (decide ((wr (left - (p0.length : Int))) < 0)) = true then (some (-1)) else ((iter L (wr (left - (p0.length : Int)), 0) : Option (Fl Int Int)).bind fun j2 => j2.el (fun s => some s) (fun r => some r)))
    (hl : p0.length ≤ 9223372036854775807) (hc : ∀ x ∈ p0, Weighs c x) : Weighs f p0 := by
  intro left h1 h2
  rw [hf, wr_id (by omega)]
  by_cases h : left - (p0.length : Int) < 0
  · exact ⟨-1, by simp [h], by omega, by omega⟩
  simp only [h, decide_false, Bool.false_eq_true, if_false]
  have key : ∀ (k m : Nat) (a : Int), m + k = p0.length → 0 ≤ a → a ≤ 1048576 → ∃ o : Fl Int Int, iter L (a, (m : Int)) = some o ∧ ((o = .ex (-1)) ∨ ∃ r, o = .nx r ∧ 0 ≤ r ∧ r + (((p0.drop m).map Wt.wt).sum : Nat) ≤ a) := by
    intro k
    induction k with
    | zero =>
      intro m a hm h0 h3
      have : m = p0.length := by omega
      subst this
      refine ⟨.nx a, ?_, .inr ⟨a, rfl, h0, ?_⟩⟩
      · rw [iter_ex (t := .nx a)]; rw [hL]; simp
      · simp
    | succ k ih =>
      intro m a hm h0 h3
      have hi : m < p0.length := by omega
      obtain ⟨r, e1, e2, e3⟩ := hc _ (List.getElem_mem hi) a h0 h3
      have hst : L (a, (m : Int)) = (if (decide (r < 0)) = true then (some (Fl.ex (Fl.ex (-1)))) else (some (Fl.nx (r, ((m + 1 : Nat) : Int))))) := by
        rw [hL]
        simp only [Int.ofNat_lt, hi, decide_true, if_true, idx_nat hi, Option.bind_some, e1, wr_nat (show m < 9223372036854775807 by omega)]
      by_cases hr : r < 0
      · simp only [hr, decide_true, if_true] at hst
        exact ⟨_, iter_ex hst, .inl rfl⟩
      · simp only [hr, decide_false, Bool.false_eq_true, if_false] at hst
        obtain ⟨o, k1, k2⟩ := ih (m + 1) r (by omega) (by omega) e2
        refine ⟨o, by rw [iter_nx hst]; exact k1, k2.imp id ?_⟩
        rintro ⟨q, rfl, q1, q2⟩
        refine ⟨q, rfl, q1, ?_⟩
        have e3 := e3 (by omega)
        rw [List.drop_eq_getElem_cons hi, List.map_cons, List.sum_cons]
        omega
  obtain ⟨o, k1, k2⟩ := key p0.length 0 (left - p0.length) (by omega) (by omega) (by omega)
  have k1' : iter L (left - (p0.length : Int), 0) = some o := k1
  rw [k1']
  rcases k2 with rfl | ⟨r, rfl, q1, q2⟩
  · exact ⟨-1, rfl, by omega, by omega⟩
  · refine ⟨r, rfl, by omega, fun _ => ?_⟩
    rw [List.drop_zero] at q2
    rw [wt_list]; omega
@[simp] theorem idx_cast {α : Type} (l : List α) (i : Nat) : idx l (i : Int) = l[i]? := by unfold idx; simp
@[simp] theorem idx_zero {α : Type} (l : List α) : idx l (0 : Int) = l[0]? := idx_cast l 0
/-- A search from index m on: leaves with t at the first index of which p holds. -/
theorem iter_search {T : Type} {f : Int → Option (Fl Int (Fl Unit T))} (n : Nat) (p : Nat → Bool) (t : Nat → T) (hn : n < 9223372036854775807)
    (h : ∀ i, i < n → f (i : Int) = some (if p i then .ex (.ex (t i)) else .nx (wr ((i : Int) + 1)))) (he : f (n : Int) = some (.ex (.nx ()))) (m : Nat) (hm : m ≤ n) :
    iter f (m : Int) = some (match (List.range' m (n - m)).find? p with | some i => .ex (t i) | none => .nx ()) := by
  rw [iter_find (fun i : Nat => (i : Int)) p (fun i => .ex (t i)) n (n - m) m (by omega) (fun i _ hi => by rw [h i hi, wr_nat (by omega)]) he]
  cases (List.range' m (n - m)).find? p <;> rfl
/-- A search that answers one thing. -/
theorem iter_has {T : Type} {f : Int → Option (Fl Int (Fl Unit T))} (n : Nat) (p : Nat → Bool) (t : T) (hn : n < 9223372036854775807)
    (h : ∀ i, i < n → f (i : Int) = some (if p i then .ex (.ex t) else .nx (wr ((i : Int) + 1)))) (he : f (n : Int) = some (.ex (.nx ()))) (m : Nat) (hm : m ≤ n) :
    iter f (m : Int) = some (if (List.range' m (n - m)).any p then .ex t else .nx ()) :=
  iter_any p hm (fun i _ hi => by rw [h i hi, wr_nat (by omega)]) he
/-- A loop over the elements of a list that carries a value. -/
theorem iter_fold {α β S T : Type} {f : S → Option (Fl S T)} (l : List α) (pack : β → Int → S) (g : β → α → β) (b0 : β) {t : T} (hn : l.length < 9223372036854775807)
    (h : ∀ i (hi : i < l.length), f (pack ((l.take i).foldl g b0) (i : Int)) = some (.nx (pack (g ((l.take i).foldl g b0) l[i]) (wr ((i : Int) + 1))))) (he : f (pack (l.foldl g b0) (l.length : Int)) = some (.ex t)) :
    iter f (pack b0 0) = some t := by
  have := iter_run (f := f) (fun i : Nat => pack ((l.take i).foldl g b0) (i : Int)) 0 l.length (Nat.zero_le _) (t := t) (fun i _ hi => by
    rw [h i hi, wr_nat (by omega)]
    congr 3
    rw [List.take_succ_eq_append_getElem hi, List.foldl_append]; rfl) (by rw [List.take_length]; exact he)
  simpa using this
theorem foldl_map_app {α β : Type} (g : α → β) (l : List α) (acc : List β) : l.foldl (fun b x => b ++ [g x]) acc = acc ++ l.map g := by
  induction l generalizing acc with
  | nil => simp
  | cons x l ih => simp [ih]
/-- A loop that appends one value an element. -/
theorem iter_map {α β T : Type} {f : List β × Int → Option (Fl (List β × Int) T)} (l : List α) (g : α → β) {t : T} (hn : l.length < 9223372036854775807)
    (h : ∀ i (hi : i < l.length), f ((l.take i).map g, (i : Int)) = some (.nx ((l.take i).map g ++ [g l[i]], wr ((i : Int) + 1)))) (he : f (l.map g, (l.length : Int)) = some (.ex t)) :
    iter f ([], 0) = some t := by
  have e : ∀ m : List α, m.foldl (fun b x => b ++ [g x]) [] = m.map g := fun m => by rw [foldl_map_app]; rfl
  exact iter_fold (f := f) l (fun b i => (b, i)) (fun b x => b ++ [g x]) [] hn (fun i hi => by simp only [e]; exact h i hi) (by simp only [e]; exact he)
theorem app_ok {α : Type} {by_ : Nat} {l m : List α} (h : (l.length + m.length) * by_ ≤ 140737488355328) : app by_ l m = some (l ++ m) := by unfold app; rw [if_pos h]
theorem slc_ok {α : Type} {l : List α} {i j : Nat} (h : i ≤ j) (h2 : j ≤ l.length) : slc l (i : Int) (j : Int) = some ((l.take j).drop i) := by
  unfold slc; rw [if_pos (by omega)]; simp
instance : Wt GShare := ⟨fun x => Wt.wt x.Data⟩
theorem wt_share (x : GShare) : Wt.wt x = Wt.wt x.Data := rfl
theorem wt_bytes (l : List UInt8) : Wt.wt l = l.length := by
  rw [wt_list]
  have : (l.map Wt.wt).sum = 0 := by
    induction l with
    | nil => rfl
    | cons x l ih => rw [List.map_cons, List.sum_cons, ih]; rfl
  omega
theorem v_toByteS (l : List UInt8) (h : l.length ≤ 1048576) : F_laws_toByteS l = some l := by
  unfold F_laws_toByteS
  have := copy_loop l (fun x => some x) id 1 0 (L0_laws_toByteS l) (fun s => by unfold L0_laws_toByteS; rfl) (fun _ _ => rfl) (by omega) (by omega)
  simpa using this
theorem v_toShare (x : GShare) (h : Wt.wt x ≤ 1048576) : F_laws_toShare x = some x := by
  rw [wt_share, wt_bytes] at h
  unfold F_laws_toShare
  rw [v_toByteS _ h]; rfl
theorem v_toShareS (l : List GShare) (h : Wt.wt l ≤ 1048576) : F_laws_toShareS l = some l := by
  have hl := wt_len l
  unfold F_laws_toShareS
  have := copy_loop l F_laws_toShare id 32 ⟨0, []⟩ (L0_laws_toShareS l) (fun s => by unfold L0_laws_toShareS; rfl) (fun x hx => v_toShare x (Nat.le_trans (wt_memL hx) h)) (by omega) (by omega)
  simpa using this
theorem v_eqByteS (l : List UInt8) (h : l.length < 9223372036854775807) : F_laws_eqByteS l l = some true := by
  unfold F_laws_eqByteS
  exact eq_loop l (fun x y => some (x != y)) (L0_laws_eqByteS l l) (fun s => by unfold L0_laws_eqByteS; rfl) (fun x _ => by simp) h
theorem v_eqShare (x : GShare) (h : x.Data.length < 9223372036854775807) : F_laws_eqShare x x = some true := by
  unfold F_laws_eqShare
  simp [v_eqByteS _ h]
theorem v_eqShareS (l : List GShare) (h : l.length < 9223372036854775807) (h2 : ∀ x ∈ l, x.Data.length < 9223372036854775807) : F_laws_eqShareS l l = some true := by
  unfold F_laws_eqShareS
  exact eq_loop l (fun x y => (F_laws_eqShare x y).bind fun r => some (!r)) (L0_laws_eqShareS l l) (fun s => by unfold L0_laws_eqShareS; rfl) (fun x hx => by simp [v_eqShare x (h2 x hx)]) h
theorem v_szByteS (l : List UInt8) (h : l.length ≤ 9223372036854775807) : Weighs F_laws_szByteS l :=
  weigh_flat (fun _ => rfl) F_laws_szByteS (fun left => by unfold F_laws_szByteS; rfl) h
theorem v_szShare (x : GShare) (h : x.Data.length ≤ 9223372036854775807) : Weighs F_laws_szShare x := by
  intro left h1 h2
  obtain ⟨r, e1, e2, e3⟩ := v_szByteS x.Data h left h1 h2
  unfold F_laws_szShare
  rw [e1]
  by_cases hr : r < 0
  · exact ⟨-1, by simp [hr], by omega, by omega⟩
  · exact ⟨r, by simp [hr], e2, e3⟩
theorem v_szShareS (l : List GShare) (h : l.length ≤ 9223372036854775807) (h2 : ∀ x ∈ l, x.Data.length ≤ 9223372036854775807) : Weighs F_laws_szShareS l :=
  weigh_list F_laws_szShareS F_laws_szShare (L0_laws_szShareS l) (fun s => by unfold L0_laws_szShareS; rfl) (fun left => by unfold F_laws_szShareS; rfl) h (fun x hx => v_szShare x (h2 x hx))

def isShareB (s : GShare) : Bool := s.Place != 0 && decide (s.Data.length ≤ 100)
theorem v_l10Share (s : GShare) : F_spec_l10Share s = some (isShareB s) := by
  unfold F_spec_l10Share isShareB
  cases h : s.Place != 0 <;> simp <;> omega
theorem v_isShare (s : GShare) : F_impl_isShare s = some (isShareB s) := by
  unfold F_impl_isShare isShareB
  cases h : s.Place != 0 <;> simp <;> omega

/-- All bytes are different. -/
def diffB (l : List UInt8) : Bool := decide l.Nodup
theorem nodup_any (l : List UInt8) : ((List.range' 0 (l.length - 0)).any fun i => (List.range' 0 (i - 0)).any fun k => l[i]? == l[k]?) = !diffB l := by
  rw [Bool.eq_iff_iff, any_range]
  rw [diffB, Bool.not_eq_true', decide_eq_false_iff_not]
  unfold List.Nodup
  rw [List.pairwise_iff_getElem]
  simp only [any_range, beq_iff_eq]
  constructor
  · rintro ⟨i, _, hi, k, _, hk, h⟩ hn
    have hk' : k < l.length := by omega
    rw [List.getElem?_eq_getElem hi, List.getElem?_eq_getElem hk'] at h
    exact hn k i hk' hi hk (by simpa using h.symm)
  · intro h
    simp only [Classical.not_forall, ne_eq, Decidable.not_not] at h
    obtain ⟨k, i, hk, hi, hki, h⟩ := h
    exact ⟨i, Nat.zero_le _, hi, k, Nat.zero_le _, hki, by rw [List.getElem?_eq_getElem hi, List.getElem?_eq_getElem hk, h]⟩
theorem v_l01Twice (l : List UInt8) (h : l.length < 9223372036854775807) : F_spec_l01Twice l = some (!diffB l) := by
  unfold F_spec_l01Twice
  have := iter_has (f := L0_spec_l01Twice l) l.length (fun i => (List.range' 0 (i - 0)).any fun k => l[i]? == l[k]?) true h (fun i hi => by
    unfold L0_spec_l01Twice
    have h2 := iter_has (f := L1_spec_l01Twice l i) i (fun k => l[i]? == l[k]?) true (by omega) (fun k hk => by
      unfold L1_spec_l01Twice
      have hk' : k < l.length := by omega
      have e1 : decide ((k : Int) < (i : Int)) = true := by simp; omega
      rw [e1]
      simp [List.getElem?_eq_getElem hi, List.getElem?_eq_getElem hk']
      split <;> rfl) (by unfold L1_spec_l01Twice; simp) 0 (Nat.zero_le _)
    have h3 : iter (L1_spec_l01Twice l i) 0 = _ := h2
    simp only [Int.ofNat_lt, hi, decide_true, if_true, h3, Option.bind_some]
    cases (List.range' 0 (i - 0)).any fun k => l[i]? == l[k]? <;> simp [Fl.el]) (by unfold L0_spec_l01Twice; simp) 0 (Nat.zero_le _)
  have h3 : iter (L0_spec_l01Twice l) 0 = _ := this
  rw [h3, nodup_any]
  cases diffB l <;> simp [Fl.el]
theorem v_l10Distinct (l : List GShare) (h : l.length ≤ 140737488355327) : F_spec_l10Distinct l = some (diffB (l.map (·.Place))) := by
  unfold F_spec_l10Distinct
  have := iter_map (f := L0_spec_l10Distinct l) l (·.Place) (t := l.map (·.Place)) (by omega) (fun i hi => by
    unfold L0_spec_l10Distinct
    simp only [Int.ofNat_lt, hi, decide_true, if_true, idx_cast, List.getElem?_eq_getElem hi, Option.bind_some]
    rw [app_ok (by simp; omega)]
    simp) (by unfold L0_spec_l10Distinct; simp)
  rw [this]
  simp only [Option.bind_some]
  rw [v_l01Twice _ (by simp; omega)]
  simp
theorem v_placesOf (l : List GShare) (h : l.length ≤ 140737488355327) : F_impl_placesOf l = some (l.map (·.Place)) := by
  unfold F_impl_placesOf
  have := iter_map (f := L0_impl_placesOf l) l (·.Place) (t := l.map (·.Place)) (by omega) (fun i hi => by
    unfold L0_impl_placesOf
    simp only [Int.ofNat_lt, hi, decide_true, if_true, idx_cast, List.getElem?_eq_getElem hi, Option.bind_some]
    rw [app_ok (by simp; omega)]
    simp) (by unfold L0_impl_placesOf; simp)
  rw [this]; rfl

/-- The code of a list of shares. -/
def evenB (l : List GShare) : Bool := l.all fun s => s.Data.length == (l.headD default).Data.length
def codeC (l : List GShare) : Int :=
  if !(l.all isShareB) then 1 else if !(diffB (l.map (·.Place))) then 1 else if l.length < 1 ∨ 12 < l.length then 2 else if !evenB l then 2 else 0
theorem v_l10Code (l : List GShare) (h : l.length ≤ 140737488355327) : F_spec_l10Code l = some (codeC l) := by
  unfold F_spec_l10Code
  have h1 := iter_anyL (f := L0_spec_l10Code l) l (fun s => !isShareB s) (t := (1 : Int)) (by omega) (fun i hi => by
    unfold L0_spec_l10Code
    simp only [Int.ofNat_lt, hi, decide_true, if_true, idx_cast, List.getElem?_eq_getElem hi, Option.bind_some, v_l10Share]
    cases isShareB l[i] <;> simp) (by unfold L0_spec_l10Code; simp)
  rw [h1, List.any_eq_not_all_not]
  simp only [Bool.not_not, codeC]
  cases ha : l.all isShareB with
  | false => simp [Fl.el]
  | true =>
    simp only [Bool.not_true, Bool.false_eq_true, if_false, Option.bind_some, Fl.el, v_l10Distinct l h]
    cases hd : diffB (l.map (·.Place)) with
    | false => simp
    | true =>
      simp only [Bool.not_true, Bool.false_eq_true, if_false]
      by_cases hlen : l.length < 1
      · have e : (l.length : Int) < 1 := by omega
        simp [hlen, e]
      · by_cases hlen2 : 12 < l.length
        · have e : ¬ ((l.length : Int) < 1) := by omega
          have e2 : (l.length : Int) > 12 := by omega
          simp [hlen2, e, e2]
        · have e : ¬ ((l.length : Int) < 1) := by omega
          have e2 : ¬ ((l.length : Int) > 12) := by omega
          have h0 : 0 < l.length := by omega
          have h2 := iter_has (f := L1_spec_l10Code l) l.length (fun i => (l[i]?.getD default).Data.length != (l.headD default).Data.length) (2 : Int) (by omega) (fun i hi => by
            unfold L1_spec_l10Code
            simp only [Int.ofNat_lt, hi, decide_true, if_true, idx_cast, idx_zero, List.getElem?_eq_getElem hi, List.getElem?_eq_getElem h0, Option.bind_some, Option.getD_some]
            have e3 : (l.headD default) = l[0] := by cases l with | nil => simp at h0 | cons x l => rfl
            rw [e3]
            by_cases hq : l[i].Data.length = l[0].Data.length
            · simp [hq]
            · have : ¬ ((l[i].Data.length : Int) = l[0].Data.length) := by omega
              simp [hq, this]) (by unfold L1_spec_l10Code; simp) 1 (by omega)
          have h3 : iter (L1_spec_l10Code l) 1 = _ := h2
          have key : ((List.range' 1 (l.length - 1)).any fun i => (l[i]?.getD default).Data.length != (l.headD default).Data.length) = !evenB l := by
            rw [Bool.eq_iff_iff, any_range, Bool.not_eq_true', evenB, List.all_eq_false]
            constructor
            · rintro ⟨i, _, hi, hne⟩
              refine ⟨l[i], List.getElem_mem hi, ?_⟩
              simpa [List.getElem?_eq_getElem hi] using hne
            · rintro ⟨x, hx, hne⟩
              obtain ⟨i, hi, rfl⟩ := List.mem_iff_getElem.1 hx
              refine ⟨i, ?_, hi, by simpa [List.getElem?_eq_getElem hi] using hne⟩
              rcases Nat.eq_zero_or_pos i with rfl | hp
              · exfalso; apply hne; cases l with | nil => simp at h0 | cons x l => simp
              · exact hp
          rw [key] at h3
          rw [h3]
          simp [e, e2, hlen, hlen2]
          cases evenB l <;> simp
theorem v_spec_AreShares (l : List GShare) (h : l.length ≤ 140737488355327) : F_spec_AreShares l = some (codeC l == 0) := by
  unfold F_spec_AreShares
  rw [v_l10Code l h]; rfl
theorem v_inRange (n a b : Int) : F_impl_inRange n a b = some (decide (a ≤ n ∧ n ≤ b)) := by
  unfold F_impl_inRange
  by_cases h1 : a ≤ n <;> by_cases h2 : n ≤ b <;> simp [h1, h2]
theorem v_lengthShare (l : List GShare) : F_impl_length_impl_Share l = some (l.length : Int) := rfl
/-- A search by a function that answers. -/
theorem find_of {α : Type} (l : List α) (p : α → Option Bool) (q : α → Bool) (L : Int → Option (Fl Int (Fl Unit Int)))
    (hL : ∀ s, L s = if (decide (s < (l.length : Int))) = true then ((idx l s).bind fun x => ((p x)).bind fun r => if r = true then (some (Fl.ex (Fl.ex s))) else (some (Fl.nx (wr (s + 1))))) else (some (Fl.ex (Fl.nx ()))))
    (hl : l.length < 9223372036854775807) (hp : ∀ x ∈ l, p x = some (q x)) :
    ((iter L 0 : Option (Fl Unit Int)).bind fun j1 => j1.el (fun _ => some (-1)) (fun r => some r)) = some (match l.findIdx? q with | some i => (i : Int) | none => -1) := by
  have h := iter_search (f := L) l.length (fun i => (l[i]?.map q).getD false) (fun i => (i : Int)) hl (fun i hi => by
    rw [hL]
    simp only [Int.ofNat_lt, hi, decide_true, if_true, idx_cast, List.getElem?_eq_getElem hi, Option.bind_some, Option.map_some, Option.getD_some, hp _ (List.getElem_mem hi)]
    split <;> rfl) (by rw [hL]; simp) 0 (Nat.zero_le _)
  have h3 : iter L 0 = _ := h
  rw [h3]
  have key : (List.range' 0 (l.length - 0)).find? (fun i => (l[i]?.map q).getD false) = l.findIdx? q := by
    rw [Nat.sub_zero, ← List.range_eq_range']
    clear h h3 hL hp hl
    induction l with
    | nil => rfl
    | cons x l ih =>
      rw [List.length_cons, List.range_succ_eq_map, List.find?_cons, List.findIdx?_cons]
      simp only [List.getElem?_cons_zero, Option.map_some, Option.getD_some]
      cases q x with
      | true => rfl
      | false =>
        simp only [Bool.false_eq_true, if_false]
        rw [List.find?_map, ← ih]
        congr 1
  rw [key]
  cases l.findIdx? q <;> rfl
theorem has_of {α : Type} (l : List α) (q : α → Bool) : decide ((match l.findIdx? q with | some i => (i : Int) | none => -1) ≥ 0) = l.any q := by
  rw [Bool.eq_iff_iff, decide_eq_true_eq]
  cases h : l.findIdx? q with
  | none =>
    have := List.findIdx?_eq_none_iff.1 h
    simp
    exact this
  | some i =>
    have h2 := List.findIdx?_eq_some_iff_getElem.1 h
    obtain ⟨hi, hq, _⟩ := h2
    simp
    exact ⟨_, List.getElem_mem hi, hq⟩
theorem v_ContainsShare (l : List GShare) (p : GShare → Option Bool) (q : GShare → Bool) (hl : l.length < 9223372036854775807) (hp : ∀ x ∈ l, p x = some (q x)) : F_slices_ContainsFunc_impl_Share_impl_Share l p = some (l.any q) := by
  unfold F_slices_ContainsFunc_impl_Share_impl_Share F_slices_IndexFunc_impl_Share_impl_Share
  rw [find_of l p q _ (fun s => by unfold L0_slices_IndexFunc_impl_Share_impl_Share; rfl) hl hp]
  simp only [Option.bind_some, has_of]
theorem indexByte_has (l : List UInt8) (c : UInt8) : decide (indexByte l c ≥ 0) = l.contains c := by
  induction l with
  | nil => rfl
  | cons b l ih =>
    have hge := Lib.indexByte_ge l c
    show decide (Lib.indexByte (b :: l) c ≥ 0) = _
    unfold Lib.indexByte
    rw [List.contains_cons, ← ih]
    by_cases hb : b = c
    · subst hb; simp
    · have hb' : (c == b) = false := by simpa using fun h => hb h.symm
      simp only [beq_eq_false_iff_ne.2 hb, hb', Bool.false_eq_true, if_false, Bool.false_or]
      rw [decide_eq_decide]
      show _ ↔ Lib.indexByte l c ≥ 0
      by_cases h1 : Lib.indexByte l c = -1
      · simp [h1]
      · rw [if_neg (by simpa using h1)]; omega
theorem v_areDifferent (l : List UInt8) (h : l.length < 9223372036854775807) : F_impl_areDifferent l = some (diffB l) := by
  unfold F_impl_areDifferent
  have := iter_has (f := L0_impl_areDifferent l) l.length (fun i => (l.take i).any fun x => l[i]? == some x) false h (fun i hi => by
    unfold L0_impl_areDifferent
    have e1 : slc l (0 : Int) (i : Int) = some (l.take i) := by have := slc_ok (l := l) (i := 0) (j := i) (Nat.zero_le _) (by omega); simpa using this
    simp only [Int.ofNat_lt, hi, decide_true, if_true, idx_cast, List.getElem?_eq_getElem hi, Option.bind_some, e1]
    unfold F_bytes_IndexByte
    simp only [Option.bind_some, indexByte_has]
    have e2 : (l.take i).contains l[i] = (l.take i).any fun x => some l[i] == some x := by
      rw [Bool.eq_iff_iff]; simp [List.any_eq_true]
    rw [e2]
    split <;> rfl) (by unfold L0_impl_areDifferent; simp) 0 (Nat.zero_le _)
  have h3 : iter (L0_impl_areDifferent l) 0 = _ := this
  have key : ((List.range' 0 (l.length - 0)).any fun i => (l.take i).any fun x => l[i]? == some x) = !diffB l := by
    rw [← nodup_any, Bool.eq_iff_iff, any_range, any_range]
    refine exists_congr fun i => and_congr_right fun _ => and_congr_right fun hi => ?_
    rw [any_range, List.any_eq_true]
    constructor
    · rintro ⟨x, hx, h⟩
      obtain ⟨k, hk, rfl⟩ := List.mem_iff_getElem.1 hx
      have hk2 : k < i ∧ k < l.length := by simp at hk; omega
      exact ⟨k, Nat.zero_le _, hk2.1, by rw [List.getElem?_eq_getElem hk2.2]; simpa using h⟩
    · rintro ⟨k, _, hk, h⟩
      have hkl : k < l.length := by omega
      refine ⟨l[k], List.mem_iff_getElem.2 ⟨k, by simp; omega, by simp⟩, ?_⟩
      rw [List.getElem?_eq_getElem hkl] at h; exact h
  rw [h3, key]
  cases diffB l <;> simp [Fl.el]
theorem v_areEven1 (l : List GShare) (h0 : 0 < l.length) (s : GShare) : F_impl_areEven_1 s l = some (s.Data.length != (l.headD default).Data.length) := by
  unfold F_impl_areEven_1
  have e3 : (l.headD default) = l[0] := by cases l with | nil => simp at h0 | cons x l => rfl
  simp only [idx_zero, List.getElem?_eq_getElem h0, Option.bind_some, e3]
  congr 1
  rw [Bool.eq_iff_iff]
  simp only [bne_iff_ne, ne_eq]
  omega
theorem v_areEven (l : List GShare) (h : l.length < 9223372036854775807) : F_impl_areEven l = some (evenB l) := by
  unfold F_impl_areEven
  rw [v_ContainsShare l _ (fun s => s.Data.length != (l.headD default).Data.length) h (fun x hx => v_areEven1 l (List.length_pos_of_mem hx) x)]
  simp only [Option.bind_some, evenB, List.any_eq_not_all_not]
  simp [bne]
theorem v_impl_AreShares (l : List GShare) (h : l.length ≤ 140737488355327) : F_impl_AreShares l = some (codeC l == 0) := by
  unfold F_impl_AreShares
  rw [v_lengthShare, Option.bind_some, v_inRange, Option.bind_some, v_ContainsShare l _ (fun s => !isShareB s) (by omega) (fun x _ => by unfold F_impl_AreShares_1; rw [v_isShare]; rfl), v_placesOf l h]
  simp only [Option.bind_some]
  rw [v_areDifferent _ (by simp; omega), v_areEven l (by omega)]
  simp only [List.any_eq_not_all_not, Bool.not_not, codeC]
  by_cases h1 : l.length < 1 ∨ 12 < l.length
  · have e : ¬ ((1 : Int) ≤ l.length ∧ (l.length : Int) ≤ 12) := by omega
    simp only [e, h1, decide_false, Bool.false_eq_true, if_false, if_true, Option.bind_some]
    cases l.all isShareB <;> cases diffB (l.map (·.Place)) <;> rfl
  · have e : ((1 : Int) ≤ l.length ∧ (l.length : Int) ≤ 12) := by omega
    simp only [e, h1, decide_true, and_self, if_true, if_false, Option.bind_some]
    cases l.all isShareB <;> cases diffB (l.map (·.Place)) <;> cases evenB l <;> rfl

theorem bd_share {l : List GShare} (h : Dat.bd l) : l.length ≤ 9223372036854775807 ∧ ∀ x ∈ l, x.Data.length ≤ 9223372036854775807 :=
  ⟨h.1, fun x hx => (h.2 x hx).2.1⟩
theorem law_FnExactAreShares (l : List GShare) (h : Dat.bd l) : F_laws_FnExactAreShares l = some true := by
  obtain ⟨h1, h2⟩ := bd_share h
  unfold F_laws_FnExactAreShares
  obtain ⟨r, e1, e2, e3⟩ := v_szShareS l h1 h2 1048576 (by omega) (by omega)
  rw [e1]
  by_cases hr : r < 0
  · simp [hr]
  have hw : Wt.wt l ≤ 1048576 := by have := e3 (by omega); omega
  have hl := wt_len l
  simp only [Option.bind_some, hr, decide_false, Bool.false_eq_true, if_false, v_toShareS l hw, v_spec_AreShares l (by omega), v_impl_AreShares l (by omega), bne_self_eq_false]
  rw [v_eqShareS l (by omega) (fun x hx => by have := wt_memL hx; rw [wt_share, wt_bytes] at this; omega)]
  rfl
end Go.Proofs.Ytbonmndobipbnaa
