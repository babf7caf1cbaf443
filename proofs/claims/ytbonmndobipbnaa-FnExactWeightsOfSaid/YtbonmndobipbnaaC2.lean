/- Plain laws, no program in sight. -/
import Derived.Test.YtbonmndobipbnaaC1
set_option linter.unusedVariables false
set_option linter.unusedSimpArgs false
namespace Go.Proofs.Ytbonmndobipbnaa
open Go
theorem idx_nat {α : Type} {l : List α} {i : Nat} (h : i < l.length) : idx l (i : Int) = some l[i] := by
  unfold idx
  rw [if_pos (by omega)]
  simp
theorem wr_nat {i : Nat} (h : i < 9223372036854775807) : wr ((i : Int) + 1) = ((i + 1 : Nat) : Int) := by
  rw [wr_id (by omega)]; rfl

section
variable {S T : Type} {f : S → Option (Fl S T)}
/-- Rounds that go on. -/
theorem iter_to (g : Nat → S) (m n : Nat) (hmn : m ≤ n) (h : ∀ i, m ≤ i → i < n → f (g i) = some (.nx (g (i + 1)))) : iter f (g m) = iter f (g n) := by
  induction n with
  | zero => have : m = 0 := by omega
            subst this; rfl
  | succ n ih =>
    rcases Nat.lt_or_ge m (n + 1) with h1 | h1
    · rw [ih (by omega) (fun i h2 h3 => h i h2 (by omega)), iter_nx (h n (by omega) (by omega))]
    · have : m = n + 1 := by omega
      subst this; rfl
/-- A loop that runs to its end. -/
theorem iter_run (g : Nat → S) (m n : Nat) (hmn : m ≤ n) {t : T} (h : ∀ i, m ≤ i → i < n → f (g i) = some (.nx (g (i + 1)))) (he : f (g n) = some (.ex t)) : iter f (g m) = some t := by
  rw [iter_to g m n hmn h, iter_ex he]
/-- A loop that may leave early: at the first round of which p holds. -/
theorem iter_find (g : Nat → S) (p : Nat → Bool) (t : Nat → T) {e : T} (n : Nat) : ∀ (k m : Nat), m + k = n → (∀ i, m ≤ i → i < n → f (g i) = some (if p i then .ex (t i) else .nx (g (i + 1)))) → f (g n) = some (.ex e) →
    iter f (g m) = some (((List.range' m k).find? p).elim e t)
  | 0, m, hk, _, he => by
    have : m = n := by omega
    subst this
    rw [iter_ex he]; rfl
  | k + 1, m, hk, h, he => by
    have h1 := h m (Nat.le_refl _) (by omega)
    rw [List.range'_succ, List.find?_cons]
    cases hp : p m with
    | true => rw [hp] at h1; rw [iter_ex h1]; rfl
    | false =>
      rw [hp] at h1
      rw [iter_nx h1, iter_find g p t n k (m + 1) (by omega) (fun i h2 h3 => h i (by omega) h3) he]
end

/-- A search through indices: it leaves with t where p holds of one of them. -/
theorem iter_any {T : Type} {f : Int → Option (Fl Int (Fl Unit T))} (p : Nat → Bool) {t : T} {n m : Nat} (hm : m ≤ n)
    (h : ∀ i, m ≤ i → i < n → f (i : Int) = some (if p i then .ex (.ex t) else .nx ((i + 1 : Nat) : Int))) (he : f (n : Int) = some (.ex (.nx ()))) :
    iter f (m : Int) = some (if (List.range' m (n - m)).any p then .ex t else .nx ()) := by
  rw [iter_find (fun i : Nat => (i : Int)) p (fun _ => .ex t) n (n - m) m (by omega) h he]
  cases hf : (List.range' m (n - m)).find? p with
  | none =>
    have : (List.range' m (n - m)).any p = false := by
      rw [List.any_eq_false]
      rw [List.find?_eq_none] at hf
      exact hf
    rw [this]; rfl
  | some i =>
    have : (List.range' m (n - m)).any p = true := by
      rw [List.any_eq_true]
      exact ⟨i, List.mem_of_find?_eq_some hf, List.find?_some hf⟩
    rw [this]; rfl
theorem any_range {p : Nat → Bool} {m n : Nat} : (List.range' m (n - m)).any p = true ↔ ∃ i, m ≤ i ∧ i < n ∧ p i = true := by
  rw [List.any_eq_true]
  simp only [List.mem_range'_1]
  constructor
  · rintro ⟨i, ⟨h1, h2⟩, h3⟩; exact ⟨i, h1, by omega, h3⟩
  · rintro ⟨i, h1, h2, h3⟩; exact ⟨i, ⟨h1, by omega⟩, h3⟩
/-- How much data hold, beside what is of one size; that all lengths are numbers. -/
class Wt (α : Type) [Dat α] where
  wt : α → Nat
  ln : α → Prop
  bdln : ∀ x, Dat.bd x → ln x
  wtln : ∀ x, wt x ≤ 1048576 → ln x
instance : Wt Int := ⟨fun _ => 0, fun _ => True, fun _ _ => trivial, fun _ _ => trivial⟩
instance : Wt UInt8 := ⟨fun _ => 0, fun _ => True, fun _ _ => trivial, fun _ _ => trivial⟩
instance : Wt Bool := ⟨fun _ => 0, fun _ => True, fun _ _ => trivial, fun _ _ => trivial⟩
instance : Wt Str := ⟨fun s => s.l.length, fun s => s.l.length ≤ 9223372036854775807, fun _ h => h, fun _ h => by omega⟩
instance {n : Nat} : Wt (Vector UInt8 n) := ⟨fun _ => 0, fun _ => True, fun _ _ => trivial, fun _ _ => trivial⟩
instance {n m : Nat} : Wt (Vector (Vector UInt8 m) n) := ⟨fun _ => 0, fun _ => True, fun _ _ => trivial, fun _ _ => trivial⟩
theorem sum_mem {α : Type} {f : α → Nat} {l : List α} {x : α} (h : x ∈ l) : f x ≤ (l.map f).sum := by
  induction l with
  | nil => cases h
  | cons y l ih =>
    rw [List.map_cons, List.sum_cons]
    rcases List.mem_cons.1 h with rfl | h
    · omega
    · have := ih h; omega
instance {α : Type} [Dat α] [Wt α] : Wt (List α) := ⟨fun l => l.length + (l.map Wt.wt).sum, fun l => l.length ≤ 9223372036854775807 ∧ ∀ x ∈ l, Wt.ln x, fun _ h => ⟨h.1, fun x hx => Wt.bdln x (h.2 x hx)⟩,
  fun l h => ⟨by omega, fun x hx => Wt.wtln x (by have := sum_mem (f := Wt.wt) hx; omega)⟩⟩
instance {α β : Type} [Dat α] [Dat β] [Wt α] [Wt β] : Wt (α × β) := ⟨fun x => Wt.wt x.1 + Wt.wt x.2, fun x => Wt.ln x.1 ∧ Wt.ln x.2, fun x h => ⟨Wt.bdln x.1 h.1, Wt.bdln x.2 h.2⟩, fun x h => ⟨Wt.wtln x.1 (by omega), Wt.wtln x.2 (by omega)⟩⟩
theorem wt_list {α : Type} [Dat α] [Wt α] (l : List α) : Wt.wt l = l.length + (l.map Wt.wt).sum := rfl
theorem wt_len {α : Type} [Dat α] [Wt α] (l : List α) : l.length ≤ Wt.wt l := by rw [wt_list]; omega
theorem ln_len {α : Type} [Dat α] [Wt α] {l : List α} (h : Wt.ln l) : l.length ≤ 9223372036854775807 := h.1
theorem copy_loop {α β : Type} (p0 : List α) (c : α → Option β) (g : α → β) (by_ : Nat) (z : β) (L : List β × Int → Option (Fl (List β × Int) (List β)))
    (hL : ∀ s, L s = if (decide (s.2 < (p0.length : Int))) = true then ((idx p0 s.2).bind fun x => (c x).bind fun r => (idx s.1 s.2).bind fun _ => some (Fl.nx ((s.1.set (s.2).toNat r), wr (s.2 + 1)))) else (some (Fl.ex s.1)))
    (hc : ∀ x ∈ p0, c x = some (g x)) (hl : p0.length * by_ ≤ 140737488355328) (hl' : p0.length < 9223372036854775807) :
    ((mkS by_ z (p0.length : Int)).bind fun l1 => (iter L (l1, 0) : Option (List β)).bind fun j => some j) = some (p0.map g) := by
  have hm : mkS by_ z (p0.length : Int) = some (List.replicate p0.length z) := by
    have h3 : ((p0.length * by_ : Nat) : Int) ≤ ((140737488355328 : Nat) : Int) := Int.ofNat_le.2 hl
    rw [Int.natCast_mul] at h3
    unfold mkS
    rw [if_pos ⟨by omega, h3⟩, Int.toNat_natCast]
  rw [hm]
  simp only [Option.bind_some]
  have hrun := iter_run (f := L) (fun i : Nat => ((p0.take i).map g ++ List.replicate (p0.length - i) z, (i : Int))) 0 p0.length (Nat.zero_le _) (t := p0.map g) (fun i _ hi => by
    rw [hL]
    simp only [Int.ofNat_lt, hi, decide_true, if_true, idx_nat hi, Option.bind_some, hc _ (List.getElem_mem hi)]
    rw [idx_nat (by simp; omega)]
    simp only [Option.bind_some, wr_nat (show i < 9223372036854775807 by omega), Int.toNat_natCast]
    congr 3
    rw [List.set_append_right _ _ (by simp; omega)]
    have e1 : p0.length - i = (p0.length - (i + 1)) + 1 := by omega
    have e2 : i - ((p0.take i).map g).length = 0 := by simp; omega
    rw [e1, List.replicate_succ, e2, List.set_cons_zero]
    rw [List.take_succ_eq_append_getElem hi, List.map_append, List.append_assoc]
    rfl) (by
    rw [hL]
    simp)
  simp at hrun
  simp [hrun]

theorem eq_loop {α : Type} (p0 : List α) (ne : α → α → Option Bool) (L : Int → Option (Fl Int (Fl Unit Bool)))
    (hL : ∀ s, L s = if (decide (s < (p0.length : Int))) = true then (((idx p0 s).bind fun x => (idx p0 s).bind fun y => ne x y : Option Bool).bind fun j => if j = true then (some (Fl.ex (Fl.ex false))) else (some (Fl.nx (wr (s + 1))))) else (some (Fl.ex (Fl.nx ()))))
    (hn : ∀ x ∈ p0, ne x x = some false) (hl : p0.length ≤ 9223372036854775807) :
    (if ((p0.length : Int) != (p0.length : Int)) = true then (some false) else ((iter L 0 : Option (Fl Unit Bool)).bind fun j2 => j2.el (fun _ => some true) (fun r => some r))) = some true := by
  have := iter_run (f := L) (fun i : Nat => (i : Int)) 0 p0.length (Nat.zero_le _) (t := .nx ()) (fun i _ hi => by
    rw [hL]
    simp only [Int.ofNat_lt, hi, decide_true, if_true, idx_nat hi, Option.bind_some, hn _ (List.getElem_mem hi)]
    simp [wr_nat (show i < 9223372036854775807 by omega)]) (by
    rw [hL]; simp)
  have h2 : iter L 0 = some (.nx ()) := this
  simp [h2, Fl.el]

@[simp] theorem idx_cast {α : Type} (l : List α) (i : Nat) : idx l (i : Int) = l[i]? := by unfold idx; simp
@[simp] theorem idx_zero {α : Type} (l : List α) : idx l (0 : Int) = l[0]? := idx_cast l 0
/-- A search that answers one thing. -/
theorem iter_has {T : Type} {f : Int → Option (Fl Int (Fl Unit T))} (n : Nat) (p : Nat → Bool) (t : T) (hn : n < 9223372036854775807)
    (h : ∀ i, i < n → f (i : Int) = some (if p i then .ex (.ex t) else .nx (wr ((i : Int) + 1)))) (he : f (n : Int) = some (.ex (.nx ()))) (m : Nat) (hm : m ≤ n) :
    iter f (m : Int) = some (if (List.range' m (n - m)).any p then .ex t else .nx ()) :=
  iter_any p hm (fun i _ hi => by rw [h i hi, wr_nat (by omega)]) he
theorem iter_hasM {T : Type} {f : Int → Option (Fl Int (Fl Unit T))} (n : Nat) (p : Nat → Bool) (t : T) (hn : n < 9223372036854775807) (m : Nat) (hm : m ≤ n)
    (h : ∀ i, m ≤ i → i < n → f (i : Int) = some (if p i then .ex (.ex t) else .nx (wr ((i : Int) + 1)))) (he : f (n : Int) = some (.ex (.nx ()))) :
    iter f (m : Int) = some (if (List.range' m (n - m)).any p then .ex t else .nx ()) :=
  iter_any p hm (fun i hmi hi => by rw [h i hmi hi, wr_nat (by omega)]) he
/-- A loop over the elements of a list that carries a value. -/
theorem iter_fold {α β S T : Type} {f : S → Option (Fl S T)} (l : List α) (pack : β → Int → S) (g : β → α → β) (b0 : β) {t : T} (hn : l.length < 9223372036854775807)
    (h : ∀ i (hi : i < l.length), f (pack ((l.take i).foldl g b0) (i : Int)) = some (.nx (pack (g ((l.take i).foldl g b0) l[i]) (wr ((i : Int) + 1))))) (he : f (pack (l.foldl g b0) (l.length : Int)) = some (.ex t)) :
    iter f (pack b0 0) = some t := by
  have := iter_run (f := f) (fun i : Nat => pack ((l.take i).foldl g b0) (i : Int)) 0 l.length (Nat.zero_le _) (t := t) (fun i _ hi => by
    rw [h i hi, wr_nat (by omega)]
    congr 3
    rw [List.take_succ_eq_append_getElem hi, List.foldl_append]; rfl) (by rw [List.take_length]; exact he)
  simpa using this
theorem foldl_map_app {α β : Type} (g : α → β) (l : List α) (acc : List β) : l.foldl (fun b x => b ++ [g x]) acc = acc ++ l.map g := by
  induction l generalizing acc with
  | nil => simp
  | cons x l ih => simp [ih]
/-- A loop that appends one value an element. -/
theorem iter_map {α β T : Type} {f : List β × Int → Option (Fl (List β × Int) T)} (l : List α) (g : α → β) {t : T} (hn : l.length < 9223372036854775807)
    (h : ∀ i (hi : i < l.length), f ((l.take i).map g, (i : Int)) = some (.nx ((l.take i).map g ++ [g l[i]], wr ((i : Int) + 1)))) (he : f (l.map g, (l.length : Int)) = some (.ex t)) :
    iter f ([], 0) = some t := by
  have e : ∀ m : List α, m.foldl (fun b x => b ++ [g x]) [] = m.map g := fun m => by rw [foldl_map_app]; rfl
  exact iter_fold (f := f) l (fun b i => (b, i)) (fun b x => b ++ [g x]) [] hn (fun i hi => by simp only [e]; exact h i hi) (by simp only [e]; exact he)
theorem app_ok {α : Type} {by_ : Nat} {l m : List α} (h : (l.length + m.length) * by_ ≤ 140737488355328) : app by_ l m = some (l ++ m) := by unfold app; rw [if_pos h]
theorem slc_ok {α : Type} {l : List α} {i j : Nat} (h : i ≤ j) (h2 : j ≤ l.length) : slc l (i : Int) (j : Int) = some ((l.take j).drop i) := by
  unfold slc; rw [if_pos (by omega)]; simp

@[simp] theorem vidx_cast {α : Type} {n : Nat} (v : Vector α n) (i : Nat) : vidx v (i : Int) = v[i]? := by unfold vidx; simp
theorem wr_k {k : Int} (h : 0 ≤ k) (h2 : k < 9223372036854775807) : wr (k + 1) = k + 1 := wr_id (by omega)
/-- A mark of n numbers from k on, and the look that finds it. -/
def MarkOk {α : Type} (Fm : α → Int → Option (α × Int)) (Fh : α → Int → Option Int) (x : α) (n : Nat) : Prop :=
  ∀ k : Int, 0 ≤ k → k + n ≤ 4611686018427387904 → ∃ x', Fm x k = some (x', k + n) ∧ Fh x' k = some (k + n)
theorem mark_list {α : Type} (Fm : List α → Int → Option (List α × Int)) (Fh : List α → Int → Option Int) (Lm : List α × Int × Int → Option (Fl (List α × Int × Int) (List α × Int))) (Lh : List α → Int × Int → Option (Fl (Int × Int) (Fl Int Int))) (mk : α → Nat)
    (hFm : ∀ l k, Fm l k = (iter Lm (l, k, 0) : Option (List α × Int)).bind fun j1 => some (j1.1, j1.2)) (hFh : ∀ l k, Fh l k = (iter (Lh l) (k, 0) : Option (Fl Int Int)).bind fun j1 => j1.el (fun s => some s) (fun r => some r))
    (l : List α) (hl : l.length ≤ 9223372036854775807)
    (hm : ∀ (l' : List α) (i : Nat) (k : Int) (hi : i < l'.length), l'[i] ∈ l → i < 9223372036854775807 → 0 ≤ k → k + mk l'[i] ≤ 4611686018427387904 → ∃ x', Lm (l', k, (i : Int)) = some (.nx (l'.set i x', k + mk l'[i], wr ((i : Int) + 1))) ∧
      ∀ (m : List α), m[i]? = some x' → Lh m (k, (i : Int)) = some (.nx (k + mk l'[i], wr ((i : Int) + 1))))
    (hme : ∀ (l' : List α) k, Lm (l', k, (l'.length : Int)) = some (.ex (l', k))) (hhe : ∀ (m : List α) k, Lh m (k, (m.length : Int)) = some (.ex (.nx k))) : MarkOk Fm Fh l (l.map mk).sum := by
  have aux : ∀ (n i : Nat) (l' : List α) (k : Int), i + n = l'.length → l'.length = l.length → l'.drop i = l.drop i → 0 ≤ k → k + (((l.drop i).map mk).sum : Nat) ≤ 4611686018427387904 →
      ∃ l'', iter Lm (l', k, (i : Int)) = some (l'', k + (((l.drop i).map mk).sum : Nat)) ∧ l''.length = l'.length ∧ (∀ j, j < i → l''[j]? = l'[j]?) ∧ iter (Lh l'') (k, (i : Int)) = some (.nx (k + (((l.drop i).map mk).sum : Nat))) := by
    intro n
    induction n with
    | zero =>
      intro i l' k hi hll hd h0 hk
      have hi : i = l'.length := by omega
      subst hi
      have e : l.drop l'.length = [] := by rw [hll]; simp
      rw [e]
      refine ⟨l', ?_, rfl, fun _ _ => rfl, ?_⟩
      · rw [iter_ex (hme l' k)]; simp
      · rw [iter_ex (hhe l' k)]; simp
    | succ n ih =>
      intro i l' k hi hll hd h0 hk
      have hil : i < l'.length := by omega
      have hil2 : i < l.length := by omega
      have e1 : l'[i] = l[i] := by
        have h1 := List.drop_eq_getElem_cons hil
        have h2 := List.drop_eq_getElem_cons hil2
        rw [h1, h2] at hd
        exact (List.cons.inj hd).1
      have e2 : l.drop i = l[i] :: l.drop (i + 1) := List.drop_eq_getElem_cons hil2
      rw [e2, List.map_cons, List.sum_cons] at hk ⊢
      obtain ⟨x', h1, h2⟩ := hm l' i k hil (by rw [e1]; exact List.getElem_mem hil2) (by omega) h0 (by rw [e1]; omega)
      rw [e1] at h1 h2
      rw [wr_nat (by omega)] at h1 h2
      obtain ⟨l'', k1, k2, k3, k4⟩ := ih (i + 1) (l'.set i x') (k + mk l[i]) (by simp; omega) (by simpa using hll) (by
        rw [List.drop_set_of_lt (by omega)]
        have h1 := List.drop_eq_getElem_cons hil
        rw [h1, e2] at hd
        exact (List.cons.inj hd).2) (by omega) (by omega)
      refine ⟨l'', ?_, by simpa using k2, fun j hj => ?_, ?_⟩
      · rw [iter_nx h1, k1]; congr 2; omega
      · rw [k3 j (by omega), List.getElem?_set_ne (by omega)]
      · rw [iter_nx (h2 l'' (by rw [k3 i (by omega)]; simp [hil])), k4]; congr 2; omega
  intro k h0 hk
  obtain ⟨l'', k1, k2, k3, k4⟩ := aux l.length 0 l k (by omega) rfl rfl h0 (by simpa using hk)
  simp only [List.drop_zero] at k1 k4
  refine ⟨l'', ?_, ?_⟩
  · rw [hFm]
    have : iter Lm (l, k, 0) = _ := k1
    rw [this]; rfl
  · rw [hFh]
    have : iter (Lh l'') (k, 0) = _ := k4
    rw [this]; rfl
theorem wt_bytes (l : List UInt8) : Wt.wt l = l.length := by
  rw [wt_list]
  have : (l.map Wt.wt).sum = 0 := by
    induction l with
    | nil => rfl
    | cons x l ih => rw [List.map_cons, List.sum_cons, ih]; rfl
  omega
theorem v_toByteS (l : List UInt8) (h : Wt.wt l ≤ 1048576) : F_laws_toByteS l = some l := by
  have := wt_len l
  unfold F_laws_toByteS
  have := copy_loop l (fun x => some x) id 1 0 (L0_laws_toByteS l) (fun s => by unfold L0_laws_toByteS; rfl) (fun _ _ => rfl) (by omega) (by omega)
  simpa using this
theorem v_eqByteS (l : List UInt8) (h : Wt.ln l) : F_laws_eqByteS l l = some true := by
  unfold F_laws_eqByteS
  exact eq_loop l (fun x y => some (x != y)) (L0_laws_eqByteS l l) (fun s => by unfold L0_laws_eqByteS; rfl) (fun x _ => by simp) (ln_len h)
theorem v_markByteS (l : List UInt8) (h : Wt.ln l) : MarkOk F_laws_markByteS F_laws_heldByteS l (l.map fun _ => 1).sum :=
  mark_list F_laws_markByteS F_laws_heldByteS L0_laws_markByteS L0_laws_heldByteS (fun _ => 1) (fun _ _ => rfl) (fun _ _ => rfl) l (ln_len h) (fun l' i k hi _ _ h0 hk => by
    have e := wr_k (k := k) h0 (by omega)
    refine ⟨byteI k, ?_, fun m hm => ?_⟩
    · unfold L0_laws_markByteS
      simp only [Int.ofNat_lt, hi, decide_true, if_true, idx_cast, List.getElem?_eq_getElem hi, Option.bind_some, Int.toNat_natCast, e]; rfl
    · have hi' := (List.getElem?_eq_some_iff.1 hm).1
      unfold L0_laws_heldByteS
      simp only [Int.ofNat_lt, hi', decide_true, if_true, idx_cast, hm, Option.bind_some, bne_self_eq_false, Bool.false_eq_true, if_false, e]; rfl) (fun l' k => by unfold L0_laws_markByteS; simp) (fun m k => by unfold L0_laws_heldByteS; simp)
/-- Only a mark. -/
def MarkGo {α : Type} (Fm : α → Int → Option (α × Int)) (x : α) (n : Nat) : Prop :=
  ∀ k : Int, 0 ≤ k → k + n ≤ 4611686018427387904 → ∃ x', Fm x k = some (x', k + n)
theorem mark_go {α : Type} (Fm : List α → Int → Option (List α × Int)) (Lm : List α × Int × Int → Option (Fl (List α × Int × Int) (List α × Int))) (mk : α → Nat)
    (hFm : ∀ l k, Fm l k = (iter Lm (l, k, 0) : Option (List α × Int)).bind fun j1 => some (j1.1, j1.2)) (l : List α) (hl : l.length ≤ 9223372036854775807)
    (hm : ∀ (l' : List α) (i : Nat) (k : Int) (hi : i < l'.length), l'[i] ∈ l → i < 9223372036854775807 → 0 ≤ k → k + mk l'[i] ≤ 4611686018427387904 → ∃ x', Lm (l', k, (i : Int)) = some (.nx (l'.set i x', k + mk l'[i], wr ((i : Int) + 1))))
    (hme : ∀ (l' : List α) k, Lm (l', k, (l'.length : Int)) = some (.ex (l', k))) : MarkGo Fm l (l.map mk).sum := by
  intro k h0 hk
  have aux : ∀ (n i : Nat) (l' : List α) (k : Int), i + n = l'.length → l'.length = l.length → l'.drop i = l.drop i → 0 ≤ k → k + (((l.drop i).map mk).sum : Nat) ≤ 4611686018427387904 →
      ∃ l'', iter Lm (l', k, (i : Int)) = some (l'', k + (((l.drop i).map mk).sum : Nat)) := by
    intro n
    induction n with
    | zero =>
      intro i l' k hi hll hd h0 hk
      have hi : i = l'.length := by omega
      subst hi
      have e : l.drop l'.length = [] := by rw [hll]; simp
      rw [e]
      exact ⟨l', by rw [iter_ex (hme l' k)]; simp⟩
    | succ n ih =>
      intro i l' k hi hll hd h0 hk
      have hil : i < l'.length := by omega
      have hil2 : i < l.length := by omega
      have h1 := List.drop_eq_getElem_cons hil
      have e2 : l.drop i = l[i] :: l.drop (i + 1) := List.drop_eq_getElem_cons hil2
      rw [h1, e2] at hd
      have e1 := (List.cons.inj hd).1
      rw [e2, List.map_cons, List.sum_cons] at hk ⊢
      obtain ⟨x', h1⟩ := hm l' i k hil (by rw [e1]; exact List.getElem_mem hil2) (by omega) h0 (by rw [e1]; omega)
      rw [e1, wr_nat (by omega)] at h1
      obtain ⟨l'', k1⟩ := ih (i + 1) (l'.set i x') (k + mk l[i]) (by simp; omega) (by simpa using hll) (by
        rw [List.drop_set_of_lt (by omega)]
        exact (List.cons.inj hd).2) (by omega) (by omega)
      exact ⟨l'', by rw [iter_nx h1, k1]; congr 2; omega⟩
  obtain ⟨l'', k1⟩ := aux l.length 0 l k (by omega) rfl rfl h0 (by simpa using hk)
  simp only [List.drop_zero] at k1
  refine ⟨l'', ?_⟩
  rw [hFm]
  have : iter Lm (l, k, 0) = _ := k1
  rw [this]; rfl
theorem g_markByteS (l : List UInt8) (h : Wt.ln l) : MarkGo F_laws_markByteS l (l.map fun _ => 1).sum :=
  mark_go F_laws_markByteS L0_laws_markByteS (fun _ => 1) (fun _ _ => rfl) l (ln_len h) (fun l' i k hi _ _ h0 hk => by
    have e := wr_k (k := k) h0 (by omega)
    refine ⟨byteI k, ?_⟩
    unfold L0_laws_markByteS
    simp only [Int.ofNat_lt, hi, decide_true, if_true, idx_cast, List.getElem?_eq_getElem hi, Option.bind_some, Int.toNat_natCast, e]; rfl) (fun l' k => by unfold L0_laws_markByteS; simp)
theorem sum_one (l : List UInt8) : (l.map fun _ => 1).sum = l.length := by
  induction l with
  | nil => rfl
  | cons x l ih => rw [List.map_cons, List.sum_cons, ih, List.length_cons]; omega
theorem v_inRange (n a b : Int) : F_impl_inRange n a b = some (decide (a ≤ n ∧ n ≤ b)) := by
  unfold F_impl_inRange
  by_cases h1 : a ≤ n <;> by_cases h2 : n ≤ b <;> simp [h1, h2]
theorem v_l01In (n a b : Int) : F_spec_l01In n a b = some (decide (a ≤ n ∧ n ≤ b)) := by
  unfold F_spec_l01In
  by_cases h1 : a ≤ n <;> by_cases h2 : n ≤ b <;> simp [h1, h2]
theorem bv_nat (a : Nat) (h : a < 9223372036854775808) : (BitVec.ofInt 64 (a : Int)).toNat = a := by
  rw [BitVec.toNat_ofInt]
  omega
theorem xorI_nat (a b : Nat) (ha : a < 9223372036854775808) (hb : b < 9223372036854775808) : xorI (a : Int) (b : Int) = ((a ^^^ b : Nat) : Int) := by
  unfold xorI
  rw [BitVec.toNat_xor, bv_nat a ha, bv_nat b hb]
  have : a ^^^ b < 2 ^ 63 := Nat.xor_lt_two_pow ha hb
  exact wr_id (by omega)
theorem andI_nat (a b : Nat) (ha : a < 9223372036854775808) (hb : b < 9223372036854775808) : andI (a : Int) (b : Int) = ((a &&& b : Nat) : Int) := by
  unfold andI
  rw [BitVec.toNat_and, bv_nat a ha, bv_nat b hb]
  have : a &&& b < 2 ^ 63 := Nat.and_lt_two_pow _ hb
  exact wr_id (by omega)
theorem shlI_nat (a i : Nat) (hi : i ≤ 63) (h : a <<< i < 9223372036854775808) : shlI (a : Int) (i : Int) = ((a <<< i : Nat) : Int) := by
  unfold shlI
  rw [show min ((i : Int)).toNat 64 = i by omega]
  have : ((a : Int) * 2 ^ i) = ((a <<< i : Nat) : Int) := by rw [Nat.shiftLeft_eq]; simp
  rw [this]
  generalize a <<< i = x at h ⊢
  exact wr_id (by omega)
theorem shrI_nat (a i : Nat) (hi : i ≤ 63) : shrI (a : Int) (i : Int) = ((a >>> i : Nat) : Int) := by
  unfold shrI
  rw [show min ((i : Int)).toNat 64 = i by omega, Nat.shiftRight_eq_div_pow, Int.fdiv_eq_ediv_of_nonneg _ (by exact_mod_cast Nat.zero_le _)]
  simp
theorem bit_and (a i : Nat) : ((a >>> i) &&& 1 = 1) ↔ a.testBit i = true := by
  rw [Nat.testBit, Nat.and_comm]
  have h := Nat.and_one_is_mod (a >>> i)
  rw [Nat.and_comm] at h
  rw [h]
  rcases Nat.mod_two_eq_zero_or_one (a >>> i) with h | h <;> simp [h]
theorem tmod2 (a : Nat) : Int.tmod (a : Int) 2 = ((a % 2 : Nat) : Int) := by
  rw [Int.tmod_eq_emod_of_nonneg (by omega)]; simp
theorem tdiv2 (a : Nat) : Int.tdiv (a : Int) 2 = ((a / 2 : Nat) : Int) := by
  rw [Int.tdiv_eq_ediv_of_nonneg (by omega)]; simp
theorem wr_nn (a : Nat) (h : a < 9223372036854775808) : wr (a : Int) = (a : Int) := wr_id (by omega)
theorem wru_nn (a : Nat) (h : a < 9223372036854775808) : IntKind.u64.wrap (a : Int) = (a : Int) := by
  simp only [IntKind.wrap, IntKind.bits, IntKind.signed]
  simp
  omega

/-- The remainder, bit by bit from the top: k bits are looked at. -/
def restR (m deg : Nat) : Nat → Nat → Nat
  | 0, a => a
  | k + 1, a => restR m deg k (if a.testBit (deg + k) then a ^^^ (m <<< k) else a)
theorem shl_lt {m k n : Nat} (h : m < 2 ^ n) : m <<< k < 2 ^ (n + k) := by
  rw [Nat.shiftLeft_eq, Nat.pow_add]
  exact Nat.mul_lt_mul_of_pos_right h (Nat.two_pow_pos _)
theorem lt_of_bit {a n : Nat} (h : a < 2 ^ (n + 1)) (hb : a.testBit n = false) : a < 2 ^ n := by
  apply Nat.lt_pow_two_of_testBit
  intro i hi
  rcases Nat.eq_or_lt_of_le hi with rfl | hi
  · exact hb
  · exact Nat.testBit_lt_two_pow (Nat.lt_of_lt_of_le h (Nat.pow_le_pow_right (by omega) hi))
theorem top_bit {m d : Nat} (h1 : 2 ^ d ≤ m) (h2 : m < 2 ^ (d + 1)) : m.testBit d = true := by
  rw [Nat.testBit, Nat.shiftRight_eq_div_pow]
  have : m / 2 ^ d = 1 := by
    apply Nat.div_eq_of_lt_le
    · simpa using h1
    · rw [Nat.pow_succ] at h2; omega
  rw [this]; rfl
theorem step_lt {m d k a : Nat} (h1 : 2 ^ d ≤ m) (h2 : m < 2 ^ (d + 1)) (ha : a < 2 ^ (d + (k + 1))) (hb : a.testBit (d + k) = true) : a ^^^ (m <<< k) < 2 ^ (d + k) := by
  have hm : m <<< k < 2 ^ (d + (k + 1)) := by have := shl_lt (k := k) h2; rwa [show d + 1 + k = d + (k + 1) by omega] at this
  refine lt_of_bit (Nat.xor_lt_two_pow (by rwa [show d + k + 1 = d + (k + 1) by omega]) (by rwa [show d + k + 1 = d + (k + 1) by omega])) ?_
  rw [Nat.testBit_xor, hb, Nat.testBit_shiftLeft]
  simp [top_bit h1 h2]
theorem restR_lt {m d : Nat} (h1 : 2 ^ d ≤ m) (h2 : m < 2 ^ (d + 1)) : ∀ (k a : Nat), a < 2 ^ (d + k) → restR m d k a < 2 ^ d
  | 0, a, h => by simpa [restR] using h
  | k + 1, a, h => by
    unfold restR
    cases hb : a.testBit (d + k) with
    | true => simp only [if_true]; exact restR_lt h1 h2 k _ (step_lt h1 h2 h hb)
    | false => simp only [Bool.false_eq_true, if_false]; exact restR_lt h1 h2 k a (lt_of_bit h hb)
theorem restR_xor (m d : Nat) : ∀ (k a b : Nat), restR m d k (a ^^^ b) = restR m d k a ^^^ restR m d k b
  | 0, _, _ => rfl
  | k + 1, a, b => by
    simp only [restR]
    rw [Nat.testBit_xor]
    cases a.testBit (d + k) <;> cases b.testBit (d + k) <;> simp only [Bool.xor_false, Bool.false_xor, Bool.xor_self, Bool.xor_true, Bool.not_false, Bool.not_true, Bool.false_eq_true, if_true, if_false]
    · exact restR_xor m d k a b
    · rw [Nat.xor_assoc]; exact restR_xor m d k a _
    · rw [← restR_xor m d k]; congr 1; rw [Nat.xor_assoc, Nat.xor_comm b, ← Nat.xor_assoc]
    · rw [← restR_xor m d k]; congr 1
      rw [Nat.xor_assoc, ← Nat.xor_assoc (m <<< k), Nat.xor_comm (m <<< k) b, Nat.xor_assoc, Nat.xor_self, Nat.xor_zero]
theorem restR_low {m d : Nat} : ∀ (k a : Nat), a < 2 ^ d → restR m d k a = a
  | 0, _, _ => rfl
  | k + 1, a, h => by
    unfold restR
    rw [Nat.testBit_lt_two_pow (Nat.lt_of_lt_of_le h (Nat.pow_le_pow_right (by omega) (by omega)))]
    simp only [Bool.false_eq_true, if_false]
    exact restR_low k a h
theorem restR_top {m d k a : Nat} (h : a < 2 ^ (d + k)) : restR m d (k + 1) a = restR m d k a := by
  conv => lhs; unfold restR
  rw [Nat.testBit_lt_two_pow h]; rfl
theorem restR_shift (m d : Nat) : ∀ (k x : Nat), restR m d (k + 1) (x <<< 1) = (if ((restR m d k x) <<< 1).testBit d then ((restR m d k x) <<< 1) ^^^ m else (restR m d k x) <<< 1)
  | 0, x => by simp [restR]
  | k + 1, x => by
    conv => lhs; unfold restR
    conv => rhs; unfold restR
    have e : (x <<< 1).testBit (d + (k + 1)) = x.testBit (d + k) := by
      rw [Nat.testBit_shiftLeft]
      have : d + (k + 1) ≥ 1 := by omega
      simp only [this, decide_true, Bool.true_and]
      congr 1
    rw [e]
    cases x.testBit (d + k) with
    | false => simp only [Bool.false_eq_true, if_false]; exact restR_shift m d k x
    | true =>
      simp only [if_true]
      have e2 : x <<< 1 ^^^ m <<< (k + 1) = (x ^^^ m <<< k) <<< 1 := by
        rw [Nat.shiftLeft_xor_distrib, ← Nat.shiftLeft_add]
      rw [e2]
      exact restR_shift m d k _

/-- The number of binary digits. -/
def lenN (n : Nat) : Nat := if n = 0 then 0 else n.log2 + 1
theorem lenN_half (n : Nat) (h : 0 < n) : lenN n = lenN (n / 2) + 1 := by
  unfold lenN
  rw [if_neg (by omega)]
  by_cases h2 : n / 2 = 0
  · have : n = 1 := by omega
    subst this; rfl
  · rw [if_neg h2]
    conv => lhs; rw [Nat.log2_def]
    rw [if_pos (by omega)]
theorem lenN_of {n p : Nat} (h1 : 2 ^ p ≤ n) (h2 : n < 2 ^ (p + 1)) : lenN n = p + 1 := by
  have h0 : n ≠ 0 := by have := Nat.two_pow_pos p; omega
  unfold lenN
  rw [if_neg h0, (Nat.log2_eq_iff h0).2 ⟨h1, h2⟩]
theorem lenN_le {n p : Nat} (h : n < 2 ^ p) : lenN n ≤ p := by
  unfold lenN
  split
  · omega
  · rename_i h0
    have := (Nat.log2_lt h0).2 h
    omega
theorem v_l01Length (n : Nat) (h : n < 9223372036854775808) : F_spec_l01Length (n : Int) = some ((lenN n : Nat) : Int) := by
  have key : ∀ (f n c : Nat), n < 2 ^ f → f ≤ 63 → c + f ≤ 1000 → iter L0_spec_l01Length ((n : Int), (c : Int)) = some ((c + lenN n : Nat) : Int) := by
    intro f
    induction f with
    | zero =>
      intro n c hn _ _
      have : n = 0 := by simpa using hn
      subst this
      rw [iter_ex (t := (c : Int))]
      · simp [lenN]
      · unfold L0_spec_l01Length; simp
    | succ f ih =>
      intro n c hn hf hc
      by_cases h0 : n = 0
      · subst h0
        rw [iter_ex (t := (c : Int))]
        · simp [lenN]
        · unfold L0_spec_l01Length; simp
      · have hp : 0 < n := by omega
        have hlt : n < 9223372036854775808 := Nat.lt_of_lt_of_le hn (Nat.pow_le_pow_right (by omega : 0 < 2) hf)
        have hst : L0_spec_l01Length ((n : Int), (c : Int)) = some (.nx (((n / 2 : Nat) : Int), ((c + 1 : Nat) : Int))) := by
          unfold L0_spec_l01Length
          have : (n : Int) > 0 := by omega
          simp only [this, decide_true, if_true, tdiv2]
          rw [wr_nn _ (by omega), wr_nat (by omega)]
        rw [iter_nx hst, ih (n / 2) (c + 1) (by rw [Nat.pow_succ] at hn; omega) (by omega) (by omega), lenN_half n hp]
        congr 2; omega
  unfold F_spec_l01Length
  have := key 63 n 0 h (by omega) (by omega)
  have h2 : iter L0_spec_l01Length ((n : Int), 0) = _ := this
  rw [h2]
  simp
theorem v_l01Rest (a b d k : Nat) (hd : d ≤ 20) (hk : k ≤ 20) (h1 : 2 ^ d ≤ b) (h2 : b < 2 ^ (d + 1)) (ha : a < 2 ^ (d + k)) : F_spec_l01Rest (a : Int) (b : Int) = some ((restR b d k a : Nat) : Int) := by
  have big : ∀ n, n ≤ 62 → ∀ x : Nat, x < 2 ^ n → x < 9223372036854775808 := fun n hn x hx => Nat.lt_of_lt_of_le hx (Nat.pow_le_pow_right (by omega : 0 < 2) (by omega : n ≤ 63))
  have key : ∀ (k a : Nat), k ≤ 20 → a < 2 ^ (d + k) → iter (L0_spec_l01Rest (b : Int) ((d + 1 : Nat) : Int)) ((a : Int), ((lenN a : Nat) : Int)) = some ((restR b d k a : Nat) : Int) := by
    intro k
    induction k with
    | zero =>
      intro a _ ha
      have hl := lenN_le (p := d) ha
      rw [iter_ex (t := (a : Int))]
      · rfl
      · unfold L0_spec_l01Rest
        have : ¬ (((lenN a : Nat) : Int) ≥ ((d + 1 : Nat) : Int)) := by omega
        simp only [this, decide_false, Bool.false_eq_true, if_false]
    | succ k ih =>
      intro a hk ha
      cases hb : a.testBit (d + k) with
      | false =>
        have ha' := lt_of_bit (by rwa [show d + k + 1 = d + (k + 1) by omega]) hb
        rw [ih a (by omega) ha', restR_top ha']
      | true =>
        have hge : 2 ^ (d + k) ≤ a := Nat.ge_two_pow_of_testBit hb
        have hl : lenN a = d + k + 1 := lenN_of hge (by rwa [show d + k + 1 = d + (k + 1) by omega])
        have hx := step_lt h1 h2 ha hb
        have hshl : b <<< k < 2 ^ (d + 1 + k) := shl_lt h2
        have hst : L0_spec_l01Rest (b : Int) ((d + 1 : Nat) : Int) ((a : Int), ((lenN a : Nat) : Int)) = some (.nx (((a ^^^ b <<< k : Nat) : Int), ((lenN (a ^^^ b <<< k) : Nat) : Int))) := by
          unfold L0_spec_l01Rest
          have c1 : ((lenN a : Nat) : Int) ≥ ((d + 1 : Nat) : Int) := by rw [hl]; omega
          have c2 : IntKind.u64.wrap (wr (((lenN a : Nat) : Int) - ((d + 1 : Nat) : Int))) = ((k : Nat) : Int) := by
            rw [hl, show ((d + k + 1 : Nat) : Int) - ((d + 1 : Nat) : Int) = ((k : Nat) : Int) by omega, wr_nn _ (by omega), wru_nn _ (by omega)]
          simp only [c1, decide_true, if_true, c2]
          have c3 : nonneg ((k : Nat) : Int) = some () := by unfold nonneg; rw [if_pos (by omega)]
          rw [c3, shlI_nat b k (by omega) (big _ (by omega) _ hshl), xorI_nat a _ (big _ (by omega) _ ha) (big _ (by omega) _ hshl)]
          simp only [Option.bind_some]
          rw [v_l01Length _ (big _ (by omega) _ hx)]
          rfl
        rw [iter_nx hst, ih _ (by omega) hx]
        conv => rhs; unfold restR
        rw [hb]; rfl
  unfold F_spec_l01Rest
  rw [v_l01Length b (big _ (by omega) _ h2), v_l01Length a (big _ (by omega) _ ha)]
  simp only [Option.bind_some]
  rw [lenN_of h1 h2, key k a hk ha]
  rfl
theorem v_rest (a m d : Nat) (hd : d ≤ 15) (ha : a < 2 ^ 16) (hm : m < 2 ^ 20) : F_impl_rest (a : Int) (m : Int) (d : Int) = some ((restR m d (16 - d) a : Nat) : Int) := by
  have key : ∀ (k a : Nat), d + k ≤ 16 → a < 2 ^ 40 → iter (L0_impl_rest (m : Int) (d : Int)) ((a : Int), ((d + k : Nat) : Int) - 1) = some ((restR m d k a : Nat) : Int) := by
    intro k
    induction k with
    | zero =>
      intro a _ _
      rw [iter_ex (t := (a : Int))]
      · rfl
      · unfold L0_impl_rest
        have : ¬ (((d + 0 : Nat) : Int) - 1 ≥ (d : Int)) := by omega
        simp only [this, decide_false, Bool.false_eq_true, if_false]
    | succ k ih =>
      intro a hk ha
      have e0 : ((d + (k + 1) : Nat) : Int) - 1 = ((d + k : Nat) : Int) := by omega
      have hsh : m <<< k < 2 ^ (20 + k) := shl_lt hm
      have hsh2 : m <<< k < 2 ^ 40 := Nat.lt_of_lt_of_le hsh (Nat.pow_le_pow_right (by omega) (by omega))
      have hst : L0_impl_rest (m : Int) (d : Int) ((a : Int), ((d + (k + 1) : Nat) : Int) - 1) = some (.nx (((if a.testBit (d + k) then a ^^^ (m <<< k) else a : Nat) : Int), ((d + k : Nat) : Int) - 1)) := by
        rw [e0]
        unfold L0_impl_rest
        have c1 : ((d + k : Nat) : Int) ≥ (d : Int) := by omega
        have c2 : nonneg ((d + k : Nat) : Int) = some () := by unfold nonneg; rw [if_pos (by omega)]
        have c3 : wr (((d + k : Nat) : Int) - (d : Int)) = ((k : Nat) : Int) := by rw [show ((d + k : Nat) : Int) - (d : Int) = ((k : Nat) : Int) by omega, wr_nn _ (by omega)]
        have c4 : nonneg ((k : Nat) : Int) = some () := by unfold nonneg; rw [if_pos (by omega)]
        have c5 : wr (((d + k : Nat) : Int) - 1) = ((d + k : Nat) : Int) - 1 := wr_id (by omega)
        simp only [c1, decide_true, if_true, c2, c3, c4, c5, Option.bind_some]
        have c6 : andI (shrI (a : Int) ((d + k : Nat) : Int)) 1 = (((a >>> (d + k)) &&& 1 : Nat) : Int) := by
          rw [shrI_nat a (d + k) (by omega)]
          exact andI_nat _ 1 (Nat.lt_of_le_of_lt (Nat.shiftRight_le _ _) (by omega)) (by omega)
        rw [c6, shlI_nat m k (by omega) (by omega), xorI_nat a _ (by omega) (by omega)]
        cases hb : a.testBit (d + k) with
        | true =>
          have := (bit_and a (d + k)).2 hb
          rw [this]; rfl
        | false =>
          have : ¬ ((a >>> (d + k)) &&& 1 = 1) := fun h => by rw [(bit_and a (d + k)).1 h] at hb; cases hb
          have h2 : (((((a >>> (d + k)) &&& 1 : Nat) : Int)) == 1) = false := by
            rw [beq_eq_false_iff_ne]; omega
          rw [h2]; rfl
      rw [iter_nx hst, ih _ (by omega) ?_]
      · conv => rhs; unfold restR
      · split
        · exact Nat.xor_lt_two_pow ha hsh2
        · exact ha
  unfold F_impl_rest
  have := key (16 - d) a (by omega) (by omega)
  rw [show ((d + (16 - d) : Nat) : Int) - 1 = 15 by omega] at this
  rw [this]; rfl

/-- A product without carry, by the bits of the second from the lowest. -/
def mulC : Nat → Nat → Nat → Nat
  | 0, _, _ => 0
  | n + 1, a, b => (if b % 2 = 1 then a else 0) ^^^ mulC n (a <<< 1) (b / 2)
theorem mulC_zero : ∀ (n a : Nat), mulC n a 0 = 0
  | 0, _ => rfl
  | n + 1, a => by simp [mulC, mulC_zero n]
/-- The product up to a bit. -/
def prC : Nat → Nat → Nat → Nat
  | 0, _, _ => 0
  | i + 1, a, b => prC i a b ^^^ (if b.testBit i then a <<< i else 0)
theorem prC_succ : ∀ (n a b : Nat), prC (n + 1) a b = (if b % 2 = 1 then a else 0) ^^^ prC n (a <<< 1) (b / 2)
  | 0, a, b => by
    simp only [prC, Nat.zero_xor, Nat.xor_zero, Nat.shiftLeft_zero]
    have : b.testBit 0 = decide (b % 2 = 1) := by simp [Nat.testBit_zero]
    rw [this]; simp
  | n + 1, a, b => by
    conv => lhs; unfold prC
    rw [prC_succ n a b]
    conv => rhs; unfold prC
    rw [← Nat.xor_assoc]
    congr 1
    rw [Nat.testBit_succ, ← Nat.shiftLeft_add, Nat.add_comm 1 n]
theorem prC_eq : ∀ (n a b : Nat), prC n a b = mulC n a b
  | 0, _, _ => rfl
  | n + 1, a, b => by rw [prC_succ, prC_eq n]; rfl
theorem prC_lt (a b : Nat) (h : a < 256) : ∀ i, i ≤ 8 → prC i a b < 2 ^ 16
  | 0, _ => by simp [prC]
  | i + 1, hi => by
    unfold prC
    have h1 : a <<< i < 2 ^ (8 + i) := shl_lt h
    have h2 : 2 ^ (8 + i) ≤ 2 ^ 16 := Nat.pow_le_pow_right (by omega) (by omega)
    refine Nat.xor_lt_two_pow (prC_lt a b h i (by omega)) ?_
    split
    · omega
    · omega
/-- The product of two elements. -/
def timesC (m : Nat) (a b : UInt8) : UInt8 := byteI ((restR m 8 8 (mulC 8 a.toNat b.toNat) : Nat) : Int)
theorem v_field_times (m : Nat) (hm : m < 512) (a b : UInt8) : F_impl_field_times (m : Int) a b = some (timesC m a b) := by
  have ha : a.toNat < 256 := a.toNat_lt
  have hb : b.toNat < 256 := b.toNat_lt
  have h := iter_run (f := L0_impl_field_times a b) (fun i : Nat => (((prC i a.toNat b.toNat : Nat) : Int), (i : Int))) 0 8 (Nat.zero_le _) (t := ((prC 8 a.toNat b.toNat : Nat) : Int)) (fun i _ hi => by
    unfold L0_impl_field_times
    have c1 : ((i : Int) < 8) := by omega
    have c2 : nonneg (i : Int) = some () := by unfold nonneg; rw [if_pos (by omega)]
    have c3 : prC i a.toNat b.toNat < 2 ^ 16 := prC_lt _ _ ha i (by omega)
    have c4 : a.toNat <<< i < 2 ^ (8 + i) := shl_lt ha
    have c5 : 2 ^ (8 + i) ≤ 2 ^ 16 := Nat.pow_le_pow_right (by omega) (by omega)
    have c6 : (((shrB b (i : Int)) &&& 1) == 1) = b.toNat.testBit i := by
      have e1 : (shrB b (i : Int)).toNat = b.toNat >>> i := by
        unfold shrB byteI
        rw [show min ((i : Int)).toNat 8 = i by omega, Int.fdiv_eq_ediv_of_nonneg _ (by exact_mod_cast Nat.zero_le _)]
        have : ((b.toNat : Int) / 2 ^ i) = ((b.toNat >>> i : Nat) : Int) := by rw [Nat.shiftRight_eq_div_pow]; simp
        rw [this]
        have h3 : b.toNat >>> i ≤ b.toNat := Nat.shiftRight_le _ _
        generalize b.toNat >>> i = q at h3 ⊢
        have h4 : (((q : Nat) : Int) % 256).toNat = q := by omega
        rw [h4]
        simp
        omega
      rw [Bool.eq_iff_iff, beq_iff_eq, ← bit_and, ← UInt8.toNat_inj, UInt8.toNat_and, e1]
      simp
    simp only [c1, decide_true, if_true, c2, Option.bind_some, c6, wr_nat (show i < 9223372036854775807 by omega)]
    rw [shlI_nat _ i (by omega) (by omega), xorI_nat _ _ (by omega) (by omega)]
    cases hbit : b.toNat.testBit i with
    | true => simp [prC, hbit]
    | false => simp [prC, hbit]) (by unfold L0_impl_field_times; simp)
  have h2 : iter (L0_impl_field_times a b) (0, 0) = _ := h
  unfold F_impl_field_times
  rw [h2]
  simp only [Option.bind_some]
  have h3 := v_rest (prC 8 a.toNat b.toNat) m 8 (by omega) (prC_lt _ _ ha 8 (by omega)) (by omega)
  have h4 : F_impl_rest ((prC 8 a.toNat b.toNat : Nat) : Int) (m : Int) 8 = _ := h3
  rw [h4, prC_eq]
  rfl
theorem v_l01Times (m : Nat) (hm : m < 512) (hm2 : 256 ≤ m) (a b : UInt8) : F_spec_l01Times (m : Int) a b = some (timesC m a b) := by
  have ha : a.toNat < 256 := a.toNat_lt
  have hb : b.toNat < 256 := b.toNat_lt
  have h1 : 2 ^ 8 ≤ m := hm2
  have h2 : m < 2 ^ (8 + 1) := hm
  have hR : ∀ i, i ≤ 8 → restR m 8 8 (a.toNat <<< i) < 256 := fun i hi => restR_lt h1 h2 8 _ (by
    have := shl_lt (k := i) (show a.toNat < 2 ^ 8 from ha)
    exact Nat.lt_of_lt_of_le this (Nat.pow_le_pow_right (by omega) (by omega)))
  have hdbl : ∀ i, i ≤ 7 → restR m 8 8 (a.toNat <<< (i + 1)) = if 256 ≤ (restR m 8 8 (a.toNat <<< i)) * 2 then (restR m 8 8 (a.toNat <<< i)) * 2 ^^^ m else (restR m 8 8 (a.toNat <<< i)) * 2 := by
    intro i hi
    have hx : a.toNat <<< i < 2 ^ (8 + 7) := Nat.lt_of_lt_of_le (shl_lt (show a.toNat < 2 ^ 8 from ha)) (Nat.pow_le_pow_right (by omega) (by omega))
    have e : a.toNat <<< (i + 1) = (a.toNat <<< i) <<< 1 := by rw [← Nat.shiftLeft_add]
    rw [e, restR_shift m 8 7, ← restR_top hx]
    have hlt := hR i (by omega)
    generalize restR m 8 8 (a.toNat <<< i) = y at hlt ⊢
    have e2 : y <<< 1 = y * 2 := by rw [Nat.shiftLeft_eq]
    rw [e2]
    have e3 : (y * 2).testBit 8 = decide (256 ≤ y * 2) := by
      by_cases hy : 256 ≤ y * 2
      · rw [top_bit (d := 8) hy (by omega)]; simp [hy]
      · rw [Nat.testBit_lt_two_pow (by omega : y * 2 < 2 ^ 8)]; simp [hy]
    rw [e3]
    by_cases hy : 256 ≤ y * 2 <;> simp [hy]
  have key : ∀ (n i o r : Nat), i + n ≤ 8 → r < 2 ^ n → o < 256 → iter (L0_spec_l01Times (m : Int)) ((o : Int), ((restR m 8 8 (a.toNat <<< i) : Nat) : Int), (r : Int)) = some ((o ^^^ restR m 8 8 (mulC n (a.toNat <<< i) r) : Nat) : Int) := by
    intro n
    induction n with
    | zero =>
      intro i o r _ hr ho
      have : r = 0 := by simpa using hr
      subst this
      rw [iter_ex (t := (o : Int))]
      · rw [mulC_zero, restR_low 8 0 (by omega), Nat.xor_zero]
      · unfold L0_spec_l01Times; simp
    | succ n ih =>
      intro i o r hi hr ho
      by_cases h0 : r = 0
      · subst h0
        rw [iter_ex (t := (o : Int))]
        · rw [mulC_zero, restR_low 8 0 (by omega), Nat.xor_zero]
        · unfold L0_spec_l01Times; simp
      · have hy := hR i (by omega)
        have hst : L0_spec_l01Times (m : Int) ((o : Int), ((restR m 8 8 (a.toNat <<< i) : Nat) : Int), (r : Int)) = some (.nx (((o ^^^ restR m 8 8 (if r % 2 = 1 then a.toNat <<< i else 0) : Nat) : Int), ((restR m 8 8 (a.toNat <<< (i + 1)) : Nat) : Int), ((r / 2 : Nat) : Int))) := by
          rw [hdbl i (by omega)]
          unfold L0_spec_l01Times
          have c1 : (r : Int) > 0 := by omega
          have hr2 : r < 512 := Nat.lt_of_lt_of_le hr (Nat.le_trans (Nat.pow_le_pow_right (by omega) (by omega : n + 1 ≤ 9)) (by omega))
          simp only [c1, decide_true, if_true, tmod2, tdiv2]
          have e1 : wr (((restR m 8 8 (a.toNat <<< i) : Nat) : Int) * 2) = (((restR m 8 8 (a.toNat <<< i)) * 2 : Nat) : Int) := by rw [wr_id (by omega)]; omega
          have e2 : wr ((r / 2 : Nat) : Int) = ((r / 2 : Nat) : Int) := wr_nn _ (by omega)
          rw [e1, e2, xorI_nat _ _ (by omega) (by omega), xorI_nat _ _ (by omega) (by omega)]
          have e3 : ((((r % 2 : Nat) : Int)) == 1) = decide (r % 2 = 1) := by
            rw [Bool.eq_iff_iff, beq_iff_eq, decide_eq_true_eq]; omega
          rw [e3]
          have e4 : decide ((((restR m 8 8 (a.toNat <<< i)) * 2 : Nat) : Int) ≥ 256) = decide (256 ≤ (restR m 8 8 (a.toNat <<< i)) * 2) := by rw [decide_eq_decide]; omega
          rw [e4]
          have e5 : restR m 8 8 0 = 0 := restR_low 8 0 (by omega)
          by_cases c2 : r % 2 = 1 <;> by_cases c3 : 256 ≤ (restR m 8 8 (a.toNat <<< i)) * 2 <;> simp only [c2, c3, decide_true, decide_false, Bool.false_eq_true, if_true, if_false, Option.bind_some, e5, Nat.xor_zero]
        rw [iter_nx hst, ih (i + 1) _ (r / 2) (by omega) (by rw [Nat.pow_succ] at hr; omega) ?_]
        · conv => rhs; unfold mulC
          rw [restR_xor, Nat.xor_assoc, Nat.shiftLeft_add]
        · refine Nat.xor_lt_two_pow (n := 8) ho ?_
          split
          · exact hR i (by omega)
          · rw [restR_low 8 0 (by omega)]; omega
  have := key 8 0 0 b.toNat (by omega) hb (by omega)
  rw [Nat.shiftLeft_zero, restR_low 8 a.toNat ha, Nat.zero_xor] at this
  have h3 : iter (L0_spec_l01Times (m : Int)) (0, bI a, bI b) = _ := this
  unfold F_spec_l01Times
  rw [h3]
  rfl

def powC (m : Nat) : Nat → UInt8 → Nat → UInt8 → UInt8
  | 0, _, _, o => o
  | f + 1, a, k, o => if k = 0 then o else powC m f (timesC m a a) (k / 2) (if k % 2 = 1 then timesC m o a else o)
theorem pow_loop (m : Nat) (L : UInt8 × Int × UInt8 → Option (Fl (UInt8 × Int × UInt8) UInt8)) (T : UInt8 → UInt8 → Option UInt8) (hT : ∀ a b, T a b = some (timesC m a b))
    (hL : ∀ s, L s = if (decide (s.2.1 > 0)) = true then (((if ((Int.tmod s.2.1 2) == 1) = true then ((T s.2.2 s.1).bind fun r => some r) else (some s.2.2) : Option UInt8).bind fun j12 => (T s.1 s.1).bind fun r20 => some (r20, j12) : Option (UInt8 × UInt8)).bind fun j9 => some (Fl.nx (j9.1, wr (Int.tdiv s.2.1 2), j9.2))) else (some (Fl.ex s.2.2))) :
    ∀ (f k : Nat) (a o : UInt8), k < 2 ^ f → f ≤ 62 → iter L (a, (k : Int), o) = some (powC m f a k o) := by
  intro f
  induction f with
  | zero =>
    intro k a o hk _
    have : k = 0 := by simpa using hk
    subst this
    exact iter_ex (by rw [hL]; simp [powC])
  | succ f ih =>
    intro k a o hk hf
    by_cases h0 : k = 0
    · subst h0
      exact iter_ex (by rw [hL]; simp [powC])
    · have hlt : k < 9223372036854775808 := Nat.lt_of_lt_of_le hk (Nat.pow_le_pow_right (by omega : 0 < 2) (by omega : f + 1 ≤ 63))
      have hst : L (a, (k : Int), o) = some (.nx (timesC m a a, ((k / 2 : Nat) : Int), if k % 2 = 1 then timesC m o a else o)) := by
        rw [hL]
        have c1 : (k : Int) > 0 := by omega
        have e3 : ((((k % 2 : Nat) : Int)) == 1) = decide (k % 2 = 1) := by
          rw [Bool.eq_iff_iff, beq_iff_eq, decide_eq_true_eq]; omega
        simp only [c1, decide_true, if_true, tmod2, tdiv2, hT, e3, Option.bind_some, wr_nn (k / 2) (by omega)]
        by_cases c2 : k % 2 = 1 <;> simp [c2]
      rw [iter_nx hst, ih (k / 2) _ _ (by rw [Nat.pow_succ] at hk; omega) (by omega)]
      conv => rhs; unfold powC
      rw [if_neg h0]
theorem v_field_power (m : Nat) (hm : m < 512) (a : UInt8) (k f : Nat) (hk : k < 2 ^ f) (hf : f ≤ 62) : F_impl_field_power (m : Int) a (k : Int) = some (powC m f a k 1) := by
  unfold F_impl_field_power
  rw [pow_loop m (L0_impl_field_power (m : Int)) _ (v_field_times m hm) (fun s => by unfold L0_impl_field_power; rfl) f k a 1 hk hf]; rfl
theorem v_l01Power (m : Nat) (hm : m < 512) (hm2 : 256 ≤ m) (a : UInt8) (k f : Nat) (hk : k < 2 ^ f) (hf : f ≤ 62) : F_spec_l01Power (m : Int) a (k : Int) = some (powC m f a k 1) := by
  unfold F_spec_l01Power
  rw [pow_loop m (L0_spec_l01Power (m : Int)) _ (v_l01Times m hm hm2) (fun s => by unfold L0_spec_l01Power; rfl) f k a 1 hk hf]; rfl
def invC (m : Nat) (a : UInt8) : UInt8 := powC m 8 a 254 1
theorem v_field_inverse (m : Nat) (hm : m < 512) (a : UInt8) : F_impl_field_inverse (m : Int) a = some (invC m a) := by
  unfold F_impl_field_inverse
  have := v_field_power m hm a 254 8 (by omega) (by omega)
  have h2 : F_impl_field_power (m : Int) a 254 = _ := this
  rw [h2]; rfl
theorem v_l01Inv (m : Nat) (hm : m < 512) (hm2 : 256 ≤ m) (a : UInt8) : F_spec_l01Inv (m : Int) a = some (invC m a) := by
  unfold F_spec_l01Inv
  have := v_l01Power m hm hm2 a 254 8 (by omega) (by omega)
  have h2 : F_spec_l01Power (m : Int) a 254 = _ := this
  rw [h2]; rfl

def redB (m d : Nat) : Bool := restR d (lenN d - 1) (16 - (lenN d - 1)) m == 0
def isFieldB (m : Int) : Bool := decide (256 ≤ m ∧ m ≤ 511) && !((List.range' 2 30).any (redB m.toNat))
theorem v_l01Field (m : Int) : F_spec_l01Field m = some (isFieldB m) := by
  unfold F_spec_l01Field isFieldB
  rw [v_l01In]
  by_cases hm : 256 ≤ m ∧ m ≤ 511
  · obtain ⟨n, rfl⟩ := Int.eq_ofNat_of_zero_le (show 0 ≤ m by omega)
    have hn : n < 512 := by omega
    have h := iter_hasM (f := L0_spec_l01Field (n : Int)) 32 (redB n) false (by omega) 2 (by omega) (fun d h2 hd => by
      unfold L0_spec_l01Field
      have c1 : (d : Int) < 32 := by omega
      have hp : ∃ p, p ≤ 4 ∧ 2 ^ p ≤ d ∧ d < 2 ^ (p + 1) := by
        refine ⟨d.log2, ?_, Nat.log2_self_le (by omega), Nat.lt_log2_self⟩
        have := (Nat.log2_lt (n := d) (by omega)).2 (show d < 2 ^ 5 by omega)
        omega
      obtain ⟨p, h3, h4, h5⟩ := hp
      have hl := lenN_of h4 h5
      rw [v_l01Rest n d p (16 - p) (by omega) (by omega) h4 h5 (by rw [show p + (16 - p) = 16 by omega]; omega)]
      simp only [c1, decide_true, if_true, Option.bind_some]
      unfold redB
      rw [hl, show p + 1 - 1 = p by omega]
      generalize restR d p (16 - p) n = q
      have : ((((q : Nat) : Int)) == 0) = (q == 0) := by rw [Bool.eq_iff_iff, beq_iff_eq, beq_iff_eq]; omega
      rw [this]
      cases q == 0 <;> simp) (by unfold L0_spec_l01Field; simp)
    have h2 : iter (L0_spec_l01Field (n : Int)) 2 = _ := h
    rw [h2]
    simp only [hm, decide_true, and_self, Bool.not_true, Bool.false_eq_true, if_false, Option.bind_some, Bool.true_and, Int.toNat_natCast]
    cases (List.range' 2 30).any (redB n) <;> rfl
  · simp [hm]
theorem v_IsField (m : Int) : F_impl_IsField m = some (isFieldB m) := by
  unfold F_impl_IsField isFieldB
  rw [v_inRange]
  by_cases hm : 256 ≤ m ∧ m ≤ 511
  · obtain ⟨n, rfl⟩ := Int.eq_ofNat_of_zero_le (show 0 ≤ m by omega)
    have hn : n < 512 := by omega
    have inner : ∀ p : Nat, p ≤ 4 → iter (L1_impl_IsField (n : Int) (p : Int)) ((2 ^ p : Nat) : Int) = some (if (List.range' (2 ^ p) (2 ^ p)).any (redB n) then Fl.ex false else Fl.nx ()) := by
      intro p hp
      have c2 : nonneg (p : Int) = some () := by unfold nonneg; rw [if_pos (by omega)]
      have hpow : 2 ^ p ≤ 2 ^ 4 := Nat.pow_le_pow_right (by omega) hp
      have hpp := Nat.two_pow_pos p
      have c3 : shlI 2 (p : Int) = ((2 ^ (p + 1) : Nat) : Int) := by
        have := shlI_nat 2 p (by omega) (by rw [Nat.shiftLeft_eq]; omega)
        rw [Nat.shiftLeft_eq] at this
        rw [show (2 : Int) = ((2 : Nat) : Int) from rfl, this, Nat.pow_succ, Nat.mul_comm]
      have h := iter_hasM (f := L1_impl_IsField (n : Int) (p : Int)) (2 ^ (p + 1)) (redB n) false (by rw [Nat.pow_succ]; omega) (2 ^ p) (by rw [Nat.pow_succ]; omega) (fun d h4 h5 => by
        unfold L1_impl_IsField
        have c1 : (d : Int) < ((2 ^ (p + 1) : Nat) : Int) := by omega
        have hd : d < 32 := by rw [Nat.pow_succ] at h5; omega
        have hl := lenN_of h4 h5
        rw [c2, c3, v_rest n d p (by omega) (by omega) (by omega)]
        simp only [c1, decide_true, if_true, Option.bind_some]
        unfold redB
        rw [hl, show p + 1 - 1 = p by omega]
        generalize restR d p (16 - p) n = q
        have : ((((q : Nat) : Int)) == 0) = (q == 0) := by rw [Bool.eq_iff_iff, beq_iff_eq, beq_iff_eq]; omega
        rw [this]
        cases q == 0 <;> simp) (by
          unfold L1_impl_IsField
          rw [c2, c3]; simp)
      rw [show 2 ^ (p + 1) - 2 ^ p = 2 ^ p by rw [Nat.pow_succ]; omega] at h
      exact h
    have h := iter_hasM (f := L0_impl_IsField (n : Int)) 5 (fun p => (List.range' (2 ^ p) (2 ^ p)).any (redB n)) false (by omega) 1 (by omega) (fun p _ hp => by
      unfold L0_impl_IsField
      have c1 : (p : Int) ≤ 4 := by omega
      have c2 : nonneg (p : Int) = some () := by unfold nonneg; rw [if_pos (by omega)]
      have c3 : shlI 1 (p : Int) = ((2 ^ p : Nat) : Int) := by
        have hpow : 2 ^ p ≤ 2 ^ 4 := Nat.pow_le_pow_right (by omega) (by omega)
        have := shlI_nat 1 p (by omega) (by rw [Nat.shiftLeft_eq]; omega)
        rw [Nat.shiftLeft_eq, Nat.one_mul] at this
        exact this
      rw [c2, c3, inner p (by omega)]
      simp only [c1, decide_true, if_true, Option.bind_some]
      cases (List.range' (2 ^ p) (2 ^ p)).any (redB n) <;> rfl) (by unfold L0_impl_IsField; simp)
    have h2 : iter (L0_impl_IsField (n : Int)) 1 = _ := h
    rw [h2]
    have e : ((List.range' 1 (5 - 1)).any fun p => (List.range' (2 ^ p) (2 ^ p)).any (redB n)) = (List.range' 2 30).any (redB n) := by
      have e1 : List.range' 2 30 = List.range' 2 2 ++ (List.range' 4 4 ++ (List.range' 8 8 ++ List.range' 16 16)) := by decide
      have e2 : List.range' 1 (5 - 1) = [1, 2, 3, 4] := by decide
      rw [e1, e2]
      simp only [List.any_append, List.any_cons, List.any_nil, Bool.or_false, Nat.reducePow]
    rw [e]
    simp only [hm, decide_true, and_self, Bool.not_true, Bool.false_eq_true, if_false, Option.bind_some, Bool.true_and, Int.toNat_natCast]
    cases (List.range' 2 30).any (redB n) <;> rfl
  · simp [hm]
theorem field_range {m : Int} (h : isFieldB m = true) : ∃ n : Nat, m = n ∧ 256 ≤ n ∧ n < 512 := by
  unfold isFieldB at h
  simp only [Bool.and_eq_true, decide_eq_true_eq] at h
  exact ⟨m.toNat, by omega, by omega, by omega⟩
/-- All bytes are different. -/
def diffB (l : List UInt8) : Bool := decide l.Nodup
theorem nodup_any (l : List UInt8) : ((List.range' 0 (l.length - 0)).any fun i => (List.range' 0 (i - 0)).any fun k => l[i]? == l[k]?) = !diffB l := by
  rw [Bool.eq_iff_iff, any_range]
  rw [diffB, Bool.not_eq_true', decide_eq_false_iff_not]
  unfold List.Nodup
  rw [List.pairwise_iff_getElem]
  simp only [any_range, beq_iff_eq]
  constructor
  · rintro ⟨i, _, hi, k, _, hk, h⟩ hn
    have hk' : k < l.length := by omega
    rw [List.getElem?_eq_getElem hi, List.getElem?_eq_getElem hk'] at h
    exact hn k i hk' hi hk (by simpa using h.symm)
  · intro h
    simp only [Classical.not_forall, ne_eq, Decidable.not_not] at h
    obtain ⟨k, i, hk, hi, hki, h⟩ := h
    exact ⟨i, Nat.zero_le _, hi, k, Nat.zero_le _, hki, by rw [List.getElem?_eq_getElem hi, List.getElem?_eq_getElem hk, h]⟩
theorem v_l01Twice (l : List UInt8) (h : l.length < 9223372036854775807) : F_spec_l01Twice l = some (!diffB l) := by
  unfold F_spec_l01Twice
  have := iter_has (f := L0_spec_l01Twice l) l.length (fun i => (List.range' 0 (i - 0)).any fun k => l[i]? == l[k]?) true h (fun i hi => by
    unfold L0_spec_l01Twice
    have h2 := iter_has (f := L1_spec_l01Twice l i) i (fun k => l[i]? == l[k]?) true (by omega) (fun k hk => by
      unfold L1_spec_l01Twice
      have hk' : k < l.length := by omega
      have e1 : decide ((k : Int) < (i : Int)) = true := by simp; omega
      rw [e1]
      simp [List.getElem?_eq_getElem hi, List.getElem?_eq_getElem hk']
      split <;> rfl) (by unfold L1_spec_l01Twice; simp) 0 (Nat.zero_le _)
    have h3 : iter (L1_spec_l01Twice l i) 0 = _ := h2
    simp only [Int.ofNat_lt, hi, decide_true, if_true, h3, Option.bind_some]
    cases (List.range' 0 (i - 0)).any fun k => l[i]? == l[k]? <;> simp [Fl.el]) (by unfold L0_spec_l01Twice; simp) 0 (Nat.zero_le _)
  have h3 : iter (L0_spec_l01Twice l) 0 = _ := this
  rw [h3, nodup_any]
  cases diffB l <;> simp [Fl.el]
theorem indexByte_has (l : List UInt8) (c : UInt8) : decide (indexByte l c ≥ 0) = l.contains c := by
  induction l with
  | nil => rfl
  | cons b l ih =>
    have hge := Lib.indexByte_ge l c
    show decide (Lib.indexByte (b :: l) c ≥ 0) = _
    unfold Lib.indexByte
    rw [List.contains_cons, ← ih]
    by_cases hb : b = c
    · subst hb; simp
    · have hb' : (c == b) = false := by simpa using fun h => hb h.symm
      simp only [beq_eq_false_iff_ne.2 hb, hb', Bool.false_eq_true, if_false, Bool.false_or]
      rw [decide_eq_decide]
      show _ ↔ Lib.indexByte l c ≥ 0
      by_cases h1 : Lib.indexByte l c = -1
      · simp [h1]
      · rw [if_neg (by simpa using h1)]; omega
theorem v_areDifferent (l : List UInt8) (h : l.length < 9223372036854775807) : F_impl_areDifferent l = some (diffB l) := by
  unfold F_impl_areDifferent
  have := iter_has (f := L0_impl_areDifferent l) l.length (fun i => (l.take i).any fun x => l[i]? == some x) false h (fun i hi => by
    unfold L0_impl_areDifferent
    have e1 : slc l (0 : Int) (i : Int) = some (l.take i) := by have := slc_ok (l := l) (i := 0) (j := i) (Nat.zero_le _) (by omega); simpa using this
    simp only [Int.ofNat_lt, hi, decide_true, if_true, idx_cast, List.getElem?_eq_getElem hi, Option.bind_some, e1]
    unfold F_bytes_IndexByte
    simp only [Option.bind_some, indexByte_has]
    have e2 : (l.take i).contains l[i] = (l.take i).any fun x => some l[i] == some x := by
      rw [Bool.eq_iff_iff]; simp [List.any_eq_true]
    rw [e2]
    split <;> rfl) (by unfold L0_impl_areDifferent; simp) 0 (Nat.zero_le _)
  have h3 : iter (L0_impl_areDifferent l) 0 = _ := this
  have key : ((List.range' 0 (l.length - 0)).any fun i => (l.take i).any fun x => l[i]? == some x) = !diffB l := by
    rw [← nodup_any, Bool.eq_iff_iff, any_range, any_range]
    refine exists_congr fun i => and_congr_right fun _ => and_congr_right fun hi => ?_
    rw [any_range, List.any_eq_true]
    constructor
    · rintro ⟨x, hx, h⟩
      obtain ⟨k, hk, rfl⟩ := List.mem_iff_getElem.1 hx
      have hk2 : k < i ∧ k < l.length := by simp at hk; omega
      exact ⟨k, Nat.zero_le _, hk2.1, by rw [List.getElem?_eq_getElem hk2.2]; simpa using h⟩
    · rintro ⟨k, _, hk, h⟩
      have hkl : k < l.length := by omega
      refine ⟨l[k], List.mem_iff_getElem.2 ⟨k, by simp; omega, by simp⟩, ?_⟩
      rw [List.getElem?_eq_getElem hkl] at h; exact h
  rw [h3, key]
  cases diffB l <;> simp [Fl.el]
theorem nodup_inj {α : Type} {l : List α} (h : l.Nodup) {i j : Nat} (hi : i < l.length) (hj : j < l.length) (e : l[i] = l[j]) : i = j := by
  unfold List.Nodup at h
  rw [List.pairwise_iff_getElem] at h
  rcases Nat.lt_trichotomy i j with h1 | h1 | h1
  · exact absurd e (h i j hi hj h1)
  · exact h1
  · exact absurd e.symm (h j i hj hi h1)
theorem diff_cons (x : UInt8) (l : List UInt8) : diffB (x :: l) = (!l.contains x && diffB l) := by
  unfold diffB
  rw [Bool.eq_iff_iff]
  simp [List.nodup_cons]
def placesB (l : List UInt8) : Bool := !l.contains 0 && diffB l
theorem v_l10Wrong (l : List UInt8) (h : l.length ≤ 140737488355326) : F_spec_l10Wrong l = some (!placesB l) := by
  unfold F_spec_l10Wrong
  rw [app_ok (by simp; omega)]
  simp only [Option.bind_some]
  rw [v_l01Twice _ (by simp; omega)]
  simp only [Option.bind_some, placesB]
  rw [show ([0] : List UInt8) ++ l = 0 :: l from rfl, diff_cons]
theorem v_arePlacesOf (l : List UInt8) (h : l.length < 9223372036854775807) : F_impl_arePlacesOf l = some (placesB l) := by
  unfold F_impl_arePlacesOf F_bytes_IndexByte
  rw [v_areDifferent l h]
  have e : decide (indexByte l 0 < 0) = !l.contains 0 := by
    rw [← indexByte_has, Bool.eq_iff_iff]; simp
  simp only [Option.bind_some, e, placesB]
  cases diffB l <;> simp
/-- The weight of a place. -/
def wtC (m : Nat) (l : List UInt8) (p : UInt8) : UInt8 := l.foldl (fun w q => if q != p then timesC m w (timesC m q (invC m (p ^^^ q))) else w) 1
theorem v_l10Weights (m : Nat) (hm : m < 512) (hm2 : 256 ≤ m) (l : List UInt8) (hl : l.length ≤ 12) (hd : diffB l = true) : F_spec_l10Weights (m : Int) l = some (l.map (wtC m l)) := by
  have hnd : l.Nodup := by simpa [diffB] using hd
  unfold F_spec_l10Weights
  have h := iter_map (f := L0_spec_l10Weights (m : Int) l) l (wtC m l) (t := l.map (wtC m l)) (by omega) (fun i hi => by
    unfold L0_spec_l10Weights
    have h2 := iter_fold (f := L1_spec_l10Weights (m : Int) l ((l.take i).map (wtC m l), (i : Int))) l (fun b i => (b, i)) (fun w q => if q != l[i] then timesC m w (timesC m q (invC m (l[i] ^^^ q))) else w) 1 (t := wtC m l l[i]) (by omega) (fun k hk => by
      unfold L1_spec_l10Weights
      have e : (((k : Int)) != ((i : Int))) = (l[k] != l[i]) := by
        rw [Bool.eq_iff_iff, bne_iff_ne, bne_iff_ne]
        constructor
        · intro h h2
          have := nodup_inj hnd hk hi h2
          exact h (by omega)
        · intro h h2
          have : k = i := by omega
          subst this
          exact h rfl
      simp only [Int.ofNat_lt, hk, decide_true, if_true, idx_cast, List.getElem?_eq_getElem hk, List.getElem?_eq_getElem hi, Option.bind_some, v_l01Inv m hm hm2, v_l01Times m hm hm2, e]
      cases l[k] != l[i] <;> simp) (by unfold L1_spec_l10Weights; simp [wtC])
    simp only [Int.ofNat_lt, hi, decide_true, if_true]
    rw [h2]
    simp only [Option.bind_some]
    rw [app_ok (by simp; omega)]
    rfl) (by unfold L0_spec_l10Weights; simp)
  rw [h]; rfl
def weightsC (m : Int) (l : List UInt8) : List UInt8 × Int := if !isFieldB m then ([], 1) else if l.length < 1 ∨ 12 < l.length then ([], 2) else if !placesB l then ([], 5) else (l.map (wtC m.toNat l), 0)
theorem v_spec_WeightsOf (m : Int) (l : List UInt8) (hl : l.length ≤ 1048576) : F_spec_WeightsOf m l = some (weightsC m l) := by
  unfold F_spec_WeightsOf weightsC
  rw [v_l01Field]
  cases hf : isFieldB m with
  | false => simp
  | true =>
    obtain ⟨n, rfl, h1, h2⟩ := field_range hf
    simp only [Option.bind_some, Bool.not_true, Bool.false_eq_true, if_false]
    by_cases c1 : l.length < 1
    · have : (l.length : Int) < 1 := by omega
      simp [c1, this]
    · by_cases c2 : 12 < l.length
      · have d1 : ¬ ((l.length : Int) < 1) := by omega
        have d2 : (l.length : Int) > 12 := by omega
        simp [c2, d1, d2]
      · have d1 : ¬ ((l.length : Int) < 1) := by omega
        have d2 : ¬ ((l.length : Int) > 12) := by omega
        simp only [d1, d2, c1, c2, decide_false, Bool.false_eq_true, if_false, Option.bind_some, or_self]
        rw [v_l10Wrong l (by omega)]
        cases hp : placesB l with
        | false => simp
        | true =>
          have hd : diffB l = true := by unfold placesB at hp; simp only [Bool.and_eq_true] at hp; exact hp.2
          simp only [Option.bind_some, Bool.not_true, Bool.false_eq_true, if_false, Int.toNat_natCast]
          rw [v_l10Weights n h2 h1 l (by omega) hd]
          rfl
theorem v_impl_WeightsOf (m : Int) (l : List UInt8) (hl : l.length ≤ 1048576) : F_impl_WeightsOf m l = some (weightsC m l) := by
  unfold F_impl_WeightsOf weightsC F_impl_length_byte
  rw [v_IsField]
  cases hf : isFieldB m with
  | false => simp
  | true =>
    obtain ⟨n, rfl, h1, h2⟩ := field_range hf
    simp only [Option.bind_some, Bool.not_true, Bool.false_eq_true, if_false, v_inRange]
    by_cases c1 : l.length < 1 ∨ 12 < l.length
    · have d : ¬ ((1 : Int) ≤ l.length ∧ (l.length : Int) ≤ 12) := by omega
      simp only [c1, d, decide_false, Bool.not_false, if_true]
    · have d : ((1 : Int) ≤ l.length ∧ (l.length : Int) ≤ 12) := by omega
      simp only [c1, d, decide_true, and_self, Bool.not_true, Bool.false_eq_true, if_false]
      rw [v_arePlacesOf l (by omega)]
      cases hp : placesB l with
      | false => simp
      | true =>
        simp only [Option.bind_some, Bool.not_true, Bool.false_eq_true, if_false, Int.toNat_natCast]
        have h := iter_run (f := L0_impl_WeightsOf (n : Int) l) (fun i : Nat => ((i : Int), (l.take i).map (wtC n l))) 0 l.length (Nat.zero_le _) (t := l.map (wtC n l)) (fun i _ hi => by
          unfold L0_impl_WeightsOf
          have h2 := iter_fold (f := L1_impl_WeightsOf (n : Int) l l[i]) l (fun b i => (i, b)) (fun w q => if q != l[i] then timesC n w (timesC n q (invC n (l[i] ^^^ q))) else w) 1 (t := wtC n l l[i]) (by omega) (fun k hk => by
            unfold L1_impl_WeightsOf
            simp only [Int.ofNat_lt, hk, decide_true, if_true, idx_cast, List.getElem?_eq_getElem hk, Option.bind_some, v_field_inverse n h2, v_field_times n h2]
            cases l[k] != l[i] <;> simp) (by unfold L1_impl_WeightsOf; simp [wtC])
          simp only [Int.ofNat_lt, hi, decide_true, if_true, idx_cast, List.getElem?_eq_getElem hi, Option.bind_some, wr_nat (show i < 9223372036854775807 by omega)]
          rw [h2]
          simp only [Option.bind_some]
          rw [app_ok (by simp; omega)]
          simp only [Option.bind_some]
          rw [List.take_succ_eq_append_getElem hi, List.map_append]
          rfl) (by unfold L0_impl_WeightsOf; simp)
        have h3 : iter (L0_impl_WeightsOf (n : Int) l) (0, []) = _ := h
        rw [h3]; rfl
theorem weightsC_len (m : Int) (l : List UInt8) : (weightsC m l).1.length ≤ 12 := by
  unfold weightsC
  split
  · simp
  · split
    · simp
    · rename_i h
      split
      · simp
      · simp; omega
theorem ln_bytes {l : List UInt8} (h : l.length ≤ 9223372036854775807) : Wt.ln l := ⟨h, fun _ _ => trivial⟩
theorem law_FnExactWeightsOf (m : Int) (l : List UInt8) (_ : Dat.bd m) (h : Dat.bd l) : F_laws_FnExactWeightsOf m l = some true := by
  unfold F_laws_FnExactWeightsOf
  by_cases hlab : (l.length : Int) > 1048576
  · simp [hlab]
  have hwl : Wt.wt l ≤ 1048576 := by rw [wt_bytes]; omega
  have hll := Wt.wtln l hwl
  have hr := weightsC_len m l
  obtain ⟨y', m4⟩ := g_markByteS l hll 1 (by omega) (by rw [sum_one]; omega)
  obtain ⟨r', m2, m3⟩ := v_markByteS (weightsC m l).1 (ln_bytes (by omega)) 1 (by omega) (by rw [sum_one]; omega)
  have e1 : ¬ ((1 : Int) + ((l.map fun _ => 1).sum : Nat) < 0) := by omega
  have e2 : ¬ ((1 : Int) + (((weightsC m l).1.map fun _ => 1).sum : Nat) < 0) := by omega
  simp [hlab, v_toByteS l hwl, v_spec_WeightsOf m l (by omega), v_impl_WeightsOf m l (by omega), v_eqByteS l hll, v_eqByteS (weightsC m l).1 (ln_bytes (by omega)), m2, m3, m4, e1, e2]
end Go.Proofs.Ytbonmndobipbnaa
