/- Plain laws, no program in sight. -/
import Derived.Test.YthlmkdjednppkaaC4
set_option linter.unusedVariables false
set_option linter.unusedSimpArgs false
namespace Go.Proofs.Ythlmkdjednppkaa
open Go
theorem idx_nat {α : Type} {l : List α} {i : Nat} (h : i < l.length) : idx l (i : Int) = some l[i] := by
  unfold idx
  rw [if_pos (by omega)]
  simp
theorem wr_nat {i : Nat} (h : i < 9223372036854775807) : wr ((i : Int) + 1) = ((i + 1 : Nat) : Int) := by
  rw [wr_id (by omega)]; rfl

section
variable {S T : Type} {f : S → Option (Fl S T)}
/-- Rounds that go on. -/
theorem iter_to (g : Nat → S) (m n : Nat) (hmn : m ≤ n) (h : ∀ i, m ≤ i → i < n → f (g i) = some (.nx (g (i + 1)))) : iter f (g m) = iter f (g n) := by
  induction n with
  | zero => have : m = 0 := by omega
            subst this; rfl
  | succ n ih =>
    rcases Nat.lt_or_ge m (n + 1) with h1 | h1
    · rw [ih (by omega) (fun i h2 h3 => h i h2 (by omega)), iter_nx (h n (by omega) (by omega))]
    · have : m = n + 1 := by omega
      subst this; rfl
/-- A loop that runs to its end. -/
theorem iter_run (g : Nat → S) (m n : Nat) (hmn : m ≤ n) {t : T} (h : ∀ i, m ≤ i → i < n → f (g i) = some (.nx (g (i + 1)))) (he : f (g n) = some (.ex t)) : iter f (g m) = some t := by
  rw [iter_to g m n hmn h, iter_ex he]
/-- A loop that may leave early: at the first round of which p holds. -/
theorem iter_find (g : Nat → S) (p : Nat → Bool) (t : Nat → T) {e : T} (n : Nat) : ∀ (k m : Nat), m + k = n → (∀ i, m ≤ i → i < n → f (g i) = some (if p i then .ex (t i) else .nx (g (i + 1)))) → f (g n) = some (.ex e) →
    iter f (g m) = some (((List.range' m k).find? p).elim e t)
  | 0, m, hk, _, he => by
    have : m = n := by omega
    subst this
    rw [iter_ex he]; rfl
  | k + 1, m, hk, h, he => by
    have h1 := h m (Nat.le_refl _) (by omega)
    rw [List.range'_succ, List.find?_cons]
    cases hp : p m with
    | true => rw [hp] at h1; rw [iter_ex h1]; rfl
    | false =>
      rw [hp] at h1
      rw [iter_nx h1, iter_find g p t n k (m + 1) (by omega) (fun i h2 h3 => h i (by omega) h3) he]
end

/-- A search through indices: it leaves with t where p holds of one of them. -/
theorem iter_any {T : Type} {f : Int → Option (Fl Int (Fl Unit T))} (p : Nat → Bool) {t : T} {n m : Nat} (hm : m ≤ n)
    (h : ∀ i, m ≤ i → i < n → f (i : Int) = some (if p i then .ex (.ex t) else .nx ((i + 1 : Nat) : Int))) (he : f (n : Int) = some (.ex (.nx ()))) :
    iter f (m : Int) = some (if (List.range' m (n - m)).any p then .ex t else .nx ()) := by
  rw [iter_find (fun i : Nat => (i : Int)) p (fun _ => .ex t) n (n - m) m (by omega) h he]
  cases hf : (List.range' m (n - m)).find? p with
  | none =>
    have : (List.range' m (n - m)).any p = false := by
      rw [List.any_eq_false]
      rw [List.find?_eq_none] at hf
      exact hf
    rw [this]; rfl
  | some i =>
    have : (List.range' m (n - m)).any p = true := by
      rw [List.any_eq_true]
      exact ⟨i, List.mem_of_find?_eq_some hf, List.find?_some hf⟩
    rw [this]; rfl
theorem any_range {p : Nat → Bool} {m n : Nat} : (List.range' m (n - m)).any p = true ↔ ∃ i, m ≤ i ∧ i < n ∧ p i = true := by
  rw [List.any_eq_true]
  simp only [List.mem_range'_1]
  constructor
  · rintro ⟨i, ⟨h1, h2⟩, h3⟩; exact ⟨i, h1, by omega, h3⟩
  · rintro ⟨i, h1, h2, h3⟩; exact ⟨i, ⟨h1, by omega⟩, h3⟩
/-- How much data hold, beside what is of one size; that all lengths are numbers. -/
class Wt (α : Type) [Dat α] where
  wt : α → Nat
  ln : α → Prop
  bdln : ∀ x, Dat.bd x → ln x
  wtln : ∀ x, wt x ≤ 1048576 → ln x
instance : Wt Int := ⟨fun _ => 0, fun _ => True, fun _ _ => trivial, fun _ _ => trivial⟩
instance : Wt UInt8 := ⟨fun _ => 0, fun _ => True, fun _ _ => trivial, fun _ _ => trivial⟩
instance : Wt Bool := ⟨fun _ => 0, fun _ => True, fun _ _ => trivial, fun _ _ => trivial⟩
instance : Wt Str := ⟨fun s => s.l.length, fun s => s.l.length ≤ 9223372036854775807, fun _ h => h, fun _ h => by omega⟩
instance {n : Nat} : Wt (Vector UInt8 n) := ⟨fun _ => 0, fun _ => True, fun _ _ => trivial, fun _ _ => trivial⟩
instance {n m : Nat} : Wt (Vector (Vector UInt8 m) n) := ⟨fun _ => 0, fun _ => True, fun _ _ => trivial, fun _ _ => trivial⟩
theorem sum_mem {α : Type} {f : α → Nat} {l : List α} {x : α} (h : x ∈ l) : f x ≤ (l.map f).sum := by
  induction l with
  | nil => cases h
  | cons y l ih =>
    rw [List.map_cons, List.sum_cons]
    rcases List.mem_cons.1 h with rfl | h
    · omega
    · have := ih h; omega
instance {α : Type} [Dat α] [Wt α] : Wt (List α) := ⟨fun l => l.length + (l.map Wt.wt).sum, fun l => l.length ≤ 9223372036854775807 ∧ ∀ x ∈ l, Wt.ln x, fun _ h => ⟨h.1, fun x hx => Wt.bdln x (h.2 x hx)⟩,
  fun l h => ⟨by omega, fun x hx => Wt.wtln x (by have := sum_mem (f := Wt.wt) hx; omega)⟩⟩
instance {α β : Type} [Dat α] [Dat β] [Wt α] [Wt β] : Wt (α × β) := ⟨fun x => Wt.wt x.1 + Wt.wt x.2, fun x => Wt.ln x.1 ∧ Wt.ln x.2, fun x h => ⟨Wt.bdln x.1 h.1, Wt.bdln x.2 h.2⟩, fun x h => ⟨Wt.wtln x.1 (by omega), Wt.wtln x.2 (by omega)⟩⟩
theorem ln_len {α : Type} [Dat α] [Wt α] {l : List α} (h : Wt.ln l) : l.length ≤ 9223372036854775807 := h.1
theorem eq_loop {α : Type} (p0 : List α) (ne : α → α → Option Bool) (L : Int → Option (Fl Int (Fl Unit Bool)))
    (hL : ∀ s, L s = if (decide (s < (p0.length : Int))) = true then (((idx p0 s).bind fun x => (idx p0 s).bind fun y => ne x y : Option Bool).bind fun j => if j = true then (some (Fl.ex (Fl.ex false))) else (some (Fl.nx (wr (s + 1))))) else (some (Fl.ex (Fl.nx ()))))
    (hn : ∀ x ∈ p0, ne x x = some false) (hl : p0.length ≤ 9223372036854775807) :
    (if ((p0.length : Int) != (p0.length : Int)) = true then (some false) else ((iter L 0 : Option (Fl Unit Bool)).bind fun j2 => j2.el (fun _ => some true) (fun r => some r))) = some true := by
  have := iter_run (f := L) (fun i : Nat => (i : Int)) 0 p0.length (Nat.zero_le _) (t := .nx ()) (fun i _ hi => by
    rw [hL]
    simp only [Int.ofNat_lt, hi, decide_true, if_true, idx_nat hi, Option.bind_some, hn _ (List.getElem_mem hi)]
    simp [wr_nat (show i < 9223372036854775807 by omega)]) (by
    rw [hL]; simp)
  have h2 : iter L 0 = some (.nx ()) := this
  simp [h2, Fl.el]

@[simp] theorem idx_cast {α : Type} (l : List α) (i : Nat) : idx l (i : Int) = l[i]? := by unfold idx; simp
@[simp] theorem idx_zero {α : Type} (l : List α) : idx l (0 : Int) = l[0]? := idx_cast l 0
/-- A search from index m on: leaves with t at the first index of which p holds. -/
theorem iter_search {T : Type} {f : Int → Option (Fl Int (Fl Unit T))} (n : Nat) (p : Nat → Bool) (t : Nat → T) (hn : n < 9223372036854775807)
    (h : ∀ i, i < n → f (i : Int) = some (if p i then .ex (.ex (t i)) else .nx (wr ((i : Int) + 1)))) (he : f (n : Int) = some (.ex (.nx ()))) (m : Nat) (hm : m ≤ n) :
    iter f (m : Int) = some (match (List.range' m (n - m)).find? p with | some i => .ex (t i) | none => .nx ()) := by
  rw [iter_find (fun i : Nat => (i : Int)) p (fun i => .ex (t i)) n (n - m) m (by omega) (fun i _ hi => by rw [h i hi, wr_nat (by omega)]) he]
  cases (List.range' m (n - m)).find? p <;> rfl
/-- A search that answers one thing. -/
theorem iter_has {T : Type} {f : Int → Option (Fl Int (Fl Unit T))} (n : Nat) (p : Nat → Bool) (t : T) (hn : n < 9223372036854775807)
    (h : ∀ i, i < n → f (i : Int) = some (if p i then .ex (.ex t) else .nx (wr ((i : Int) + 1)))) (he : f (n : Int) = some (.ex (.nx ()))) (m : Nat) (hm : m ≤ n) :
    iter f (m : Int) = some (if (List.range' m (n - m)).any p then .ex t else .nx ()) :=
  iter_any p hm (fun i _ hi => by rw [h i hi, wr_nat (by omega)]) he
theorem iter_hasM {T : Type} {f : Int → Option (Fl Int (Fl Unit T))} (n : Nat) (p : Nat → Bool) (t : T) (hn : n < 9223372036854775807) (m : Nat) (hm : m ≤ n)
    (h : ∀ i, m ≤ i → i < n → f (i : Int) = some (if p i then .ex (.ex t) else .nx (wr ((i : Int) + 1)))) (he : f (n : Int) = some (.ex (.nx ()))) :
    iter f (m : Int) = some (if (List.range' m (n - m)).any p then .ex t else .nx ()) :=
  iter_any p hm (fun i hmi hi => by rw [h i hmi hi, wr_nat (by omega)]) he
theorem app_ok {α : Type} {by_ : Nat} {l m : List α} (h : (l.length + m.length) * by_ ≤ 140737488355328) : app by_ l m = some (l ++ m) := by unfold app; rw [if_pos h]
theorem slc_ok {α : Type} {l : List α} {i j : Nat} (h : i ≤ j) (h2 : j ≤ l.length) : slc l (i : Int) (j : Int) = some ((l.take j).drop i) := by
  unfold slc; rw [if_pos (by omega)]; simp

theorem vec_ext {α : Type} {n : Nat} {v w : Vector α n} (h : ∀ i (hi : i < n), v[i] = w[i]) : v = w := Vector.ext h
@[simp] theorem vidx_cast {α : Type} {n : Nat} (v : Vector α n) (i : Nat) : vidx v (i : Int) = v[i]? := by unfold vidx; simp
theorem copy_arr {n : Nat} (p0 : Vector UInt8 n) (L : Vector UInt8 n × Int → Option (Fl (Vector UInt8 n × Int) (Vector UInt8 n)))
    (hL : ∀ s, L s = if decide (s.2 < (n : Int)) = true then ((vidx p0 s.2).bind fun x => (vidx s.1 s.2).bind fun _ => some (Fl.nx (s.1.setIfInBounds (s.2).toNat x, wr (s.2 + 1)))) else (some (Fl.ex s.1))) (hn : n < 9223372036854775807) (z : Vector UInt8 n) :
    iter L (z, 0) = some p0 := by
  have := iter_run (f := L) (fun i : Nat => (Vector.ofFn fun j : Fin n => if j.1 < i then p0[j] else z[j], (i : Int))) 0 n (Nat.zero_le _) (t := p0) (fun i _ hi => by
    rw [hL]
    simp only [Int.ofNat_lt, hi, decide_true, if_true, vidx_cast, Vector.getElem?_eq_getElem hi, Option.bind_some, Int.toNat_natCast, wr_nat (show i < 9223372036854775807 by omega)]
    congr 3
    apply vec_ext
    intro j hj
    rw [Vector.getElem_setIfInBounds]
    simp only [Vector.getElem_ofFn, Fin.getElem_fin]
    by_cases h : i = j
    · subst h; simp
    · by_cases h2 : j < i
      · simp [h, h2, show j < i + 1 by omega]
      · simp [h, h2, show ¬ j < i + 1 by omega]) (by
    rw [hL]
    simp only [Int.ofNat_lt, Nat.lt_irrefl, decide_false, Bool.false_eq_true, if_false]
    congr 2
    apply vec_ext
    intro j hj
    simp [hj])
  have h0 : (Vector.ofFn fun j : Fin n => if j.1 < 0 then p0[j] else z[j]) = z := by
    apply vec_ext
    intro j hj
    simp
  rw [h0] at this
  exact this
theorem wr_k {k : Int} (h : 0 ≤ k) (h2 : k < 9223372036854775807) : wr (k + 1) = k + 1 := wr_id (by omega)
/-- A mark of n numbers from k on, and the look that finds it. -/
def MarkOk {α : Type} (Fm : α → Int → Option (α × Int)) (Fh : α → Int → Option Int) (x : α) (n : Nat) : Prop :=
  ∀ k : Int, 0 ≤ k → k + n ≤ 4611686018427387904 → ∃ x', Fm x k = some (x', k + n) ∧ Fh x' k = some (k + n)
theorem mark_list {α : Type} (Fm : List α → Int → Option (List α × Int)) (Fh : List α → Int → Option Int) (Lm : List α × Int × Int → Option (Fl (List α × Int × Int) (List α × Int))) (Lh : List α → Int × Int → Option (Fl (Int × Int) (Fl Int Int))) (mk : α → Nat)
    (hFm : ∀ l k, Fm l k = (iter Lm (l, k, 0) : Option (List α × Int)).bind fun j1 => some (j1.1, j1.2)) (hFh : ∀ l k, Fh l k = (iter (Lh l) (k, 0) : Option (Fl Int Int)).bind fun j1 => j1.el (fun s => some s) (fun r => some r))
    (l : List α) (hl : l.length ≤ 9223372036854775807)
    (hm : ∀ (l' : List α) (i : Nat) (k : Int) (hi : i < l'.length), l'[i] ∈ l → i < 9223372036854775807 → 0 ≤ k → k + mk l'[i] ≤ 4611686018427387904 → ∃ x', Lm (l', k, (i : Int)) = some (.nx (l'.set i x', k + mk l'[i], wr ((i : Int) + 1))) ∧
      ∀ (m : List α), m[i]? = some x' → Lh m (k, (i : Int)) = some (.nx (k + mk l'[i], wr ((i : Int) + 1))))
    (hme : ∀ (l' : List α) k, Lm (l', k, (l'.length : Int)) = some (.ex (l', k))) (hhe : ∀ (m : List α) k, Lh m (k, (m.length : Int)) = some (.ex (.nx k))) : MarkOk Fm Fh l (l.map mk).sum := by
  have aux : ∀ (n i : Nat) (l' : List α) (k : Int), i + n = l'.length → l'.length = l.length → l'.drop i = l.drop i → 0 ≤ k → k + (((l.drop i).map mk).sum : Nat) ≤ 4611686018427387904 →
      ∃ l'', iter Lm (l', k, (i : Int)) = some (l'', k + (((l.drop i).map mk).sum : Nat)) ∧ l''.length = l'.length ∧ (∀ j, j < i → l''[j]? = l'[j]?) ∧ iter (Lh l'') (k, (i : Int)) = some (.nx (k + (((l.drop i).map mk).sum : Nat))) := by
    intro n
    induction n with
    | zero =>
      intro i l' k hi hll hd h0 hk
      have hi : i = l'.length := by omega
      subst hi
      have e : l.drop l'.length = [] := by rw [hll]; simp
      rw [e]
      refine ⟨l', ?_, rfl, fun _ _ => rfl, ?_⟩
      · rw [iter_ex (hme l' k)]; simp
      · rw [iter_ex (hhe l' k)]; simp
    | succ n ih =>
      intro i l' k hi hll hd h0 hk
      have hil : i < l'.length := by omega
      have hil2 : i < l.length := by omega
      have e1 : l'[i] = l[i] := by
        have h1 := List.drop_eq_getElem_cons hil
        have h2 := List.drop_eq_getElem_cons hil2
        rw [h1, h2] at hd
        exact (List.cons.inj hd).1
      have e2 : l.drop i = l[i] :: l.drop (i + 1) := List.drop_eq_getElem_cons hil2
      rw [e2, List.map_cons, List.sum_cons] at hk ⊢
      obtain ⟨x', h1, h2⟩ := hm l' i k hil (by rw [e1]; exact List.getElem_mem hil2) (by omega) h0 (by rw [e1]; omega)
      rw [e1] at h1 h2
      rw [wr_nat (by omega)] at h1 h2
      obtain ⟨l'', k1, k2, k3, k4⟩ := ih (i + 1) (l'.set i x') (k + mk l[i]) (by simp; omega) (by simpa using hll) (by
        rw [List.drop_set_of_lt (by omega)]
        have h1 := List.drop_eq_getElem_cons hil
        rw [h1, e2] at hd
        exact (List.cons.inj hd).2) (by omega) (by omega)
      refine ⟨l'', ?_, by simpa using k2, fun j hj => ?_, ?_⟩
      · rw [iter_nx h1, k1]; congr 2; omega
      · rw [k3 j (by omega), List.getElem?_set_ne (by omega)]
      · rw [iter_nx (h2 l'' (by rw [k3 i (by omega)]; simp [hil])), k4]; congr 2; omega
  intro k h0 hk
  obtain ⟨l'', k1, k2, k3, k4⟩ := aux l.length 0 l k (by omega) rfl rfl h0 (by simpa using hk)
  simp only [List.drop_zero] at k1 k4
  refine ⟨l'', ?_, ?_⟩
  · rw [hFm]
    have : iter Lm (l, k, 0) = _ := k1
    rw [this]; rfl
  · rw [hFh]
    have : iter (Lh l'') (k, 0) = _ := k4
    rw [this]; rfl
theorem v_eqInt64S (l : List Int) (h : Wt.ln l) : F_laws_eqInt64S l l = some true := by
  unfold F_laws_eqInt64S
  exact eq_loop l (fun x y => some (x != y)) (L0_laws_eqInt64S l l) (fun s => by unfold L0_laws_eqInt64S; rfl) (fun x _ => by simp) (ln_len h)
theorem v_markInt64S (l : List Int) (h : Wt.ln l) : MarkOk F_laws_markInt64S F_laws_heldInt64S l (l.map fun _ => 1).sum :=
  mark_list F_laws_markInt64S F_laws_heldInt64S L0_laws_markInt64S L0_laws_heldInt64S (fun _ => 1) (fun _ _ => rfl) (fun _ _ => rfl) l (ln_len h) (fun l' i k hi _ _ h0 hk => by
    have e := wr_k (k := k) h0 (by omega)
    refine ⟨k, ?_, fun m hm => ?_⟩
    · unfold L0_laws_markInt64S
      simp only [Int.ofNat_lt, hi, decide_true, if_true, idx_cast, List.getElem?_eq_getElem hi, Option.bind_some, Int.toNat_natCast, e]; rfl
    · have hi' := (List.getElem?_eq_some_iff.1 hm).1
      unfold L0_laws_heldInt64S
      simp only [Int.ofNat_lt, hi', decide_true, if_true, idx_cast, hm, Option.bind_some, bne_self_eq_false, Bool.false_eq_true, if_false, e]; rfl) (fun l' k => by unfold L0_laws_markInt64S; simp) (fun m k => by unfold L0_laws_heldInt64S; simp)
theorem v_toBlock (x : Vector UInt8 16) : F_laws_toBlock x = some x := by
  unfold F_laws_toBlock
  rw [copy_arr x (L0_laws_toBlock x) (fun s => by unfold L0_laws_toBlock; rfl) (by omega)]; rfl
theorem v_inRange (n a b : Int) : F_impl_inRange n a b = some (decide (a ≤ n ∧ n ≤ b)) := by
  unfold F_impl_inRange
  by_cases h1 : a ≤ n <;> by_cases h2 : n ≤ b <;> simp [h1, h2]
theorem v_l01In (n a b : Int) : F_spec_l01In n a b = some (decide (a ≤ n ∧ n ≤ b)) := by
  unfold F_spec_l01In
  by_cases h1 : a ≤ n <;> by_cases h2 : n ≤ b <;> simp [h1, h2]
theorem ln_ints {l : List Int} (h : l.length ≤ 9223372036854775807) : Wt.ln l := ⟨h, fun _ _ => trivial⟩
theorem sum_oneI (l : List Int) : (l.map fun _ => 1).sum = l.length := by
  induction l with
  | nil => rfl
  | cons x l ih => rw [List.map_cons, List.sum_cons, ih, List.length_cons]; omega
theorem bv_nat (a : Nat) (h : a < 9223372036854775808) : (BitVec.ofInt 64 (a : Int)).toNat = a := by
  rw [BitVec.toNat_ofInt]
  omega
theorem xorI_nat (a b : Nat) (ha : a < 9223372036854775808) (hb : b < 9223372036854775808) : xorI (a : Int) (b : Int) = ((a ^^^ b : Nat) : Int) := by
  unfold xorI
  rw [BitVec.toNat_xor, bv_nat a ha, bv_nat b hb]
  have : a ^^^ b < 2 ^ 63 := Nat.xor_lt_two_pow ha hb
  exact wr_id (by omega)
theorem andI_nat (a b : Nat) (ha : a < 9223372036854775808) (hb : b < 9223372036854775808) : andI (a : Int) (b : Int) = ((a &&& b : Nat) : Int) := by
  unfold andI
  rw [BitVec.toNat_and, bv_nat a ha, bv_nat b hb]
  have : a &&& b < 2 ^ 63 := Nat.and_lt_two_pow _ hb
  exact wr_id (by omega)
theorem shlI_nat (a i : Nat) (hi : i ≤ 63) (h : a <<< i < 9223372036854775808) : shlI (a : Int) (i : Int) = ((a <<< i : Nat) : Int) := by
  unfold shlI
  rw [show min ((i : Int)).toNat 64 = i by omega]
  have : ((a : Int) * 2 ^ i) = ((a <<< i : Nat) : Int) := by rw [Nat.shiftLeft_eq]; simp
  rw [this]
  generalize a <<< i = x at h ⊢
  exact wr_id (by omega)
theorem shrI_nat (a i : Nat) (hi : i ≤ 63) : shrI (a : Int) (i : Int) = ((a >>> i : Nat) : Int) := by
  unfold shrI
  rw [show min ((i : Int)).toNat 64 = i by omega, Nat.shiftRight_eq_div_pow, Int.fdiv_eq_ediv_of_nonneg _ (by exact_mod_cast Nat.zero_le _)]
  simp
theorem bit_and (a i : Nat) : ((a >>> i) &&& 1 = 1) ↔ a.testBit i = true := by
  rw [Nat.testBit, Nat.and_comm]
  have h := Nat.and_one_is_mod (a >>> i)
  rw [Nat.and_comm] at h
  rw [h]
  rcases Nat.mod_two_eq_zero_or_one (a >>> i) with h | h <;> simp [h]
theorem tmod2 (a : Nat) : Int.tmod (a : Int) 2 = ((a % 2 : Nat) : Int) := by
  rw [Int.tmod_eq_emod_of_nonneg (by omega)]; simp
theorem tdiv2 (a : Nat) : Int.tdiv (a : Int) 2 = ((a / 2 : Nat) : Int) := by
  rw [Int.tdiv_eq_ediv_of_nonneg (by omega)]; simp
theorem wr_nn (a : Nat) (h : a < 9223372036854775808) : wr (a : Int) = (a : Int) := wr_id (by omega)
theorem wru_nn (a : Nat) (h : a < 9223372036854775808) : IntKind.u64.wrap (a : Int) = (a : Int) := by
  simp only [IntKind.wrap, IntKind.bits, IntKind.signed]
  simp
  omega

/-- The remainder, bit by bit from the top: k bits are looked at. -/
def restR (m deg : Nat) : Nat → Nat → Nat
  | 0, a => a
  | k + 1, a => restR m deg k (if a.testBit (deg + k) then a ^^^ (m <<< k) else a)
theorem shl_lt {m k n : Nat} (h : m < 2 ^ n) : m <<< k < 2 ^ (n + k) := by
  rw [Nat.shiftLeft_eq, Nat.pow_add]
  exact Nat.mul_lt_mul_of_pos_right h (Nat.two_pow_pos _)
theorem lt_of_bit {a n : Nat} (h : a < 2 ^ (n + 1)) (hb : a.testBit n = false) : a < 2 ^ n := by
  apply Nat.lt_pow_two_of_testBit
  intro i hi
  rcases Nat.eq_or_lt_of_le hi with rfl | hi
  · exact hb
  · exact Nat.testBit_lt_two_pow (Nat.lt_of_lt_of_le h (Nat.pow_le_pow_right (by omega) hi))
theorem top_bit {m d : Nat} (h1 : 2 ^ d ≤ m) (h2 : m < 2 ^ (d + 1)) : m.testBit d = true := by
  rw [Nat.testBit, Nat.shiftRight_eq_div_pow]
  have : m / 2 ^ d = 1 := by
    apply Nat.div_eq_of_lt_le
    · simpa using h1
    · rw [Nat.pow_succ] at h2; omega
  rw [this]; rfl
theorem step_lt {m d k a : Nat} (h1 : 2 ^ d ≤ m) (h2 : m < 2 ^ (d + 1)) (ha : a < 2 ^ (d + (k + 1))) (hb : a.testBit (d + k) = true) : a ^^^ (m <<< k) < 2 ^ (d + k) := by
  have hm : m <<< k < 2 ^ (d + (k + 1)) := by have := shl_lt (k := k) h2; rwa [show d + 1 + k = d + (k + 1) by omega] at this
  refine lt_of_bit (Nat.xor_lt_two_pow (by rwa [show d + k + 1 = d + (k + 1) by omega]) (by rwa [show d + k + 1 = d + (k + 1) by omega])) ?_
  rw [Nat.testBit_xor, hb, Nat.testBit_shiftLeft]
  simp [top_bit h1 h2]
theorem restR_lt {m d : Nat} (h1 : 2 ^ d ≤ m) (h2 : m < 2 ^ (d + 1)) : ∀ (k a : Nat), a < 2 ^ (d + k) → restR m d k a < 2 ^ d
  | 0, a, h => by simpa [restR] using h
  | k + 1, a, h => by
    unfold restR
    cases hb : a.testBit (d + k) with
    | true => simp only [if_true]; exact restR_lt h1 h2 k _ (step_lt h1 h2 h hb)
    | false => simp only [Bool.false_eq_true, if_false]; exact restR_lt h1 h2 k a (lt_of_bit h hb)
theorem restR_xor (m d : Nat) : ∀ (k a b : Nat), restR m d k (a ^^^ b) = restR m d k a ^^^ restR m d k b
  | 0, _, _ => rfl
  | k + 1, a, b => by
    simp only [restR]
    rw [Nat.testBit_xor]
    cases a.testBit (d + k) <;> cases b.testBit (d + k) <;> simp only [Bool.xor_false, Bool.false_xor, Bool.xor_self, Bool.xor_true, Bool.not_false, Bool.not_true, Bool.false_eq_true, if_true, if_false]
    · exact restR_xor m d k a b
    · rw [Nat.xor_assoc]; exact restR_xor m d k a _
    · rw [← restR_xor m d k]; congr 1; rw [Nat.xor_assoc, Nat.xor_comm b, ← Nat.xor_assoc]
    · rw [← restR_xor m d k]; congr 1
      rw [Nat.xor_assoc, ← Nat.xor_assoc (m <<< k), Nat.xor_comm (m <<< k) b, Nat.xor_assoc, Nat.xor_self, Nat.xor_zero]
theorem restR_low {m d : Nat} : ∀ (k a : Nat), a < 2 ^ d → restR m d k a = a
  | 0, _, _ => rfl
  | k + 1, a, h => by
    unfold restR
    rw [Nat.testBit_lt_two_pow (Nat.lt_of_lt_of_le h (Nat.pow_le_pow_right (by omega) (by omega)))]
    simp only [Bool.false_eq_true, if_false]
    exact restR_low k a h
theorem restR_top {m d k a : Nat} (h : a < 2 ^ (d + k)) : restR m d (k + 1) a = restR m d k a := by
  conv => lhs; unfold restR
  rw [Nat.testBit_lt_two_pow h]; rfl
theorem restR_shift (m d : Nat) : ∀ (k x : Nat), restR m d (k + 1) (x <<< 1) = (if ((restR m d k x) <<< 1).testBit d then ((restR m d k x) <<< 1) ^^^ m else (restR m d k x) <<< 1)
  | 0, x => by simp [restR]
  | k + 1, x => by
    conv => lhs; unfold restR
    conv => rhs; unfold restR
    have e : (x <<< 1).testBit (d + (k + 1)) = x.testBit (d + k) := by
      rw [Nat.testBit_shiftLeft]
      have : d + (k + 1) ≥ 1 := by omega
      simp only [this, decide_true, Bool.true_and]
      congr 1
    rw [e]
    cases x.testBit (d + k) with
    | false => simp only [Bool.false_eq_true, if_false]; exact restR_shift m d k x
    | true =>
      simp only [if_true]
      have e2 : x <<< 1 ^^^ m <<< (k + 1) = (x ^^^ m <<< k) <<< 1 := by
        rw [Nat.shiftLeft_xor_distrib, ← Nat.shiftLeft_add]
      rw [e2]
      exact restR_shift m d k _

/-- The number of binary digits. -/
def lenN (n : Nat) : Nat := if n = 0 then 0 else n.log2 + 1
theorem lenN_half (n : Nat) (h : 0 < n) : lenN n = lenN (n / 2) + 1 := by
  unfold lenN
  rw [if_neg (by omega)]
  by_cases h2 : n / 2 = 0
  · have : n = 1 := by omega
    subst this; rfl
  · rw [if_neg h2]
    conv => lhs; rw [Nat.log2_def]
    rw [if_pos (by omega)]
theorem lenN_of {n p : Nat} (h1 : 2 ^ p ≤ n) (h2 : n < 2 ^ (p + 1)) : lenN n = p + 1 := by
  have h0 : n ≠ 0 := by have := Nat.two_pow_pos p; omega
  unfold lenN
  rw [if_neg h0, (Nat.log2_eq_iff h0).2 ⟨h1, h2⟩]
theorem lenN_le {n p : Nat} (h : n < 2 ^ p) : lenN n ≤ p := by
  unfold lenN
  split
  · omega
  · rename_i h0
    have := (Nat.log2_lt h0).2 h
    omega
theorem v_l01Length (n : Nat) (h : n < 9223372036854775808) : F_spec_l01Length (n : Int) = some ((lenN n : Nat) : Int) := by
  have key : ∀ (f n c : Nat), n < 2 ^ f → f ≤ 63 → c + f ≤ 1000 → iter L0_spec_l01Length ((n : Int), (c : Int)) = some ((c + lenN n : Nat) : Int) := by
    intro f
    induction f with
    | zero =>
      intro n c hn _ _
      have : n = 0 := by simpa using hn
      subst this
      rw [iter_ex (t := (c : Int))]
      · simp [lenN]
      · unfold L0_spec_l01Length; simp
    | succ f ih =>
      intro n c hn hf hc
      by_cases h0 : n = 0
      · subst h0
        rw [iter_ex (t := (c : Int))]
        · simp [lenN]
        · unfold L0_spec_l01Length; simp
      · have hp : 0 < n := by omega
        have hlt : n < 9223372036854775808 := Nat.lt_of_lt_of_le hn (Nat.pow_le_pow_right (by omega : 0 < 2) hf)
        have hst : L0_spec_l01Length ((n : Int), (c : Int)) = some (.nx (((n / 2 : Nat) : Int), ((c + 1 : Nat) : Int))) := by
          unfold L0_spec_l01Length
          have : (n : Int) > 0 := by omega
          simp only [this, decide_true, if_true, tdiv2]
          rw [wr_nn _ (by omega), wr_nat (by omega)]
        rw [iter_nx hst, ih (n / 2) (c + 1) (by rw [Nat.pow_succ] at hn; omega) (by omega) (by omega), lenN_half n hp]
        congr 2; omega
  unfold F_spec_l01Length
  have := key 63 n 0 h (by omega) (by omega)
  have h2 : iter L0_spec_l01Length ((n : Int), 0) = _ := this
  rw [h2]
  simp
theorem v_l01Rest (a b d k : Nat) (hd : d ≤ 20) (hk : k ≤ 20) (h1 : 2 ^ d ≤ b) (h2 : b < 2 ^ (d + 1)) (ha : a < 2 ^ (d + k)) : F_spec_l01Rest (a : Int) (b : Int) = some ((restR b d k a : Nat) : Int) := by
  have big : ∀ n, n ≤ 62 → ∀ x : Nat, x < 2 ^ n → x < 9223372036854775808 := fun n hn x hx => Nat.lt_of_lt_of_le hx (Nat.pow_le_pow_right (by omega : 0 < 2) (by omega : n ≤ 63))
  have key : ∀ (k a : Nat), k ≤ 20 → a < 2 ^ (d + k) → iter (L0_spec_l01Rest (b : Int) ((d + 1 : Nat) : Int)) ((a : Int), ((lenN a : Nat) : Int)) = some ((restR b d k a : Nat) : Int) := by
    intro k
    induction k with
    | zero =>
      intro a _ ha
      have hl := lenN_le (p := d) ha
      rw [iter_ex (t := (a : Int))]
      · rfl
      · unfold L0_spec_l01Rest
        have : ¬ (((lenN a : Nat) : Int) ≥ ((d + 1 : Nat) : Int)) := by omega
        simp only [this, decide_false, Bool.false_eq_true, if_false]
    | succ k ih =>
      intro a hk ha
      cases hb : a.testBit (d + k) with
      | false =>
        have ha' := lt_of_bit (by rwa [show d + k + 1 = d + (k + 1) by omega]) hb
        rw [ih a (by omega) ha', restR_top ha']
      | true =>
        have hge : 2 ^ (d + k) ≤ a := Nat.ge_two_pow_of_testBit hb
        have hl : lenN a = d + k + 1 := lenN_of hge (by rwa [show d + k + 1 = d + (k + 1) by omega])
        have hx := step_lt h1 h2 ha hb
        have hshl : b <<< k < 2 ^ (d + 1 + k) := shl_lt h2
        have hst : L0_spec_l01Rest (b : Int) ((d + 1 : Nat) : Int) ((a : Int), ((lenN a : Nat) : Int)) = some (.nx (((a ^^^ b <<< k : Nat) : Int), ((lenN (a ^^^ b <<< k) : Nat) : Int))) := by
          unfold L0_spec_l01Rest
          have c1 : ((lenN a : Nat) : Int) ≥ ((d + 1 : Nat) : Int) := by rw [hl]; omega
          have c2 : IntKind.u64.wrap (wr (((lenN a : Nat) : Int) - ((d + 1 : Nat) : Int))) = ((k : Nat) : Int) := by
            rw [hl, show ((d + k + 1 : Nat) : Int) - ((d + 1 : Nat) : Int) = ((k : Nat) : Int) by omega, wr_nn _ (by omega), wru_nn _ (by omega)]
          simp only [c1, decide_true, if_true, c2]
          have c3 : nonneg ((k : Nat) : Int) = some () := by unfold nonneg; rw [if_pos (by omega)]
          rw [c3, shlI_nat b k (by omega) (big _ (by omega) _ hshl), xorI_nat a _ (big _ (by omega) _ ha) (big _ (by omega) _ hshl)]
          simp only [Option.bind_some]
          rw [v_l01Length _ (big _ (by omega) _ hx)]
          rfl
        rw [iter_nx hst, ih _ (by omega) hx]
        conv => rhs; unfold restR
        rw [hb]; rfl
  unfold F_spec_l01Rest
  rw [v_l01Length b (big _ (by omega) _ h2), v_l01Length a (big _ (by omega) _ ha)]
  simp only [Option.bind_some]
  rw [lenN_of h1 h2, key k a hk ha]
  rfl
theorem v_rest (a m d : Nat) (hd : d ≤ 15) (ha : a < 2 ^ 16) (hm : m < 2 ^ 20) : F_impl_rest (a : Int) (m : Int) (d : Int) = some ((restR m d (16 - d) a : Nat) : Int) := by
  have key : ∀ (k a : Nat), d + k ≤ 16 → a < 2 ^ 40 → iter (L0_impl_rest (m : Int) (d : Int)) ((a : Int), ((d + k : Nat) : Int) - 1) = some ((restR m d k a : Nat) : Int) := by
    intro k
    induction k with
    | zero =>
      intro a _ _
      rw [iter_ex (t := (a : Int))]
      · rfl
      · unfold L0_impl_rest
        have : ¬ (((d + 0 : Nat) : Int) - 1 ≥ (d : Int)) := by omega
        simp only [this, decide_false, Bool.false_eq_true, if_false]
    | succ k ih =>
      intro a hk ha
      have e0 : ((d + (k + 1) : Nat) : Int) - 1 = ((d + k : Nat) : Int) := by omega
      have hsh : m <<< k < 2 ^ (20 + k) := shl_lt hm
      have hsh2 : m <<< k < 2 ^ 40 := Nat.lt_of_lt_of_le hsh (Nat.pow_le_pow_right (by omega) (by omega))
      have hst : L0_impl_rest (m : Int) (d : Int) ((a : Int), ((d + (k + 1) : Nat) : Int) - 1) = some (.nx (((if a.testBit (d + k) then a ^^^ (m <<< k) else a : Nat) : Int), ((d + k : Nat) : Int) - 1)) := by
        rw [e0]
        unfold L0_impl_rest
        have c1 : ((d + k : Nat) : Int) ≥ (d : Int) := by omega
        have c2 : nonneg ((d + k : Nat) : Int) = some () := by unfold nonneg; rw [if_pos (by omega)]
        have c3 : wr (((d + k : Nat) : Int) - (d : Int)) = ((k : Nat) : Int) := by rw [show ((d + k : Nat) : Int) - (d : Int) = ((k : Nat) : Int) by omega, wr_nn _ (by omega)]
        have c4 : nonneg ((k : Nat) : Int) = some () := by unfold nonneg; rw [if_pos (by omega)]
        have c5 : wr (((d + k : Nat) : Int) - 1) = ((d + k : Nat) : Int) - 1 := wr_id (by omega)
        simp only [c1, decide_true, if_true, c2, c3, c4, c5, Option.bind_some]
        have c6 : andI (shrI (a : Int) ((d + k : Nat) : Int)) 1 = (((a >>> (d + k)) &&& 1 : Nat) : Int) := by
          rw [shrI_nat a (d + k) (by omega)]
          exact andI_nat _ 1 (Nat.lt_of_le_of_lt (Nat.shiftRight_le _ _) (by omega)) (by omega)
        rw [c6, shlI_nat m k (by omega) (by omega), xorI_nat a _ (by omega) (by omega)]
        cases hb : a.testBit (d + k) with
        | true =>
          have := (bit_and a (d + k)).2 hb
          rw [this]; rfl
        | false =>
          have : ¬ ((a >>> (d + k)) &&& 1 = 1) := fun h => by rw [(bit_and a (d + k)).1 h] at hb; cases hb
          have h2 : (((((a >>> (d + k)) &&& 1 : Nat) : Int)) == 1) = false := by
            rw [beq_eq_false_iff_ne]; omega
          rw [h2]; rfl
      rw [iter_nx hst, ih _ (by omega) ?_]
      · conv => rhs; unfold restR
      · split
        · exact Nat.xor_lt_two_pow ha hsh2
        · exact ha
  unfold F_impl_rest
  have := key (16 - d) a (by omega) (by omega)
  rw [show ((d + (16 - d) : Nat) : Int) - 1 = 15 by omega] at this
  rw [this]; rfl

/-- A product without carry, by the bits of the second from the lowest. -/
def mulC : Nat → Nat → Nat → Nat
  | 0, _, _ => 0
  | n + 1, a, b => (if b % 2 = 1 then a else 0) ^^^ mulC n (a <<< 1) (b / 2)
theorem mulC_zero : ∀ (n a : Nat), mulC n a 0 = 0
  | 0, _ => rfl
  | n + 1, a => by simp [mulC, mulC_zero n]
theorem mulC_lt : ∀ (n a b p : Nat), a < 2 ^ p → mulC n a b < 2 ^ (p + n)
  | 0, _, _, _, _ => by simp [mulC]; exact Nat.two_pow_pos _
  | n + 1, a, b, p, h => by
    unfold mulC
    have h1 : a <<< 1 < 2 ^ (p + 1) := shl_lt h
    have h2 := mulC_lt n (a <<< 1) (b / 2) (p + 1) h1
    rw [show p + 1 + n = p + (n + 1) by omega] at h2
    refine Nat.xor_lt_two_pow ?_ h2
    have h3 : 2 ^ p ≤ 2 ^ (p + (n + 1)) := Nat.pow_le_pow_right (by omega) (by omega)
    have h4 := Nat.two_pow_pos (p + (n + 1))
    split <;> omega
/-- The product up to a bit. -/
def prC : Nat → Nat → Nat → Nat
  | 0, _, _ => 0
  | i + 1, a, b => prC i a b ^^^ (if b.testBit i then a <<< i else 0)
theorem prC_succ : ∀ (n a b : Nat), prC (n + 1) a b = (if b % 2 = 1 then a else 0) ^^^ prC n (a <<< 1) (b / 2)
  | 0, a, b => by
    simp only [prC, Nat.zero_xor, Nat.xor_zero, Nat.shiftLeft_zero]
    have : b.testBit 0 = decide (b % 2 = 1) := by simp [Nat.testBit_zero]
    rw [this]; simp
  | n + 1, a, b => by
    conv => lhs; unfold prC
    rw [prC_succ n a b]
    conv => rhs; unfold prC
    rw [← Nat.xor_assoc]
    congr 1
    rw [Nat.testBit_succ, ← Nat.shiftLeft_add, Nat.add_comm 1 n]
theorem prC_eq : ∀ (n a b : Nat), prC n a b = mulC n a b
  | 0, _, _ => rfl
  | n + 1, a, b => by rw [prC_succ, prC_eq n]; rfl
theorem prC_lt (a b : Nat) (h : a < 256) : ∀ i, i ≤ 8 → prC i a b < 2 ^ 16
  | 0, _ => by simp [prC]
  | i + 1, hi => by
    unfold prC
    have h1 : a <<< i < 2 ^ (8 + i) := shl_lt h
    have h2 : 2 ^ (8 + i) ≤ 2 ^ 16 := Nat.pow_le_pow_right (by omega) (by omega)
    refine Nat.xor_lt_two_pow (prC_lt a b h i (by omega)) ?_
    split
    · omega
    · omega
/-- The product of two elements. -/
def timesC (m : Nat) (a b : UInt8) : UInt8 := byteI ((restR m 8 8 (mulC 8 a.toNat b.toNat) : Nat) : Int)
theorem v_field_times (m : Nat) (hm : m < 512) (a b : UInt8) : F_impl_field_times (m : Int) a b = some (timesC m a b) := by
  have ha : a.toNat < 256 := a.toNat_lt
  have hb : b.toNat < 256 := b.toNat_lt
  have h := iter_run (f := L0_impl_field_times a b) (fun i : Nat => (((prC i a.toNat b.toNat : Nat) : Int), (i : Int))) 0 8 (Nat.zero_le _) (t := ((prC 8 a.toNat b.toNat : Nat) : Int)) (fun i _ hi => by
    unfold L0_impl_field_times
    have c1 : ((i : Int) < 8) := by omega
    have c2 : nonneg (i : Int) = some () := by unfold nonneg; rw [if_pos (by omega)]
    have c3 : prC i a.toNat b.toNat < 2 ^ 16 := prC_lt _ _ ha i (by omega)
    have c4 : a.toNat <<< i < 2 ^ (8 + i) := shl_lt ha
    have c5 : 2 ^ (8 + i) ≤ 2 ^ 16 := Nat.pow_le_pow_right (by omega) (by omega)
    have c6 : (((shrB b (i : Int)) &&& 1) == 1) = b.toNat.testBit i := by
      have e1 : (shrB b (i : Int)).toNat = b.toNat >>> i := by
        unfold shrB byteI
        rw [show min ((i : Int)).toNat 8 = i by omega, Int.fdiv_eq_ediv_of_nonneg _ (by exact_mod_cast Nat.zero_le _)]
        have : ((b.toNat : Int) / 2 ^ i) = ((b.toNat >>> i : Nat) : Int) := by rw [Nat.shiftRight_eq_div_pow]; simp
        rw [this]
        have h3 : b.toNat >>> i ≤ b.toNat := Nat.shiftRight_le _ _
        generalize b.toNat >>> i = q at h3 ⊢
        have h4 : (((q : Nat) : Int) % 256).toNat = q := by omega
        rw [h4]
        simp
        omega
      rw [Bool.eq_iff_iff, beq_iff_eq, ← bit_and, ← UInt8.toNat_inj, UInt8.toNat_and, e1]
      simp
    simp only [c1, decide_true, if_true, c2, Option.bind_some, c6, wr_nat (show i < 9223372036854775807 by omega)]
    rw [shlI_nat _ i (by omega) (by omega), xorI_nat _ _ (by omega) (by omega)]
    cases hbit : b.toNat.testBit i with
    | true => simp [prC, hbit]
    | false => simp [prC, hbit]) (by unfold L0_impl_field_times; simp)
  have h2 : iter (L0_impl_field_times a b) (0, 0) = _ := h
  unfold F_impl_field_times
  rw [h2]
  simp only [Option.bind_some]
  have h3 := v_rest (prC 8 a.toNat b.toNat) m 8 (by omega) (prC_lt _ _ ha 8 (by omega)) (by omega)
  have h4 : F_impl_rest ((prC 8 a.toNat b.toNat : Nat) : Int) (m : Int) 8 = _ := h3
  rw [h4, prC_eq]
  rfl
theorem v_l01Times (m : Nat) (hm : m < 512) (hm2 : 256 ≤ m) (a b : UInt8) : F_spec_l01Times (m : Int) a b = some (timesC m a b) := by
  have ha : a.toNat < 256 := a.toNat_lt
  have hb : b.toNat < 256 := b.toNat_lt
  have h1 : 2 ^ 8 ≤ m := hm2
  have h2 : m < 2 ^ (8 + 1) := hm
  have hR : ∀ i, i ≤ 8 → restR m 8 8 (a.toNat <<< i) < 256 := fun i hi => restR_lt h1 h2 8 _ (by
    have := shl_lt (k := i) (show a.toNat < 2 ^ 8 from ha)
    exact Nat.lt_of_lt_of_le this (Nat.pow_le_pow_right (by omega) (by omega)))
  have hdbl : ∀ i, i ≤ 7 → restR m 8 8 (a.toNat <<< (i + 1)) = if 256 ≤ (restR m 8 8 (a.toNat <<< i)) * 2 then (restR m 8 8 (a.toNat <<< i)) * 2 ^^^ m else (restR m 8 8 (a.toNat <<< i)) * 2 := by
    intro i hi
    have hx : a.toNat <<< i < 2 ^ (8 + 7) := Nat.lt_of_lt_of_le (shl_lt (show a.toNat < 2 ^ 8 from ha)) (Nat.pow_le_pow_right (by omega) (by omega))
    have e : a.toNat <<< (i + 1) = (a.toNat <<< i) <<< 1 := by rw [← Nat.shiftLeft_add]
    rw [e, restR_shift m 8 7, ← restR_top hx]
    have hlt := hR i (by omega)
    generalize restR m 8 8 (a.toNat <<< i) = y at hlt ⊢
    have e2 : y <<< 1 = y * 2 := by rw [Nat.shiftLeft_eq]
    rw [e2]
    have e3 : (y * 2).testBit 8 = decide (256 ≤ y * 2) := by
      by_cases hy : 256 ≤ y * 2
      · rw [top_bit (d := 8) hy (by omega)]; simp [hy]
      · rw [Nat.testBit_lt_two_pow (by omega : y * 2 < 2 ^ 8)]; simp [hy]
    rw [e3]
    by_cases hy : 256 ≤ y * 2 <;> simp [hy]
  have key : ∀ (n i o r : Nat), i + n ≤ 8 → r < 2 ^ n → o < 256 → iter (L0_spec_l01Times (m : Int)) ((o : Int), ((restR m 8 8 (a.toNat <<< i) : Nat) : Int), (r : Int)) = some ((o ^^^ restR m 8 8 (mulC n (a.toNat <<< i) r) : Nat) : Int) := by
    intro n
    induction n with
    | zero =>
      intro i o r _ hr ho
      have : r = 0 := by simpa using hr
      subst this
      rw [iter_ex (t := (o : Int))]
      · rw [mulC_zero, restR_low 8 0 (by omega), Nat.xor_zero]
      · unfold L0_spec_l01Times; simp
    | succ n ih =>
      intro i o r hi hr ho
      by_cases h0 : r = 0
      · subst h0
        rw [iter_ex (t := (o : Int))]
        · rw [mulC_zero, restR_low 8 0 (by omega), Nat.xor_zero]
        · unfold L0_spec_l01Times; simp
      · have hy := hR i (by omega)
        have hst : L0_spec_l01Times (m : Int) ((o : Int), ((restR m 8 8 (a.toNat <<< i) : Nat) : Int), (r : Int)) = some (.nx (((o ^^^ restR m 8 8 (if r % 2 = 1 then a.toNat <<< i else 0) : Nat) : Int), ((restR m 8 8 (a.toNat <<< (i + 1)) : Nat) : Int), ((r / 2 : Nat) : Int))) := by
          rw [hdbl i (by omega)]
          unfold L0_spec_l01Times
          have c1 : (r : Int) > 0 := by omega
          have hr2 : r < 512 := Nat.lt_of_lt_of_le hr (Nat.le_trans (Nat.pow_le_pow_right (by omega) (by omega : n + 1 ≤ 9)) (by omega))
          simp only [c1, decide_true, if_true, tmod2, tdiv2]
          have e1 : wr (((restR m 8 8 (a.toNat <<< i) : Nat) : Int) * 2) = (((restR m 8 8 (a.toNat <<< i)) * 2 : Nat) : Int) := by rw [wr_id (by omega)]; omega
          have e2 : wr ((r / 2 : Nat) : Int) = ((r / 2 : Nat) : Int) := wr_nn _ (by omega)
          rw [e1, e2, xorI_nat _ _ (by omega) (by omega), xorI_nat _ _ (by omega) (by omega)]
          have e3 : ((((r % 2 : Nat) : Int)) == 1) = decide (r % 2 = 1) := by
            rw [Bool.eq_iff_iff, beq_iff_eq, decide_eq_true_eq]; omega
          rw [e3]
          have e4 : decide ((((restR m 8 8 (a.toNat <<< i)) * 2 : Nat) : Int) ≥ 256) = decide (256 ≤ (restR m 8 8 (a.toNat <<< i)) * 2) := by rw [decide_eq_decide]; omega
          rw [e4]
          have e5 : restR m 8 8 0 = 0 := restR_low 8 0 (by omega)
          by_cases c2 : r % 2 = 1 <;> by_cases c3 : 256 ≤ (restR m 8 8 (a.toNat <<< i)) * 2 <;> simp only [c2, c3, decide_true, decide_false, Bool.false_eq_true, if_true, if_false, Option.bind_some, e5, Nat.xor_zero]
        rw [iter_nx hst, ih (i + 1) _ (r / 2) (by omega) (by rw [Nat.pow_succ] at hr; omega) ?_]
        · conv => rhs; unfold mulC
          rw [restR_xor, Nat.xor_assoc, Nat.shiftLeft_add]
        · refine Nat.xor_lt_two_pow (n := 8) ho ?_
          split
          · exact hR i (by omega)
          · rw [restR_low 8 0 (by omega)]; omega
  have := key 8 0 0 b.toNat (by omega) hb (by omega)
  rw [Nat.shiftLeft_zero, restR_low 8 a.toNat ha, Nat.zero_xor] at this
  have h3 : iter (L0_spec_l01Times (m : Int)) (0, bI a, bI b) = _ := this
  unfold F_spec_l01Times
  rw [h3]
  rfl

def powC (m : Nat) : Nat → UInt8 → Nat → UInt8 → UInt8
  | 0, _, _, o => o
  | f + 1, a, k, o => if k = 0 then o else powC m f (timesC m a a) (k / 2) (if k % 2 = 1 then timesC m o a else o)
theorem pow_loop (m : Nat) (L : UInt8 × Int × UInt8 → Option (Fl (UInt8 × Int × UInt8) UInt8)) (T : UInt8 → UInt8 → Option UInt8) (hT : ∀ a b, T a b = some (timesC m a b))
    (hL : ∀ s, L s = if (decide (s.2.1 > 0)) = true then (((if ((Int.tmod s.2.1 2) == 1) = true then ((T s.2.2 s.1).bind fun r => some r) else (some s.2.2) : Option UInt8).bind fun j12 => (T s.1 s.1).bind fun r20 => some (r20, j12) : Option (UInt8 × UInt8)).bind fun j9 => some (Fl.nx (j9.1, wr (Int.tdiv s.2.1 2), j9.2))) else (some (Fl.ex s.2.2))) :
    ∀ (f k : Nat) (a o : UInt8), k < 2 ^ f → f ≤ 62 → iter L (a, (k : Int), o) = some (powC m f a k o) := by
  intro f
  induction f with
  | zero =>
    intro k a o hk _
    have : k = 0 := by simpa using hk
    subst this
    exact iter_ex (by rw [hL]; simp [powC])
  | succ f ih =>
    intro k a o hk hf
    by_cases h0 : k = 0
    · subst h0
      exact iter_ex (by rw [hL]; simp [powC])
    · have hlt : k < 9223372036854775808 := Nat.lt_of_lt_of_le hk (Nat.pow_le_pow_right (by omega : 0 < 2) (by omega : f + 1 ≤ 63))
      have hst : L (a, (k : Int), o) = some (.nx (timesC m a a, ((k / 2 : Nat) : Int), if k % 2 = 1 then timesC m o a else o)) := by
        rw [hL]
        have c1 : (k : Int) > 0 := by omega
        have e3 : ((((k % 2 : Nat) : Int)) == 1) = decide (k % 2 = 1) := by
          rw [Bool.eq_iff_iff, beq_iff_eq, decide_eq_true_eq]; omega
        simp only [c1, decide_true, if_true, tmod2, tdiv2, hT, e3, Option.bind_some, wr_nn (k / 2) (by omega)]
        by_cases c2 : k % 2 = 1 <;> simp [c2]
      rw [iter_nx hst, ih (k / 2) _ _ (by rw [Nat.pow_succ] at hk; omega) (by omega)]
      conv => rhs; unfold powC
      rw [if_neg h0]
theorem v_field_power (m : Nat) (hm : m < 512) (a : UInt8) (k f : Nat) (hk : k < 2 ^ f) (hf : f ≤ 62) : F_impl_field_power (m : Int) a (k : Int) = some (powC m f a k 1) := by
  unfold F_impl_field_power
  rw [pow_loop m (L0_impl_field_power (m : Int)) _ (v_field_times m hm) (fun s => by unfold L0_impl_field_power; rfl) f k a 1 hk hf]; rfl
theorem v_l01Power (m : Nat) (hm : m < 512) (hm2 : 256 ≤ m) (a : UInt8) (k f : Nat) (hk : k < 2 ^ f) (hf : f ≤ 62) : F_spec_l01Power (m : Int) a (k : Int) = some (powC m f a k 1) := by
  unfold F_spec_l01Power
  rw [pow_loop m (L0_spec_l01Power (m : Int)) _ (v_l01Times m hm hm2) (fun s => by unfold L0_spec_l01Power; rfl) f k a 1 hk hf]; rfl
def invC (m : Nat) (a : UInt8) : UInt8 := powC m 8 a 254 1
theorem v_field_inverse (m : Nat) (hm : m < 512) (a : UInt8) : F_impl_field_inverse (m : Int) a = some (invC m a) := by
  unfold F_impl_field_inverse
  have := v_field_power m hm a 254 8 (by omega) (by omega)
  have h2 : F_impl_field_power (m : Int) a 254 = _ := this
  rw [h2]; rfl
theorem v_l01Inv (m : Nat) (hm : m < 512) (hm2 : 256 ≤ m) (a : UInt8) : F_spec_l01Inv (m : Int) a = some (invC m a) := by
  unfold F_spec_l01Inv
  have := v_l01Power m hm hm2 a 254 8 (by omega) (by omega)
  have h2 : F_spec_l01Power (m : Int) a 254 = _ := this
  rw [h2]; rfl

def redB (m d : Nat) : Bool := restR d (lenN d - 1) (16 - (lenN d - 1)) m == 0
def isFieldB (m : Int) : Bool := decide (256 ≤ m ∧ m ≤ 511) && !((List.range' 2 30).any (redB m.toNat))
theorem v_l01Field (m : Int) : F_spec_l01Field m = some (isFieldB m) := by
  unfold F_spec_l01Field isFieldB
  rw [v_l01In]
  by_cases hm : 256 ≤ m ∧ m ≤ 511
  · obtain ⟨n, rfl⟩ := Int.eq_ofNat_of_zero_le (show 0 ≤ m by omega)
    have hn : n < 512 := by omega
    have h := iter_hasM (f := L0_spec_l01Field (n : Int)) 32 (redB n) false (by omega) 2 (by omega) (fun d h2 hd => by
      unfold L0_spec_l01Field
      have c1 : (d : Int) < 32 := by omega
      have hp : ∃ p, p ≤ 4 ∧ 2 ^ p ≤ d ∧ d < 2 ^ (p + 1) := by
        refine ⟨d.log2, ?_, Nat.log2_self_le (by omega), Nat.lt_log2_self⟩
        have := (Nat.log2_lt (n := d) (by omega)).2 (show d < 2 ^ 5 by omega)
        omega
      obtain ⟨p, h3, h4, h5⟩ := hp
      have hl := lenN_of h4 h5
      rw [v_l01Rest n d p (16 - p) (by omega) (by omega) h4 h5 (by rw [show p + (16 - p) = 16 by omega]; omega)]
      simp only [c1, decide_true, if_true, Option.bind_some]
      unfold redB
      rw [hl, show p + 1 - 1 = p by omega]
      generalize restR d p (16 - p) n = q
      have : ((((q : Nat) : Int)) == 0) = (q == 0) := by rw [Bool.eq_iff_iff, beq_iff_eq, beq_iff_eq]; omega
      rw [this]
      cases q == 0 <;> simp) (by unfold L0_spec_l01Field; simp)
    have h2 : iter (L0_spec_l01Field (n : Int)) 2 = _ := h
    rw [h2]
    simp only [hm, decide_true, and_self, Bool.not_true, Bool.false_eq_true, if_false, Option.bind_some, Bool.true_and, Int.toNat_natCast]
    cases (List.range' 2 30).any (redB n) <;> rfl
  · simp [hm]
theorem v_IsField (m : Int) : F_impl_IsField m = some (isFieldB m) := by
  unfold F_impl_IsField isFieldB
  rw [v_inRange]
  by_cases hm : 256 ≤ m ∧ m ≤ 511
  · obtain ⟨n, rfl⟩ := Int.eq_ofNat_of_zero_le (show 0 ≤ m by omega)
    have hn : n < 512 := by omega
    have inner : ∀ p : Nat, p ≤ 4 → iter (L1_impl_IsField (n : Int) (p : Int)) ((2 ^ p : Nat) : Int) = some (if (List.range' (2 ^ p) (2 ^ p)).any (redB n) then Fl.ex false else Fl.nx ()) := by
      intro p hp
      have c2 : nonneg (p : Int) = some () := by unfold nonneg; rw [if_pos (by omega)]
      have hpow : 2 ^ p ≤ 2 ^ 4 := Nat.pow_le_pow_right (by omega) hp
      have hpp := Nat.two_pow_pos p
      have c3 : shlI 2 (p : Int) = ((2 ^ (p + 1) : Nat) : Int) := by
        have := shlI_nat 2 p (by omega) (by rw [Nat.shiftLeft_eq]; omega)
        rw [Nat.shiftLeft_eq] at this
        rw [show (2 : Int) = ((2 : Nat) : Int) from rfl, this, Nat.pow_succ, Nat.mul_comm]
      have h := iter_hasM (f := L1_impl_IsField (n : Int) (p : Int)) (2 ^ (p + 1)) (redB n) false (by rw [Nat.pow_succ]; omega) (2 ^ p) (by rw [Nat.pow_succ]; omega) (fun d h4 h5 => by
        unfold L1_impl_IsField
        have c1 : (d : Int) < ((2 ^ (p + 1) : Nat) : Int) := by omega
        have hd : d < 32 := by rw [Nat.pow_succ] at h5; omega
        have hl := lenN_of h4 h5
        rw [c2, c3, v_rest n d p (by omega) (by omega) (by omega)]
        simp only [c1, decide_true, if_true, Option.bind_some]
        unfold redB
        rw [hl, show p + 1 - 1 = p by omega]
        generalize restR d p (16 - p) n = q
        have : ((((q : Nat) : Int)) == 0) = (q == 0) := by rw [Bool.eq_iff_iff, beq_iff_eq, beq_iff_eq]; omega
        rw [this]
        cases q == 0 <;> simp) (by
          unfold L1_impl_IsField
          rw [c2, c3]; simp)
      rw [show 2 ^ (p + 1) - 2 ^ p = 2 ^ p by rw [Nat.pow_succ]; omega] at h
      exact h
    have h := iter_hasM (f := L0_impl_IsField (n : Int)) 5 (fun p => (List.range' (2 ^ p) (2 ^ p)).any (redB n)) false (by omega) 1 (by omega) (fun p _ hp => by
      unfold L0_impl_IsField
      have c1 : (p : Int) ≤ 4 := by omega
      have c2 : nonneg (p : Int) = some () := by unfold nonneg; rw [if_pos (by omega)]
      have c3 : shlI 1 (p : Int) = ((2 ^ p : Nat) : Int) := by
        have hpow : 2 ^ p ≤ 2 ^ 4 := Nat.pow_le_pow_right (by omega) (by omega)
        have := shlI_nat 1 p (by omega) (by rw [Nat.shiftLeft_eq]; omega)
        rw [Nat.shiftLeft_eq, Nat.one_mul] at this
        exact this
      rw [c2, c3, inner p (by omega)]
      simp only [c1, decide_true, if_true, Option.bind_some]
      cases (List.range' (2 ^ p) (2 ^ p)).any (redB n) <;> rfl) (by unfold L0_impl_IsField; simp)
    have h2 : iter (L0_impl_IsField (n : Int)) 1 = _ := h
    rw [h2]
    have e : ((List.range' 1 (5 - 1)).any fun p => (List.range' (2 ^ p) (2 ^ p)).any (redB n)) = (List.range' 2 30).any (redB n) := by
      have e1 : List.range' 2 30 = List.range' 2 2 ++ (List.range' 4 4 ++ (List.range' 8 8 ++ List.range' 16 16)) := by decide
      have e2 : List.range' 1 (5 - 1) = [1, 2, 3, 4] := by decide
      rw [e1, e2]
      simp only [List.any_append, List.any_cons, List.any_nil, Bool.or_false, Nat.reducePow]
    rw [e]
    simp only [hm, decide_true, and_self, Bool.not_true, Bool.false_eq_true, if_false, Option.bind_some, Bool.true_and, Int.toNat_natCast]
    cases (List.range' 2 30).any (redB n) <;> rfl
  · simp [hm]
theorem field_range {m : Int} (h : isFieldB m = true) : ∃ n : Nat, m = n ∧ 256 ≤ n ∧ n < 512 := by
  unfold isFieldB at h
  simp only [Bool.and_eq_true, decide_eq_true_eq] at h
  exact ⟨m.toNat, by omega, by omega, by omega⟩
/-- All bytes are different. -/
def diffB (l : List UInt8) : Bool := decide l.Nodup
theorem nodup_any (l : List UInt8) : ((List.range' 0 (l.length - 0)).any fun i => (List.range' 0 (i - 0)).any fun k => l[i]? == l[k]?) = !diffB l := by
  rw [Bool.eq_iff_iff, any_range]
  rw [diffB, Bool.not_eq_true', decide_eq_false_iff_not]
  unfold List.Nodup
  rw [List.pairwise_iff_getElem]
  simp only [any_range, beq_iff_eq]
  constructor
  · rintro ⟨i, _, hi, k, _, hk, h⟩ hn
    have hk' : k < l.length := by omega
    rw [List.getElem?_eq_getElem hi, List.getElem?_eq_getElem hk'] at h
    exact hn k i hk' hi hk (by simpa using h.symm)
  · intro h
    simp only [Classical.not_forall, ne_eq, Decidable.not_not] at h
    obtain ⟨k, i, hk, hi, hki, h⟩ := h
    exact ⟨i, Nat.zero_le _, hi, k, Nat.zero_le _, hki, by rw [List.getElem?_eq_getElem hi, List.getElem?_eq_getElem hk, h]⟩
theorem indexByte_has (l : List UInt8) (c : UInt8) : decide (indexByte l c ≥ 0) = l.contains c := by
  induction l with
  | nil => rfl
  | cons b l ih =>
    have hge := Lib.indexByte_ge l c
    show decide (Lib.indexByte (b :: l) c ≥ 0) = _
    unfold Lib.indexByte
    rw [List.contains_cons, ← ih]
    by_cases hb : b = c
    · subst hb; simp
    · have hb' : (c == b) = false := by simpa using fun h => hb h.symm
      simp only [beq_eq_false_iff_ne.2 hb, hb', Bool.false_eq_true, if_false, Bool.false_or]
      rw [decide_eq_decide]
      show _ ↔ Lib.indexByte l c ≥ 0
      by_cases h1 : Lib.indexByte l c = -1
      · simp [h1]
      · rw [if_neg (by simpa using h1)]; omega
theorem v_areDifferent (l : List UInt8) (h : l.length < 9223372036854775807) : F_impl_areDifferent l = some (diffB l) := by
  unfold F_impl_areDifferent
  have := iter_has (f := L0_impl_areDifferent l) l.length (fun i => (l.take i).any fun x => l[i]? == some x) false h (fun i hi => by
    unfold L0_impl_areDifferent
    have e1 : slc l (0 : Int) (i : Int) = some (l.take i) := by have := slc_ok (l := l) (i := 0) (j := i) (Nat.zero_le _) (by omega); simpa using this
    simp only [Int.ofNat_lt, hi, decide_true, if_true, idx_cast, List.getElem?_eq_getElem hi, Option.bind_some, e1]
    unfold F_bytes_IndexByte
    simp only [Option.bind_some, indexByte_has]
    have e2 : (l.take i).contains l[i] = (l.take i).any fun x => some l[i] == some x := by
      rw [Bool.eq_iff_iff]; simp [List.any_eq_true]
    rw [e2]
    split <;> rfl) (by unfold L0_impl_areDifferent; simp) 0 (Nat.zero_le _)
  have h3 : iter (L0_impl_areDifferent l) 0 = _ := this
  have key : ((List.range' 0 (l.length - 0)).any fun i => (l.take i).any fun x => l[i]? == some x) = !diffB l := by
    rw [← nodup_any, Bool.eq_iff_iff, any_range, any_range]
    refine exists_congr fun i => and_congr_right fun _ => and_congr_right fun hi => ?_
    rw [any_range, List.any_eq_true]
    constructor
    · rintro ⟨x, hx, h⟩
      obtain ⟨k, hk, rfl⟩ := List.mem_iff_getElem.1 hx
      have hk2 : k < i ∧ k < l.length := by simp at hk; omega
      exact ⟨k, Nat.zero_le _, hk2.1, by rw [List.getElem?_eq_getElem hk2.2]; simpa using h⟩
    · rintro ⟨k, _, hk, h⟩
      have hkl : k < l.length := by omega
      refine ⟨l[k], List.mem_iff_getElem.2 ⟨k, by simp; omega, by simp⟩, ?_⟩
      rw [List.getElem?_eq_getElem hkl] at h; exact h
  rw [h3, key]
  cases diffB l <;> simp [Fl.el]
/-- Twice an element. -/
def dbl (m y : Nat) : Nat := if (y <<< 1).testBit 8 then (y <<< 1) ^^^ m else y <<< 1
theorem xor_swap (a b c d : Nat) : (a ^^^ b) ^^^ (c ^^^ d) = (a ^^^ c) ^^^ (b ^^^ d) := by
  rw [Nat.xor_assoc, Nat.xor_assoc, ← Nat.xor_assoc b, ← Nat.xor_assoc c, Nat.xor_comm b c]
theorem dbl_xor (m x y : Nat) : dbl m (x ^^^ y) = dbl m x ^^^ dbl m y := by
  unfold dbl
  rw [Nat.shiftLeft_xor_distrib, Nat.testBit_xor]
  cases (x <<< 1).testBit 8 <;> cases (y <<< 1).testBit 8 <;> simp only [Bool.xor_false, Bool.false_xor, Bool.xor_self, Bool.xor_true, Bool.not_false, Bool.not_true, Bool.false_eq_true, if_true, if_false]
  · rw [Nat.xor_assoc]
  · rw [Nat.xor_assoc, Nat.xor_assoc, Nat.xor_comm m]
  · rw [xor_swap, Nat.xor_self, Nat.xor_zero]
theorem dbl_zero (m : Nat) : dbl m 0 = 0 := by simp [dbl]
/-- A polynomial in dbl, by the bits of b. -/
def opP (m : Nat) : Nat → Nat → Nat → Nat
  | 0, _, _ => 0
  | n + 1, b, x => (if b % 2 = 1 then x else 0) ^^^ opP m n (b / 2) (dbl m x)
theorem opP_succ (m n b x : Nat) : opP m (n + 1) b x = (if b % 2 = 1 then x else 0) ^^^ opP m n (b / 2) (dbl m x) := rfl
theorem opP_xor (m : Nat) : ∀ (n b x y : Nat), opP m n b (x ^^^ y) = opP m n b x ^^^ opP m n b y
  | 0, _, _, _ => by simp [opP]
  | n + 1, b, x, y => by
    unfold opP
    rw [dbl_xor, opP_xor m n, xor_swap]
    congr 1
    split <;> simp
theorem opP_zero (m : Nat) : ∀ (n b : Nat), opP m n b 0 = 0
  | 0, _ => rfl
  | n + 1, b => by unfold opP; rw [dbl_zero, opP_zero m n]; simp
theorem opP_dbl (m : Nat) : ∀ (n b x : Nat), opP m n b (dbl m x) = dbl m (opP m n b x)
  | 0, _, _ => (dbl_zero m).symm
  | n + 1, b, x => by
    unfold opP
    rw [opP_dbl m n, dbl_xor]
    congr 1
    split
    · rfl
    · exact (dbl_zero m).symm
theorem opP_comm (m : Nat) : ∀ (n b k c x : Nat), opP m n b (opP m k c x) = opP m k c (opP m n b x)
  | 0, _, k, c, _ => (opP_zero m k c).symm
  | n + 1, b, k, c, x => by
    rw [opP_succ, opP_succ, ← opP_dbl, opP_comm m n, opP_xor]
    congr 1
    split
    · rfl
    · exact (opP_zero m k c).symm
theorem half_bits (a : Nat) : (if a % 2 = 1 then 1 else 0) ^^^ (a / 2) <<< 1 = a := by
  rw [Nat.shiftLeft_eq]
  have h : (if a % 2 = 1 then 1 else 0) = a % 2 := by split <;> omega
  rw [h]
  apply Nat.eq_of_testBit_eq
  intro i
  rw [Nat.testBit_xor]
  cases i with
  | zero =>
    simp [Nat.testBit_zero]
  | succ i =>
    rw [Nat.testBit_succ, Nat.testBit_succ, Nat.testBit_succ]
    have h1 : a % 2 / 2 = 0 := by omega
    have h2 : a / 2 * 2 ^ 1 / 2 = a / 2 := by omega
    rw [h1, h2]; simp
theorem dbl_one (m i : Nat) (hi : i < 7) : dbl m (1 <<< i) = 1 <<< (i + 1) := by
  unfold dbl
  rw [← Nat.shiftLeft_add]
  have : (1 <<< (i + 1)).testBit 8 = false := by
    apply Nat.testBit_lt_two_pow
    rw [Nat.shiftLeft_eq, Nat.one_mul]
    exact Nat.pow_lt_pow_right (by omega) (by omega)
  rw [this]; rfl
theorem opP_one (m : Nat) : ∀ (n i a : Nat), n + i ≤ 8 → a < 2 ^ n → opP m n a (1 <<< i) = a <<< i
  | 0, i, a, _, ha => by
    have : a = 0 := by simpa using ha
    subst this; simp [opP]
  | n + 1, i, a, hn, ha => by
    have e : a <<< i = (if a % 2 = 1 then 1 <<< i else 0) ^^^ (a / 2) <<< (i + 1) := by
      conv => lhs; rw [← half_bits a]
      rw [Nat.shiftLeft_xor_distrib, ← Nat.shiftLeft_add, Nat.add_comm 1 i]
      congr 1
      split <;> simp
    unfold opP
    rw [e]
    congr 1
    rcases Nat.eq_zero_or_pos n with rfl | hp
    · have : a / 2 = 0 := by have : a < 2 := by simpa using ha
                             omega
      rw [this]; simp [opP]
    · rw [dbl_one m i (by omega)]
      exact opP_one m n (i + 1) (a / 2) (by omega) (by rw [Nat.pow_succ] at ha; omega)

theorem restR_dbl (m x : Nat) (hx : x < 2 ^ 15) : restR m 8 8 (x <<< 1) = dbl m (restR m 8 8 x) := by
  rw [restR_shift m 8 7, ← restR_top (d := 8) (k := 7) hx]; rfl
theorem mul_op (m : Nat) : ∀ (n i a b : Nat), i + n ≤ 8 → a < 2 ^ 8 → restR m 8 8 (mulC n (a <<< i) b) = opP m n b (restR m 8 8 (a <<< i))
  | 0, _, _, _, _, _ => by simp [mulC, opP, restR_low 8 0]
  | n + 1, i, a, b, hn, ha => by
    unfold mulC opP
    rw [restR_xor]
    have hx : a <<< i < 2 ^ 15 := Nat.lt_of_lt_of_le (shl_lt ha) (Nat.pow_le_pow_right (by omega) (by omega))
    rw [← restR_dbl m _ hx, ← Nat.shiftLeft_add, mul_op m n (i + 1) a (b / 2) (by omega) ha]
    congr 1
    split
    · rfl
    · exact restR_low 8 0 (by omega)
/-- The product, as numbers. -/
theorem times_nat (m : Nat) (h1 : 256 ≤ m) (h2 : m < 512) (a b : UInt8) : (timesC m a b).toNat = opP m 8 b.toNat a.toNat := by
  have ha : a.toNat < 2 ^ 8 := a.toNat_lt
  have hr : restR m 8 8 (mulC 8 a.toNat b.toNat) < 256 := restR_lt (d := 8) h1 h2 8 _ (mulC_lt 8 a.toNat b.toNat 8 ha)
  have e := mul_op m 8 0 a.toNat b.toNat (by omega) ha
  rw [Nat.shiftLeft_zero, restR_low 8 _ ha] at e
  unfold timesC byteI
  rw [e] at hr ⊢
  generalize opP m 8 b.toNat a.toNat = q at hr ⊢
  have : (((q : Nat) : Int) % 256).toNat = q := by omega
  rw [this]
  simp
  omega
section
variable {m : Nat} (h1 : 256 ≤ m) (h2 : m < 512)
include h1 h2
theorem times_comm (a b : UInt8) : timesC m a b = timesC m b a := by
  apply UInt8.toNat_inj.1
  rw [times_nat m h1 h2, times_nat m h1 h2]
  have ea := opP_one m 8 0 a.toNat (by omega) a.toNat_lt
  have eb := opP_one m 8 0 b.toNat (by omega) b.toNat_lt
  simp only [Nat.shiftLeft_zero] at ea eb
  rw [← ea, opP_comm, eb, ea]
theorem times_xor (a b c : UInt8) : timesC m (a ^^^ b) c = timesC m a c ^^^ timesC m b c := by
  apply UInt8.toNat_inj.1
  rw [UInt8.toNat_xor, times_nat m h1 h2, times_nat m h1 h2, times_nat m h1 h2, UInt8.toNat_xor, opP_xor]
theorem times_xor' (a b c : UInt8) : timesC m a (b ^^^ c) = timesC m a b ^^^ timesC m a c := by
  rw [times_comm h1 h2, times_xor h1 h2, times_comm h1 h2 b, times_comm h1 h2 c]
theorem times_zero (a : UInt8) : timesC m 0 a = 0 := by
  apply UInt8.toNat_inj.1
  rw [times_nat m h1 h2]
  exact opP_zero m 8 _
end
section
variable {m : Nat} (h1 : 256 ≤ m) (h2 : m < 512)
include h1 h2
end
section
variable {m : Nat} (h1 : 256 ≤ m) (h2 : m < 512)
include h1 h2
end
def vf {α : Type} (n : Nat) (f : Nat → α) : Vector α n := Vector.ofFn fun i => f i.1
theorem vf_get {α : Type} {n i : Nat} (f : Nat → α) (h : i < n) : (vf n f)[i] = f i := by simp [vf]
theorem vf_getq {α : Type} {n i : Nat} (f : Nat → α) (h : i < n) : (vf n f)[i]? = some (f i) := by rw [Vector.getElem?_eq_getElem h, vf_get f h]
theorem vidx_vf {α : Type} {n i : Nat} (f : Nat → α) (h : i < n) : vidx (vf n f) (i : Int) = some (f i) := by rw [vidx_cast, vf_getq f h]
theorem vf_ext {α : Type} {n : Nat} {f g : Nat → α} (h : ∀ i, i < n → f i = g i) : vf n f = vf n g := by
  apply vec_ext
  intro i hi
  rw [vf_get f hi, vf_get g hi, h i hi]
theorem vf_set {α : Type} {n : Nat} (f : Nat → α) (k : Nat) (x : α) : (vf n f).setIfInBounds k x = vf n (fun i => if i = k then x else f i) := by
  apply vec_ext
  intro i hi
  rw [Vector.getElem_setIfInBounds, vf_get _ hi, vf_get _ hi]
  by_cases h : k = i
  · subst h; simp
  · rw [if_neg h, if_neg (fun e => h e.symm)]
theorem vf_rep {α : Type} (n : Nat) (x : α) : Vector.replicate n x = vf n (fun _ => x) := by
  apply vec_ext
  intro i hi
  rw [vf_get _ hi]; simp
theorem vf_of {α : Type} [Inhabited α] {n : Nat} (v : Vector α n) : v = vf n (fun i => v[i]?.getD default) := by
  apply vec_ext
  intro i hi
  rw [vf_get _ hi, Vector.getElem?_eq_getElem hi]; rfl
abbrev Mat := Vector (Vector UInt8 4) 4
def mf (f : Nat → Nat → UInt8) : Mat := vf 4 fun i => vf 4 (f i)
theorem mf_ext {f g : Nat → Nat → UInt8} (h : ∀ i, i < 4 → ∀ j, j < 4 → f i j = g i j) : mf f = mf g := vf_ext fun i hi => vf_ext fun j hj => h i hi j hj
theorem vidx_mf {i : Nat} (f : Nat → Nat → UInt8) (h : i < 4) : vidx (mf f) (i : Int) = some (vf 4 (f i)) := vidx_vf _ h
theorem mf_set (f : Nat → Nat → UInt8) (k : Nat) (g : Nat → UInt8) : (mf f).setIfInBounds k (vf 4 g) = mf (fun i j => if i = k then g j else f i j) := by
  unfold mf
  rw [vf_set]
  apply vf_ext
  intro i hi
  by_cases h : i = k
  · simp [h]
  · simp [h]
theorem mf_of (a : Mat) : ∃ f, a = mf f := by
  refine ⟨fun i j => (a[i]?.getD default)[j]?.getD default, ?_⟩
  calc a = vf 4 (fun i => a[i]?.getD default) := vf_of a
    _ = _ := vf_ext fun i _ => vf_of _
theorem mf_zero : Vector.replicate 4 (Vector.replicate 4 (0 : UInt8)) = mf (fun _ _ => 0) := by rw [vf_rep 4 (0 : UInt8), vf_rep]; rfl
theorem lt4 {i : Nat} (h : i < 4) : decide ((i : Int) < 4) = true := by simp; omega
theorem lt4' {i : Nat} (h : ¬ i < 4) : decide ((i : Int) < 4) = false := by simp; omega
theorem wr4 {i : Nat} (h : i < 1000) : wr ((i : Int) + 1) = ((i + 1 : Nat) : Int) := wr_nat (by omega)

def unitF (i j : Nat) : UInt8 := if i = j then 1 else 0
theorem unit_loop (L : Mat × Int → Option (Fl (Mat × Int) Mat))
    (hL : ∀ s8, L s8 = if (decide (s8.2 < 4)) = true then ((vidx s8.1 s8.2).bind fun (x14 : (Vector UInt8 4)) => (vidx x14 s8.2).bind fun (x17 : UInt8) => some (Fl.nx ((s8.1.setIfInBounds (s8.2).toNat (x14.setIfInBounds (s8.2).toNat 1)), wr (s8.2 + 1)))) else (some (Fl.ex s8.1))) :
    iter L (Vector.replicate 4 (Vector.replicate 4 (0 : UInt8)), 0) = some (mf unitF) := by
  have := iter_run (f := L) (fun i : Nat => (mf fun r c => if r < i then unitF r c else 0, (i : Int))) 0 4 (by omega) (t := mf unitF) (fun i _ hi => by
    rw [hL]
    simp only [lt4 hi, if_true, vidx_mf _ hi, vidx_vf _ hi, Option.bind_some, Int.toNat_natCast, vf_set, mf_set, wr4 (show i < 1000 by omega)]
    congr 3
    apply mf_ext
    intro r hr c hc
    by_cases h1 : r = i
    · subst h1; simp [unitF, eq_comm]
    · simp only [h1, if_false]
      by_cases h2 : r < i
      · rw [if_pos h2, if_pos (by omega)]
      · rw [if_neg h2, if_neg (by omega)]) (by
    rw [hL]
    simp only [lt4' (show ¬ 4 < 4 by omega), Bool.false_eq_true, if_false]
    exact congrArg (fun z => some (Fl.ex z)) (mf_ext fun r hr c hc => by rw [if_pos hr]))
  rw [mf_zero]
  simpa using this
theorem v_spec_UnitMatrix : F_spec_UnitMatrix = some (mf unitF) := by
  unfold F_spec_UnitMatrix
  rw [unit_loop L0_spec_UnitMatrix fun s => rfl]; rfl
theorem v_impl_UnitMatrix : F_impl_UnitMatrix = some (mf unitF) := by
  unfold F_impl_UnitMatrix
  rw [unit_loop L0_impl_UnitMatrix fun s => rfl]; rfl

abbrev MF := Nat → Nat → UInt8
def pivot (f : MF) (k : Nat) : Nat := ((List.range' k (4 - k)).find? fun i => !(f i k == 0)).getD 4
def swapF (f : MF) (i k : Nat) : MF := fun r c => if r = k then f i c else if r = i then f k c else f r c
def scaleF (m : Nat) (f : MF) (k : Nat) (by_ : UInt8) : MF := fun r c => if r = k then timesC m (f k c) by_ else f r c
/-- Rows of g combined with the row k, by the column k of f. -/
def elimF (m : Nat) (f g : MF) (k : Nat) : MF := fun r c => if r = k then g r c else g r c ^^^ timesC m (f r k) (g k c)
structure Red where
  a : MF
  b : MF
  det : UInt8
def redStep (m : Nat) (s : Red) (k : Nat) : Option Red :=
  let i := pivot s.a k
  if i = 4 then none else
    let f := swapF s.a i k
    let g := swapF s.b i k
    let q := invC m (f k k)
    let f2 := scaleF m f k q
    let g2 := scaleF m g k q
    some ⟨elimF m f2 f2 k, elimF m f2 g2 k, timesC m s.det (f k k)⟩
def redFrom (m : Nat) : Nat → Nat → Red → Option Red
  | 0, _, s => some s
  | n + 1, k, s => (redStep m s k).bind (redFrom m n (k + 1))
/-- Determinant and inverse. -/
def invertC (m : Nat) (a : MF) : UInt8 × Mat := match redFrom m 4 0 ⟨a, unitF, 1⟩ with
  | some s => (s.det, mf s.b)
  | none => (0, mf fun _ _ => 0)
theorem pivot_loop (L : Int → Option (Fl Int Int)) (f : MF) (k : Nat) (hk : k < 4)
    (hL : ∀ s, L s = (if (decide (s < 4)) = true then ((vidx (mf f) s).bind fun (x30 : (Vector UInt8 4)) => (vidx x30 (k : Int)).bind fun (x33 : UInt8) => some (x33 == 0)) else (some false) : Option (Bool)).bind fun (j25 : Bool) => if j25 = true then (some (Fl.nx (wr (s + 1)))) else (some (Fl.ex s))) :
    iter L (k : Int) = some ((pivot f k : Nat) : Int) := by
  have := iter_find (f := L) (fun i : Nat => (i : Int)) (fun i => !(f i k == 0)) (fun i => (i : Int)) (e := (4 : Int)) 4 (4 - k) k (by omega) (fun i _ hi => by
    rw [hL]
    simp only [lt4 hi, if_true, vidx_mf _ hi, vidx_vf _ hk, Option.bind_some]
    cases h : (f i k == 0)
    · simp
    · simp [wr4 (show i < 1000 by omega)]) (by rw [hL]; simp)
  rw [this]
  unfold pivot
  cases (List.range' k (4 - k)).find? fun i => !(f i k == 0) <;> rfl
theorem pivot_lt {f : MF} {k : Nat} (h : pivot f k ≠ 4) : pivot f k < 4 := by
  unfold pivot at h ⊢
  cases hf : (List.range' k (4 - k)).find? fun i => !(f i k == 0) with
  | none => rw [hf] at h; exact absurd rfl h
  | some i =>
    have := List.mem_range'_1.1 (List.mem_of_find?_eq_some hf)
    simp only [Option.getD_some]
    omega
/-- What both ways do to a row and the row of the other matrix, one column after the other. -/
theorem rows_loop (L : Mat × Mat × Int → Option (Fl (Mat × Mat × Int) (Mat × Mat))) (f g : MF) (k : Nat) (hk : k < 4) (p q : Nat → UInt8)
    (hL : ∀ c, c < 4 → ∀ a b : MF, (∀ r, r ≠ k → a r = f r) → (∀ r, r ≠ k → b r = g r) → a k c = f k c → b k c = g k c → L (mf a, mf b, (c : Int)) = some (Fl.nx ((mf a).setIfInBounds k ((vf 4 (a k)).setIfInBounds c (p c)), (mf b).setIfInBounds k ((vf 4 (b k)).setIfInBounds c (q c)), wr ((c : Int) + 1))))
    (he : ∀ a b : Mat, L (a, b, 4) = some (Fl.ex (a, b))) :
    iter L (mf f, mf g, 0) = some (mf (fun r c => if r = k then p c else f r c), mf (fun r c => if r = k then q c else g r c)) := by
  have k1 : (mf fun r c => if r = k then (if c < 4 then p c else f k c) else f r c) = mf fun r c => if r = k then p c else f r c := mf_ext fun r _ c hc => by rw [if_pos hc]
  have k2 : (mf fun r c => if r = k then (if c < 4 then q c else g k c) else g r c) = mf fun r c => if r = k then q c else g r c := mf_ext fun r _ c hc => by rw [if_pos hc]
  have := iter_run (f := L) (fun i : Nat => (mf fun r c => if r = k then (if c < i then p c else f k c) else f r c, mf fun r c => if r = k then (if c < i then q c else g k c) else g r c, (i : Int))) 0 4 (by omega)
    (t := (mf (fun r c => if r = k then p c else f r c), mf (fun r c => if r = k then q c else g r c))) (fun i _ hi => by
    rw [hL i hi _ _ (fun r hr => by funext c; rw [if_neg hr]) (fun r hr => by funext c; rw [if_neg hr]) (by simp) (by simp)]
    simp only [vf_set, mf_set, wr4 (show i < 1000 by omega)]
    congr 3
    · apply mf_ext
      intro r hr c hc
      by_cases h : r = k
      · simp only [h, if_true]
        by_cases h2 : c = i
        · subst h2; simp
        · by_cases h3 : c < i
          · rw [if_neg h2, if_pos h3, if_pos (by omega)]
          · rw [if_neg h2, if_neg h3, if_neg (by omega)]
      · simp only [h, if_false]
    · congr 1
      apply mf_ext
      intro r hr c hc
      by_cases h : r = k
      · simp only [h, if_true]
        by_cases h2 : c = i
        · subst h2; simp
        · by_cases h3 : c < i
          · rw [if_neg h2, if_pos h3, if_pos (by omega)]
          · rw [if_neg h2, if_neg h3, if_neg (by omega)]
      · simp only [h, if_false]) (by
    simp only [k1, k2]
    exact he _ _)
  have e1 : mf (fun r c => if r = k then (if c < 0 then p c else f k c) else f r c) = mf f := mf_ext fun r hr c hc => by
    by_cases h : r = k
    · subst h; simp
    · simp [h]
  have e2 : mf (fun r c => if r = k then (if c < 0 then q c else g k c) else g r c) = mf g := mf_ext fun r hr c hc => by
    by_cases h : r = k
    · subst h; simp
    · simp [h]
  simp only [e1, e2] at this
  exact this
theorem red_loop {S : Type} (m : Nat) (L : S → Option (Fl S (Fl (Mat × UInt8) (UInt8 × Mat)))) (pk : Red → Nat → S)
    (hstep : ∀ k, k < 4 → ∀ s, L (pk s k) = some (match redStep m s k with | none => .ex (.ex (0, mf fun _ _ => 0)) | some s' => .nx (pk s' (k + 1))))
    (hend : ∀ s, L (pk s 4) = some (.ex (.nx (mf s.b, s.det)))) : ∀ (n k : Nat) (s : Red), k + n = 4 → iter L (pk s k) = some (match redFrom m n k s with | some s' => .nx (mf s'.b, s'.det) | none => .ex (0, mf fun _ _ => 0))
  | 0, k, s, h => by
    have : k = 4 := by omega
    subst this
    rw [iter_ex (hend s)]; rfl
  | n + 1, k, s, h => by
    have h1 := hstep k (by omega) s
    unfold redFrom
    cases hr : redStep m s k with
    | none => rw [hr] at h1; rw [iter_ex h1]; rfl
    | some s' => rw [hr] at h1; rw [iter_nx h1]; exact red_loop m L pk hstep hend n (k + 1) s' (by omega)
theorem ne_cast {i k : Nat} : (((i : Int)) != ((k : Nat) : Int)) = decide (i ≠ k) := by
  by_cases h : i = k
  · subst h; simp
  · have : (i : Int) ≠ (k : Int) := by omega
    simp [h, this]
/-- The rows, one after the other. -/
theorem elim_loop (m : Nat) (L : Mat × Mat × Int → Option (Fl (Mat × Mat × Int) (Mat × Mat))) (f g : MF) (k : Nat)
    (hL : ∀ i, i < 4 → ∀ a b : MF, (a i = f i) → (b i = g i) → (a k = f k) → (b k = g k) → L (mf a, mf b, (i : Int)) = some (Fl.nx (mf (fun r c => if r = i then elimF m f f k r c else a r c), mf (fun r c => if r = i then elimF m f g k r c else b r c), wr ((i : Int) + 1))))
    (he : ∀ a b : Mat, L (a, b, 4) = some (Fl.ex (a, b))) : iter L (mf f, mf g, 0) = some (mf (elimF m f f k), mf (elimF m f g k)) := by
  have ek : ∀ h : MF, elimF m f h k k = h k := fun h => by funext c; simp [elimF]
  have k1 : (mf fun r c => if r < 4 then elimF m f f k r c else f r c) = mf (elimF m f f k) := mf_ext fun r hr c _ => by rw [if_pos hr]
  have k2 : (mf fun r c => if r < 4 then elimF m f g k r c else g r c) = mf (elimF m f g k) := mf_ext fun r hr c _ => by rw [if_pos hr]
  have := iter_run (f := L) (fun i : Nat => (mf fun r c => if r < i then elimF m f f k r c else f r c, mf fun r c => if r < i then elimF m f g k r c else g r c, (i : Int))) 0 4 (by omega)
    (t := (mf (elimF m f f k), mf (elimF m f g k))) (fun i _ hi => by
    rw [hL i hi _ _ (by funext c; simp) (by funext c; simp) (by funext c; by_cases h : k < i <;> simp [h, ek]) (by funext c; by_cases h : k < i <;> simp [h, ek])]
    rw [wr4 (show i < 1000 by omega)]
    have e : ∀ (x y : MF), (mf fun r c => if r = i then x r c else if r < i then x r c else y r c) = mf fun r c => if r < i + 1 then x r c else y r c := fun x y => mf_ext fun r _ c _ => by
      by_cases h1 : r = i
      · subst h1; simp
      · by_cases h2 : r < i
        · rw [if_neg h1, if_pos h2, if_pos (by omega)]
        · rw [if_neg h1, if_neg h2, if_neg (by omega)]
    rw [e, e]) (by
    simp only [k1, k2]
    exact he _ _)
  simpa using this

theorem swap_set (f : MF) {i k : Nat} : ((mf f).setIfInBounds i (vf 4 (f k))).setIfInBounds k (vf 4 (f i)) = mf (swapF f i k) := by
  rw [mf_set, mf_set]; rfl
section
variable (m : Nat) (hm : m < 512) (hm2 : 256 ≤ m)
include hm
theorem impl_scale (A B : Mat) (det : UInt8) (q : UInt8) (f g : MF) (k : Nat) (hk : k < 4) : iter (L2_impl_field_invert (m : Int) (A, B, (k : Int), det) q) (mf f, mf g, 0) = some (mf (scaleF m f k q), mf (scaleF m g k q)) := by
  refine rows_loop _ f g k hk (fun c => timesC m (f k c) q) (fun c => timesC m (g k c) q) (fun c hc a b _ _ ha hb => ?_) (fun a b => ?_)
  · unfold L2_impl_field_invert
    simp only [lt4 hc, if_true, vidx_mf _ hk, vidx_vf _ hc, Option.bind_some, v_field_times m hm, ha, hb, Int.toNat_natCast]
  · unfold L2_impl_field_invert; simp
theorem impl_row (A B : Mat) (det : UInt8) (s1 : Mat × Mat × Int) (x : UInt8) (f g : MF) (k i : Nat) (hk : k < 4) (hi : i < 4) (hik : i ≠ k) (hs : s1.2.2 = (i : Int)) :
    iter (L4_impl_field_invert (m : Int) (A, B, (k : Int), det) s1 x) (mf f, mf g, 0) = some (mf (fun r c => if r = i then f i c ^^^ timesC m x (f k c) else f r c), mf (fun r c => if r = i then g i c ^^^ timesC m x (g k c) else g r c)) := by
  refine rows_loop _ f g i hi (fun c => f i c ^^^ timesC m x (f k c)) (fun c => g i c ^^^ timesC m x (g k c)) (fun c hc a b ha' hb' ha hb => ?_) (fun a b => ?_)
  · unfold L4_impl_field_invert
    have e1 := ha' k (Ne.symm hik)
    have e2 := hb' k (Ne.symm hik)
    simp only [hs, lt4 hc, if_true, vidx_mf _ hk, vidx_mf _ hi, vidx_vf _ hc, Option.bind_some, v_field_times m hm, ha, hb, e1, e2, Int.toNat_natCast]
  · unfold L4_impl_field_invert; simp
include hm2
theorem impl_elim (A B : Mat) (det : UInt8) (f g : MF) (k : Nat) (hk : k < 4) : iter (L3_impl_field_invert (m : Int) (A, B, (k : Int), det)) (mf f, mf g, 0) = some (mf (elimF m f f k), mf (elimF m f g k)) := by
  refine elim_loop m _ f g k (fun i hi a b hai hbi hak hbk => ?_) (fun a b => by unfold L3_impl_field_invert; simp)
  unfold L3_impl_field_invert
  have hfi : a i k = f i k := by rw [hai]
  simp only [lt4 hi, if_true, vidx_mf _ hi, vidx_vf _ hk, Option.bind_some, ne_cast, hfi]
  by_cases h : i = k
  · subst h
    simp only [ne_eq, not_true_eq_false, decide_false, Bool.false_eq_true, if_false, Option.bind_some]
    congr 3
    · exact mf_ext fun r _ c _ => by
        by_cases h : r = i
        · subst h; simp [elimF, hai]
        · simp [h]
    · congr 1
      exact mf_ext fun r _ c _ => by
        by_cases h : r = i
        · subst h; simp [elimF, hbi]
        · simp [h]
  · have hd : decide (i ≠ k) = true := by simpa using h
    simp only [hd, if_true, Option.bind_some]
    by_cases h0 : f i k = 0
    · simp only [h0, bne_self_eq_false, Bool.false_eq_true, if_false, Option.bind_some]
      congr 3
      · exact mf_ext fun r _ c _ => by
          by_cases h2 : r = i
          · subst h2; simp [elimF, hai, h, h0, times_zero hm2 hm]
          · simp [h2]
      · congr 1
        exact mf_ext fun r _ c _ => by
          by_cases h2 : r = i
          · subst h2; simp [elimF, hbi, h, h0, times_zero hm2 hm]
          · simp [h2]
    · have hb0 : (f i k != 0) = true := by simpa using h0
      simp only [hb0, if_true, Option.bind_some]
      rw [impl_row m hm A B det _ _ a b k i hk hi h rfl]
      simp only [Option.bind_some]
      congr 3
      · exact mf_ext fun r _ c _ => by
          by_cases h2 : r = i
          · subst h2; simp [elimF, hai, hak, h]
          · simp [h2]
      · congr 1
        exact mf_ext fun r _ c _ => by
          by_cases h2 : r = i
          · subst h2; simp [elimF, hbi, hbk, h]
          · simp [h2]
theorem impl_step (k : Nat) (hk : k < 4) (s : Red) : L0_impl_field_invert (m : Int) (mf s.a, mf s.b, (k : Int), s.det) = some (match redStep m s k with | none => .ex (.ex (0, mf fun _ _ => 0)) | some s' => .nx (mf s'.a, mf s'.b, ((k + 1 : Nat) : Int), s'.det)) := by
  unfold L0_impl_field_invert
  have hp := pivot_loop (L1_impl_field_invert (mf s.a, mf s.b, (k : Int), s.det)) s.a k hk (fun x => rfl)
  simp only [lt4 hk, if_true, hp, Option.bind_some]
  unfold redStep
  by_cases h4 : pivot s.a k = 4
  · have : ((4 : Nat) : Int) = 4 := rfl
    simp only [h4, this, beq_self_eq_true, if_true, mf_zero]
  · have hi := pivot_lt h4
    have h5 : (((pivot s.a k : Nat) : Int) == 4) = false := by
      have : ((pivot s.a k : Nat) : Int) ≠ 4 := by omega
      simpa using this
    generalize hpi : pivot s.a k = i at *
    simp only [h4, h5, Bool.false_eq_true, if_false]
    have x1 : vidx ((mf s.a).setIfInBounds i (vf 4 (s.a k))) (k : Int) = some (vf 4 (fun c => if k = i then s.a k c else s.a k c)) := by rw [mf_set]; exact vidx_mf _ hk
    have x2 : vidx ((mf s.b).setIfInBounds i (vf 4 (s.b k))) (k : Int) = some (vf 4 (fun c => if k = i then s.b k c else s.b k c)) := by rw [mf_set]; exact vidx_mf _ hk
    simp only [vidx_mf _ hk, vidx_mf _ hi, Option.bind_some, Int.toNat_natCast, x1, x2, swap_set, vidx_vf _ hk, v_field_times m hm, v_field_inverse m hm, impl_scale m hm _ _ _ _ _ _ k hk, impl_elim m hm hm2 _ _ _ _ _ k hk, wr4 (show k < 1000 by omega)]
theorem v_field_invert (f : MF) : F_impl_field_invert (m : Int) (mf f) = some (invertC m f) := by
  unfold F_impl_field_invert
  have h := red_loop m (L0_impl_field_invert (m : Int)) (fun s k => (mf s.a, mf s.b, (k : Int), s.det)) (impl_step m hm hm2) (fun s => by unfold L0_impl_field_invert; simp) 4 0 ⟨f, unitF, 1⟩ rfl
  have h2 : iter (L0_impl_field_invert (m : Int)) (mf f, mf unitF, 0, 1) = _ := h
  rw [v_impl_UnitMatrix, Option.bind_some, h2]
  unfold invertC
  cases redFrom m 4 0 ⟨f, unitF, 1⟩ <;> rfl
theorem spec_scale (A B : Mat) (det : UInt8) (q : UInt8) (f g : MF) (k : Nat) (hk : k < 4) : iter (L2_spec_l03Reduce (m : Int) (A, B, det, (k : Int)) q) (mf f, mf g, 0) = some (mf (scaleF m f k q), mf (scaleF m g k q)) := by
  refine rows_loop _ f g k hk (fun c => timesC m (f k c) q) (fun c => timesC m (g k c) q) (fun c hc a b _ _ ha hb => ?_) (fun a b => ?_)
  · unfold L2_spec_l03Reduce
    simp only [lt4 hc, if_true, vidx_mf _ hk, vidx_vf _ hc, Option.bind_some, v_l01Times m hm hm2, ha, hb, Int.toNat_natCast]
  · unfold L2_spec_l03Reduce; simp
theorem spec_row (A B : Mat) (det : UInt8) (s1 : Mat × Mat × Int) (x : UInt8) (f g : MF) (k i : Nat) (hk : k < 4) (hi : i < 4) (hik : i ≠ k) (hs : s1.2.2 = (i : Int)) :
    iter (L4_spec_l03Reduce (m : Int) (A, B, det, (k : Int)) s1 x) (mf f, mf g, 0) = some (mf (fun r c => if r = i then f i c ^^^ timesC m x (f k c) else f r c), mf (fun r c => if r = i then g i c ^^^ timesC m x (g k c) else g r c)) := by
  have hd : decide (i ≠ k) = true := by simpa using hik
  refine rows_loop _ f g i hi (fun c => f i c ^^^ timesC m x (f k c)) (fun c => g i c ^^^ timesC m x (g k c)) (fun c hc a b ha' hb' ha hb => ?_) (fun a b => ?_)
  · unfold L4_spec_l03Reduce
    have e1 := ha' k (Ne.symm hik)
    have e2 := hb' k (Ne.symm hik)
    simp only [hs, lt4 hc, if_true, ne_cast, hd, vidx_mf _ hk, vidx_mf _ hi, vidx_vf _ hc, Option.bind_some, v_l01Times m hm hm2, ha, hb, e1, e2, Int.toNat_natCast]
  · unfold L4_spec_l03Reduce; simp
theorem spec_elim (A B : Mat) (det : UInt8) (f g : MF) (k : Nat) (hk : k < 4) : iter (L3_spec_l03Reduce (m : Int) (A, B, det, (k : Int))) (mf f, mf g, 0) = some (mf (elimF m f f k), mf (elimF m f g k)) := by
  refine elim_loop m _ f g k (fun i hi a b hai hbi hak hbk => ?_) (fun a b => by unfold L3_spec_l03Reduce; simp)
  unfold L3_spec_l03Reduce
  have hfi : a i k = f i k := by rw [hai]
  simp only [lt4 hi, if_true, vidx_mf _ hi, vidx_vf _ hk, Option.bind_some, hfi]
  by_cases h : i = k
  · subst h
    have h0 : iter (L4_spec_l03Reduce (m : Int) (A, B, det, (i : Int)) (mf a, mf b, (i : Int)) (f i i)) (mf a, mf b, 0) = some (mf a, mf b) := by
      refine iter_ex ?_
      unfold L4_spec_l03Reduce
      simp
    rw [h0]
    simp only [Option.bind_some]
    congr 3
    · exact mf_ext fun r _ c _ => by
        by_cases h : r = i
        · subst h; simp [elimF, hai]
        · simp [h]
    · congr 1
      exact mf_ext fun r _ c _ => by
        by_cases h : r = i
        · subst h; simp [elimF, hbi]
        · simp [h]
  · rw [spec_row m hm hm2 A B det _ _ a b k i hk hi h rfl]
    simp only [Option.bind_some]
    congr 3
    · exact mf_ext fun r _ c _ => by
        by_cases h2 : r = i
        · subst h2; simp [elimF, hai, hak, h]
        · simp [h2]
    · congr 1
      exact mf_ext fun r _ c _ => by
        by_cases h2 : r = i
        · subst h2; simp [elimF, hbi, hbk, h]
        · simp [h2]
theorem spec_step (k : Nat) (hk : k < 4) (s : Red) : L0_spec_l03Reduce (m : Int) (mf s.a, mf s.b, s.det, (k : Int)) = some (match redStep m s k with | none => .ex (.ex (0, mf fun _ _ => 0)) | some s' => .nx (mf s'.a, mf s'.b, s'.det, ((k + 1 : Nat) : Int))) := by
  unfold L0_spec_l03Reduce
  have hp := pivot_loop (L1_spec_l03Reduce (mf s.a, mf s.b, s.det, (k : Int))) s.a k hk (fun x => rfl)
  simp only [lt4 hk, if_true, hp, Option.bind_some]
  unfold redStep
  by_cases h4 : pivot s.a k = 4
  · have : ((4 : Nat) : Int) = 4 := rfl
    simp only [h4, this, beq_self_eq_true, if_true, mf_zero]
  · have hi := pivot_lt h4
    have h5 : (((pivot s.a k : Nat) : Int) == 4) = false := by
      have : ((pivot s.a k : Nat) : Int) ≠ 4 := by omega
      simpa using this
    generalize hpi : pivot s.a k = i at *
    simp only [h4, h5, Bool.false_eq_true, if_false]
    have x1 : vidx ((mf s.a).setIfInBounds i (vf 4 (s.a k))) (k : Int) = some (vf 4 (fun c => if k = i then s.a k c else s.a k c)) := by rw [mf_set]; exact vidx_mf _ hk
    have x2 : vidx ((mf s.b).setIfInBounds i (vf 4 (s.b k))) (k : Int) = some (vf 4 (fun c => if k = i then s.b k c else s.b k c)) := by rw [mf_set]; exact vidx_mf _ hk
    simp only [vidx_mf _ hk, vidx_mf _ hi, Option.bind_some, Int.toNat_natCast, x1, x2, swap_set, vidx_vf _ hk, v_l01Times m hm hm2, v_l01Inv m hm hm2, spec_scale m hm hm2 _ _ _ _ _ _ k hk, spec_elim m hm hm2 _ _ _ _ _ k hk, wr4 (show k < 1000 by omega)]
theorem v_l03Reduce (f : MF) : F_spec_l03Reduce (m : Int) (mf f) = some (invertC m f) := by
  unfold F_spec_l03Reduce
  have h := red_loop m (L0_spec_l03Reduce (m : Int)) (fun s k => (mf s.a, mf s.b, s.det, (k : Int))) (spec_step m hm hm2) (fun s => by unfold L0_spec_l03Reduce; simp) 4 0 ⟨f, unitF, 1⟩ rfl
  have h2 : iter (L0_spec_l03Reduce (m : Int)) (mf f, mf unitF, 1, 0) = _ := h
  rw [v_spec_UnitMatrix, Option.bind_some, h2]
  unfold invertC
  cases redFrom m 4 0 ⟨f, unitF, 1⟩ <;> rfl
end
def seen (l : List UInt8) (i b : Nat) : Bool := (l.take i).any fun x => x.toNat == b
theorem seen_succ (l : List UInt8) {i : Nat} (h : i < l.length) : (fun b => if b = l[i].toNat then true else seen l i b) = seen l (i + 1) := by
  funext b
  unfold seen
  rw [List.take_succ_eq_append_getElem h, List.any_append]
  by_cases hb : b = l[i].toNat
  · subst hb; simp
  · have : (l[i].toNat == b) = false := by simpa using fun e => hb e.symm
    simp [hb, this]
theorem seen_any (l : List UInt8) : ((List.range' 0 (l.length - 0)).any fun i => seen l i (l.getD i 0).toNat) = !diffB l := by
  rw [← nodup_any, Bool.eq_iff_iff, any_range, any_range]
  refine exists_congr fun i => and_congr_right fun _ => and_congr_right fun hi => ?_
  unfold seen
  rw [any_range, List.any_eq_true]
  have e0 : l.getD i 0 = l[i] := by simp [List.getD_eq_getElem?_getD, List.getElem?_eq_getElem hi]
  rw [e0]
  constructor
  · rintro ⟨x, hx, h⟩
    obtain ⟨k, hk, rfl⟩ := List.mem_iff_getElem.1 hx
    have hk2 : k < i ∧ k < l.length := by simp at hk; omega
    refine ⟨k, Nat.zero_le _, hk2.1, ?_⟩
    rw [List.getElem?_eq_getElem hk2.2, List.getElem?_eq_getElem hi]
    have h' : l[k].toNat = l[i].toNat := by simpa using h
    simp [UInt8.toNat_inj.1 h']
  · rintro ⟨k, _, hk, h⟩
    have hkl : k < l.length := by omega
    refine ⟨l[k], List.mem_iff_getElem.2 ⟨k, by simp; omega, by simp⟩, ?_⟩
    rw [List.getElem?_eq_getElem hkl, List.getElem?_eq_getElem hi] at h
    have : l[i] = l[k] := by simpa using h
    simp [this]
theorem vidx_list {n i : Nat} (v : Vector UInt8 n) (h : i < n) : vidx v (i : Int) = some (v.toList.getD i 0) := by
  rw [vidx_cast, Vector.getElem?_eq_getElem h]
  simp [List.getD_eq_getElem?_getD, h]
theorem getD_toList {n i : Nat} (v : Vector UInt8 n) (h : i < n) : v.toList.getD i 0 = v.toList[i]'(by simpa using h) := by
  simp [List.getD_eq_getElem?_getD, h]
theorem vidx_seen (n : Nat) (f : Nat → Bool) (x : UInt8) (h : x.toNat < n) : vidx (vf n f) (bI x) = some (f x.toNat) := vidx_vf f h
theorem bI_toNat (x : UInt8) : (bI x).toNat = x.toNat := rfl
theorem seen_zero (n : Nat) (l : List UInt8) : Vector.replicate n false = vf n (seen l 0) := by rw [vf_rep]; rfl

theorem nodup_len : ∀ (k l : List Nat), k.Nodup → (∀ x ∈ k, x ∈ l) → k.length ≤ l.length
  | [], _, _, _ => by simp
  | x :: k, l, h, hs => by
    have hx := hs x (by simp)
    obtain ⟨h1, h2⟩ := List.nodup_cons.1 h
    have := nodup_len k (l.erase x) h2 (fun y hy => by
      have hne : y ≠ x := fun e => h1 (e ▸ hy)
      exact (List.mem_erase_of_ne hne).2 (hs y (by simp [hy])))
    rw [List.length_erase_of_mem hx] at this
    have hl : 0 < l.length := List.length_pos_of_mem hx
    simp only [List.length_cons]; omega
theorem dup_drop : ∀ (l : List Nat), ¬ l.Nodup → ∃ l' : List Nat, l'.length + 1 = l.length ∧ ∀ x ∈ l, x ∈ l'
  | [], h => absurd List.nodup_nil h
  | x :: l, h => by
    by_cases hx : x ∈ l
    · exact ⟨l, by simp, fun y hy => by rcases List.mem_cons.1 hy with rfl | hy; exact hx; exact hy⟩
    · have : ¬ l.Nodup := fun hn => h (List.nodup_cons.2 ⟨hx, hn⟩)
      obtain ⟨l', h1, h2⟩ := dup_drop l this
      exact ⟨x :: l', by simp [h1], fun y hy => by
        rcases List.mem_cons.1 hy with rfl | hy
        · simp
        · simp [h2 y hy]⟩
theorem perm_iff (l : List Nat) (n : Nat) (hl : l.length = n) (hb : ∀ x ∈ l, x < n) : l.Nodup ↔ ∀ b, b < n → b ∈ l := by
  constructor
  · intro h b hbn
    refine Classical.byContradiction fun hne => ?_
    have := nodup_len (b :: l) (List.range n) (List.nodup_cons.2 ⟨hne, h⟩) (fun x hx => by
      rcases List.mem_cons.1 hx with rfl | hx
      · simpa using hbn
      · simpa using hb x hx)
    simp at this; omega
  · intro h
    refine Classical.byContradiction fun hne => ?_
    obtain ⟨l', h1, h2⟩ := dup_drop l hne
    have := nodup_len (List.range n) l' List.nodup_range (fun x hx => h2 x (h x (by simpa using hx)))
    simp at this; omega
theorem nodup_toNat (l : List UInt8) : (l.map UInt8.toNat).Nodup ↔ l.Nodup := by
  unfold List.Nodup
  rw [List.pairwise_map]
  constructor <;> intro h <;> refine h.imp ?_
  · intro a b hab e; exact hab (by rw [e])
  · intro a b hab e; exact hab (UInt8.toNat_inj.1 e)

theorem v_l02Is (p : Vector UInt8 256) : F_spec_l02Is p = some (diffB p.toList) := by
  unfold F_spec_l02Is
  have hl : p.toList.length = 256 := by simp
  have := iter_find (f := L0_spec_l02Is p) (fun i : Nat => (vf 256 (seen p.toList i), (i : Int))) (fun i => seen p.toList i (p.toList.getD i 0).toNat) (fun _ => Fl.ex false) (e := Fl.nx ()) 256 256 0 rfl (fun i _ hi => by
    unfold L0_spec_l02Is
    have hd : decide ((i : Int) < 256) = true := by simp; omega
    have hx := vidx_list p hi
    have hs := vidx_seen 256 (seen p.toList i) (p.toList.getD i 0) (UInt8.toNat_lt _)
    simp only [hd, if_true, hx, Option.bind_some, hs]
    have e := seen_succ p.toList (i := i) (by simpa using hi)
    rw [← getD_toList p hi] at e
    cases seen p.toList i (p.toList.getD i 0).toNat
    · simp only [Bool.false_eq_true, if_false, Option.bind_some, bI_toNat, vf_set, e, wr_nat (show i < 9223372036854775807 by omega)]
    · rfl) (by unfold L0_spec_l02Is; simp)
  have h2 : iter (L0_spec_l02Is p) (vf 256 (seen p.toList 0), 0) = _ := this
  rw [seen_zero 256 p.toList, h2]
  have h3 := seen_any p.toList
  rw [hl] at h3
  cases hf : (List.range' 0 256).find? (fun i => seen p.toList i (p.toList.getD i 0).toNat) with
  | none =>
    have h4 : ((List.range' 0 (256 - 0)).any fun i => seen p.toList i (p.toList.getD i 0).toNat) = false := by rw [List.any_eq_false]; exact List.find?_eq_none.1 hf
    rw [h4] at h3
    have : diffB p.toList = true := by simpa using h3.symm
    rw [this]; rfl
  | some i =>
    have h4 : ((List.range' 0 (256 - 0)).any fun i => seen p.toList i (p.toList.getD i 0).toNat) = true := by rw [List.any_eq_true]; exact ⟨i, List.mem_of_find?_eq_some hf, List.find?_some (p := fun i => seen p.toList i (p.toList.getD i 0).toNat) hf⟩
    rw [h4] at h3
    have : diffB p.toList = false := by simpa using h3.symm
    rw [this]; rfl
theorem v_containsB (l : List Bool) (h : l.length < 9223372036854775807) (b : Bool) : F_slices_Contains_bool_bool l b = some (l.contains b) := by
  unfold F_slices_Contains_bool_bool F_slices_Index_bool_bool
  have := iter_search (f := L0_slices_Index_bool_bool l b) l.length (fun i => b == l.getD i false) (fun i => (i : Int)) h (fun i hi => by
    unfold L0_slices_Index_bool_bool
    have e0 : l.getD i false = l[i] := by simp [List.getD_eq_getElem?_getD, List.getElem?_eq_getElem hi]
    simp only [Int.ofNat_lt, hi, decide_true, if_true, idx_cast, List.getElem?_eq_getElem hi, Option.bind_some, e0]
    cases b == l[i] <;> rfl) (by unfold L0_slices_Index_bool_bool; simp) 0 (Nat.zero_le _)
  have h3 : iter (L0_slices_Index_bool_bool l b) 0 = _ := this
  rw [h3]
  cases hf : (List.range' 0 (l.length - 0)).find? (fun i => b == l.getD i false) with
  | none =>
    have : l.contains b = false := by
      rw [List.contains_eq_any_beq, List.any_eq_false]
      intro x hx
      obtain ⟨i, hi, rfl⟩ := List.mem_iff_getElem.1 hx
      have := List.find?_eq_none.1 hf i (List.mem_range'_1.2 (by omega))
      simpa [List.getD_eq_getElem?_getD, List.getElem?_eq_getElem hi] using this
    rw [this]; rfl
  | some i =>
    have hi := List.mem_range'_1.1 (List.mem_of_find?_eq_some hf)
    have hi' : i < l.length := by omega
    have h4 := List.find?_some hf
    have : l.contains b = true := by
      rw [List.contains_eq_any_beq, List.any_eq_true]
      exact ⟨l[i], List.getElem_mem hi', by simpa [List.getD_eq_getElem?_getD, List.getElem?_eq_getElem hi'] using h4⟩
    rw [this]
    simp [Fl.el]
theorem v_IsPermutation (p : Vector UInt8 256) : F_impl_IsPermutation p = some (diffB p.toList) := by
  unfold F_impl_IsPermutation
  have hl : p.toList.length = 256 := by simp
  have := iter_run (f := L0_impl_IsPermutation p) (fun i : Nat => (vf 256 (seen p.toList i), (i : Int))) 0 256 (by omega) (t := vf 256 (seen p.toList 256)) (fun i _ hi => by
    unfold L0_impl_IsPermutation
    have hd : decide ((i : Int) < 256) = true := by simp; omega
    have hx := vidx_list p hi
    have hs := vidx_seen 256 (seen p.toList i) (p.toList.getD i 0) (UInt8.toNat_lt _)
    have e := seen_succ p.toList (i := i) (by simpa using hi)
    rw [← getD_toList p hi] at e
    simp only [hd, if_true, hx, Option.bind_some, hs, bI_toNat, vf_set, e, wr_nat (show i < 9223372036854775807 by omega)]) (by unfold L0_impl_IsPermutation; simp)
  have h2 : iter (L0_impl_IsPermutation p) (vf 256 (seen p.toList 0), 0) = _ := this
  have e1 : slc (vf 256 (seen p.toList 256)).toList (0 : Int) (256 : Int) = some (vf 256 (seen p.toList 256)).toList := by
    have := slc_ok (l := (vf 256 (seen p.toList 256)).toList) (i := 0) (j := 256) (by omega) (by simp)
    simp only [List.drop_zero] at this
    rw [List.take_of_length_le (by simp)] at this
    exact this
  rw [seen_zero 256 p.toList, h2]
  have hlt : (vf 256 (seen p.toList 256)).toList.length < 9223372036854775807 := by rw [Vector.length_toList]; omega
  rw [Option.bind_some, e1, Option.bind_some, v_containsB _ hlt, Option.bind_some]
  refine congrArg some ?_
  rw [Bool.eq_iff_iff]
  have hp := perm_iff (p.toList.map UInt8.toNat) 256 (by simp) (fun x hx => by obtain ⟨y, _, rfl⟩ := List.mem_map.1 hx; exact UInt8.toNat_lt y)
  rw [nodup_toNat] at hp
  unfold diffB
  rw [decide_eq_true_iff, hp, Bool.not_eq_true', List.contains_eq_any_beq, List.any_eq_false]
  have hseen : ∀ b, seen p.toList 256 b = true ↔ b ∈ p.toList.map UInt8.toNat := fun b => by
    unfold seen
    rw [List.take_of_length_le (by omega), List.any_eq_true, List.mem_map]
    refine exists_congr fun x => and_congr_right fun _ => ?_
    exact beq_iff_eq
  constructor
  · intro h b hb
    rw [← hseen]
    have e : (vf 256 (seen p.toList 256)).toList[b]? = some (seen p.toList 256 b) := by rw [Vector.getElem?_toList]; exact vf_getq _ hb
    have := h _ (List.mem_of_getElem? e)
    generalize seen p.toList 256 b = q at this
    cases q
    · exact absurd rfl this
    · rfl
  · intro h x hx
    obtain ⟨b, hb⟩ := List.mem_iff_getElem?.1 hx
    have hb' : b < 256 := by have := (List.getElem?_eq_some_iff.1 hb).1; rwa [Vector.length_toList] at this
    rw [Vector.getElem?_toList, vf_getq _ hb', (hseen b).2 (h b hb')] at hb
    cases hb
    decide

def placesB (p : Vector UInt8 16) : Bool := p.toList.all (fun x => decide (x < 16)) && diffB p.toList
def farAt (l : List UInt8) (i : Nat) : Bool := decide (16 ≤ (l.getD i 0).toNat)
theorem v_ArePlaces (p : Vector UInt8 16) : F_impl_ArePlaces p = some (placesB p) := by
  unfold F_impl_ArePlaces
  have hl : p.toList.length = 16 := by simp
  have := iter_has (f := L0_impl_ArePlaces p) 16 (farAt p.toList) false (by omega) (fun i hi => by
    unfold L0_impl_ArePlaces
    have hd : decide ((i : Int) < 16) = true := by simp; omega
    have hx := vidx_list p hi
    simp only [hd, if_true, hx, Option.bind_some]
    unfold farAt
    have : (p.toList.getD i 0 > 15) ↔ (16 ≤ (p.toList.getD i 0).toNat) := by rw [gt_iff_lt, UInt8.lt_iff_toNat_lt]; exact Iff.rfl
    simp only [this]
    split <;> rfl) (by unfold L0_impl_ArePlaces; simp) 0 (by omega)
  have h2 : iter (L0_impl_ArePlaces p) 0 = _ := this
  have e1 : slc p.toList (0 : Int) (16 : Int) = some p.toList := by
    have := slc_ok (l := p.toList) (i := 0) (j := 16) (by omega) (by simp)
    simp only [List.drop_zero] at this
    rw [List.take_of_length_le (by simp)] at this
    exact this
  have key : ((List.range' 0 (16 - 0)).any (farAt p.toList)) = !(p.toList.all fun x => decide (x < 16)) := by
    rw [Bool.eq_iff_iff, any_range, Bool.not_eq_true', List.all_eq_false]
    constructor
    · rintro ⟨i, _, hi, h⟩
      refine ⟨p.toList[i], List.getElem_mem _, ?_⟩
      unfold farAt at h
      rw [getD_toList p hi] at h
      simp only [decide_eq_true_eq, UInt8.lt_iff_toNat_lt] at h ⊢
      have : (16 : UInt8).toNat = 16 := rfl
      omega
    · rintro ⟨x, hx, h⟩
      obtain ⟨i, hi, rfl⟩ := List.mem_iff_getElem.1 hx
      have hi' : i < 16 := by simpa using hi
      refine ⟨i, Nat.zero_le _, hi', ?_⟩
      unfold farAt
      rw [getD_toList p hi']
      simp only [decide_eq_true_eq, UInt8.lt_iff_toNat_lt] at h ⊢
      have : (16 : UInt8).toNat = 16 := rfl
      omega
  rw [h2, key]
  unfold placesB
  cases p.toList.all fun x => decide (x < 16)
  · rfl
  · simp [Fl.el, e1, v_areDifferent p.toList (by omega)]
theorem far_any (p : Vector UInt8 16) : ((List.range' 0 (16 - 0)).any (farAt p.toList)) = !(p.toList.all fun x => decide (x < 16)) := by
  rw [Bool.eq_iff_iff, any_range, Bool.not_eq_true', List.all_eq_false]
  have h16 : (16 : UInt8).toNat = 16 := rfl
  have hl : p.toList.length = 16 := by simp
  constructor
  · rintro ⟨i, _, hi, h⟩
    refine ⟨p.toList[i], List.getElem_mem _, ?_⟩
    unfold farAt at h
    rw [getD_toList p hi] at h
    simp only [decide_eq_true_eq, UInt8.lt_iff_toNat_lt] at h ⊢
    omega
  · rintro ⟨x, hx, h⟩
    obtain ⟨i, hi, rfl⟩ := List.mem_iff_getElem.1 hx
    have hi' : i < 16 := by simpa using hi
    refine ⟨i, Nat.zero_le _, hi', ?_⟩
    unfold farAt
    rw [getD_toList p hi']
    simp only [decide_eq_true_eq, UInt8.lt_iff_toNat_lt] at h ⊢
    omega
theorem v_l03Perm (p : Vector UInt8 16) : F_spec_l03Perm p = some (placesB p) := by
  unfold F_spec_l03Perm
  have hl : p.toList.length = 16 := by simp
  have h16 : (16 : UInt8).toNat = 16 := rfl
  have := iter_find (f := L0_spec_l03Perm p) (fun i : Nat => (vf 16 (seen p.toList i), (i : Int))) (fun i => farAt p.toList i || seen p.toList i (p.toList.getD i 0).toNat) (fun _ => Fl.ex false) (e := Fl.nx ()) 16 16 0 rfl (fun i _ hi => by
    unfold L0_spec_l03Perm
    have hd : decide ((i : Int) < 16) = true := by simp; omega
    have hx := vidx_list p hi
    simp only [hd, if_true, hx, Option.bind_some]
    unfold farAt
    by_cases hf : 16 ≤ (p.toList.getD i 0).toNat
    · have h1 : p.toList.getD i 0 ≥ 16 := by rw [ge_iff_le, UInt8.le_iff_toNat_le]; omega
      simp only [h1, decide_true, if_true, hf, Bool.true_or, Option.bind_some]
    · have h1 : ¬ p.toList.getD i 0 ≥ 16 := by rw [ge_iff_le, UInt8.le_iff_toNat_le]; omega
      have hs := vidx_seen 16 (seen p.toList i) (p.toList.getD i 0) (by omega)
      have e := seen_succ p.toList (i := i) (by simpa using hi)
      rw [← getD_toList p hi] at e
      simp only [h1, decide_false, Bool.false_eq_true, if_false, hf, Bool.false_or, Option.bind_some, hs]
      cases seen p.toList i (p.toList.getD i 0).toNat
      · simp only [Bool.false_eq_true, if_false, Option.bind_some, bI_toNat, vf_set, e, wr_nat (show i < 9223372036854775807 by omega)]
      · rfl) (by unfold L0_spec_l03Perm; simp)
  have h2 : iter (L0_spec_l03Perm p) (vf 16 (seen p.toList 0), 0) = _ := this
  rw [seen_zero 16 p.toList, h2]
  have h3 := seen_any p.toList
  rw [hl] at h3
  have h5 : ((List.range' 0 (16 - 0)).any fun i => farAt p.toList i || seen p.toList i (p.toList.getD i 0).toNat) = !placesB p := by
    have e : ((List.range' 0 (16 - 0)).any fun i => farAt p.toList i || seen p.toList i (p.toList.getD i 0).toNat) = ((List.range' 0 (16 - 0)).any (farAt p.toList) || (List.range' 0 (16 - 0)).any fun i => seen p.toList i (p.toList.getD i 0).toNat) := by
      induction List.range' 0 (16 - 0) with
      | nil => rfl
      | cons x l ih => simp only [List.any_cons, ih]; cases farAt p.toList x <;> cases l.any (farAt p.toList) <;> simp
    rw [e, far_any, h3]
    unfold placesB
    cases (p.toList.all fun x => decide (x < 16)) <;> cases diffB p.toList <;> rfl
  cases hf : (List.range' 0 16).find? (fun i => farAt p.toList i || seen p.toList i (p.toList.getD i 0).toNat) with
  | none =>
    have h4 : ((List.range' 0 (16 - 0)).any fun i => farAt p.toList i || seen p.toList i (p.toList.getD i 0).toNat) = false := by rw [List.any_eq_false]; exact List.find?_eq_none.1 hf
    rw [h4] at h5
    have : placesB p = true := by simpa using h5.symm
    rw [this]; rfl
  | some i =>
    have h4 : ((List.range' 0 (16 - 0)).any fun i => farAt p.toList i || seen p.toList i (p.toList.getD i 0).toNat) = true := by rw [List.any_eq_true]; exact ⟨i, List.mem_of_find?_eq_some hf, List.find?_some (p := fun i => farAt p.toList i || seen p.toList i (p.toList.getD i 0).toNat) hf⟩
    rw [h4] at h5
    have : placesB p = false := by simpa using h5.symm
    rw [this]; rfl

def mfOf (a : Mat) : MF := fun i j => (a[i]?.getD default)[j]?.getD default
theorem mf_mfOf (a : Mat) : a = mf (mfOf a) := calc a = vf 4 (fun i => a[i]?.getD default) := vf_of a
    _ = _ := vf_ext fun i _ => vf_of _
def detC (m : Nat) (a : Mat) : UInt8 := (invertC m (mfOf a)).1
def invM (m : Nat) (a : Mat) : Mat := (invertC m (mfOf a)).2
def isCipherB (c : GCipher) : Bool := isFieldB c.Field && diffB c.Box.toList && placesB c.Places && decide (1 ≤ c.Rounds ∧ c.Rounds ≤ 20) && (detC c.Field.toNat c.Mix != 0)
theorem v_invert (m : Nat) (hm : m < 512) (hm2 : 256 ≤ m) (a : Mat) : F_impl_field_invert (m : Int) a = some (detC m a, invM m a) := by
  have := v_field_invert m hm hm2 (mfOf a)
  rw [← mf_mfOf] at this
  exact this
theorem v_l03Inverse (m : Nat) (hm : m < 512) (hm2 : 256 ≤ m) (a : Mat) : F_spec_l03Inverse (m : Int) a = some (invM m a, detC m a != 0) := by
  have := v_l03Reduce m hm hm2 (mfOf a)
  rw [← mf_mfOf] at this
  unfold F_spec_l03Inverse
  rw [this]; rfl
theorem v_IsCipher (c : GCipher) : F_impl_IsCipher c = some (isCipherB c) := by
  unfold F_impl_IsCipher isCipherB F_impl_isInvertible
  rw [v_IsField]
  cases hf : isFieldB c.Field
  · rfl
  · obtain ⟨m, hm, h1, h2⟩ := field_range hf
    simp only [hm, Option.bind_some, if_true, v_IsPermutation, v_invert m h2 h1, v_ArePlaces, v_inRange, Int.toNat_natCast]
    cases diffB c.Box.toList <;> cases (detC m c.Mix != 0) <;> cases placesB c.Places <;> simp
theorem v_l04Is (c : GCipher) : F_spec_l04Is c = some (isCipherB c) := by
  unfold F_spec_l04Is isCipherB
  rw [v_l01Field]
  cases hf : isFieldB c.Field
  · rfl
  · obtain ⟨m, hm, h1, h2⟩ := field_range hf
    simp only [hm, Option.bind_some, Bool.not_true, Bool.false_eq_true, if_false, v_l02Is, v_l03Perm, v_l01In, v_l03Inverse m h2 h1, Int.toNat_natCast]
    cases diffB c.Box.toList <;> cases (detC m c.Mix != 0) <;> cases placesB c.Places <;> cases decide (1 ≤ c.Rounds ∧ c.Rounds ≤ 20) <;> simp
theorem cipher_field {c : GCipher} (h : isCipherB c = true) : ∃ m : Nat, c.Field = m ∧ 256 ≤ m ∧ m < 512 := by
  unfold isCipherB at h
  simp only [Bool.and_eq_true] at h
  exact field_range h.1.1.1.1
/-- A loop that sets one byte after the other, from m on. -/
theorem fill_loop {n : Nat} (L : Vector UInt8 n × Int → Option (Fl (Vector UInt8 n × Int) (Vector UInt8 n))) (f h : Nat → UInt8) (hn : n < 9223372036854775807) (m : Nat) (hm : m ≤ n) (h0 : ∀ j, j < m → h j = f j)
    (hL : ∀ i, m ≤ i → i < n → ∀ a : Nat → UInt8, (∀ j, j < i → a j = h j) → (∀ j, i ≤ j → a j = f j) → L (vf n a, (i : Int)) = some (.nx ((vf n a).setIfInBounds i (h i), wr ((i : Int) + 1))))
    (he : ∀ v, L (v, (n : Int)) = some (.ex v)) : iter L (vf n f, (m : Int)) = some (vf n h) := by
  have k1 : (vf n fun j => if j < n then h j else f j) = vf n h := vf_ext fun j hj => by rw [if_pos hj]
  have k0 : (vf n fun j => if j < m then h j else f j) = vf n f := vf_ext fun j hj => by
    by_cases h1 : j < m
    · rw [if_pos h1, h0 j h1]
    · rw [if_neg h1]
  have := iter_run (f := L) (fun i : Nat => (vf n fun j => if j < i then h j else f j, (i : Int))) m n hm (t := vf n h) (fun i hmi hi => by
    rw [hL i hmi hi _ (fun j hj => by rw [if_pos hj]) (fun j hj => by rw [if_neg (by omega)]), vf_set, wr_nat (show i < 9223372036854775807 by omega)]
    refine congrArg (fun z => some (Fl.nx (z, ((i + 1 : Nat) : Int)))) (vf_ext fun j hj => ?_)
    by_cases h1 : j = i
    · subst h1; simp
    · by_cases h2 : j < i
      · rw [if_neg h1, if_pos h2, if_pos (by omega)]
      · rw [if_neg h1, if_neg h2, if_neg (by omega)]) (by
    simp only [k1]
    exact he _)
  simp only [k0] at this
  exact this
def at256 (b : Vector UInt8 256) (x : UInt8) : UInt8 := b[x.toNat]'(UInt8.toNat_lt x)
theorem vidx_at (b : Vector UInt8 256) (x : UInt8) : vidx b (bI x) = some (at256 b x) := by
  have : vidx b ((x.toNat : Nat) : Int) = _ := vidx_cast b x.toNat
  rw [Vector.getElem?_eq_getElem (UInt8.toNat_lt x)] at this
  exact this
abbrev Blk := Vector UInt8 16
def bf (v : Blk) (i : Nat) : UInt8 := v[i]?.getD default
theorem vf_bf (v : Blk) : v = vf 16 (bf v) := vf_of v
theorem lt16 {i : Nat} (h : i < 16) : decide ((i : Int) < 16) = true := by simp; omega
def xorF (f g : Nat → UInt8) : Nat → UInt8 := fun i => f i ^^^ g i
theorem v_l01Xor (f g : Nat → UInt8) : F_spec_l01Xor (vf 16 f) (vf 16 g) = some (vf 16 (xorF f g)) := by
  unfold F_spec_l01Xor
  have := fill_loop (L0_spec_l01Xor (vf 16 g)) f (xorF f g) (by omega) 0 (by omega) (fun j hj => by omega) (fun i _ hi a _ ha => by
    unfold L0_spec_l01Xor
    simp only [lt16 hi, if_true, vidx_vf _ hi, Option.bind_some, Int.toNat_natCast, ha i (Nat.le_refl _), xorF]) (fun v => by unfold L0_spec_l01Xor; simp)
  have h2 : iter (L0_spec_l01Xor (vf 16 g)) (vf 16 f, 0) = _ := this
  rw [h2]; rfl
theorem v_XorBlocks (f g : Nat → UInt8) : F_impl_XorBlocks (vf 16 f) (vf 16 g) = some (vf 16 (xorF f g)) := by
  unfold F_impl_XorBlocks
  have := fill_loop (L0_impl_XorBlocks (vf 16 g)) f (xorF f g) (by omega) 0 (by omega) (fun j hj => by omega) (fun i _ hi a _ ha => by
    unfold L0_impl_XorBlocks
    simp only [lt16 hi, if_true, vidx_vf _ hi, Option.bind_some, Int.toNat_natCast, ha i (Nat.le_refl _), xorF]) (fun v => by unfold L0_impl_XorBlocks; simp)
  have h2 : iter (L0_impl_XorBlocks (vf 16 g)) (vf 16 f, 0) = _ := this
  rw [h2]; rfl
def boxF (b : Vector UInt8 256) (f : Nat → UInt8) : Nat → UInt8 := fun i => at256 b (f i)
theorem v_l04Boxes (b : Vector UInt8 256) (f : Nat → UInt8) : F_spec_l04Boxes b (vf 16 f) = some (vf 16 (boxF b f)) := by
  unfold F_spec_l04Boxes
  have := fill_loop (L0_spec_l04Boxes b) f (boxF b f) (by omega) 0 (by omega) (fun j hj => by omega) (fun i _ hi a _ ha => by
    unfold L0_spec_l04Boxes
    simp only [lt16 hi, if_true, vidx_vf _ hi, Option.bind_some, Int.toNat_natCast, ha i (Nat.le_refl _), vidx_at, boxF]) (fun v => by unfold L0_spec_l04Boxes; simp)
  have h2 : iter (L0_spec_l04Boxes b) (vf 16 f, 0) = _ := this
  rw [h2]; rfl
/-- Places of a permutation of 16. -/
def moveF (p : Blk) (f : Nat → UInt8) : Nat → UInt8 := fun i => f (bf p i).toNat
theorem places_lt {p : Blk} (h : placesB p = true) {i : Nat} (hi : i < 16) : (bf p i).toNat < 16 := by
  unfold placesB at h
  simp only [Bool.and_eq_true, List.all_eq_true, decide_eq_true_eq] at h
  have e : bf p i = p[i] := by unfold bf; rw [Vector.getElem?_eq_getElem hi]; rfl
  have := h.1 p[i] (by simp)
  rw [UInt8.lt_iff_toNat_lt] at this
  rw [e]; exact this
theorem vidx_bf (p : Blk) {i : Nat} (h : i < 16) : vidx p (i : Int) = some (bf p i) := by
  rw [vidx_cast]; unfold bf; rw [Vector.getElem?_eq_getElem h]; rfl
theorem vidx_b16 (f : Nat → UInt8) {x : UInt8} (h : x.toNat < 16) : vidx (vf 16 f) (bI x) = some (f x.toNat) := vidx_vf f h
theorem v_l03Move (p : Blk) (hp : placesB p = true) (f : Nat → UInt8) : F_spec_l03Move p (vf 16 f) = some (vf 16 (moveF p f)) := by
  unfold F_spec_l03Move
  have := fill_loop (L0_spec_l03Move p (vf 16 f)) (fun _ => 0) (moveF p f) (by omega) 0 (by omega) (fun j hj => by omega) (fun i _ hi a _ ha => by
    unfold L0_spec_l03Move
    simp only [lt16 hi, if_true, vidx_vf _ hi, vidx_bf _ hi, Option.bind_some, Int.toNat_natCast, vidx_b16 f (places_lt hp hi), moveF]) (fun v => by unfold L0_spec_l03Move; simp)
  have h2 : iter (L0_spec_l03Move p (vf 16 f)) (vf 16 (fun _ => 0), 0) = _ := this
  rw [vf_rep 16 (0 : UInt8), h2]; rfl
theorem v_move (p : Blk) (hp : placesB p = true) (f : Nat → UInt8) : F_impl_Places_move p (vf 16 f) = some (vf 16 (moveF p f)) := by
  unfold F_impl_Places_move
  have := fill_loop (L0_impl_Places_move p (vf 16 f)) (fun _ => 0) (moveF p f) (by omega) 0 (by omega) (fun j hj => by omega) (fun i _ hi a _ ha => by
    unfold L0_impl_Places_move
    simp only [lt16 hi, if_true, vidx_vf _ hi, vidx_bf _ hi, Option.bind_some, Int.toNat_natCast, vidx_b16 f (places_lt hp hi), moveF]) (fun v => by unfold L0_impl_Places_move; simp)
  have h2 : iter (L0_impl_Places_move p (vf 16 f)) (vf 16 (fun _ => 0), 0) = _ := this
  rw [vf_rep 16 (0 : UInt8), h2]; rfl

def nextF (b : Vector UInt8 256) (f : Nat → UInt8) (r : Int) : Nat → UInt8
  | 0 => f 0 ^^^ at256 b (f 15 ^^^ byteI r)
  | i + 1 => f (i + 1) ^^^ at256 b (nextF b f r i)
theorem v_l04Next (b : Vector UInt8 256) (f : Nat → UInt8) (r : Int) : F_spec_l04Next b (vf 16 f) r = some (vf 16 (nextF b f r)) := by
  unfold F_spec_l04Next
  have := fill_loop (L0_spec_l04Next b r) f (nextF b f r) (by omega) 0 (by omega) (fun j hj => by omega) (fun i _ hi a hb ha => by
    unfold L0_spec_l04Next
    cases i with
    | zero =>
      have e1 : Int.tmod (wr (((0 : Nat) : Int) + 15)) 16 = ((15 : Nat) : Int) := by decide
      simp only [e1, lt16 hi, if_true, vidx_vf a (show 15 < 16 by omega), Option.bind_some]
      have e2 : (((0 : Nat) : Int) == 0) = true := rfl
      simp only [e2, if_true, Option.bind_some, vidx_at, vidx_vf a hi, Int.toNat_natCast, ha 0 (by omega), ha 15 (by omega), nextF]
    | succ i =>
      have e1 : Int.tmod (wr (((i + 1 : Nat) : Int) + 15)) 16 = ((i : Nat) : Int) := by
        rw [wr_id (by omega)]
        have : (((i + 1 : Nat) : Int) + 15) = ((i + 16 : Nat) : Int) := by omega
        rw [this]
        have : Int.tmod ((i + 16 : Nat) : Int) 16 = (((i + 16) % 16 : Nat) : Int) := rfl
        rw [this]
        omega
      have e2 : (((i + 1 : Nat) : Int) == 0) = false := by have : ((i + 1 : Nat) : Int) ≠ 0 := by omega
                                                           simpa using this
      simp only [e1, e2, lt16 hi, if_true, vidx_vf a (show i < 16 by omega), Option.bind_some, Bool.false_eq_true, if_false, vidx_at, vidx_vf a hi, Int.toNat_natCast, ha (i + 1) (Nat.le_refl _), hb i (by omega), nextF]) (fun v => by unfold L0_spec_l04Next; simp)
  have h2 : iter (L0_spec_l04Next b r) (vf 16 f, 0) = _ := this
  rw [h2]; rfl
theorem v_nextKey (e : Ref Gengine) (f : Nat → UInt8) (r : Int) : F_impl_engine_nextKey e (vf 16 f) r = some (vf 16 (nextF e.v.box f r)) := by
  unfold F_impl_engine_nextKey
  have x0 : vidx (vf 16 f) (0 : Int) = some (f 0) := vidx_vf f (show 0 < 16 by omega)
  have x15 : vidx (vf 16 f) (15 : Int) = some (f 15) := vidx_vf f (show 15 < 16 by omega)
  have z : (0 : Int).toNat = 0 := rfl
  simp only [x0, x15, Option.bind_some, vidx_at, z, vf_set]
  have := fill_loop (L0_impl_engine_nextKey e) (fun i => if i = 0 then f 0 ^^^ at256 e.v.box (f 15 ^^^ byteI r) else f i) (nextF e.v.box f r) (by omega) 1 (by omega) (fun j hj => by
    have : j = 0 := by omega
    subst this; simp [nextF]) (fun i h1 hi a hb ha => by
    unfold L0_impl_engine_nextKey
    obtain ⟨i, rfl⟩ : ∃ k, i = k + 1 := ⟨i - 1, by omega⟩
    have e1 : wr (((i + 1 : Nat) : Int) - 1) = ((i : Nat) : Int) := by rw [wr_id (by omega)]; omega
    simp only [e1, lt16 hi, if_true, vidx_vf a (show i < 16 by omega), vidx_vf a hi, Option.bind_some, vidx_at, Int.toNat_natCast, ha (i + 1) (Nat.le_refl _), hb i (by omega), nextF]
    simp) (fun v => by unfold L0_impl_engine_nextKey; simp)
  have h2 : iter (L0_impl_engine_nextKey e) (vf 16 (fun i => if i = 0 then f 0 ^^^ at256 e.v.box (f 15 ^^^ byteI r) else f i), 1) = _ := this
  rw [h2]; rfl
def keyN (b : Vector UInt8 256) (k : Nat → UInt8) : Nat → Nat → UInt8
  | 0 => k
  | r + 1 => nextF b (keyN b k r) ((r + 1 : Nat) : Int)
def keysC (b : Vector UInt8 256) (k : Nat → UInt8) (n : Nat) : List Blk := (List.range (n + 1)).map fun r => vf 16 (keyN b k r)
theorem keys_succ (b : Vector UInt8 256) (k : Nat → UInt8) (n : Nat) : keysC b k (n + 1) = keysC b k n ++ [vf 16 (nextF b (keyN b k n) ((n + 1 : Nat) : Int))] := by
  unfold keysC
  rw [List.range_succ, List.map_append]; rfl
theorem keys_len (b : Vector UInt8 256) (k : Nat → UInt8) (n : Nat) : (keysC b k n).length = n + 1 := by simp [keysC]
theorem keys_idx (b : Vector UInt8 256) (k : Nat → UInt8) {n r : Nat} (h : r ≤ n) : idx (keysC b k n) (r : Int) = some (vf 16 (keyN b k r)) := by
  rw [idx_cast]; unfold keysC; rw [List.getElem?_map, List.getElem?_range (by omega)]; rfl
theorem v_l04Keys (c : GCipher) (k : Nat → UInt8) (n : Nat) (hn : n ≤ 1000) : F_spec_l04Keys c (vf 16 k) (n : Int) = some (keysC c.Box k n) := by
  unfold F_spec_l04Keys
  have := iter_run (f := L0_spec_l04Keys c (n : Int)) (fun i : Nat => (vf 16 (keyN c.Box k (i - 1)), keysC c.Box k (i - 1), (i : Int))) 1 (n + 1) (by omega) (t := keysC c.Box k n) (fun i h1 hi => by
    unfold L0_spec_l04Keys
    obtain ⟨i, rfl⟩ : ∃ q, i = q + 1 := ⟨i - 1, by omega⟩
    have e1 : decide (((i + 1 : Nat) : Int) ≤ (n : Int)) = true := by simp; omega
    have e2 : app 16 (keysC c.Box k i) [vf 16 (nextF c.Box (keyN c.Box k i) ((i + 1 : Nat) : Int))] = _ := app_ok (by rw [keys_len]; simp; omega)
    simp only [Nat.add_sub_cancel, e1, if_true, v_l04Next, Option.bind_some, e2, wr_nat (show i + 1 < 9223372036854775807 by omega), keys_succ]
    rfl) (by
    unfold L0_spec_l04Keys
    have e1 : decide (((n + 1 : Nat) : Int) ≤ (n : Int)) = false := by simp; omega
    simp only [e1, Bool.false_eq_true, if_false, Nat.add_sub_cancel])
  have h2 : iter (L0_spec_l04Keys c (n : Int)) (vf 16 k, [vf 16 k], 1) = _ := this
  rw [h2]; rfl
theorem v_keys (e : Ref Gengine) (k : Nat → UInt8) (n : Nat) (hn : n ≤ 1000) : F_impl_engine_keys e (vf 16 k) (n : Int) = some (keysC e.v.box k n) := by
  unfold F_impl_engine_keys
  have := iter_run (f := L0_impl_engine_keys e (n : Int)) (fun i : Nat => (vf 16 (keyN e.v.box k (i - 1)), keysC e.v.box k (i - 1), (i : Int))) 1 (n + 1) (by omega) (t := keysC e.v.box k n) (fun i h1 hi => by
    unfold L0_impl_engine_keys
    obtain ⟨i, rfl⟩ : ∃ q, i = q + 1 := ⟨i - 1, by omega⟩
    have e1 : decide (((i + 1 : Nat) : Int) ≤ (n : Int)) = true := by simp; omega
    have e2 : app 16 (keysC e.v.box k i) [vf 16 (nextF e.v.box (keyN e.v.box k i) ((i + 1 : Nat) : Int))] = _ := app_ok (by rw [keys_len]; simp; omega)
    simp only [Nat.add_sub_cancel, e1, if_true, v_nextKey, Option.bind_some, e2, wr_nat (show i + 1 < 9223372036854775807 by omega), keys_succ]
    rfl) (by
    unfold L0_impl_engine_keys
    have e1 : decide (((n + 1 : Nat) : Int) ≤ (n : Int)) = false := by simp; omega
    simp only [e1, Bool.false_eq_true, if_false, Nat.add_sub_cancel])
  have h2 : iter (L0_impl_engine_keys e (n : Int)) (vf 16 k, [vf 16 k], 1) = _ := this
  rw [h2]; rfl

/-- Row r of a matrix times a column that starts at c. -/
def rowF (m : Nat) (a : MF) (f : Nat → UInt8) (c r : Nat) : UInt8 := ((timesC m (a r 0) (f c) ^^^ timesC m (a r 1) (f (c + 1))) ^^^ timesC m (a r 2) (f (c + 2))) ^^^ timesC m (a r 3) (f (c + 3))
def mixF (m : Nat) (a : MF) (f : Nat → UInt8) : Nat → UInt8 := fun i => rowF m a f (i / 4 * 4) (i % 4)
theorem set_set (f : Nat → UInt8) (k : Nat) (x y : UInt8) : (fun i => if i = k then y else if i = k then x else f i) = fun i => if i = k then y else f i := by
  funext i; by_cases h : i = k <;> simp [h]
theorem wr_at {c r : Nat} (hc : c < 4) (hr : r < 4) : wr (wr (4 * (c : Int)) + (r : Int)) = ((c * 4 + r : Nat) : Int) := by
  rw [wr_id (x := 4 * (c : Int)) (by omega), wr_id (by omega)]; omega
theorem mix_row (m : Nat) (hm : m < 512) (hm2 : 256 ≤ m) (a : MF) (f g : Nat → UInt8) (c r : Nat) (hc : c < 4) (hr : r < 4) (s1 s2 : Blk × Int) (h1 : s1.2 = (c : Int)) (h2 : s2.2 = (r : Int)) (hg : g (c * 4 + r) = 0) :
    iter (L2_spec_l03Mix (m : Int) (mf a) (vf 16 f) s1 s2) (vf 16 g, 0) = some (vf 16 fun i => if i = c * 4 + r then rowF m a f (c * 4) r else g i) := by
  have hcr : c * 4 + r < 16 := by omega
  have step : ∀ (j : Nat) (h : Nat → UInt8), j < 4 → L2_spec_l03Mix (m : Int) (mf a) (vf 16 f) s1 s2 (vf 16 h, (j : Int)) = some (.nx (vf 16 (fun i => if i = c * 4 + r then h (c * 4 + r) ^^^ timesC m (a r j) (f (c * 4 + j)) else h i), ((j + 1 : Nat) : Int))) := fun j h hj => by
    unfold L2_spec_l03Mix
    simp only [h1, h2, lt4 hj, if_true, wr_at hc hr, wr_at hc hj, vidx_vf _ hcr, vidx_mf _ hr, vidx_vf _ hj, vidx_vf f (show c * 4 + j < 16 by omega), Option.bind_some, v_l01Times m hm hm2, Int.toNat_natCast, vf_set, wr4 (show j < 1000 by omega)]
  have e0 := step 0 g (by omega)
  have e1 := step 1 (fun i => if i = c * 4 + r then g (c * 4 + r) ^^^ timesC m (a r 0) (f (c * 4 + 0)) else g i) (by omega)
  have e2 := step 2 (fun i => if i = c * 4 + r then (g (c * 4 + r) ^^^ timesC m (a r 0) (f (c * 4 + 0))) ^^^ timesC m (a r 1) (f (c * 4 + 1)) else g i) (by omega)
  have e3 := step 3 (fun i => if i = c * 4 + r then ((g (c * 4 + r) ^^^ timesC m (a r 0) (f (c * 4 + 0))) ^^^ timesC m (a r 1) (f (c * 4 + 1))) ^^^ timesC m (a r 2) (f (c * 4 + 2)) else g i) (by omega)
  have e4 : ∀ v : Blk, L2_spec_l03Mix (m : Int) (mf a) (vf 16 f) s1 s2 (v, ((4 : Nat) : Int)) = some (.ex v) := fun v => by unfold L2_spec_l03Mix; simp
  simp only [if_true, set_set] at e1 e2 e3
  have e0' : L2_spec_l03Mix (m : Int) (mf a) (vf 16 f) s1 s2 (vf 16 g, 0) = _ := e0
  rw [iter_nx e0', iter_nx e1, iter_nx e2, iter_nx e3, iter_ex (e4 _)]
  refine congrArg some (vf_ext fun i _ => ?_)
  by_cases h : i = c * 4 + r
  · simp [h, hg, rowF]
  · simp [h]
theorem v_l03Mix (m : Nat) (hm : m < 512) (hm2 : 256 ≤ m) (a : MF) (f : Nat → UInt8) : F_spec_l03Mix (m : Int) (mf a) (vf 16 f) = some (vf 16 (mixF m a f)) := by
  unfold F_spec_l03Mix
  -- after c columns and r rows of the next
  have inner : ∀ c : Nat, c < 4 → ∀ s1 : Blk × Int, s1.2 = (c : Int) → iter (L1_spec_l03Mix (m : Int) (mf a) (vf 16 f) s1) (vf 16 (fun i => if i < c * 4 then mixF m a f i else 0), 0) = some (vf 16 fun i => if i < (c + 1) * 4 then mixF m a f i else 0) := fun c hc s1 h1 => by
    have k1 : (vf 16 fun i => if i < c * 4 + 4 then mixF m a f i else 0) = vf 16 fun i => if i < (c + 1) * 4 then mixF m a f i else 0 := by rw [show c * 4 + 4 = (c + 1) * 4 by omega]
    have := iter_run (f := L1_spec_l03Mix (m : Int) (mf a) (vf 16 f) s1) (fun r : Nat => (vf 16 fun i => if i < c * 4 + r then mixF m a f i else 0, (r : Int))) 0 4 (by omega) (t := vf 16 fun i => if i < (c + 1) * 4 then mixF m a f i else 0) (fun r _ hr => by
      unfold L1_spec_l03Mix
      have h2 := mix_row m hm hm2 a f (fun i => if i < c * 4 + r then mixF m a f i else 0) c r hc hr s1 (vf 16 fun i => if i < c * 4 + r then mixF m a f i else 0, (r : Int)) h1 rfl (by simp)
      simp only [lt4 hr, if_true, h2, Option.bind_some, wr4 (show r < 1000 by omega)]
      refine congrArg (fun z => some (Fl.nx (z, ((r + 1 : Nat) : Int)))) (vf_ext fun i _ => ?_)
      by_cases h : i = c * 4 + r
      · subst h
        have q1 : (c * 4 + r) / 4 = c := by omega
        have q2 : (c * 4 + r) % 4 = r := by omega
        rw [if_pos rfl, if_pos (by omega)]
        unfold mixF; rw [q1, q2]
      · by_cases h3 : i < c * 4 + r
        · rw [if_neg h, if_pos h3, if_pos (by omega)]
        · rw [if_neg h, if_neg h3, if_neg (by omega)]) (by
      unfold L1_spec_l03Mix
      simp only [k1]
      simp)
    exact this
  have := iter_run (f := L0_spec_l03Mix (m : Int) (mf a) (vf 16 f)) (fun c : Nat => (vf 16 fun i => if i < c * 4 then mixF m a f i else 0, (c : Int))) 0 4 (by omega) (t := vf 16 (mixF m a f)) (fun c _ hc => by
    unfold L0_spec_l03Mix
    have h2 := inner c hc (vf 16 fun i => if i < c * 4 then mixF m a f i else 0, (c : Int)) rfl
    simp only [lt4 hc, if_true, h2, Option.bind_some, wr4 (show c < 1000 by omega)]) (by
    unfold L0_spec_l03Mix
    have : (vf 16 fun i => if i < 4 * 4 then mixF m a f i else 0) = vf 16 (mixF m a f) := vf_ext fun i hi => by rw [if_pos (by omega)]
    simp only [this]
    simp)
  have e0 : (vf 16 fun i => if i < 0 * 4 then mixF m a f i else 0) = vf 16 fun _ => (0 : UInt8) := vf_ext fun i _ => by rw [if_neg (by omega)]
  simp only [e0] at this
  have h2 : iter (L0_spec_l03Mix (m : Int) (mf a) (vf 16 f)) (vf 16 fun _ => (0 : UInt8), 0) = _ := this
  rw [vf_rep 16 (0 : UInt8), h2]; rfl

abbrev Tab := Vector (Vector (Vector UInt8 256) 4) 4
def tabT (m : Nat) (a : MF) : Tab := vf 4 fun i => vf 4 fun j => vf 256 fun x => timesC m (a i j) (UInt8.ofNat x)
theorem vidx_tab (m : Nat) (a : MF) (i j : Nat) (x : UInt8) : vidx (vf 256 fun x => timesC m (a i j) (UInt8.ofNat x)) (bI x) = some (timesC m (a i j) x) := by
  rw [show bI x = ((x.toNat : Nat) : Int) from rfl, vidx_vf _ (UInt8.toNat_lt x)]
  simp
theorem v_mix (m : Nat) (a : MF) (f : Nat → UInt8) : F_impl_mixer_mix ⟨tabT m a⟩ (vf 16 f) = some (vf 16 (mixF m a f)) := by
  unfold F_impl_mixer_mix
  have i0 : ∀ (v : Vector (Vector UInt8 256) 4), vidx v (0 : Int) = v[0]? := fun v => vidx_cast v 0
  have i1 : ∀ (v : Vector (Vector UInt8 256) 4), vidx v (1 : Int) = v[1]? := fun v => vidx_cast v 1
  have i2 : ∀ (v : Vector (Vector UInt8 256) 4), vidx v (2 : Int) = v[2]? := fun v => vidx_cast v 2
  have i3 : ∀ (v : Vector (Vector UInt8 256) 4), vidx v (3 : Int) = v[3]? := fun v => vidx_cast v 3
  have inner : ∀ c : Nat, c < 4 → ∀ s1 : Blk × Int, s1.2 = ((c * 4 : Nat) : Int) → iter (L1_impl_mixer_mix ⟨tabT m a⟩ s1 (f (c * 4), f (c * 4 + 1), f (c * 4 + 2), f (c * 4 + 3))) (vf 16 (fun i => if i < c * 4 then mixF m a f i else f i), 0) = some (vf 16 fun i => if i < (c + 1) * 4 then mixF m a f i else f i) := fun c hc s1 h1 => by
    have k1 : (vf 16 fun i => if i < c * 4 + 4 then mixF m a f i else f i) = vf 16 fun i => if i < (c + 1) * 4 then mixF m a f i else f i := by rw [show c * 4 + 4 = (c + 1) * 4 by omega]
    have := iter_run (f := L1_impl_mixer_mix ⟨tabT m a⟩ s1 (f (c * 4), f (c * 4 + 1), f (c * 4 + 2), f (c * 4 + 3))) (fun r : Nat => (vf 16 fun i => if i < c * 4 + r then mixF m a f i else f i, (r : Int))) 0 4 (by omega) (t := vf 16 fun i => if i < (c + 1) * 4 then mixF m a f i else f i) (fun r _ hr => by
      unfold L1_impl_mixer_mix
      have e1 : wr (s1.2 + (r : Int)) = ((c * 4 + r : Nat) : Int) := by rw [h1, wr_id (by omega)]; omega
      have et : vidx (tabT m a) (r : Int) = some (vf 4 fun j => vf 256 fun x => timesC m (a r j) (UInt8.ofNat x)) := vidx_vf _ hr
      simp only [lt4 hr, if_true, et, i0, i1, i2, i3, vf_getq _ (show 0 < 4 by omega), vf_getq _ (show 1 < 4 by omega), vf_getq _ (show 2 < 4 by omega), vf_getq _ (show 3 < 4 by omega), vidx_tab, e1, vidx_vf _ (show c * 4 + r < 16 by omega), Option.bind_some, Int.toNat_natCast, vf_set, wr4 (show r < 1000 by omega)]
      refine congrArg (fun z => some (Fl.nx (z, ((r + 1 : Nat) : Int)))) (vf_ext fun i _ => ?_)
      by_cases h : i = c * 4 + r
      · subst h
        have q1 : (c * 4 + r) / 4 = c := by omega
        have q2 : (c * 4 + r) % 4 = r := by omega
        rw [if_pos rfl, if_pos (by omega)]
        unfold mixF; rw [q1, q2]; rfl
      · by_cases h3 : i < c * 4 + r
        · rw [if_neg h, if_pos h3, if_pos (by omega)]
        · rw [if_neg h, if_neg h3, if_neg (by omega)]) (by
      unfold L1_impl_mixer_mix
      simp only [k1]
      simp)
    exact this
  have := iter_run (f := L0_impl_mixer_mix ⟨tabT m a⟩) (fun c : Nat => (vf 16 fun i => if i < c * 4 then mixF m a f i else f i, ((c * 4 : Nat) : Int))) 0 4 (by omega) (t := vf 16 (mixF m a f)) (fun c _ hc => by
    unfold L0_impl_mixer_mix
    have hd : decide (((c * 4 : Nat) : Int) < ((vf 16 fun i => if i < c * 4 then mixF m a f i else f i).toList.length : Int)) = true := by rw [Vector.length_toList]; simp; omega
    have x0 := vidx_vf (n := 16) (fun i => if i < c * 4 then mixF m a f i else f i) (show c * 4 < 16 by omega)
    have x1 := vidx_vf (n := 16) (fun i => if i < c * 4 then mixF m a f i else f i) (show c * 4 + 1 < 16 by omega)
    have x2 := vidx_vf (n := 16) (fun i => if i < c * 4 then mixF m a f i else f i) (show c * 4 + 2 < 16 by omega)
    have x3 := vidx_vf (n := 16) (fun i => if i < c * 4 then mixF m a f i else f i) (show c * 4 + 3 < 16 by omega)
    have w1 : wr (((c * 4 : Nat) : Int) + 1) = ((c * 4 + 1 : Nat) : Int) := by rw [wr_id (by omega)]; omega
    have w2 : wr (((c * 4 : Nat) : Int) + 2) = ((c * 4 + 2 : Nat) : Int) := by rw [wr_id (by omega)]; omega
    have w3 : wr (((c * 4 : Nat) : Int) + 3) = ((c * 4 + 3 : Nat) : Int) := by rw [wr_id (by omega)]; omega
    have w4 : wr (((c * 4 : Nat) : Int) + 4) = (((c + 1) * 4 : Nat) : Int) := by rw [wr_id (by omega)]; omega
    rw [if_neg (by omega)] at x0 x1 x2 x3
    have h2 := inner c hc (vf 16 fun i => if i < c * 4 then mixF m a f i else f i, ((c * 4 : Nat) : Int)) rfl
    simp only [hd, if_true, x0, w1, x1, w2, x2, w3, x3, Option.bind_some, h2, w4]) (by
    unfold L0_impl_mixer_mix
    have : (vf 16 fun i => if i < 4 * 4 then mixF m a f i else f i) = vf 16 (mixF m a f) := vf_ext fun i hi => by rw [if_pos (by omega)]
    simp only [this]
    simp)
  have e0 : (vf 16 fun i => if i < 0 * 4 then mixF m a f i else f i) = vf 16 f := vf_ext fun i _ => by rw [if_neg (by omega)]
  simp only [e0] at this
  have h2 : iter (L0_impl_mixer_mix ⟨tabT m a⟩) (vf 16 f, 0) = _ := this
  rw [h2]; rfl

def tb (g : Nat → Nat → Nat → UInt8) : Tab := vf 4 fun i => vf 4 fun j => vf 256 (g i j)
theorem tb_ext {g h : Nat → Nat → Nat → UInt8} (e : ∀ i, i < 4 → ∀ j, j < 4 → ∀ x, x < 256 → g i j x = h i j x) : tb g = tb h :=
  vf_ext fun i hi => vf_ext fun j hj => vf_ext fun x hx => e i hi j hj x hx
theorem vidx_tb (g : Nat → Nat → Nat → UInt8) {i : Nat} (hi : i < 4) : vidx (tb g) (i : Int) = some (vf 4 fun j => vf 256 (g i j)) := vidx_vf _ hi
theorem vidx_tb2 (g : Nat → Nat → Nat → UInt8) (i : Nat) {j : Nat} (hj : j < 4) : vidx (vf 4 fun j => vf 256 (g i j)) (j : Int) = some (vf 256 (g i j)) := vidx_vf _ hj
theorem tb_set (g : Nat → Nat → Nat → UInt8) (i j : Nat) (h : Nat → UInt8) : (tb g).setIfInBounds i ((vf 4 fun j => vf 256 (g i j)).setIfInBounds j (vf 256 h)) = tb (fun i' j' => if i' = i ∧ j' = j then h else g i' j') := by
  unfold tb
  rw [vf_set, vf_set]
  refine vf_ext fun i' _ => ?_
  by_cases h1 : i' = i
  · subst h1
    rw [if_pos rfl]
    refine vf_ext fun j' _ => ?_
    by_cases h2 : j' = j
    · subst h2; simp
    · simp [h2]
  · rw [if_neg h1]
    refine vf_ext fun j' _ => ?_
    simp [h1]
theorem orI_nat (a b : Nat) (ha : a < 9223372036854775808) (hb : b < 9223372036854775808) : orI (a : Int) (b : Int) = ((a ||| b : Nat) : Int) := by
  unfold orI
  rw [BitVec.toNat_or, bv_nat a ha, bv_nat b hb]
  have : a ||| b < 2 ^ 63 := Nat.or_lt_two_pow ha hb
  exact wr_id (by omega)
theorem byteI_ofNat (n : Nat) : byteI (n : Int) = UInt8.ofNat n := by
  unfold byteI
  have : ((n : Int) % 256).toNat = n % 256 := by omega
  rw [this]
  apply UInt8.toNat_inj.1
  simp
theorem tb_set' (g : Nat → Nat → Nat → UInt8) (i j : Nat) (h : Nat → UInt8) : (tb g).setIfInBounds i (vf 4 fun j' => if j' = j then vf 256 h else vf 256 (g i j')) = tb (fun i' j' => if i' = i ∧ j' = j then h else g i' j') := by
  have := tb_set g i j h
  rw [vf_set] at this
  exact this
theorem or_pow {p low : Nat} (h : low < 2 ^ p) : 2 ^ p ||| low = 2 ^ p + low := by
  have := Nat.two_pow_add_eq_or_of_lt h 1
  simpa using this.symm
theorem byte_pow {p low : Nat} (hp : p < 8) (h : low < 2 ^ p) : UInt8.ofNat (2 ^ p + low) = UInt8.ofNat (2 ^ p) ^^^ UInt8.ofNat low := by
  apply UInt8.toNat_inj.1
  have h7 : 2 ^ p ≤ 2 ^ 7 := Nat.pow_le_pow_right (by omega) (by omega)
  rw [UInt8.toNat_xor]
  simp only [UInt8.toNat_ofNat']
  rw [Nat.mod_eq_of_lt (by omega), Nat.mod_eq_of_lt (by omega), Nat.mod_eq_of_lt (by omega)]
  rw [← or_pow h]
  apply Nat.eq_of_testBit_eq
  intro i
  rw [Nat.testBit_or, Nat.testBit_xor, Nat.testBit_two_pow]
  by_cases hi : p = i
  · subst hi
    rw [Nat.testBit_lt_two_pow h]; simp
  · simp [hi]
section
variable (m : Nat) (hm : m < 512) (hm2 : 256 ≤ m) (a : MF)
include hm hm2
/-- The table of one element, as far as it has come. -/
def upTo (m : Nat) (a : MF) (i j n : Nat) (g : Nat → Nat → Nat → UInt8) : Nat → Nat → Nat → UInt8 := fun i' j' => if i' = i ∧ j' = j then (fun x => if x < n then timesC m (a i j) (UInt8.ofNat x) else 0) else g i' j'
theorem low_loop (i j p : Nat) (hi : i < 4) (hj : j < 4) (hp : p < 8) (g : Nat → Nat → Nat → UInt8) (s0 s1 s2 : Tab × Int) (h0 : s0.2 = (i : Int)) (h1 : s1.2 = (j : Int)) (h2 : s2.2 = ((2 ^ p : Nat) : Int)) :
    iter (L3_impl_newMixer s0 s1 s2 (timesC m (a i j) (UInt8.ofNat (2 ^ p)))) (tb (upTo m a i j (2 ^ p) g), 0) = some (tb (upTo m a i j (2 ^ (p + 1)) g)) := by
  have h7 : 2 ^ p ≤ 2 ^ 7 := Nat.pow_le_pow_right (by omega) (by omega)
  have k1 : 2 ^ p + 2 ^ p = 2 ^ (p + 1) := by rw [Nat.pow_succ]; omega
  have := iter_run (f := L3_impl_newMixer s0 s1 s2 (timesC m (a i j) (UInt8.ofNat (2 ^ p)))) (fun low : Nat => (tb (upTo m a i j (2 ^ p + low) g), (low : Int))) 0 (2 ^ p) (Nat.zero_le _) (t := tb (upTo m a i j (2 ^ (p + 1)) g)) (fun low _ hl => by
    unfold L3_impl_newMixer
    have hd : decide ((low : Int) < ((2 ^ p : Nat) : Int)) = true := by simp only [decide_eq_true_eq]; omega
    have ho : orI ((2 ^ p : Nat) : Int) (low : Int) = ((2 ^ p + low : Nat) : Int) := by rw [orI_nat _ _ (by omega) (by omega), or_pow hl]
    have eg : upTo m a i j (2 ^ p + low) g i j = fun x => if x < 2 ^ p + low then timesC m (a i j) (UInt8.ofNat x) else 0 := by simp [upTo]
    simp only [h0, h1, h2, hd, if_true, vidx_tb _ hi, vidx_tb2 _ i hj, eg, vidx_vf _ (show low < 256 by omega), ho, vidx_vf _ (show 2 ^ p + low < 256 by omega), Option.bind_some, Int.toNat_natCast, vf_set, wr_nat (show low < 9223372036854775807 by omega)]
    rw [if_pos (show low < 2 ^ p + low from Nat.lt_add_of_pos_left (Nat.two_pow_pos p)), ← times_xor' hm2 hm, ← byte_pow hp hl]
    have := tb_set' (upTo m a i j (2 ^ p + low) g) i j (fun x => if x = 2 ^ p + low then timesC m (a i j) (UInt8.ofNat (2 ^ p + low)) else if x < 2 ^ p + low then timesC m (a i j) (UInt8.ofNat x) else 0)
    rw [this]
    refine congrArg (fun z => some (Fl.nx (z, ((low + 1 : Nat) : Int)))) (tb_ext fun i' _ j' _ x _ => ?_)
    unfold upTo
    by_cases h : i' = i ∧ j' = j
    · simp only [h, and_self, if_true]
      by_cases hx : x = 2 ^ p + low
      · subst hx; simp
      · by_cases hx2 : x < 2 ^ p + low
        · rw [if_neg hx, if_pos hx2, if_pos (by omega)]
        · rw [if_neg hx, if_neg hx2, if_neg (by omega)]
    · simp only [h, if_false]) (by
    unfold L3_impl_newMixer
    simp only [h2, k1]
    simp)
  exact this
theorem bit_loop (i j : Nat) (hi : i < 4) (hj : j < 4) (g : Nat → Nat → Nat → UInt8) (s0 s1 : Tab × Int) (h0 : s0.2 = (i : Int)) (h1 : s1.2 = (j : Int)) :
    iter (L2_impl_newMixer (m : Int) s0 s1 (a i j)) (tb (upTo m a i j 1 g), 1) = some (tb (upTo m a i j 256 g)) := by
  have := iter_run (f := L2_impl_newMixer (m : Int) s0 s1 (a i j)) (fun p : Nat => (tb (upTo m a i j (2 ^ p) g), ((2 ^ p : Nat) : Int))) 0 8 (by omega) (t := tb (upTo m a i j 256 g)) (fun p _ hp => by
    unfold L2_impl_newMixer
    have h7 : 2 ^ p ≤ 2 ^ 7 := Nat.pow_le_pow_right (by omega) (by omega)
    have hd : decide (((2 ^ p : Nat) : Int) < 256) = true := by simp only [decide_eq_true_eq]; omega
    have hb : byteI ((2 ^ p : Nat) : Int) = UInt8.ofNat (2 ^ p) := by rw [byteI_ofNat]
    have hw : wr (((2 ^ p : Nat) : Int) * 2) = ((2 ^ (p + 1) : Nat) : Int) := by
      rw [Nat.pow_succ]
      generalize 2 ^ p = q at h7 ⊢
      rw [wr_id (by omega)]; omega
    have h3 := low_loop m hm hm2 a i j p hi hj hp g s0 s1 (tb (upTo m a i j (2 ^ p) g), ((2 ^ p : Nat) : Int)) h0 h1 rfl
    simp only [hd, if_true, hb, v_field_times m hm, Option.bind_some, h3, hw]) (by unfold L2_impl_newMixer; simp)
  exact this
theorem v_newMixer (A : Mat) (hA : A = mf a) : F_impl_newMixer (m : Int) A = some ⟨tabT m a⟩ := by
  subst hA
  unfold F_impl_newMixer
  let G : Nat → Nat → Nat → Nat → Nat → UInt8 := fun r c i j x => if i < r ∨ (i = r ∧ j < c) then timesC m (a i j) (UInt8.ofNat x) else 0
  have hGt : ∀ r c i j x, (i < r ∨ (i = r ∧ j < c)) → G r c i j x = timesC m (a i j) (UInt8.ofNat x) := fun r c i j x h => if_pos h
  have hGf : ∀ r c i j x, ¬ (i < r ∨ (i = r ∧ j < c)) → G r c i j x = 0 := fun r c i j x h => if_neg h
  have hGe : ∀ r c r' c' i j x, ((i < r ∨ (i = r ∧ j < c)) ↔ (i < r' ∨ (i = r' ∧ j < c'))) → G r c i j x = G r' c' i j x := fun r c r' c' i j x h => by show (if _ then _ else _) = (if _ then _ else _); simp only [h]
  have z0 : ∀ i j, timesC m (a i j) (UInt8.ofNat 0) = 0 := fun i j => by rw [times_comm hm2 hm]; exact times_zero hm2 hm _
  have col : ∀ r : Nat, r < 4 → ∀ s0 : Tab × Int, s0.2 = (r : Int) → iter (L1_impl_newMixer (m : Int) s0 (vf 4 (a r))) (tb (G r 0), 0) = some (tb (G (r + 1) 0)) := fun r hr s0 h0 => by
    have k1 : tb (G r 4) = tb (G (r + 1) 0) := tb_ext fun i hi j hj x _ => by
      exact hGe _ _ _ _ _ _ _ (by omega)
    have := iter_run (f := L1_impl_newMixer (m : Int) s0 (vf 4 (a r))) (fun c : Nat => (tb (G r c), (c : Int))) 0 4 (by omega) (t := tb (G (r + 1) 0)) (fun c _ hc => by
      unfold L1_impl_newMixer
      have e1 : tb (G r c) = tb (upTo m a r c 1 (G r c)) := tb_ext fun i _ j _ x _ => by
        unfold upTo
        by_cases h : i = r ∧ j = c
        · obtain ⟨rfl, rfl⟩ := h
          simp only [and_self, if_true]
          rw [hGf _ _ _ _ _ (by omega)]
          by_cases hx : x < 1
          · have : x = 0 := by omega
            subst this; rw [if_pos hx, z0]
          · rw [if_neg hx]
        · simp only [h, if_false]
      have e2 : tb (upTo m a r c 256 (G r c)) = tb (G r (c + 1)) := tb_ext fun i _ j _ x hx => by
        unfold upTo
        by_cases h : i = r ∧ j = c
        · obtain ⟨rfl, rfl⟩ := h
          simp only [and_self, if_true, hx]
          rw [hGt _ _ _ _ _ (by omega)]
        · simp only [h, if_false]
          exact hGe _ _ _ _ _ _ _ (by omega)
      have h3 := bit_loop m hm hm2 a r c hr hc (G r c) s0 (tb (G r c), (c : Int)) h0 rfl
      rw [← e1, e2] at h3
      simp only [lt4 hc, if_true, vidx_vf _ hc, h3, Option.bind_some, wr4 (show c < 1000 by omega)]) (by
      unfold L1_impl_newMixer
      simp only [k1]
      simp)
    exact this
  have kz : tb (G 0 0) = Vector.replicate 4 (Vector.replicate 4 (Vector.replicate 256 (0 : UInt8))) := by
    rw [vf_rep 256 (0 : UInt8), vf_rep 4, vf_rep 4]
    exact tb_ext fun i _ j _ x _ => by
      exact hGf _ _ _ _ _ (by omega)
  have k4 : tb (G 4 0) = tabT m a := tb_ext fun i hi j _ x _ => by
    exact hGt _ _ _ _ _ (by omega)
  have := iter_run (f := L0_impl_newMixer (m : Int) (mf a)) (fun r : Nat => (tb (G r 0), (r : Int))) 0 4 (by omega) (t := tabT m a) (fun r _ hr => by
    unfold L0_impl_newMixer
    have h3 := col r hr (tb (G r 0), (r : Int)) rfl
    simp only [lt4 hr, if_true, vidx_mf _ hr, h3, Option.bind_some, wr4 (show r < 1000 by omega)]) (by
    unfold L0_impl_newMixer
    simp only [k4]
    simp)
  have h2 : iter (L0_impl_newMixer (m : Int) (mf a)) (tb (G 0 0), 0) = _ := this
  rw [← kz, h2]; rfl
end

def invB (n : Nat) (p : Vector UInt8 n) : Nat → Vector UInt8 n
  | 0 => Vector.replicate n 0
  | i + 1 => (invB n p i).setIfInBounds (p.toList.getD i 0).toNat (byteI (i : Int))
theorem v_Box_inverse (p : Vector UInt8 256) : F_impl_Box_inverse p = some (invB 256 p 256) := by
  unfold F_impl_Box_inverse
  have := iter_run (f := L0_impl_Box_inverse p) (fun i : Nat => (invB 256 p i, (i : Int))) 0 256 (by omega) (t := invB 256 p 256) (fun i _ hi => by
    unfold L0_impl_Box_inverse
    have hd : decide ((i : Int) < 256) = true := by simp; omega
    simp only [hd, if_true, vidx_list p hi, vidx_at, Option.bind_some, bI_toNat, wr_nat (show i < 9223372036854775807 by omega)]
    rfl) (by unfold L0_impl_Box_inverse; simp)
  have h2 : iter (L0_impl_Box_inverse p) (Vector.replicate 256 0, 0) = _ := this
  rw [h2]; rfl
theorem bf_list (p : Blk) {i : Nat} (h : i < 16) : p.toList.getD i 0 = bf p i := by
  have h1 := vidx_list p h
  rw [vidx_bf p h] at h1
  exact (Option.some.inj h1).symm
theorem v_Places_inverse (p : Blk) (hp : placesB p = true) : F_impl_Places_inverse p = some (invB 16 p 16) := by
  unfold F_impl_Places_inverse
  have := iter_run (f := L0_impl_Places_inverse p) (fun i : Nat => (invB 16 p i, (i : Int))) 0 16 (by omega) (t := invB 16 p 16) (fun i _ hi => by
    unfold L0_impl_Places_inverse
    have hlt := places_lt hp hi
    have hv : vidx (invB 16 p i) (bI (bf p i)) = some (bf (invB 16 p i) (bf p i).toNat) := vidx_bf _ hlt
    simp only [lt16 hi, if_true, vidx_bf p hi, hv, Option.bind_some, bI_toNat, wr_nat (show i < 9223372036854775807 by omega)]
    rw [← bf_list p hi]
    rfl) (by unfold L0_impl_Places_inverse; simp)
  have h2 : iter (L0_impl_Places_inverse p) (Vector.replicate 16 0, 0) = _ := this
  rw [h2]; rfl

def engineC (c : GCipher) : Gengine := ⟨c.Box, invB 256 c.Box 256, c.Places, invB 16 c.Places 16, ⟨tabT c.Field.toNat (mfOf c.Mix)⟩, ⟨tabT c.Field.toNat (mfOf (invM c.Field.toNat c.Mix))⟩, c.Rounds⟩
theorem cipher_places {c : GCipher} (h : isCipherB c = true) : placesB c.Places = true := by
  unfold isCipherB at h
  simp only [Bool.and_eq_true] at h
  exact h.1.1.2
theorem cipher_rounds {c : GCipher} (h : isCipherB c = true) : 1 ≤ c.Rounds ∧ c.Rounds ≤ 20 := by
  unfold isCipherB at h
  simp only [Bool.and_eq_true, decide_eq_true_eq] at h
  exact h.1.2
theorem v_newEngine (c : GCipher) (h : isCipherB c = true) : F_impl_newEngine c = some ⟨engineC c⟩ := by
  obtain ⟨m, hm, h1, h2⟩ := cipher_field h
  have e : c.Field.toNat = m := by omega
  unfold F_impl_newEngine engineC
  rw [e]
  simp only [hm, v_invert m h2 h1, Option.bind_some, v_Box_inverse, v_Places_inverse _ (cipher_places h), v_newMixer m h2 h1 (mfOf c.Mix) c.Mix (mf_mfOf _), v_newMixer m h2 h1 (mfOf (invM m c.Mix)) (invM m c.Mix) (mf_mfOf _)]

def roundF (c : GCipher) (n r : Nat) (k f : Nat → UInt8) : Nat → UInt8 :=
  xorF (if r < n then mixF c.Field.toNat (mfOf c.Mix) (moveF c.Places (boxF c.Box f)) else moveF c.Places (boxF c.Box f)) k
def encN (c : GCipher) (k f : Nat → UInt8) (n : Nat) : Nat → Nat → UInt8
  | 0 => xorF f k
  | r + 1 => roundF c n (r + 1) (keyN c.Box k (r + 1)) (encN c k f n r)
def encC (c : GCipher) (k f : Nat → UInt8) (n : Nat) : Nat → UInt8 := encN c k f n n
theorem v_l04Encipher (c : GCipher) (h : isCipherB c = true) (k f : Nat → UInt8) (n : Nat) (hn : n ≤ 1000) : F_spec_l04Encipher c (vf 16 k) (vf 16 f) (n : Int) = some (vf 16 (encC c k f n)) := by
  obtain ⟨m, hm, h1, h2⟩ := cipher_field h
  have e : c.Field.toNat = m := by omega
  have hp := cipher_places h
  unfold F_spec_l04Encipher
  have i0 : idx (keysC c.Box k n) (0 : Int) = some (vf 16 k) := keys_idx c.Box k (Nat.zero_le n)
  simp only [v_l04Keys c k n hn, Option.bind_some, i0, v_l01Xor]
  have := iter_run (f := L0_spec_l04Encipher c (n : Int) (keysC c.Box k n)) (fun i : Nat => (vf 16 (encN c k f n (i - 1)), (i : Int))) 1 (n + 1) (by omega) (t := vf 16 (encC c k f n)) (fun i hi1 hi => by
    unfold L0_spec_l04Encipher
    obtain ⟨r, rfl⟩ : ∃ q, i = q + 1 := ⟨i - 1, by omega⟩
    have e1 : decide (((r + 1 : Nat) : Int) ≤ (n : Int)) = true := by simp only [decide_eq_true_eq]; omega
    have hmix := v_l03Mix m h2 h1 (mfOf c.Mix) (moveF c.Places (boxF c.Box (encN c k f n r)))
    rw [← mf_mfOf] at hmix
    simp only [Nat.add_sub_cancel, e1, if_true, v_l04Boxes, Option.bind_some, v_l03Move c.Places hp, hm, hmix, keys_idx c.Box k (show r + 1 ≤ n by omega), wr_nat (show r + 1 < 9223372036854775807 by omega)]
    by_cases hr : r + 1 < n
    · have e2 : decide (((r + 1 : Nat) : Int) < (n : Int)) = true := by simp only [decide_eq_true_eq]; omega
      simp only [e2, if_true, Option.bind_some, v_l01Xor, encN, roundF, hr, e]
    · have e2 : decide (((r + 1 : Nat) : Int) < (n : Int)) = false := by simp only [decide_eq_false_iff_not]; omega
      simp only [e2, Bool.false_eq_true, if_false, Option.bind_some, v_l01Xor, encN, roundF, hr]) (by
    unfold L0_spec_l04Encipher
    have e1 : decide (((n + 1 : Nat) : Int) ≤ (n : Int)) = false := by simp only [decide_eq_false_iff_not]; omega
    simp only [e1, Bool.false_eq_true, if_false, Nat.add_sub_cancel, encC])
  have h3 : iter (L0_spec_l04Encipher c (n : Int) (keysC c.Box k n)) (vf 16 (xorF f k), 1) = _ := this
  rw [h3]; rfl
theorem boxes_loop (e : Ref Gengine) (s : Blk × Int) (f : Nat → UInt8) (hs : s.1 = vf 16 f) : iter (L1_impl_engine_encipherWith e s) (vf 16 f, 0) = some (vf 16 (boxF e.v.box f)) := by
  have := fill_loop (L1_impl_engine_encipherWith e s) f (boxF e.v.box f) (by omega) 0 (by omega) (fun j hj => by omega) (fun i _ hi a _ ha => by
    unfold L1_impl_engine_encipherWith
    simp only [hs, lt16 hi, if_true, vidx_vf _ hi, Option.bind_some, Int.toNat_natCast, vidx_at, boxF]) (fun v => by unfold L1_impl_engine_encipherWith; simp)
  exact this
theorem v_encipherWith (c : GCipher) (h : isCipherB c = true) (k f : Nat → UInt8) (n : Nat) (hn : n ≤ 1000) : F_impl_engine_encipherWith ⟨engineC c⟩ (keysC c.Box k n) (vf 16 f) = some (vf 16 (encC c k f n)) := by
  have hp := cipher_places h
  unfold F_impl_engine_encipherWith
  have i0 : idx (keysC c.Box k n) (0 : Int) = some (vf 16 k) := keys_idx c.Box k (Nat.zero_le n)
  simp only [Option.bind_some, i0, v_XorBlocks]
  have := iter_run (f := L0_impl_engine_encipherWith ⟨engineC c⟩ (keysC c.Box k n)) (fun i : Nat => (vf 16 (encN c k f n (i - 1)), (i : Int))) 1 (n + 1) (by omega) (t := vf 16 (encC c k f n)) (fun i hi1 hi => by
    unfold L0_impl_engine_encipherWith
    obtain ⟨r, rfl⟩ : ∃ q, i = q + 1 := ⟨i - 1, by omega⟩
    have e1 : decide (((r + 1 : Nat) : Int) < ((keysC c.Box k n).length : Int)) = true := by rw [keys_len]; simp only [decide_eq_true_eq]; omega
    have e3 : wr (((keysC c.Box k n).length : Int) - 1) = (n : Int) := by rw [keys_len, wr_id (by omega)]; omega
    have hb := boxes_loop ⟨engineC c⟩ (vf 16 (encN c k f n r), ((r + 1 : Nat) : Int)) (encN c k f n r) rfl
    have hmv := v_move c.Places hp (boxF c.Box (encN c k f n r))
    have hmix := v_mix c.Field.toNat (mfOf c.Mix) (moveF c.Places (boxF c.Box (encN c k f n r)))
    have hsl : ∀ g : Nat → UInt8, slc (vf 16 g).toList (0 : Int) (16 : Int) = some (vf 16 g).toList := fun g => by
      have := slc_ok (l := (vf 16 g).toList) (i := 0) (j := 16) (by omega) (by simp)
      simp only [List.drop_zero] at this
      rw [List.take_of_length_le (by simp)] at this
      exact this
    have q1 : (engineC c).box = c.Box := rfl
    have q2 : (engineC c).places = c.Places := rfl
    have q3 : (engineC c).mixer = ⟨tabT c.Field.toNat (mfOf c.Mix)⟩ := rfl
    simp only [q1] at hb
    simp only [Nat.add_sub_cancel, e1, if_true, hb, Option.bind_some, q2, q3, hmv, e3, hsl, hmix, keys_idx c.Box k (show r + 1 ≤ n by omega), wr_nat (show r + 1 < 9223372036854775807 by omega)]
    by_cases hr : r + 1 < n
    · have e2 : decide (((r + 1 : Nat) : Int) < (n : Int)) = true := by simp only [decide_eq_true_eq]; omega
      simp only [e2, if_true, Option.bind_some, v_XorBlocks, encN, roundF, hr]
    · have e2 : decide (((r + 1 : Nat) : Int) < (n : Int)) = false := by simp only [decide_eq_false_iff_not]; omega
      simp only [e2, Bool.false_eq_true, if_false, Option.bind_some, v_XorBlocks, encN, roundF, hr]) (by
    unfold L0_impl_engine_encipherWith
    have e1 : decide (((n + 1 : Nat) : Int) < ((keysC c.Box k n).length : Int)) = false := by rw [keys_len]; simp only [decide_eq_false_iff_not]; omega
    simp only [e1, Bool.false_eq_true, if_false, Nat.add_sub_cancel, encC])
  have h3 : iter (L0_impl_engine_encipherWith ⟨engineC c⟩ (keysC c.Box k n)) (vf 16 (xorF f k), 1) = _ := this
  rw [h3]; rfl
theorem v_toBox (x : Vector UInt8 256) : F_laws_toBox x = some x := by
  unfold F_laws_toBox
  rw [copy_arr x (L0_laws_toBox x) (fun s => by unfold L0_laws_toBox; rfl) (by omega)]; rfl
theorem v_toPlaces (x : Vector UInt8 16) : F_laws_toPlaces x = some x := by
  unfold F_laws_toPlaces
  rw [copy_arr x (L0_laws_toPlaces x) (fun s => by unfold L0_laws_toPlaces; rfl) (by omega)]; rfl
theorem v_toByteA4 (x : Vector UInt8 4) : F_laws_toByteA4 x = some x := by
  unfold F_laws_toByteA4
  rw [copy_arr x (L0_laws_toByteA4 x) (fun s => by unfold L0_laws_toByteA4; rfl) (by omega)]; rfl
theorem v_toMatrix (x : Mat) : F_laws_toMatrix x = some x := by
  unfold F_laws_toMatrix
  obtain ⟨f, rfl⟩ := mf_of x
  have k0 : (mf fun r c => if r < 0 then f r c else 0) = mf fun _ _ => 0 := mf_ext fun r _ c _ => by rw [if_neg (by omega)]
  have k4 : (mf fun r c => if r < 4 then f r c else 0) = mf f := mf_ext fun r hr c _ => by rw [if_pos hr]
  have := iter_run (f := L0_laws_toMatrix (mf f)) (fun i : Nat => (mf fun r c => if r < i then f r c else 0, (i : Int))) 0 4 (by omega) (t := mf f) (fun i _ hi => by
    unfold L0_laws_toMatrix
    simp only [lt4 hi, if_true, vidx_mf _ hi, v_toByteA4, Option.bind_some, Int.toNat_natCast, mf_set, wr4 (show i < 1000 by omega)]
    refine congrArg (fun z => some (Fl.nx (z, ((i + 1 : Nat) : Int)))) (mf_ext fun r _ c _ => ?_)
    by_cases h : r = i
    · subst h; simp
    · by_cases h2 : r < i
      · rw [if_neg h, if_pos h2, if_pos (by omega)]
      · rw [if_neg h, if_neg h2, if_neg (by omega)]) (by
    unfold L0_laws_toMatrix
    simp only [k4]
    simp)
  simp only [k0] at this
  have h2 : iter (L0_laws_toMatrix (mf f)) (mf fun _ _ => 0, 0) = _ := this
  rw [mf_zero, h2]; rfl
theorem v_toCipher (c : GCipher) : F_laws_toCipher c = some c := by
  unfold F_laws_toCipher
  simp only [v_toBox, v_toMatrix, v_toPlaces, Option.bind_some]
def setCode (c : GCipher) (i n : Int) : Int := if isCipherB c then (if decide (0 ≤ n ∧ n ≤ c.Rounds) && decide (0 ≤ i ∧ i ≤ 15) then 0 else 2) else 1
theorem v_checkSet (c : GCipher) (i n : Int) : F_impl_checkSet c i n = some (setCode c i n) := by
  unfold F_impl_checkSet F_impl_checkShort F_impl_isPlace setCode
  simp only [v_IsCipher, v_inRange, Option.bind_some]
  cases isCipherB c
  · rfl
  · cases decide (0 ≤ n ∧ n ≤ c.Rounds)
    · rfl
    · cases decide (0 ≤ i ∧ i ≤ 15) <;> rfl
theorem v_l11Code (c : GCipher) (i n : Int) : F_spec_l11Code c i n = some (setCode c i n) := by
  unfold F_spec_l11Code F_spec_l04Code setCode
  simp only [v_l04Is, v_l01In, Option.bind_some]
  cases isCipherB c
  · rfl
  · cases decide (0 ≤ n ∧ n ≤ c.Rounds)
    · cases decide (0 ≤ i ∧ i ≤ 15) <;> rfl
    · cases decide (0 ≤ i ∧ i ≤ 15) <;> rfl
theorem setCode_ok {c : GCipher} {i n : Int} (h : setCode c i n = 0) : isCipherB c = true ∧ (∃ p : Nat, i = p ∧ p < 16) ∧ ∃ r : Nat, n = r ∧ r ≤ 20 := by
  unfold setCode at h
  split at h
  · rename_i hc
    split at h
    · rename_i hx
      simp only [Bool.and_eq_true, decide_eq_true_eq] at hx
      have := cipher_rounds hc
      exact ⟨hc, ⟨i.toNat, by omega, by omega⟩, n.toNat, by omega, by omega⟩
    · cases h
  · cases h

def setF (f : Nat → UInt8) (i y : Nat) : Nat → UInt8 := fun j => if j = i then byteI (y : Int) else f j
def setL (c : GCipher) (k f : Nat → UInt8) (i n m : Nat) : List Blk := (List.range m).map fun y => vf 16 (encC c k (setF f i y) n)
theorem setL_len (c : GCipher) (k f : Nat → UInt8) (i n m : Nat) : (setL c k f i n m).length = m := by simp [setL]
theorem setL_succ (c : GCipher) (k f : Nat → UInt8) (i n m : Nat) : setL c k f i n (m + 1) = setL c k f i n m ++ [vf 16 (encC c k (setF f i m) n)] := by
  unfold setL
  rw [List.range_succ, List.map_append]; rfl
def preF (f : Nat → UInt8) (i : Nat) : Nat → Nat → UInt8
  | 0 => f
  | y + 1 => setF f i y
theorem pre_set (f : Nat → UInt8) (i y : Nat) : (vf 16 (preF f i y)).setIfInBounds i (byteI (y : Int)) = vf 16 (setF f i y) := by
  rw [vf_set]
  refine vf_ext fun j _ => ?_
  cases y with
  | zero => rfl
  | succ y =>
    by_cases h : j = i
    · simp [setF, h]
    · simp [setF, preF, h]
theorem lt256 {i : Nat} (h : i < 256) : decide ((i : Int) < 256) = true := by simp; omega
theorem v_engine_set (c : GCipher) (h : isCipherB c = true) (k f : Nat → UInt8) (i n : Nat) (hi : i < 16) (hn : n ≤ 1000) : F_impl_engine_set ⟨engineC c⟩ (keysC c.Box k n) (vf 16 f) (i : Int) = some (setL c k f i n 256) := by
  unfold F_impl_engine_set
  have := iter_run (f := L0_impl_engine_set ⟨engineC c⟩ (keysC c.Box k n) (i : Int)) (fun y : Nat => (vf 16 (preF f i y), (y : Int), setL c k f i n y)) 0 256 (by omega) (t := setL c k f i n 256) (fun y _ hy => by
    unfold L0_impl_engine_set
    have e2 : app 16 (setL c k f i n y) [vf 16 (encC c k (setF f i y) n)] = _ := app_ok (by rw [setL_len]; simp; omega)
    simp only [lt256 hy, if_true, vidx_vf _ hi, Option.bind_some, Int.toNat_natCast, pre_set, v_encipherWith c h k _ n hn, e2, wr_nat (show y < 9223372036854775807 by omega), setL_succ]
    rfl) (by unfold L0_impl_engine_set; simp)
  have h2 : iter (L0_impl_engine_set ⟨engineC c⟩ (keysC c.Box k n) (i : Int)) (vf 16 f, 0, []) = _ := this
  rw [h2]; rfl
theorem v_l11Set (c : GCipher) (h : isCipherB c = true) (k f : Nat → UInt8) (i n : Nat) (hi : i < 16) (hn : n ≤ 1000) : F_spec_l11Set c (vf 16 k) (vf 16 f) (i : Int) (n : Int) = some (setL c k f i n 256) := by
  unfold F_spec_l11Set
  have := iter_run (f := L0_spec_l11Set c (vf 16 k) (i : Int) (n : Int)) (fun y : Nat => (vf 16 (preF f i y), setL c k f i n y, (y : Int))) 0 256 (by omega) (t := setL c k f i n 256) (fun y _ hy => by
    unfold L0_spec_l11Set
    have e2 : app 16 (setL c k f i n y) [vf 16 (encC c k (setF f i y) n)] = _ := app_ok (by rw [setL_len]; simp; omega)
    simp only [lt256 hy, if_true, vidx_vf _ hi, Option.bind_some, Int.toNat_natCast, pre_set, v_l04Encipher c h k _ n hn, e2, wr_nat (show y < 9223372036854775807 by omega), setL_succ]
    rfl) (by unfold L0_spec_l11Set; simp)
  have h2 : iter (L0_spec_l11Set c (vf 16 k) (i : Int) (n : Int)) (vf 16 f, [], 0) = _ := this
  rw [h2]; rfl
theorem v_keysOf (c : GCipher) (k : Nat → UInt8) (n : Nat) (hn : n ≤ 1000) : F_impl_engine_keys ⟨engineC c⟩ (vf 16 k) (n : Int) = some (keysC c.Box k n) := v_keys ⟨engineC c⟩ k n hn
theorem v_setOf (c : GCipher) (h : isCipherB c = true) (k f : Nat → UInt8) (i n : Nat) (hi : i < 16) (hn : n ≤ 1000) : F_impl_setOf c (vf 16 k) (vf 16 f) (i : Int) (n : Int) = some (setL c k f i n 256) := by
  unfold F_impl_setOf
  simp only [v_newEngine c h, Option.bind_some, v_keysOf c k n hn, v_engine_set c h k f i n hi hn]
def setOfC (c : GCipher) (key block : Blk) (i n : Int) : List Blk := setL c (bf key) (bf block) i.toNat n.toNat 256
theorem s_setOf {c : GCipher} {key block : Blk} {i n : Int} (h : setCode c i n = 0) : F_impl_setOf c key block i n = some (setOfC c key block i n) := by
  obtain ⟨hc, ⟨p, rfl, hp⟩, r, rfl, hr⟩ := setCode_ok h
  have := v_setOf c hc (bf key) (bf block) p r hp (by omega)
  rw [← vf_bf, ← vf_bf] at this
  exact this
theorem s_l11Set {c : GCipher} {key block : Blk} {i n : Int} (h : setCode c i n = 0) : F_spec_l11Set c key block i n = some (setOfC c key block i n) := by
  obtain ⟨hc, ⟨p, rfl, hp⟩, r, rfl, hr⟩ := setCode_ok h
  have := v_l11Set c hc (bf key) (bf block) p r hp (by omega)
  rw [← vf_bf, ← vf_bf] at this
  exact this
theorem setOf_len (c : GCipher) (key block : Blk) (i n : Int) : (setOfC c key block i n).length = 256 := setL_len _ _ _ _ _ _
def filtL (p : Nat → Bool) (n : Nat) : List Int := ((List.range n).filter p).map fun i : Nat => (i : Int)
theorem filtL_succ (p : Nat → Bool) (n : Nat) : filtL p (n + 1) = if p n then filtL p n ++ [(n : Int)] else filtL p n := by
  unfold filtL
  rw [List.range_succ, List.filter_append, List.map_append]
  cases h : p n <;> simp [h]
theorem filtL_len (p : Nat → Bool) (n : Nat) : (filtL p n).length ≤ n := by
  unfold filtL
  rw [List.length_map]
  have := List.length_filter_le p (List.range n)
  simpa using this
theorem app_filt (p : Nat → Bool) (n : Nat) (h : n ≤ 1000000) : app 8 (filtL p n) [(n : Int)] = some (filtL p n ++ [(n : Int)]) := app_ok (by have := filtL_len p n; simp; omega)

def colB (l : List Blk) (j : Nat) : List UInt8 := l.map fun b => bf b j
theorem colB_get (l : List Blk) (j : Nat) {i : Nat} (h : i < l.length) : (colB l j)[i]'(by simpa [colB] using h) = bf l[i] j := by simp [colB]
theorem colB_getD (l : List Blk) (j : Nat) {i : Nat} (h : i < l.length) : (colB l j).getD i 0 = bf l[i] j := by simp [colB, List.getD_eq_getElem?_getD, h]
theorem seen_col (l : List Blk) (j : Nat) {i : Nat} (h : i < l.length) : (fun b => if b = (bf l[i] j).toNat then true else seen (colB l j) i b) = seen (colB l j) (i + 1) := by
  have := seen_succ (colB l j) (i := i) (by simpa [colB] using h)
  rw [colB_get l j h] at this
  exact this
theorem all_marks (l : List UInt8) (h : l.length = 256) : (!(vf 256 (seen l 256)).toList.contains false) = diffB l := by
  rw [Bool.eq_iff_iff]
  have hp := perm_iff (l.map UInt8.toNat) 256 (by simpa using h) (fun x hx => by obtain ⟨y, _, rfl⟩ := List.mem_map.1 hx; exact UInt8.toNat_lt y)
  rw [nodup_toNat] at hp
  unfold diffB
  rw [decide_eq_true_iff, hp, Bool.not_eq_true', List.contains_eq_any_beq, List.any_eq_false]
  have hseen : ∀ b, seen l 256 b = true ↔ b ∈ l.map UInt8.toNat := fun b => by
    unfold seen
    rw [List.take_of_length_le (by omega), List.any_eq_true, List.mem_map]
    refine exists_congr fun x => and_congr_right fun _ => ?_
    exact beq_iff_eq
  constructor
  · intro h b hb
    rw [← hseen]
    have e : (vf 256 (seen l 256)).toList[b]? = some (seen l 256 b) := by rw [Vector.getElem?_toList]; exact vf_getq _ hb
    have := h _ (List.mem_of_getElem? e)
    generalize seen l 256 b = q at this
    cases q
    · exact absurd rfl this
    · rfl
  · intro h x hx
    obtain ⟨b, hb⟩ := List.mem_iff_getElem?.1 hx
    have hb' : b < 256 := by have := (List.getElem?_eq_some_iff.1 hb).1; rwa [Vector.length_toList] at this
    rw [Vector.getElem?_toList, vf_getq _ hb', (hseen b).2 (h b hb')] at hb
    cases hb
    simp
theorem seen_impl (l : List Blk) (j : Nat) (hj : j < 16) (hl : l.length < 9223372036854775807) (o : List Int) : iter (L1_impl_DistinguishedBytes l (o, (j : Int))) (Vector.replicate 256 false, 0) = some (vf 256 (seen (colB l j) l.length)) := by
  have := iter_run (f := L1_impl_DistinguishedBytes l (o, (j : Int))) (fun i : Nat => (vf 256 (seen (colB l j) i), (i : Int))) 0 l.length (Nat.zero_le _) (t := vf 256 (seen (colB l j) l.length)) (fun i _ hi => by
    unfold L1_impl_DistinguishedBytes
    simp only [Int.ofNat_lt, hi, decide_true, if_true, idx_cast, List.getElem?_eq_getElem hi, Option.bind_some, vidx_bf _ hj, vidx_seen 256 _ _ (UInt8.toNat_lt _), bI_toNat, vf_set, seen_col l j hi, wr_nat (show i < 9223372036854775807 by omega)]) (by unfold L1_impl_DistinguishedBytes; simp)
  rw [seen_zero 256 (colB l j)]
  exact this
/-- No one of the first i occurred before. -/
def freshB (l : List UInt8) (i : Nat) : Bool := !((List.range' 0 i).any fun k => seen l k (l.getD k 0).toNat)
theorem freshB_succ (l : List UInt8) (i : Nat) : freshB l (i + 1) = (freshB l i && !seen l i (l.getD i 0).toNat) := by
  unfold freshB
  rw [List.range'_1_concat, List.any_append]
  simp
theorem fresh_spec (l : List Blk) (h256 : l.length = 256) (j : Nat) (hj : j < 16) (o : List Int) : iter (L1_spec_DistinguishedBytes l (o, (j : Int))) (Vector.replicate 256 false, true, 0) = some (diffB (colB l j)) := by
  have hcl : (colB l j).length = 256 := by simpa [colB] using h256
  have hend : freshB (colB l j) 256 = diffB (colB l j) := by
    have := seen_any (colB l j)
    rw [hcl] at this
    unfold freshB
    rw [show (256 - 0) = 256 from rfl] at this
    rw [this]; simp
  have := iter_run (f := L1_spec_DistinguishedBytes l (o, (j : Int))) (fun i : Nat => (vf 256 (seen (colB l j) i), freshB (colB l j) i, (i : Int))) 0 256 (by omega) (t := diffB (colB l j)) (fun i _ hi => by
    have hi' : i < l.length := by omega
    unfold L1_spec_DistinguishedBytes
    have e := colB_getD l j hi'
    simp only [lt256 hi, if_true, idx_cast, List.getElem?_eq_getElem hi', Option.bind_some, vidx_bf _ hj, vidx_seen 256 _ _ (UInt8.toNat_lt _), bI_toNat, vf_set, seen_col l j hi', wr_nat (show i < 9223372036854775807 by omega), freshB_succ, e]
    cases freshB (colB l j) i <;> simp) (by
    unfold L1_spec_DistinguishedBytes
    simp only [hend]; simp)
  rw [seen_zero 256 (colB l j)]
  exact this
def distC (l : List Blk) : List Int := filtL (fun j => diffB (colB l j)) 16
theorem dist_impl (l : List Blk) (h256 : l.length = 256) : iter (L0_impl_DistinguishedBytes l) ([], 0) = some (distC l) := by
  have := iter_run (f := L0_impl_DistinguishedBytes l) (fun g : Nat => (filtL (fun j => diffB (colB l j)) g, (g : Int))) 0 16 (by omega) (t := distC l) (fun g _ hg => by
    have e1 : slc (vf 256 (seen (colB l g) 256)).toList (0 : Int) (256 : Int) = some (vf 256 (seen (colB l g) 256)).toList := by
      have := slc_ok (l := (vf 256 (seen (colB l g) 256)).toList) (i := 0) (j := 256) (by omega) (by simp)
      simp only [List.drop_zero] at this
      rw [List.take_of_length_le (by simp)] at this
      exact this
    have hlt : (vf 256 (seen (colB l g) 256)).toList.length < 9223372036854775807 := by rw [Vector.length_toList]; omega
    have hm := all_marks (colB l g) (by simpa [colB] using h256)
    unfold L0_impl_DistinguishedBytes
    simp only [lt16 hg, if_true, seen_impl l g hg (by omega), h256, Option.bind_some, e1, v_containsB _ hlt, hm, app_filt _ g (by omega), wr_nat (show g < 9223372036854775807 by omega), filtL_succ]
    cases diffB (colB l g) <;> rfl) (by unfold L0_impl_DistinguishedBytes; simp [distC])
  exact this
theorem dist_spec (l : List Blk) (h256 : l.length = 256) : iter (L0_spec_DistinguishedBytes l) ([], 0) = some (distC l) := by
  have := iter_run (f := L0_spec_DistinguishedBytes l) (fun g : Nat => (filtL (fun j => diffB (colB l j)) g, (g : Int))) 0 16 (by omega) (t := distC l) (fun g _ hg => by
    unfold L0_spec_DistinguishedBytes
    simp only [lt16 hg, if_true, fresh_spec l h256 g hg, Option.bind_some, app_filt _ g (by omega), wr_nat (show g < 9223372036854775807 by omega), filtL_succ]
    cases diffB (colB l g) <;> rfl) (by unfold L0_spec_DistinguishedBytes; simp [distC])
  exact this
theorem distC_len (l : List Blk) : (distC l).length ≤ 16 := filtL_len _ _
def distResC (c : GCipher) (key block : Blk) (i n : Int) : List Int × Int := if setCode c i n != 0 then ([], setCode c i n) else (distC (setOfC c key block i n), 0)
theorem v_spec_DistinguishedBytes (c : GCipher) (key block : Blk) (i n : Int) : F_spec_DistinguishedBytes c key block i n = some (distResC c key block i n) := by
  unfold F_spec_DistinguishedBytes distResC
  simp only [v_l11Code, Option.bind_some]
  by_cases h0 : setCode c i n = 0
  · simp [h0, s_l11Set h0, dist_spec _ (setOf_len c key block i n)]
  · have : (setCode c i n != 0) = true := by simpa using h0
    simp [this]
theorem v_impl_DistinguishedBytes (c : GCipher) (key block : Blk) (i n : Int) : F_impl_DistinguishedBytes c key block i n = some (distResC c key block i n) := by
  unfold F_impl_DistinguishedBytes distResC
  simp only [v_checkSet, Option.bind_some]
  by_cases h0 : setCode c i n = 0
  · simp [h0, s_setOf h0, dist_impl _ (setOf_len c key block i n)]
  · have : (setCode c i n != 0) = true := by simpa using h0
    simp [this]
theorem distRes_len (c : GCipher) (key block : Blk) (i n : Int) : (distResC c key block i n).1.length ≤ 256 := by
  unfold distResC
  split
  · simp
  · have := distC_len (setOfC c key block i n)
    generalize distC (setOfC c key block i n) = q at this ⊢
    exact Nat.le_trans this (by omega)
theorem law_FnExactDistinguishedBytes (c : GCipher) (key block : Blk) (i n : Int) (_ : Dat.bd c) (_ : Dat.bd key) (_ : Dat.bd block) (_ : Dat.bd i) (_ : Dat.bd n) : F_laws_FnExactDistinguishedBytes c key block i n = some true := by
  unfold F_laws_FnExactDistinguishedBytes
  have hr := distRes_len c key block i n
  have hrl : Wt.ln (distResC c key block i n).1 := ln_ints (by omega)
  obtain ⟨r', m2, m3⟩ := v_markInt64S (distResC c key block i n).1 hrl 1 (by omega) (by rw [sum_oneI]; omega)
  have e2 : ¬ ((1 : Int) + (((distResC c key block i n).1.map fun _ => 1).sum : Nat) < 0) := by omega
  simp [v_toCipher, v_toBlock, v_spec_DistinguishedBytes, v_impl_DistinguishedBytes, v_eqInt64S _ hrl, m2, m3, e2]
def tab (n : Nat) (f : Nat → UInt8) : List UInt8 := (List.range n).map f
@[simp] theorem tab_len (n : Nat) (f : Nat → UInt8) : (tab n f).length = n := by simp [tab]
section
variable (m : Nat) (p : List UInt8)
end
section
variable {m : Nat} (h1 : 256 ≤ m) (h2 : m < 512)
include h1 h2
end
section
variable {m : Nat} (h1 : 256 ≤ m) (h2 : m < 512)
include h1 h2
end
section
variable {m : Nat} (h1 : 256 ≤ m) (h2 : m < 512)
include h1 h2
end
end Go.Proofs.Ythlmkdjednppkaa
