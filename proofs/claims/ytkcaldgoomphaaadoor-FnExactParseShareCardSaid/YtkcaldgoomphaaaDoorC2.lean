/- Plain laws, no program in sight. -/
import Derived.Test.YtkcaldgoomphaaaDoorC1
set_option linter.unusedVariables false
set_option linter.unusedSimpArgs false
namespace Go.Proofs.YtkcaldgoomphaaaDoor
open Go
theorem idx_nat {α : Type} {l : List α} {i : Nat} (h : i < l.length) : idx l (i : Int) = some l[i] := by
  unfold idx
  rw [if_pos (by omega)]
  simp
theorem wr_nat {i : Nat} (h : i < 9223372036854775807) : wr ((i : Int) + 1) = ((i + 1 : Nat) : Int) := by
  rw [wr_id (by omega)]; rfl

section
variable {S T : Type} {f : S → Option (Fl S T)}
/-- Rounds that go on. -/
theorem iter_to (g : Nat → S) (m n : Nat) (hmn : m ≤ n) (h : ∀ i, m ≤ i → i < n → f (g i) = some (.nx (g (i + 1)))) : iter f (g m) = iter f (g n) := by
  induction n with
  | zero => have : m = 0 := by omega
            subst this; rfl
  | succ n ih =>
    rcases Nat.lt_or_ge m (n + 1) with h1 | h1
    · rw [ih (by omega) (fun i h2 h3 => h i h2 (by omega)), iter_nx (h n (by omega) (by omega))]
    · have : m = n + 1 := by omega
      subst this; rfl
/-- A loop that runs to its end. -/
theorem iter_run (g : Nat → S) (m n : Nat) (hmn : m ≤ n) {t : T} (h : ∀ i, m ≤ i → i < n → f (g i) = some (.nx (g (i + 1)))) (he : f (g n) = some (.ex t)) : iter f (g m) = some t := by
  rw [iter_to g m n hmn h, iter_ex he]
end

/-- How much data hold, beside what is of one size; that all lengths are numbers. -/
class Wt (α : Type) [Dat α] where
  wt : α → Nat
  ln : α → Prop
  bdln : ∀ x, Dat.bd x → ln x
  wtln : ∀ x, wt x ≤ 1048576 → ln x
instance : Wt Int := ⟨fun _ => 0, fun _ => True, fun _ _ => trivial, fun _ _ => trivial⟩
instance : Wt UInt8 := ⟨fun _ => 0, fun _ => True, fun _ _ => trivial, fun _ _ => trivial⟩
instance : Wt Bool := ⟨fun _ => 0, fun _ => True, fun _ _ => trivial, fun _ _ => trivial⟩
instance : Wt Str := ⟨fun s => s.l.length, fun s => s.l.length ≤ 9223372036854775807, fun _ h => h, fun _ h => by omega⟩
instance {n : Nat} : Wt (Vector UInt8 n) := ⟨fun _ => 0, fun _ => True, fun _ _ => trivial, fun _ _ => trivial⟩
instance {n m : Nat} : Wt (Vector (Vector UInt8 m) n) := ⟨fun _ => 0, fun _ => True, fun _ _ => trivial, fun _ _ => trivial⟩
theorem sum_mem {α : Type} {f : α → Nat} {l : List α} {x : α} (h : x ∈ l) : f x ≤ (l.map f).sum := by
  induction l with
  | nil => cases h
  | cons y l ih =>
    rw [List.map_cons, List.sum_cons]
    rcases List.mem_cons.1 h with rfl | h
    · omega
    · have := ih h; omega
instance {α : Type} [Dat α] [Wt α] : Wt (List α) := ⟨fun l => l.length + (l.map Wt.wt).sum, fun l => l.length ≤ 9223372036854775807 ∧ ∀ x ∈ l, Wt.ln x, fun _ h => ⟨h.1, fun x hx => Wt.bdln x (h.2 x hx)⟩,
  fun l h => ⟨by omega, fun x hx => Wt.wtln x (by have := sum_mem (f := Wt.wt) hx; omega)⟩⟩
instance {α β : Type} [Dat α] [Dat β] [Wt α] [Wt β] : Wt (α × β) := ⟨fun x => Wt.wt x.1 + Wt.wt x.2, fun x => Wt.ln x.1 ∧ Wt.ln x.2, fun x h => ⟨Wt.bdln x.1 h.1, Wt.bdln x.2 h.2⟩, fun x h => ⟨Wt.wtln x.1 (by omega), Wt.wtln x.2 (by omega)⟩⟩
theorem wt_list {α : Type} [Dat α] [Wt α] (l : List α) : Wt.wt l = l.length + (l.map Wt.wt).sum := rfl
theorem ln_len {α : Type} [Dat α] [Wt α] {l : List α} (h : Wt.ln l) : l.length ≤ 9223372036854775807 := h.1
theorem eq_loop {α : Type} (p0 : List α) (ne : α → α → Option Bool) (L : Int → Option (Fl Int (Fl Unit Bool)))
    (hL : ∀ s, L s = if (decide (s < (p0.length : Int))) = true then (((idx p0 s).bind fun x => (idx p0 s).bind fun y => ne x y : Option Bool).bind fun j => if j = true then (some (Fl.ex (Fl.ex false))) else (some (Fl.nx (wr (s + 1))))) else (some (Fl.ex (Fl.nx ()))))
    (hn : ∀ x ∈ p0, ne x x = some false) (hl : p0.length ≤ 9223372036854775807) :
    (if ((p0.length : Int) != (p0.length : Int)) = true then (some false) else ((iter L 0 : Option (Fl Unit Bool)).bind fun j2 => j2.el (fun _ => some true) (fun r => some r))) = some true := by
  have := iter_run (f := L) (fun i : Nat => (i : Int)) 0 p0.length (Nat.zero_le _) (t := .nx ()) (fun i _ hi => by
    rw [hL]
    simp only [Int.ofNat_lt, hi, decide_true, if_true, idx_nat hi, Option.bind_some, hn _ (List.getElem_mem hi)]
    simp [wr_nat (show i < 9223372036854775807 by omega)]) (by
    rw [hL]; simp)
  have h2 : iter L 0 = some (.nx ()) := this
  simp [h2, Fl.el]

@[simp] theorem idx_cast {α : Type} (l : List α) (i : Nat) : idx l (i : Int) = l[i]? := by unfold idx; simp
@[simp] theorem idx_zero {α : Type} (l : List α) : idx l (0 : Int) = l[0]? := idx_cast l 0
theorem app_ok {α : Type} {by_ : Nat} {l m : List α} (h : (l.length + m.length) * by_ ≤ 140737488355328) : app by_ l m = some (l ++ m) := by unfold app; rw [if_pos h]
@[simp] theorem vidx_cast {α : Type} {n : Nat} (v : Vector α n) (i : Nat) : vidx v (i : Int) = v[i]? := by unfold vidx; simp
theorem wr_k {k : Int} (h : 0 ≤ k) (h2 : k < 9223372036854775807) : wr (k + 1) = k + 1 := wr_id (by omega)
/-- A mark of n numbers from k on, and the look that finds it. -/
def MarkOk {α : Type} (Fm : α → Int → Option (α × Int)) (Fh : α → Int → Option Int) (x : α) (n : Nat) : Prop :=
  ∀ k : Int, 0 ≤ k → k + n ≤ 4611686018427387904 → ∃ x', Fm x k = some (x', k + n) ∧ Fh x' k = some (k + n)
theorem mark_list {α : Type} (Fm : List α → Int → Option (List α × Int)) (Fh : List α → Int → Option Int) (Lm : List α × Int × Int → Option (Fl (List α × Int × Int) (List α × Int))) (Lh : List α → Int × Int → Option (Fl (Int × Int) (Fl Int Int))) (mk : α → Nat)
    (hFm : ∀ l k, Fm l k = (iter Lm (l, k, 0) : Option (List α × Int)).bind fun j1 => some (j1.1, j1.2)) (hFh : ∀ l k, Fh l k = (iter (Lh l) (k, 0) : Option (Fl Int Int)).bind fun j1 => j1.el (fun s => some s) (fun r => some r))
    (l : List α) (hl : l.length ≤ 9223372036854775807)
    (hm : ∀ (l' : List α) (i : Nat) (k : Int) (hi : i < l'.length), l'[i] ∈ l → i < 9223372036854775807 → 0 ≤ k → k + mk l'[i] ≤ 4611686018427387904 → ∃ x', Lm (l', k, (i : Int)) = some (.nx (l'.set i x', k + mk l'[i], wr ((i : Int) + 1))) ∧
      ∀ (m : List α), m[i]? = some x' → Lh m (k, (i : Int)) = some (.nx (k + mk l'[i], wr ((i : Int) + 1))))
    (hme : ∀ (l' : List α) k, Lm (l', k, (l'.length : Int)) = some (.ex (l', k))) (hhe : ∀ (m : List α) k, Lh m (k, (m.length : Int)) = some (.ex (.nx k))) : MarkOk Fm Fh l (l.map mk).sum := by
  have aux : ∀ (n i : Nat) (l' : List α) (k : Int), i + n = l'.length → l'.length = l.length → l'.drop i = l.drop i → 0 ≤ k → k + (((l.drop i).map mk).sum : Nat) ≤ 4611686018427387904 →
      ∃ l'', iter Lm (l', k, (i : Int)) = some (l'', k + (((l.drop i).map mk).sum : Nat)) ∧ l''.length = l'.length ∧ (∀ j, j < i → l''[j]? = l'[j]?) ∧ iter (Lh l'') (k, (i : Int)) = some (.nx (k + (((l.drop i).map mk).sum : Nat))) := by
    intro n
    induction n with
    | zero =>
      intro i l' k hi hll hd h0 hk
      have hi : i = l'.length := by omega
      subst hi
      have e : l.drop l'.length = [] := by rw [hll]; simp
      rw [e]
      refine ⟨l', ?_, rfl, fun _ _ => rfl, ?_⟩
      · rw [iter_ex (hme l' k)]; simp
      · rw [iter_ex (hhe l' k)]; simp
    | succ n ih =>
      intro i l' k hi hll hd h0 hk
      have hil : i < l'.length := by omega
      have hil2 : i < l.length := by omega
      have e1 : l'[i] = l[i] := by
        have h1 := List.drop_eq_getElem_cons hil
        have h2 := List.drop_eq_getElem_cons hil2
        rw [h1, h2] at hd
        exact (List.cons.inj hd).1
      have e2 : l.drop i = l[i] :: l.drop (i + 1) := List.drop_eq_getElem_cons hil2
      rw [e2, List.map_cons, List.sum_cons] at hk ⊢
      obtain ⟨x', h1, h2⟩ := hm l' i k hil (by rw [e1]; exact List.getElem_mem hil2) (by omega) h0 (by rw [e1]; omega)
      rw [e1] at h1 h2
      rw [wr_nat (by omega)] at h1 h2
      obtain ⟨l'', k1, k2, k3, k4⟩ := ih (i + 1) (l'.set i x') (k + mk l[i]) (by simp; omega) (by simpa using hll) (by
        rw [List.drop_set_of_lt (by omega)]
        have h1 := List.drop_eq_getElem_cons hil
        rw [h1, e2] at hd
        exact (List.cons.inj hd).2) (by omega) (by omega)
      refine ⟨l'', ?_, by simpa using k2, fun j hj => ?_, ?_⟩
      · rw [iter_nx h1, k1]; congr 2; omega
      · rw [k3 j (by omega), List.getElem?_set_ne (by omega)]
      · rw [iter_nx (h2 l'' (by rw [k3 i (by omega)]; simp [hil])), k4]; congr 2; omega
  intro k h0 hk
  obtain ⟨l'', k1, k2, k3, k4⟩ := aux l.length 0 l k (by omega) rfl rfl h0 (by simpa using hk)
  simp only [List.drop_zero] at k1 k4
  refine ⟨l'', ?_, ?_⟩
  · rw [hFm]
    have : iter Lm (l, k, 0) = _ := k1
    rw [this]; rfl
  · rw [hFh]
    have : iter (Lh l'') (k, 0) = _ := k4
    rw [this]; rfl
theorem wt_bytes (l : List UInt8) : Wt.wt l = l.length := by
  rw [wt_list]
  have : (l.map Wt.wt).sum = 0 := by
    induction l with
    | nil => rfl
    | cons x l ih => rw [List.map_cons, List.sum_cons, ih]; rfl
  omega
theorem v_eqByteS (l : List UInt8) (h : Wt.ln l) : F_laws_eqByteS l l = some true := by
  unfold F_laws_eqByteS
  exact eq_loop l (fun x y => some (x != y)) (L0_laws_eqByteS l l) (fun s => by unfold L0_laws_eqByteS; rfl) (fun x _ => by simp) (ln_len h)
theorem v_markByteS (l : List UInt8) (h : Wt.ln l) : MarkOk F_laws_markByteS F_laws_heldByteS l (l.map fun _ => 1).sum :=
  mark_list F_laws_markByteS F_laws_heldByteS L0_laws_markByteS L0_laws_heldByteS (fun _ => 1) (fun _ _ => rfl) (fun _ _ => rfl) l (ln_len h) (fun l' i k hi _ _ h0 hk => by
    have e := wr_k (k := k) h0 (by omega)
    refine ⟨byteI k, ?_, fun m hm => ?_⟩
    · unfold L0_laws_markByteS
      simp only [Int.ofNat_lt, hi, decide_true, if_true, idx_cast, List.getElem?_eq_getElem hi, Option.bind_some, Int.toNat_natCast, e]; rfl
    · have hi' := (List.getElem?_eq_some_iff.1 hm).1
      unfold L0_laws_heldByteS
      simp only [Int.ofNat_lt, hi', decide_true, if_true, idx_cast, hm, Option.bind_some, bne_self_eq_false, Bool.false_eq_true, if_false, e]; rfl) (fun l' k => by unfold L0_laws_markByteS; simp) (fun m k => by unfold L0_laws_heldByteS; simp)
instance : Wt GShare := ⟨fun x => Wt.wt x.Data, fun x => Wt.ln x.Data, fun x h => Wt.bdln x.Data h.2, fun x h => Wt.wtln x.Data h⟩
theorem v_eqShare (x : GShare) (h : Wt.ln x) : F_laws_eqShare x x = some true := by
  unfold F_laws_eqShare
  simp [v_eqByteS x.Data h]
theorem sum_one (l : List UInt8) : (l.map fun _ => 1).sum = l.length := by
  induction l with
  | nil => rfl
  | cons x l ih => rw [List.map_cons, List.sum_cons, ih, List.length_cons]; omega
/-- The remainder, bit by bit from the top: k bits are looked at. -/
def restR (m deg : Nat) : Nat → Nat → Nat
  | 0, a => a
  | k + 1, a => restR m deg k (if a.testBit (deg + k) then a ^^^ (m <<< k) else a)
/-- A product without carry, by the bits of the second from the lowest. -/
def mulC : Nat → Nat → Nat → Nat
  | 0, _, _ => 0
  | n + 1, a, b => (if b % 2 = 1 then a else 0) ^^^ mulC n (a <<< 1) (b / 2)
/-- The product of two elements. -/
def timesC (m : Nat) (a b : UInt8) : UInt8 := byteI ((restR m 8 8 (mulC 8 a.toNat b.toNat) : Nat) : Int)
def tab (n : Nat) (f : Nat → UInt8) : List UInt8 := (List.range n).map f
@[simp] theorem tab_len (n : Nat) (f : Nat → UInt8) : (tab n f).length = n := by simp [tab]
/-- What a list of shares is whose code is 0. -/
structure Good (l : List GShare) : Prop where
  share : ∀ s ∈ l, True ∧ s.Data.length ≤ 100
  diff : (l.map (·.Place)).Nodup
  len : 1 ≤ l.length ∧ l.length ≤ 13
  even : ∀ s ∈ l, s.Data.length = (l.headD default).Data.length
theorem Good.take {l : List GShare} (h : Good l) {t : Nat} (h1 : 1 ≤ t) (h2 : t ≤ l.length) : Good (l.take t) := by
  have hd : (l.take t).headD default = l.headD default := by
    cases l with
    | nil => simp
    | cons x l => cases t with
      | zero => omega
      | succ t => rfl
  refine ⟨fun s hs => h.share s (List.mem_of_mem_take hs), ?_, by rw [List.length_take]; have := h.len; omega, fun s hs => by rw [hd]; exact h.even s (List.mem_of_mem_take hs)⟩
  rw [List.map_take]
  exact (List.take_sublist _ _).nodup h.diff
theorem v_markShare (x : GShare) (h : Wt.ln x) : MarkOk F_laws_markShare F_laws_heldShare x (x.Data.map fun _ => 1).sum := by
  intro k h0 hk
  obtain ⟨d', e1, e2⟩ := v_markByteS x.Data h k h0 hk
  refine ⟨⟨x.Place, d'⟩, ?_, ?_⟩
  · unfold F_laws_markShare; rw [e1]; rfl
  · unfold F_laws_heldShare
    have : ¬ (k + ((x.Data.map fun _ => 1).sum : Nat) < 0) := by omega
    simp [e2, this]
theorem held_place (x : GShare) (p : UInt8) (k : Int) : F_laws_heldShare ⟨p, x.Data⟩ k = F_laws_heldShare x k := rfl
/-- g is a polynomial of degree below n. -/
def PolyN (m : Nat) : Nat → (UInt8 → UInt8) → Prop
  | 0, g => ∀ x, g x = 0
  | n + 1, g => ∃ c h, PolyN m n h ∧ ∀ x, g x = c ^^^ timesC m x (h x)
/-- The shares' bytes lie on polynomials. -/
structure OnPoly (m t N : Nat) (l : List GShare) (g : Nat → UInt8 → UInt8) : Prop where
  deg : ∀ k, PolyN m t (g k)
  data : ∀ s ∈ l, s.Data = tab N (fun k => g k s.Place)
theorem OnPoly.len {m t N : Nat} {l : List GShare} {g : Nat → UInt8 → UInt8} (h : OnPoly m t N l g) : ∀ s ∈ l, s.Data.length = N := fun s hs => by rw [h.data s hs, tab_len]
def digC (c : UInt8) : Bool := decide (48 ≤ c.toNat) && decide (c.toNat ≤ 57)
def dval (acc : Nat) (l : List UInt8) : Nat := l.foldl (fun a c => a * 10 + (c.toNat - 48)) acc
def canonC (l : List UInt8) : Bool := decide (0 < l.length) && decide (l.length ≤ 9) && l.all digC && (decide (l.length ≤ 1) || !(l.getD 0 0 == 48))
theorem digC_le {c : UInt8} (h : digC c = true) : 48 ≤ c.toNat ∧ c.toNat ≤ 57 := by
  unfold digC at h; simpa using h
theorem dec_one {n : Nat} (h : n < 10) : Lib.decDigits n = [UInt8.ofNat (48 + n)] := by
  unfold Lib.decDigits; rw [dif_pos h]
theorem dec_more {n : Nat} (h : ¬ n < 10) : Lib.decDigits n = Lib.decDigits (n / 10) ++ [UInt8.ofNat (48 + n % 10)] := by
  rw [Lib.decDigits.eq_1 n]; rw [dif_neg h]
theorem dec_dval : ∀ (l : List UInt8) (acc : Nat), 1 ≤ acc → l.all digC = true → Lib.decDigits (dval acc l) = Lib.decDigits acc ++ l
  | [], acc, _, _ => by simp [dval]
  | c :: r, acc, ha, h => by
    simp only [List.all_cons, Bool.and_eq_true] at h
    have hc := digC_le h.1
    have e : dval acc (c :: r) = dval (acc * 10 + (c.toNat - 48)) r := rfl
    rw [e, dec_dval r _ (by omega) h.2, dec_more (by omega)]
    have e1 : (acc * 10 + (c.toNat - 48)) / 10 = acc := by omega
    have e2 : 48 + (acc * 10 + (c.toNat - 48)) % 10 = c.toNat := by omega
    rw [e1, e2]; simp
theorem dec_canon {l : List UInt8} (h : canonC l = true) : Lib.decDigits (dval 0 l) = l := by
  unfold canonC at h
  simp only [Bool.and_eq_true, decide_eq_true_eq] at h
  obtain ⟨⟨⟨h0, _⟩, hd⟩, h1⟩ := h
  match l, h0, hd, h1 with
  | c :: r, _, hd, h1 =>
    simp only [List.all_cons, Bool.and_eq_true] at hd
    have hc := digC_le hd.1
    have e : dval 0 (c :: r) = dval (c.toNat - 48) r := by unfold dval; simp
    have e2 : UInt8.ofNat (48 + (c.toNat - 48)) = c := by rw [show 48 + (c.toNat - 48) = c.toNat by omega]; simp
    rw [e]
    by_cases hz : c = 48
    · subst hz
      have : r = [] := by
        simp at h1
        exact h1
      subst this
      exact dec_one (n := 0) (by omega)
    · have : c.toNat ≠ 48 := fun h => hz (UInt8.toNat_inj.1 h)
      rw [dec_dval r _ (by omega) hd.2, dec_one (by omega), e2]; rfl
theorem dec_digits : ∀ (n : Nat), ∃ c r, Lib.decDigits n = c :: r ∧ (c :: r).all digC = true ∧ (1 ≤ n → c ≠ 48) ∧ (n < 10 → r = []) := by
  intro n
  induction n using Nat.strongRecOn with
  | ind n ih =>
    have hd : ∀ k, k < 10 → (UInt8.ofNat (48 + k)).toNat = 48 + k := fun k hk => by simp; omega
    by_cases h : n < 10
    · refine ⟨_, _, dec_one h, ?_, ?_, fun _ => rfl⟩
      · simp only [List.all_cons, List.all_nil, Bool.and_true]
        unfold digC
        rw [hd n h]; simp; omega
      · intro h1 he
        have := congrArg UInt8.toNat he
        rw [hd n h] at this
        simp at this; omega
    · obtain ⟨c, r, e, a1, a2, _⟩ := ih (n / 10) (by omega)
      refine ⟨c, r ++ [UInt8.ofNat (48 + n % 10)], by rw [dec_more h, e]; rfl, ?_, fun _ => a2 (by omega), fun h' => absurd h' h⟩
      rw [← List.cons_append, List.all_append, a1]
      simp only [List.all_cons, List.all_nil, Bool.and_true, Bool.true_and]
      unfold digC
      rw [hd _ (by omega)]; simp; omega
theorem canon_dec {n : Nat} (h : (Lib.decDigits n).length ≤ 9) : canonC (Lib.decDigits n) = true := by
  obtain ⟨c, r, e, a1, a2, a3⟩ := dec_digits n
  rw [e] at h ⊢
  unfold canonC
  rw [a1]
  simp only [Bool.and_eq_true, decide_eq_true_eq, Bool.or_eq_true, Bool.not_eq_true']
  refine ⟨⟨⟨by simp, h⟩, trivial⟩, ?_⟩
  by_cases hn : n < 10
  · left; rw [a3 hn]; simp
  · right
    have := a2 (by omega)
    simpa using this
theorem parse_dig (M : Nat) (hM : 1000000000 ≤ M) : ∀ (l : List UInt8) (acc k p : Nat), p = 10 ^ k → k + l.length ≤ 9 → acc < p → l.all digC = true → Lib.parseUintM M acc l = .ok (dval acc l) ∧ dval acc l < 1000000000
  | [], acc, k, p, hp, hk, ha, _ => by
    have : 10 ^ k ≤ 10 ^ 9 := Nat.pow_le_pow_right (by omega) (by simp at hk; omega)
    exact ⟨rfl, by show acc < _; omega⟩
  | c :: r, acc, k, p, hp, hk, ha, h => by
    simp only [List.all_cons, Bool.and_eq_true] at h
    simp only [List.length_cons] at hk
    have hc := digC_le h.1
    have e : dval acc (c :: r) = dval (acc * 10 + (c.toNat - 48)) r := rfl
    have h9 : 10 ^ (k + 1) ≤ 10 ^ 9 := Nat.pow_le_pow_right (by omega) (by omega)
    have hp1 : 10 ^ (k + 1) = p * 10 := by rw [hp, Nat.pow_succ]
    unfold Lib.parseUintM
    rw [if_pos hc, if_neg (by omega), if_neg (by omega), e]
    exact parse_dig M hM r _ (k + 1) (p * 10) hp1.symm (by omega) (by omega) h.2
theorem rdec_eq (l : List UInt8) : rdec l = if canonC l then (((dval 0 l : Nat) : Int), true) else (0, false) := by
  cases hc : canonC l with
  | true =>
    have hd := dec_canon hc
    unfold canonC at hc
    simp only [Bool.and_eq_true, decide_eq_true_eq] at hc
    obtain ⟨⟨⟨h0, h9⟩, hd'⟩, _⟩ := hc
    obtain ⟨p1, p2⟩ := parse_dig (2 ^ 64 - 1) (by decide) l 0 0 1 rfl (by omega) (by omega) hd'
    have hp : Lib.parseIntB 64 l = .ok ((dval 0 l : Nat) : Int) := by
      match l, h0, hd', p1, p2 with
      | c :: r, _, hd', p1, p2 =>
        simp only [List.all_cons, Bool.and_eq_true] at hd'
        have hc := digC_le hd'.1
        unfold Lib.parseIntB Lib.parseUintB
        have a1 : ¬ c.toNat = 43 := by omega
        have a2 : ¬ c.toNat = 45 := by omega
        simp only [a1, a2, or_self, if_false, List.cons_ne_nil, p1, not_false_eq_true, true_and, false_and]
        rw [if_neg (by omega)]
    unfold rdec
    rw [hp]
    have hi : Lib.itoa ((dval 0 l : Nat) : Int) = l := by unfold Lib.itoa; rw [if_neg (by omega)]; exact hd
    simp only [hi]
    rw [if_neg (show ¬ (((dval 0 l : Nat) : Int) < 0 ∨ 9 < l.length ∨ l ≠ l) by simp; omega)]; simp
  | false =>
    unfold rdec
    match hp : Lib.parseIntB 64 l with
    | Lib.NumEnd.ok n =>
      simp only
      by_cases h : n < 0 ∨ 9 < l.length ∨ Lib.itoa n ≠ l
      · rw [if_pos h]; simp
      · exfalso
        have h1 : ¬ n < 0 := fun q => h (.inl q)
        have h2 : ¬ 9 < l.length := fun q => h (.inr (.inl q))
        have h3 : Lib.itoa n = l := Classical.byContradiction fun q => h (.inr (.inr q))
        unfold Lib.itoa at h3
        rw [if_neg h1] at h3
        have := canon_dec (n := n.toNat) (by rw [h3]; omega)
        rw [h3, hc] at this
        cases this
    | Lib.NumEnd.syntax => rfl
    | Lib.NumEnd.range => rfl
theorem num_loop (l : List UInt8) (hl : l.length ≤ 9) : ∀ (k i acc p : Nat), i + k = l.length → p = 10 ^ i → acc < p →
    iter (L0_spec_l01Number ⟨l⟩) ((acc : Int), (i : Int)) = some (if (l.drop i).all digC then .nx ((dval acc (l.drop i) : Nat) : Int) else .ex (-1))
  | 0, i, acc, p, hi, _, _ => by
    have e : l.drop i = [] := List.drop_eq_nil_of_le (by omega)
    rw [e]
    exact iter_ex (by unfold L0_spec_l01Number; simp [show ¬ (i : Int) < (l.length : Int) by omega, dval])
  | k + 1, i, acc, p, hi, hp, ha => by
    have hlt : i < l.length := by omega
    have hx : idx l ((i : Nat) : Int) = some l[i] := by rw [idx_cast, List.getElem?_eq_getElem hlt]
    have ed : l.drop i = l[i] :: l.drop (i + 1) := List.drop_eq_getElem_cons hlt
    have h9 : 10 ^ (i + 1) ≤ 10 ^ 9 := Nat.pow_le_pow_right (by omega) (by omega)
    have hp1 : 10 ^ (i + 1) = p * 10 := by rw [hp, Nat.pow_succ]
    have c1 : decide (l[i] < (48 : UInt8)) = decide (l[i].toNat < 48) := by simp [UInt8.lt_iff_toNat_lt]
    have c2 : decide (l[i] > (57 : UInt8)) = decide (57 < l[i].toNat) := by simp [UInt8.lt_iff_toNat_lt]
    have hlt' : ((i : Int) < (l.length : Int)) := by omega
    by_cases hd : digC l[i] = true
    · have hb := digC_le hd
      have a1 : ¬ l[i].toNat < 48 := by omega
      have a2 : ¬ 57 < l[i].toNat := by omega
      have e1 : bI (l[i] - 48) = ((l[i].toNat - 48 : Nat) : Int) := by
        unfold bI
        rw [UInt8.toNat_sub_of_le _ _ (by rw [UInt8.le_iff_toNat_le]; simpa using hb.1)]; rfl
      have e2 : wr (wr ((acc : Int) * 10) + bI (l[i] - 48)) = ((acc * 10 + (l[i].toNat - 48) : Nat) : Int) := by
        rw [e1, wr_id (x := (acc : Int) * 10) (by omega), wr_id (by omega)]; omega
      rw [iter_nx (s' := (((acc * 10 + (l[i].toNat - 48) : Nat) : Int), ((i + 1 : Nat) : Int))) (by
        unfold L0_spec_l01Number
        simp only [hlt', decide_true, if_true, hx, Option.bind_some, c1, c2, a1, a2, decide_false, Bool.false_eq_true, if_false, e2, wr_nat (show i < 9223372036854775807 by omega)])]
      rw [num_loop l hl k (i + 1) _ (p * 10) (by omega) hp1.symm (by omega), ed, List.all_cons, hd, Bool.true_and]; rfl
    · have hd' : digC l[i] = false := by simpa using hd
      rw [ed, List.all_cons, hd', Bool.false_and]
      refine iter_ex ?_
      unfold L0_spec_l01Number
      by_cases a1 : l[i].toNat < 48
      · simp only [hlt', decide_true, if_true, hx, Option.bind_some, c1, a1]; rfl
      · have a2 : 57 < l[i].toNat := by
          unfold digC at hd'
          simp at hd'
          exact hd' (by omega)
        simp only [hlt', decide_true, if_true, hx, Option.bind_some, c1, c2, a1, a2, decide_false, Bool.false_eq_true, if_false]
theorem v_l01Number (l : List UInt8) : F_spec_l01Number ⟨l⟩ = some (if canonC l then ((dval 0 l : Nat) : Int) else -1) := by
  unfold F_spec_l01Number canonC
  by_cases h0 : l.length = 0
  · have : l = [] := List.length_eq_zero_iff.1 h0
    subst this
    rfl
  · by_cases h9 : 9 < l.length
    · have a0 : ¬ ((l.length : Int) = 0) := by omega
      have a9 : (l.length : Int) > 9 := by omega
      have b9 : ¬ l.length ≤ 9 := by omega
      simp [h0, a9, b9]
    · have a0 : ¬ ((l.length : Int) = 0) := by omega
      have a9 : ¬ (l.length : Int) > 9 := by omega
      have b9 : l.length ≤ 9 := by omega
      have b0 : 0 < l.length := by omega
      have hx : idx l (0 : Int) = some (l.getD 0 0) := by rw [idx_zero, List.getD_eq_getElem?_getD, List.getElem?_eq_getElem b0]; rfl
      have hL := num_loop l b9 l.length 0 0 1 (by omega) rfl (by omega)
      rw [List.drop_zero] at hL
      by_cases h1 : l.length ≤ 1
      · have a1 : ¬ (l.length : Int) > 1 := by omega
        simp only [beq_iff_eq, a0, a9, a1, decide_false, Bool.false_eq_true, if_false, Option.bind_some, b9, b0, h1, decide_true, Bool.true_and, Bool.and_true, Bool.true_or]
        have hL' : iter (L0_spec_l01Number ⟨l⟩) (0, 0) = _ := hL
        rw [hL']
        cases l.all digC <;> rfl
      · have a1 : (l.length : Int) > 1 := by omega
        simp only [beq_iff_eq, a0, a9, a1, decide_false, Bool.false_eq_true, if_false, if_true, hx, Option.bind_some, b9, b0, h1, decide_true, Bool.true_and, Bool.and_true, Bool.false_or]
        have hL' : iter (L0_spec_l01Number ⟨l⟩) (0, 0) = _ := hL
        by_cases hz : l.getD 0 0 = 48
        · have hz' : (l.getD 0 0 == 48) = true := by simpa using hz
          rw [if_pos hz]
          simp only [hz', Bool.not_true, Bool.and_false, Bool.false_eq_true, if_false]
        · have hz' : (l.getD 0 0 == 48) = false := by simpa using hz
          rw [if_neg hz]
          simp only [hz', hL', Option.bind_some, Bool.not_false, Bool.and_true]
          cases l.all digC <;> rfl
def hv (c : UInt8) : Option UInt8 := if 48 ≤ c.toNat ∧ c.toNat ≤ 57 then some (c - 48) else if 97 ≤ c.toNat ∧ c.toNat ≤ 102 then some (c - 97 + 10) else none
def unhex : List UInt8 → Option (List UInt8)
  | a :: b :: r => match hv a, hv b with
    | some x, some y => (unhex r).map ((shlB x 4 ||| y) :: ·)
    | _, _ => none
  | [] => some []
  | [_] => none
theorem all_u8 {p : UInt8 → Prop} (h : ∀ k : Fin 256, p (UInt8.ofNat k.val)) : ∀ x, p x := fun x => by
  have := h ⟨x.toNat, x.toNat_lt⟩
  simpa using this
theorem v_hexDigit : ∀ c : UInt8, F_impl_hexDigit c = some ((hv c).getD 0, (hv c).isSome) := by
  have h : ∀ k : Fin 256, F_impl_hexDigit (UInt8.ofNat k.val) = some ((hv (UInt8.ofNat k.val)).getD 0, (hv (UInt8.ofNat k.val)).isSome) := by
    unfold F_impl_hexDigit; decide +kernel
  exact all_u8 h
theorem v_l01Digit : ∀ c : UInt8, F_spec_l01Digit c = some (match hv c with | some x => bI x | none => -1) := by
  have h : ∀ k : Fin 256, F_spec_l01Digit (UInt8.ofNat k.val) = some (match hv (UInt8.ofNat k.val) with | some x => bI x | none => -1) := by
    unfold F_spec_l01Digit; decide +kernel
  exact all_u8 h
theorem hv_lt {c x : UInt8} (h : hv c = some x) : x.toNat < 16 := by
  have : ∀ k : Fin 256, ∀ x, hv (UInt8.ofNat k.val) = some x → x.toNat < 16 := by
    intro k
    have q : ∀ k : Fin 256, (match hv (UInt8.ofNat k.val) with | some x => decide (x.toNat < 16) | none => true) = true := by decide +kernel
    intro x hx
    have := q k
    rw [hx] at this
    simpa using this
  exact all_u8 (p := fun c => ∀ x, hv c = some x → x.toNat < 16) this c x h
theorem hex_pair {x y : UInt8} (hx : x.toNat < 16) (hy : y.toNat < 16) : byteI (wr (wr (16 * bI x) + bI y)) = shlB x 4 ||| y := by
  have h : ∀ a b : Fin 16, byteI (wr (wr (16 * bI (UInt8.ofNat a.val)) + bI (UInt8.ofNat b.val))) = shlB (UInt8.ofNat a.val) 4 ||| UInt8.ofNat b.val := by decide +kernel
  have := h ⟨x.toNat, hx⟩ ⟨y.toNat, hy⟩
  simpa using this
theorem bI_nonneg (x : UInt8) : ¬ bI x < 0 := by unfold bI; omega
theorem hexI_loop (l : List UInt8) (hl : l.length ≤ 2000000) : ∀ (k i : Nat) (acc : List UInt8), i + 2 * k = l.length → acc.length ≤ i →
    iter (L0_impl_fromHex ⟨l⟩) (acc, (i : Int)) = some (match unhex (l.drop i) with | some r => .nx (acc ++ r) | none => .ex ([], false))
  | 0, i, acc, hi, _ => by
    have e : l.drop i = [] := List.drop_eq_nil_of_le (by omega)
    rw [e]
    exact iter_ex (by unfold L0_impl_fromHex; simp [show ¬ (i : Int) < (l.length : Int) by omega, unhex])
  | k + 1, i, acc, hi, ha => by
    have h1 : i < l.length := by omega
    have h2 : i + 1 < l.length := by omega
    have hx : idx l ((i : Nat) : Int) = some l[i] := by rw [idx_cast, List.getElem?_eq_getElem h1]
    have hy : idx l (wr ((i : Nat) + 1)) = some l[i + 1] := by rw [wr_nat (by omega), idx_cast, List.getElem?_eq_getElem h2]
    have ed : l.drop i = l[i] :: l[i + 1] :: l.drop (i + 2) := by rw [List.drop_eq_getElem_cons h1, List.drop_eq_getElem_cons h2]
    have hlt : ((i : Int) < (l.length : Int)) := by omega
    rw [ed]
    unfold unhex
    cases c1 : hv l[i] with
    | none =>
      refine iter_ex ?_
      unfold L0_impl_fromHex
      simp only [hlt, decide_true, if_true, hx, hy, Option.bind_some, v_hexDigit, c1, Option.isSome_none, Bool.not_false]
    | some x =>
      cases c2 : hv l[i + 1] with
      | none =>
        refine iter_ex ?_
        unfold L0_impl_fromHex
        simp only [hlt, decide_true, if_true, hx, hy, Option.bind_some, v_hexDigit, c1, c2, Option.isSome_none, Option.isSome_some, Bool.not_false, Bool.not_true, Bool.false_eq_true, if_false]
      | some y =>
        rw [iter_nx (s' := (acc ++ [shlB x 4 ||| y], ((i + 2 : Nat) : Int))) (by
          unfold L0_impl_fromHex
          simp only [hlt, decide_true, if_true, hx, hy, Option.bind_some, v_hexDigit, c1, c2, Option.isSome_some, Bool.not_true, Bool.false_eq_true, if_false, Option.getD_some]
          rw [app_ok (by simp only [List.length_cons, List.length_nil]; omega), Option.bind_some, show wr ((i : Int) + 2) = ((i + 2 : Nat) : Int) by rw [wr_id (by omega)]; omega])]
        rw [hexI_loop l hl k (i + 2) _ (by omega) (by simp; omega)]
        cases unhex (l.drop (i + 2)) <;> simp
theorem hexS_loop (l : List UInt8) (hl : l.length ≤ 2000000) : ∀ (k i : Nat) (acc : List UInt8), i + 2 * k = l.length → acc.length ≤ i →
    iter (L0_spec_l01Bytes ⟨l⟩) (acc, (i : Int)) = some (match unhex (l.drop i) with | some r => .nx (acc ++ r) | none => .ex ([], false))
  | 0, i, acc, hi, _ => by
    have e : l.drop i = [] := List.drop_eq_nil_of_le (by omega)
    rw [e]
    exact iter_ex (by
      unfold L0_spec_l01Bytes
      have hn : ¬ ((i + 1 : Nat) : Int) < (l.length : Int) := by omega
      simp only [wr_nat (show i < 9223372036854775807 by omega), hn, decide_false, Bool.false_eq_true, if_false, unhex, List.append_nil])
  | k + 1, i, acc, hi, ha => by
    have h1 : i < l.length := by omega
    have h2 : i + 1 < l.length := by omega
    have hx : idx l ((i : Nat) : Int) = some l[i] := by rw [idx_cast, List.getElem?_eq_getElem h1]
    have hy : idx l (((i + 1 : Nat)) : Int) = some l[i + 1] := by rw [idx_cast, List.getElem?_eq_getElem h2]
    have hw : wr ((i : Int) + 1) = ((i + 1 : Nat) : Int) := wr_nat (by omega)
    have ed : l.drop i = l[i] :: l[i + 1] :: l.drop (i + 2) := by rw [List.drop_eq_getElem_cons h1, List.drop_eq_getElem_cons h2]
    have hlt : (((i + 1 : Nat) : Int) < (l.length : Int)) := by omega
    rw [ed]
    unfold unhex
    cases c1 : hv l[i] with
    | none =>
      refine iter_ex ?_
      unfold L0_spec_l01Bytes
      simp only [hw, hlt, decide_true, if_true, hx, hy, Option.bind_some, v_l01Digit, c1]; rfl
    | some x =>
      cases c2 : hv l[i + 1] with
      | none =>
        refine iter_ex ?_
        unfold L0_spec_l01Bytes
        simp only [hw, hlt, decide_true, if_true, hx, hy, Option.bind_some, v_l01Digit, c1, c2, bI_nonneg, decide_false, Bool.false_eq_true, if_false]; rfl
      | some y =>
        rw [iter_nx (s' := (acc ++ [shlB x 4 ||| y], ((i + 2 : Nat) : Int))) (by
          unfold L0_spec_l01Bytes
          simp only [hw, hlt, decide_true, if_true, hx, hy, Option.bind_some, v_l01Digit, c1, c2, bI_nonneg, decide_false, Bool.false_eq_true, if_false, hex_pair (hv_lt c1) (hv_lt c2)]
          rw [app_ok (by simp only [List.length_cons, List.length_nil]; omega), Option.bind_some, show wr ((i : Int) + 2) = ((i + 2 : Nat) : Int) by rw [wr_id (by omega)]; omega])]
        rw [hexS_loop l hl k (i + 2) _ (by omega) (by simp; omega)]
        cases unhex (l.drop (i + 2)) <;> simp
def hexR (l : List UInt8) : List UInt8 × Bool := if l.length % 2 = 1 then ([], false) else match unhex l with | some r => (r, true) | none => ([], false)
theorem v_fromHex (l : List UInt8) (h : l.length ≤ 2000000) : F_impl_fromHex ⟨l⟩ = some (hexR l) := by
  unfold F_impl_fromHex hexR
  have e : Int.tmod (l.length : Int) 2 = ((l.length % 2 : Nat) : Int) := rfl
  by_cases h1 : l.length % 2 = 1
  · simp only [e, h1, if_true]; rfl
  · have h0 : l.length % 2 = 0 := by omega
    have hL : iter (L0_impl_fromHex ⟨l⟩) (([] : List UInt8), 0) = _ := hexI_loop l h (l.length / 2) 0 [] (by omega) (by simp)
    simp only [e, h0, hL, List.drop_zero, List.nil_append]
    cases unhex l <;> rfl
theorem v_l01Bytes (l : List UInt8) (h : l.length ≤ 2000000) : F_spec_l01Bytes ⟨l⟩ = some (hexR l) := by
  unfold F_spec_l01Bytes hexR
  have e : Int.tmod (l.length : Int) 2 = ((l.length % 2 : Nat) : Int) := rfl
  by_cases h1 : l.length % 2 = 1
  · simp only [e, h1, if_true]; rfl
  · have h0 : l.length % 2 = 0 := by omega
    have hL : iter (L0_spec_l01Bytes ⟨l⟩) (([] : List UInt8), 0) = _ := hexS_loop l h (l.length / 2) 0 [] (by omega) (by simp)
    simp only [e, h0, hL, List.drop_zero, List.nil_append]
    cases unhex l <;> rfl
theorem unhex_colon : ∀ (n : Nat) (l : List UInt8), l.length ≤ n → 58 ∈ l → unhex l = none
  | _, [], _, h => by cases h
  | _, [_], _, _ => rfl
  | 0, _ :: _ :: _, h, _ => by simp at h
  | n + 1, a :: b :: r, hn, h => by
    have h58 : hv 58 = none := by decide
    unfold unhex
    simp only [List.mem_cons] at h
    simp only [List.length_cons] at hn
    rcases h with rfl | rfl | h
    · rw [h58]
    · rw [h58]; cases hv a <;> rfl
    · rw [unhex_colon n r (by omega) h]
      cases hv a <;> cases hv b <;> rfl
theorem hexR_colon {l : List UInt8} (h : 58 ∈ l) : (hexR l).2 = false := by
  unfold hexR
  rw [unhex_colon _ l (Nat.le_refl _) h]
  split <;> rfl
theorem sslc_nat {s : Str} {lo hi : Nat} (h : lo ≤ hi) (h2 : hi ≤ s.l.length) : sslc s (lo : Int) (hi : Int) = some ⟨(s.l.take hi).drop lo⟩ := by
  unfold sslc; rw [if_pos (by omega)]; simp
theorem split_loop (l : List UInt8) (hl : l.length ≤ 2000000) : ∀ (k i a : Nat) (out : List Str), i + k = l.length → a ≤ i → out.length ≤ i →
    ∃ out' a', iter (L0_spec_l01Split ⟨l⟩ 58) (out, (a : Int), (i : Int)) = some (out', ((a' : Nat) : Int)) ∧ a' ≤ l.length ∧ out'.length = out.length + (l.drop i).count 58 ∧ ((l.drop i).count 58 = 0 → out' = out ∧ a' = a)
  | 0, i, a, out, hi, ha, ho => by
    have e : l.drop i = [] := List.drop_eq_nil_of_le (by omega)
    refine ⟨out, a, iter_ex (by unfold L0_spec_l01Split; simp [show ¬ (i : Int) < (l.length : Int) by omega]), by omega, by rw [e]; rfl, fun _ => ⟨rfl, rfl⟩⟩
  | k + 1, i, a, out, hi, ha, ho => by
    have h1 : i < l.length := by omega
    have hx : idx l ((i : Nat) : Int) = some l[i] := by rw [idx_cast, List.getElem?_eq_getElem h1]
    have hw : wr ((i : Int) + 1) = ((i + 1 : Nat) : Int) := wr_nat (by omega)
    have ed : l.drop i = l[i] :: l.drop (i + 1) := List.drop_eq_getElem_cons h1
    have hlt : ((i : Int) < (l.length : Int)) := by omega
    by_cases hc : l[i] = 58
    · obtain ⟨o', a', e1, e2, e3, e4⟩ := split_loop l hl k (i + 1) (i + 1) (out ++ [⟨(l.take i).drop a⟩]) (by omega) (by omega) (by simp; omega)
      refine ⟨o', a', ?_, e2, ?_, fun h0 => ?_⟩
      · rw [iter_nx (s' := (out ++ [⟨(l.take i).drop a⟩], ((i + 1 : Nat) : Int), ((i + 1 : Nat) : Int))) (by
          unfold L0_spec_l01Split
          have hs : sslc (⟨l⟩ : Str) (a : Int) (i : Int) = some ⟨(l.take i).drop a⟩ := sslc_nat ha (by show i ≤ l.length; omega)
          simp only [hlt, decide_true, if_true, hx, Option.bind_some, hc, beq_self_eq_true, hs]
          rw [app_ok (by simp only [List.length_cons, List.length_nil]; omega), Option.bind_some, Option.bind_some, Option.bind_some, hw]), e1]
      · rw [e3, ed, hc]; simp; omega
      · rw [ed, hc] at h0; simp at h0
    · have hb : (l[i] == (58 : UInt8)) = false := by simpa using hc
      obtain ⟨o', a', e1, e2, e3, e4⟩ := split_loop l hl k (i + 1) a out (by omega) (by omega) (by omega)
      have ec : (l.drop i).count 58 = (l.drop (i + 1)).count 58 := by rw [ed, List.count_cons, hb]; simp
      refine ⟨o', a', ?_, e2, by rw [e3, ec], fun h0 => e4 (by rw [← ec]; exact h0)⟩
      rw [iter_nx (s' := (out, ((a : Nat) : Int), ((i + 1 : Nat) : Int))) (by
          unfold L0_spec_l01Split
          simp only [hlt, decide_true, if_true, hx, Option.bind_some, hb, Bool.false_eq_true, if_false, hw]), e1]
def parseC (l : List UInt8) : GShare × Int :=
  if Lib.indexByte l 58 = -1 then (⟨0, []⟩, 6) else
    let o := (Lib.indexByte l 58).toNat
    let a := l.take o
    let b := l.drop (o + 1)
    if canonC a && (hexR b).2 && decide (1 ≤ dval 0 a) && decide (dval 0 a ≤ 255) && decide ((hexR b).1.length ≤ 100) then (⟨byteI (dval 0 a : Nat), (hexR b).1⟩, 0) else (⟨0, []⟩, 6)
theorem index_case (l : List UInt8) : (Lib.indexByte l 58 = -1 ∧ 58 ∉ l) ∨ ∃ o : Nat, Lib.indexByte l 58 = (o : Int) ∧ o < l.length ∧ l[o]? = some 58 ∧ 58 ∉ l.take o := by
  have hge := Lib.indexByte_ge l 58
  by_cases h : Lib.indexByte l 58 = -1
  · refine .inl ⟨h, fun hm => ?_⟩
    obtain ⟨k, hk, e⟩ := List.mem_iff_getElem.1 hm
    exact Lib.indexByte_none h k (by rw [List.getElem?_eq_getElem hk, e])
  · obtain ⟨o, ho⟩ : ∃ o : Nat, Lib.indexByte l 58 = (o : Int) := ⟨(Lib.indexByte l 58).toNat, by omega⟩
    obtain ⟨h1, h2⟩ := Lib.indexByte_some ho
    refine .inr ⟨o, ho, (List.getElem?_eq_some_iff.1 h1).1, h1, fun hm => ?_⟩
    obtain ⟨k, hk, e⟩ := List.mem_iff_getElem.1 hm
    rw [List.length_take] at hk
    refine h2 k (by omega) ?_
    rw [List.getElem_take] at e
    rw [List.getElem?_eq_getElem (by omega), e]
theorem v_Cut (l : List UInt8) (hl : l.length ≤ 2000000) : F_strings_Cut ⟨l⟩ ⟨[58]⟩ = some (if Lib.indexByte l 58 = -1 then (⟨l⟩, ⟨[]⟩, false) else (⟨l.take (Lib.indexByte l 58).toNat⟩, ⟨l.drop ((Lib.indexByte l 58).toNat + 1)⟩, true)) := by
  unfold F_strings_Cut F_internal_stringslite_Cut F_internal_stringslite_Index
  have e : ((⟨[58]⟩ : Str).l.getD 0 0) = 58 := rfl
  simp only [List.length_singleton, if_true, Option.bind_some, e]
  rcases index_case l with ⟨h, _⟩ | ⟨o, h, ho, _, _⟩
  · rw [h]; rfl
  · rw [h]
    have a1 : ((o : Int) ≥ 0) := by omega
    have a2 : ¬ ((o : Int) = -1) := by omega
    have a3 : wr ((o : Int) + ((1 : Nat) : Int)) = ((o + 1 : Nat) : Int) := wr_nat (by omega)
    have s1 : sslc (⟨l⟩ : Str) (0 : Int) (o : Int) = some ⟨l.take o⟩ := by
      have := sslc_nat (s := ⟨l⟩) (lo := 0) (hi := o) (by omega) (by show o ≤ l.length; omega)
      rw [List.drop_zero] at this; exact this
    have s2 : sslc (⟨l⟩ : Str) ((o + 1 : Nat) : Int) (l.length : Int) = some ⟨l.drop (o + 1)⟩ := by
      have := sslc_nat (s := ⟨l⟩) (lo := o + 1) (hi := l.length) (by omega) (by show l.length ≤ l.length; omega)
      rw [show (⟨l⟩ : Str).l = l from rfl, List.take_length] at this; exact this
    simp only [a1, decide_true, if_true, a2, if_false, a3, s1, s2, Option.bind_some, Int.toNat_natCast]
theorem v_inR (n a b : Int) : F_impl_inRange n a b = some (decide (a ≤ n) && decide (n ≤ b)) := by
  unfold F_impl_inRange
  cases decide (a ≤ n) <;> rfl
theorem v_inL (n a b : Int) : F_spec_l01In n a b = some (decide (a ≤ n) && decide (n ≤ b)) := by
  unfold F_spec_l01In
  by_cases h : a ≤ n
  · have h' : n ≥ a := h
    simp [h, h']
  · have h' : ¬ n ≥ a := h
    simp [h, h']
theorem v_impl_ParseShare (l : List UInt8) (hl : l.length ≤ 1048576) : F_impl_ParseShare ⟨l⟩ = some (parseC l) := by
  unfold F_impl_ParseShare parseC
  rw [v_Cut l (by omega), Option.bind_some]
  have hr : ∀ q : List UInt8, q.length ≤ 1048576 → F_impl_readDecimal ⟨q⟩ = some (rdec q) := fun q hq => by
    unfold F_impl_readDecimal; rw [if_pos (by show q.length ≤ _; omega)]
  rcases index_case l with ⟨h, _⟩ | ⟨o, h, ho, _, _⟩
  · simp only [h, if_true]
    rw [hr l hl, v_fromHex [] (by simp)]; rfl
  · have a2 : ¬ ((o : Int) = -1) := by omega
    simp only [h, a2, if_false, Int.toNat_natCast]
    rw [hr (l.take o) (by rw [List.length_take]; omega), v_fromHex (l.drop (o + 1)) (by rw [List.length_drop]; omega), rdec_eq]
    simp only [Option.bind_some, v_inR]
    cases canonC (l.take o) with
    | false => rfl
    | true =>
      simp only [if_true, Bool.not_true, Bool.false_eq_true, if_false, Bool.true_and]
      cases (hexR (l.drop (o + 1))).2 with
      | false => rfl
      | true =>
        generalize dval 0 (l.take o) = n
        generalize (hexR (l.drop (o + 1))).1 = d
        simp only [Bool.not_true, Bool.false_eq_true, if_false, Bool.true_and]
        have e1 : decide ((1 : Int) ≤ ((n : Nat) : Int)) = decide (1 ≤ n) := by simp; omega
        have e2 : decide (((n : Nat) : Int) ≤ 255) = decide (n ≤ 255) := by simp; omega
        have e3 : decide ((d.length : Int) > 100) = !decide (d.length ≤ 100) := by
          by_cases q : d.length ≤ 100 <;> simp [q] <;> omega
        rw [e1, e2, e3]
        cases decide (1 ≤ n) <;> cases decide (n ≤ 255) <;> cases decide (d.length ≤ 100) <;> rfl
theorem v_Split (l : List UInt8) (hl : l.length ≤ 1048576) : ∃ r, F_spec_l01Split ⟨l⟩ 58 = some r ∧
    ((Lib.indexByte l 58 = -1 → r.length = 1) ∧ ∀ o : Nat, Lib.indexByte l 58 = (o : Int) → (58 ∈ l.drop (o + 1) → r.length ≠ 2) ∧ (58 ∉ l.drop (o + 1) → r = [⟨l.take o⟩, ⟨l.drop (o + 1)⟩])) := by
  have hfin : ∀ (out : List Str) (a : Nat), a ≤ l.length → out.length ≤ l.length → ((sslc (⟨l⟩ : Str) (a : Int) ((⟨l⟩ : Str).l.length : Int)).bind fun (x41 : Str) => (app 16 out ([x41] : List Str)).bind fun (l45 : List Str) => some (out ++ ([x41] : List Str))) = some (out ++ [⟨l.drop a⟩]) := fun out a ha ho => by
    have := sslc_nat (s := ⟨l⟩) (lo := a) (hi := l.length) ha (Nat.le_refl _)
    rw [show (⟨l⟩ : Str).l = l from rfl, List.take_length] at this
    rw [this, Option.bind_some, app_ok (by simp only [List.length_cons, List.length_nil]; omega)]; rfl
  have h0 : ∀ (i : Nat), (∀ j, j < i → l[j]? ≠ some 58) → i ≤ l.length → iter (L0_spec_l01Split ⟨l⟩ 58) (([] : List Str), (0 : Int), (0 : Int)) = iter (L0_spec_l01Split ⟨l⟩ 58) (([] : List Str), (0 : Int), (i : Int)) := fun i hn hi =>
    iter_to (f := L0_spec_l01Split ⟨l⟩ 58) (fun j : Nat => (([] : List Str), (0 : Int), (j : Int))) 0 i (Nat.zero_le _) (fun j _ hj => by
      have h1 : j < l.length := by omega
      have hx : idx l ((j : Nat) : Int) = some l[j] := by rw [idx_cast, List.getElem?_eq_getElem h1]
      have hw : wr ((j : Int) + 1) = ((j + 1 : Nat) : Int) := wr_nat (by omega)
      have hlt : ((j : Int) < (l.length : Int)) := by omega
      have hb : (l[j] == (58 : UInt8)) = false := by
        have := hn j hj
        rw [List.getElem?_eq_getElem h1] at this
        simpa using this
      unfold L0_spec_l01Split
      simp only [hlt, decide_true, if_true, hx, Option.bind_some, hb, Bool.false_eq_true, if_false, hw])
  have hmem : ∀ i : Nat, 58 ∉ l.take i → ∀ j, j < i → l[j]? ≠ some 58 := fun i hn j hj h => by
    have h1 := (List.getElem?_eq_some_iff.1 h).1
    refine hn (List.mem_iff_getElem.2 ⟨j, by rw [List.length_take]; omega, ?_⟩)
    rw [List.getElem_take]; exact (List.getElem?_eq_some_iff.1 h).2
  unfold F_spec_l01Split
  rcases index_case l with ⟨h, hn⟩ | ⟨o, h, ho, hat, hn⟩
  · have hz : (l.drop 0).count 58 = 0 := by rw [List.drop_zero]; exact List.count_eq_zero.2 hn
    obtain ⟨out', a', e1, e2, e3, e4⟩ := split_loop l (by omega) l.length 0 0 [] (by omega) (by omega) (by simp)
    obtain ⟨rfl, rfl⟩ := e4 hz
    refine ⟨([] : List Str) ++ [⟨l.drop 0⟩], ?_, fun _ => ?_, fun o ho => by omega⟩
    · have e1' : iter (L0_spec_l01Split ⟨l⟩ 58) (([] : List Str), 0, 0) = some ([], ((0 : Nat) : Int)) := e1
      rw [e1', Option.bind_some]
      exact hfin [] 0 (by omega) (by simp)
    · rfl
  · have h1 : l[o] = 58 := (List.getElem?_eq_some_iff.1 hat).2
    have hx : idx l ((o : Nat) : Int) = some l[o] := by rw [idx_cast, List.getElem?_eq_getElem ho]
    have hw : wr ((o : Int) + 1) = ((o + 1 : Nat) : Int) := wr_nat (by omega)
    have hlt : ((o : Int) < (l.length : Int)) := by omega
    obtain ⟨out', a', e1, e2, e3, e4⟩ := split_loop l (by omega) (l.length - (o + 1)) (o + 1) (o + 1) [⟨l.take o⟩] (by omega) (by omega) (by simp)
    have hgo : iter (L0_spec_l01Split ⟨l⟩ 58) (([] : List Str), 0, 0) = some (out', ((a' : Nat) : Int)) := by
      rw [h0 o (hmem o hn) (by omega), iter_nx (s' := ([⟨l.take o⟩], ((o + 1 : Nat) : Int), ((o + 1 : Nat) : Int))) (by
        unfold L0_spec_l01Split
        have hs : sslc (⟨l⟩ : Str) (0 : Int) (o : Int) = some ⟨l.take o⟩ := by
          have := sslc_nat (s := ⟨l⟩) (lo := 0) (hi := o) (by omega) (by show o ≤ l.length; omega)
          rw [List.drop_zero] at this; exact this
        simp only [hlt, decide_true, if_true, hx, Option.bind_some, h1, beq_self_eq_true, hs]
        rw [app_ok (by simp), Option.bind_some, Option.bind_some, Option.bind_some, hw]; rfl), e1]
    have hle : out'.length ≤ l.length := by
      have := List.count_le_length (a := (58 : UInt8)) (l := l.drop (o + 1))
      rw [List.length_drop] at this
      simp only [List.length_singleton] at e3
      omega
    refine ⟨out' ++ [⟨l.drop a'⟩], by rw [hgo, Option.bind_some]; exact hfin out' a' e2 hle, fun q => by omega, fun o' ho' => ?_⟩
    have : o' = o := by omega
    subst this
    refine ⟨fun hm => ?_, fun hm => ?_⟩
    · have := List.count_pos_iff.2 hm
      simp only [List.length_append, List.length_singleton] at e3 ⊢
      omega
    · obtain ⟨rfl, rfl⟩ := e4 (List.count_eq_zero.2 hm)
      rfl
theorem v_spec_ParseShare (l : List UInt8) (hl : l.length ≤ 1048576) : F_spec_ParseShare ⟨l⟩ = some (parseC l) := by
  unfold F_spec_ParseShare parseC
  obtain ⟨r, hr, hr1, hr2⟩ := v_Split l hl
  rw [hr, Option.bind_some]
  rcases index_case l with ⟨h, _⟩ | ⟨o, h, ho, _, _⟩
  · have := hr1 h
    simp [h, this]
  · have a2 : ¬ ((o : Int) = -1) := by omega
    obtain ⟨g1, g2⟩ := hr2 o h
    by_cases hm : 58 ∈ l.drop (o + 1)
    · have hne := g1 hm
      have hne' : ((r.length : Int) != 2) = true := by simp; omega
      simp [hne', h, a2, hexR_colon hm]
    · obtain rfl := g2 hm
      simp only [List.length_cons, List.length_nil, h, a2, if_false, Int.toNat_natCast]
      have hb2 : (((0 + 1 + 1 : Nat) : Int) != 2) = false := rfl
      simp only [hb2, Bool.false_eq_true, if_false]
      rw [show idx [(⟨l.take o⟩ : Str), ⟨l.drop (o + 1)⟩] (0 : Int) = some ⟨l.take o⟩ from rfl, show idx [(⟨l.take o⟩ : Str), ⟨l.drop (o + 1)⟩] (1 : Int) = some ⟨l.drop (o + 1)⟩ from rfl]
      simp only [Option.bind_some, v_inL]
      rw [v_l01Number, v_l01Bytes (l.drop (o + 1)) (by rw [List.length_drop]; omega)]
      simp only [Option.bind_some]
      cases canonC (l.take o) with
      | false =>
        cases (hexR (l.drop (o + 1))).2 <;> rfl
      | true =>
        simp only [if_true, Bool.true_and]
        cases (hexR (l.drop (o + 1))).2 with
        | false => rfl
        | true =>
          generalize dval 0 (l.take o) = n
          generalize (hexR (l.drop (o + 1))).1 = d
          simp only [Bool.not_true, Bool.false_eq_true, if_false, Bool.true_and]
          have e1 : decide ((1 : Int) ≤ ((n : Nat) : Int)) = decide (1 ≤ n) := by simp; omega
          have e2 : decide (((n : Nat) : Int) ≤ 255) = decide (n ≤ 255) := by simp; omega
          have e3 : decide ((d.length : Int) > 100) = !decide (d.length ≤ 100) := by
            by_cases q : d.length ≤ 100 <;> simp [q] <;> omega
          rw [e1, e2, e3]
          cases decide (1 ≤ n) <;> cases decide (n ≤ 255) <;> cases decide (d.length ≤ 100) <;> rfl
theorem parseC_len (l : List UInt8) : (parseC l).1.Data.length ≤ 100 := by
  unfold parseC
  split
  · simp
  · simp only
    split
    · rename_i h
      simp only [Bool.and_eq_true, decide_eq_true_eq] at h
      exact h.2
    · simp
theorem law_FnExactParseShare (s : Str) (_ : Dat.bd s) : F_laws_FnExactParseShare s = some true := by
  obtain ⟨l⟩ := s
  unfold F_laws_FnExactParseShare
  by_cases h : (l.length : Int) > 1048576
  · simp [h]
  · have hl : l.length ≤ 1048576 := by omega
    have hd := parseC_len l
    have hln : Wt.ln (parseC l).1 := Wt.wtln (parseC l).1 (by
      have e : Wt.wt (parseC l).1 = Wt.wt (parseC l).1.Data := rfl
      rw [e, wt_bytes]; omega)
    obtain ⟨r', m2, m3⟩ := v_markShare (parseC l).1 hln 1 (by omega) (by rw [sum_one]; omega)
    have e2 : ¬ ((1 : Int) + (((parseC l).1.Data.map fun _ => 1).sum : Nat) < 0) := by omega
    simp [h, v_spec_ParseShare l hl, v_impl_ParseShare l hl, v_eqShare _ hln, m2, m3, held_place, e2]
end Go.Proofs.YtkcaldgoomphaaaDoor
