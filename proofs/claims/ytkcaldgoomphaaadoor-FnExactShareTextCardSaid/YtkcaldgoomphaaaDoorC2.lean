/- Plain laws, no program in sight. -/
import Derived.Test.YtkcaldgoomphaaaDoorC1
set_option linter.unusedVariables false
set_option linter.unusedSimpArgs false
namespace Go.Proofs.YtkcaldgoomphaaaDoor
open Go
theorem idx_nat {α : Type} {l : List α} {i : Nat} (h : i < l.length) : idx l (i : Int) = some l[i] := by
  unfold idx
  rw [if_pos (by omega)]
  simp
theorem wr_nat {i : Nat} (h : i < 9223372036854775807) : wr ((i : Int) + 1) = ((i + 1 : Nat) : Int) := by
  rw [wr_id (by omega)]; rfl

section
variable {S T : Type} {f : S → Option (Fl S T)}
/-- Rounds that go on. -/
theorem iter_to (g : Nat → S) (m n : Nat) (hmn : m ≤ n) (h : ∀ i, m ≤ i → i < n → f (g i) = some (.nx (g (i + 1)))) : iter f (g m) = iter f (g n) := by
  induction n with
  | zero => have : m = 0 := by omega
            subst this; rfl
  | succ n ih =>
    rcases Nat.lt_or_ge m (n + 1) with h1 | h1
    · rw [ih (by omega) (fun i h2 h3 => h i h2 (by omega)), iter_nx (h n (by omega) (by omega))]
    · have : m = n + 1 := by omega
      subst this; rfl
/-- A loop that runs to its end. -/
theorem iter_run (g : Nat → S) (m n : Nat) (hmn : m ≤ n) {t : T} (h : ∀ i, m ≤ i → i < n → f (g i) = some (.nx (g (i + 1)))) (he : f (g n) = some (.ex t)) : iter f (g m) = some t := by
  rw [iter_to g m n hmn h, iter_ex he]
end

/-- How much data hold, beside what is of one size; that all lengths are numbers. -/
class Wt (α : Type) [Dat α] where
  wt : α → Nat
  ln : α → Prop
  bdln : ∀ x, Dat.bd x → ln x
  wtln : ∀ x, wt x ≤ 1048576 → ln x
instance : Wt Int := ⟨fun _ => 0, fun _ => True, fun _ _ => trivial, fun _ _ => trivial⟩
instance : Wt UInt8 := ⟨fun _ => 0, fun _ => True, fun _ _ => trivial, fun _ _ => trivial⟩
instance : Wt Bool := ⟨fun _ => 0, fun _ => True, fun _ _ => trivial, fun _ _ => trivial⟩
instance : Wt Str := ⟨fun s => s.l.length, fun s => s.l.length ≤ 9223372036854775807, fun _ h => h, fun _ h => by omega⟩
instance {n : Nat} : Wt (Vector UInt8 n) := ⟨fun _ => 0, fun _ => True, fun _ _ => trivial, fun _ _ => trivial⟩
instance {n m : Nat} : Wt (Vector (Vector UInt8 m) n) := ⟨fun _ => 0, fun _ => True, fun _ _ => trivial, fun _ _ => trivial⟩
theorem sum_mem {α : Type} {f : α → Nat} {l : List α} {x : α} (h : x ∈ l) : f x ≤ (l.map f).sum := by
  induction l with
  | nil => cases h
  | cons y l ih =>
    rw [List.map_cons, List.sum_cons]
    rcases List.mem_cons.1 h with rfl | h
    · omega
    · have := ih h; omega
instance {α : Type} [Dat α] [Wt α] : Wt (List α) := ⟨fun l => l.length + (l.map Wt.wt).sum, fun l => l.length ≤ 9223372036854775807 ∧ ∀ x ∈ l, Wt.ln x, fun _ h => ⟨h.1, fun x hx => Wt.bdln x (h.2 x hx)⟩,
  fun l h => ⟨by omega, fun x hx => Wt.wtln x (by have := sum_mem (f := Wt.wt) hx; omega)⟩⟩
instance {α β : Type} [Dat α] [Dat β] [Wt α] [Wt β] : Wt (α × β) := ⟨fun x => Wt.wt x.1 + Wt.wt x.2, fun x => Wt.ln x.1 ∧ Wt.ln x.2, fun x h => ⟨Wt.bdln x.1 h.1, Wt.bdln x.2 h.2⟩, fun x h => ⟨Wt.wtln x.1 (by omega), Wt.wtln x.2 (by omega)⟩⟩
theorem wt_list {α : Type} [Dat α] [Wt α] (l : List α) : Wt.wt l = l.length + (l.map Wt.wt).sum := rfl
theorem wt_len {α : Type} [Dat α] [Wt α] (l : List α) : l.length ≤ Wt.wt l := by rw [wt_list]; omega
theorem ln_len {α : Type} [Dat α] [Wt α] {l : List α} (h : Wt.ln l) : l.length ≤ 9223372036854775807 := h.1
theorem copy_loop {α β : Type} (p0 : List α) (c : α → Option β) (g : α → β) (by_ : Nat) (z : β) (L : List β × Int → Option (Fl (List β × Int) (List β)))
    (hL : ∀ s, L s = if (decide (s.2 < (p0.length : Int))) = true then ((idx p0 s.2).bind fun x => (c x).bind fun r => (idx s.1 s.2).bind fun _ => some (Fl.nx ((s.1.set (s.2).toNat r), wr (s.2 + 1)))) else (some (Fl.ex s.1)))
    (hc : ∀ x ∈ p0, c x = some (g x)) (hl : p0.length * by_ ≤ 140737488355328) (hl' : p0.length < 9223372036854775807) :
    ((mkS by_ z (p0.length : Int)).bind fun l1 => (iter L (l1, 0) : Option (List β)).bind fun j => some j) = some (p0.map g) := by
  have hm : mkS by_ z (p0.length : Int) = some (List.replicate p0.length z) := by
    have h3 : ((p0.length * by_ : Nat) : Int) ≤ ((140737488355328 : Nat) : Int) := Int.ofNat_le.2 hl
    rw [Int.natCast_mul] at h3
    unfold mkS
    rw [if_pos ⟨by omega, h3⟩, Int.toNat_natCast]
  rw [hm]
  simp only [Option.bind_some]
  have hrun := iter_run (f := L) (fun i : Nat => ((p0.take i).map g ++ List.replicate (p0.length - i) z, (i : Int))) 0 p0.length (Nat.zero_le _) (t := p0.map g) (fun i _ hi => by
    rw [hL]
    simp only [Int.ofNat_lt, hi, decide_true, if_true, idx_nat hi, Option.bind_some, hc _ (List.getElem_mem hi)]
    rw [idx_nat (by simp; omega)]
    simp only [Option.bind_some, wr_nat (show i < 9223372036854775807 by omega), Int.toNat_natCast]
    congr 3
    rw [List.set_append_right _ _ (by simp; omega)]
    have e1 : p0.length - i = (p0.length - (i + 1)) + 1 := by omega
    have e2 : i - ((p0.take i).map g).length = 0 := by simp; omega
    rw [e1, List.replicate_succ, e2, List.set_cons_zero]
    rw [List.take_succ_eq_append_getElem hi, List.map_append, List.append_assoc]
    rfl) (by
    rw [hL]
    simp)
  simp at hrun
  simp [hrun]

theorem eq_loop {α : Type} (p0 : List α) (ne : α → α → Option Bool) (L : Int → Option (Fl Int (Fl Unit Bool)))
    (hL : ∀ s, L s = if (decide (s < (p0.length : Int))) = true then (((idx p0 s).bind fun x => (idx p0 s).bind fun y => ne x y : Option Bool).bind fun j => if j = true then (some (Fl.ex (Fl.ex false))) else (some (Fl.nx (wr (s + 1))))) else (some (Fl.ex (Fl.nx ()))))
    (hn : ∀ x ∈ p0, ne x x = some false) (hl : p0.length ≤ 9223372036854775807) :
    (if ((p0.length : Int) != (p0.length : Int)) = true then (some false) else ((iter L 0 : Option (Fl Unit Bool)).bind fun j2 => j2.el (fun _ => some true) (fun r => some r))) = some true := by
  have := iter_run (f := L) (fun i : Nat => (i : Int)) 0 p0.length (Nat.zero_le _) (t := .nx ()) (fun i _ hi => by
    rw [hL]
    simp only [Int.ofNat_lt, hi, decide_true, if_true, idx_nat hi, Option.bind_some, hn _ (List.getElem_mem hi)]
    simp [wr_nat (show i < 9223372036854775807 by omega)]) (by
    rw [hL]; simp)
  have h2 : iter L 0 = some (.nx ()) := this
  simp [h2, Fl.el]

/-- Weighing: what is left, or less than nothing. -/
def Weighs {α : Type} [Dat α] [Wt α] (f : α → Int → Option Int) (x : α) : Prop := ∀ left : Int, 0 ≤ left → left ≤ 1048576 → ∃ r, f x left = some r ∧ r ≤ 1048576 ∧ (0 ≤ r → r + Wt.wt x ≤ left)
theorem weigh_flat {α : Type} [Dat α] [Wt α] {l : List α} (h0 : ∀ x : α, Wt.wt x = 0) (f : List α → Int → Option Int)
    (hf : ∀ left, f l left = if (decide ((wr (left - (l.length : Int))) < 0)) = true then (some (-1)) else (some (wr (left - (l.length : Int))))) (hl : l.length ≤ 9223372036854775807) : Weighs f l := by
  intro left h1 h2
  have hs : (l.map Wt.wt).sum = 0 := by
    clear hf hl
    induction l with
    | nil => rfl
    | cons x l ih => rw [List.map_cons, List.sum_cons, h0, ih]
  have hw : Wt.wt l = l.length := by rw [wt_list, hs]; rfl
  rw [hf, wr_id (by omega), hw]
  by_cases h : left - (l.length : Int) < 0
  · exact ⟨-1, by simp [h], by omega, by omega⟩
  · exact ⟨left - l.length, by simp [h], by omega, by omega⟩
@[simp] theorem idx_cast {α : Type} (l : List α) (i : Nat) : idx l (i : Int) = l[i]? := by unfold idx; simp
@[simp] theorem idx_zero {α : Type} (l : List α) : idx l (0 : Int) = l[0]? := idx_cast l 0
theorem app_ok {α : Type} {by_ : Nat} {l m : List α} (h : (l.length + m.length) * by_ ≤ 140737488355328) : app by_ l m = some (l ++ m) := by unfold app; rw [if_pos h]
@[simp] theorem vidx_cast {α : Type} {n : Nat} (v : Vector α n) (i : Nat) : vidx v (i : Int) = v[i]? := by unfold vidx; simp
theorem v_toByteS (l : List UInt8) (h : Wt.wt l ≤ 1048576) : F_laws_toByteS l = some l := by
  have := wt_len l
  unfold F_laws_toByteS
  have := copy_loop l (fun x => some x) id 1 0 (L0_laws_toByteS l) (fun s => by unfold L0_laws_toByteS; rfl) (fun _ _ => rfl) (by omega) (by omega)
  simpa using this
theorem v_eqByteS (l : List UInt8) (h : Wt.ln l) : F_laws_eqByteS l l = some true := by
  unfold F_laws_eqByteS
  exact eq_loop l (fun x y => some (x != y)) (L0_laws_eqByteS l l) (fun s => by unfold L0_laws_eqByteS; rfl) (fun x _ => by simp) (ln_len h)
theorem v_szByteS (l : List UInt8) (h : Wt.ln l) : Weighs F_laws_szByteS l :=
  weigh_flat (fun _ => rfl) F_laws_szByteS (fun left => by unfold F_laws_szByteS; rfl) (ln_len h)
instance : Wt GShare := ⟨fun x => Wt.wt x.Data, fun x => Wt.ln x.Data, fun x h => Wt.bdln x.Data h.2, fun x h => Wt.wtln x.Data h⟩
theorem v_toShare (x : GShare) (h : Wt.wt x ≤ 1048576) : F_laws_toShare x = some x := by
  unfold F_laws_toShare
  rw [v_toByteS x.Data h]; rfl
theorem v_eqShare (x : GShare) (h : Wt.ln x) : F_laws_eqShare x x = some true := by
  unfold F_laws_eqShare
  simp [v_eqByteS x.Data h]
theorem v_szShare (x : GShare) (h : Wt.ln x) : Weighs F_laws_szShare x := by
  intro left h1 h2
  obtain ⟨r, e1, e2, e3⟩ := v_szByteS x.Data h left h1 h2
  unfold F_laws_szShare
  rw [e1]
  by_cases hr : r < 0
  · exact ⟨-1, by simp [hr], by omega, by omega⟩
  · exact ⟨r, by simp [hr], e2, e3⟩
/-- After the weighing: too much, or all lengths are small. -/
theorem weighed {α : Type} [Dat α] [Wt α] {f : α → Int → Option Int} {x : α} {left : Int} {G : Int → Option Bool} (hf : Weighs f x) (h1 : 0 ≤ left) (h2 : left ≤ 1048576) (hG : ∀ r, 0 ≤ r → r ≤ 1048576 → r + (Wt.wt x : Nat) ≤ left → G r = some true) :
    ((f x left).bind fun r => if decide (r < 0) = true then some true else G r) = some true := by
  obtain ⟨r, e1, e2, e3⟩ := hf left h1 h2
  rw [e1]
  by_cases hr : r < 0
  · simp [hr]
  · have := hG r (by omega) e2 (e3 (by omega))
    simp [hr, this]
/-- The remainder, bit by bit from the top: k bits are looked at. -/
def restR (m deg : Nat) : Nat → Nat → Nat
  | 0, a => a
  | k + 1, a => restR m deg k (if a.testBit (deg + k) then a ^^^ (m <<< k) else a)
/-- A product without carry, by the bits of the second from the lowest. -/
def mulC : Nat → Nat → Nat → Nat
  | 0, _, _ => 0
  | n + 1, a, b => (if b % 2 = 1 then a else 0) ^^^ mulC n (a <<< 1) (b / 2)
/-- The product of two elements. -/
def timesC (m : Nat) (a b : UInt8) : UInt8 := byteI ((restR m 8 8 (mulC 8 a.toNat b.toNat) : Nat) : Int)
def isShareB (s : GShare) : Bool := s.Place != 0 && decide (s.Data.length ≤ 100)
theorem v_l10Share (s : GShare) : F_spec_l10Share s = some (isShareB s) := by
  unfold F_spec_l10Share isShareB
  cases h : s.Place != 0 <;> simp <;> omega
theorem v_isShare (s : GShare) : F_impl_isShare s = some (isShareB s) := by
  unfold F_impl_isShare isShareB
  cases h : s.Place != 0 <;> simp <;> omega

def tab (n : Nat) (f : Nat → UInt8) : List UInt8 := (List.range n).map f
@[simp] theorem tab_len (n : Nat) (f : Nat → UInt8) : (tab n f).length = n := by simp [tab]
/-- What a list of shares is whose code is 0. -/
structure Good (l : List GShare) : Prop where
  share : ∀ s ∈ l, True ∧ s.Data.length ≤ 100
  diff : (l.map (·.Place)).Nodup
  len : 1 ≤ l.length ∧ l.length ≤ 13
  even : ∀ s ∈ l, s.Data.length = (l.headD default).Data.length
theorem Good.take {l : List GShare} (h : Good l) {t : Nat} (h1 : 1 ≤ t) (h2 : t ≤ l.length) : Good (l.take t) := by
  have hd : (l.take t).headD default = l.headD default := by
    cases l with
    | nil => simp
    | cons x l => cases t with
      | zero => omega
      | succ t => rfl
  refine ⟨fun s hs => h.share s (List.mem_of_mem_take hs), ?_, by rw [List.length_take]; have := h.len; omega, fun s hs => by rw [hd]; exact h.even s (List.mem_of_mem_take hs)⟩
  rw [List.map_take]
  exact (List.take_sublist _ _).nodup h.diff
/-- g is a polynomial of degree below n. -/
def PolyN (m : Nat) : Nat → (UInt8 → UInt8) → Prop
  | 0, g => ∀ x, g x = 0
  | n + 1, g => ∃ c h, PolyN m n h ∧ ∀ x, g x = c ^^^ timesC m x (h x)
/-- The shares' bytes lie on polynomials. -/
structure OnPoly (m t N : Nat) (l : List GShare) (g : Nat → UInt8 → UInt8) : Prop where
  deg : ∀ k, PolyN m t (g k)
  data : ∀ s ∈ l, s.Data = tab N (fun k => g k s.Place)
theorem OnPoly.len {m t N : Nat} {l : List GShare} {g : Nat → UInt8 → UInt8} (h : OnPoly m t N l g) : ∀ s ∈ l, s.Data.length = N := fun s hs => by rw [h.data s hs, tab_len]
theorem byteI_ofNat (k : Nat) : byteI (k : Int) = UInt8.ofNat k := by
  unfold byteI
  have : ((k : Int) % 256).toNat = k % 256 := by omega
  rw [this]
  apply UInt8.toNat_inj.1
  simp
theorem decDigits_small {n : Nat} (h : n < 10) : Lib.decDigits n = [UInt8.ofNat (48 + n)] := by
  unfold Lib.decDigits; rw [dif_pos h]
theorem decDigits_step {n : Nat} (h : ¬ n < 10) : Lib.decDigits n = Lib.decDigits (n / 10) ++ [UInt8.ofNat (48 + n % 10)] := by
  rw [Lib.decDigits.eq_1 n]; rw [dif_neg h]
theorem v_l01Dec : ∀ (fu n q : Nat), q = 10 ^ fu → n < q → n ≤ 1000000000000000000 → 0 < fu → fu ≤ 64 → F_spec_l01Dec fu (n : Int) = some ⟨Lib.decDigits n⟩ ∧ (Lib.decDigits n).length ≤ fu
  | 0, n, q, hq, h, _, h0, _ => absurd h0 (Nat.lt_irrefl 0)
  | fu + 1, n, q, hq, h, hb, _, hf => by
    rw [F_spec_l01Dec]
    by_cases c : n < 10
    · have c' : (n : Int) < 10 := by omega
      have e : wr (48 + (n : Int)) = ((48 + n : Nat) : Int) := by rw [wr_id (by omega)]; omega
      rw [decDigits_small c, if_pos (by simpa using c'), e, byteI_ofNat]
      exact ⟨rfl, by simp⟩
    · have c' : ¬ (n : Int) < 10 := by omega
      have e1 : Int.tdiv (n : Int) 10 = ((n / 10 : Nat) : Int) := rfl
      have e2 : Int.tmod (n : Int) 10 = ((n % 10 : Nat) : Int) := rfl
      have e3 : wr ((n / 10 : Nat) : Int) = ((n / 10 : Nat) : Int) := wr_id (by omega)
      have e4 : wr (48 + ((n % 10 : Nat) : Int)) = ((48 + n % 10 : Nat) : Int) := by rw [wr_id (by omega)]; omega
      have hq' : q = 10 ^ fu * 10 := by rw [hq, Nat.pow_succ]
      generalize hp : 10 ^ fu = p at hq'
      have h0 : 0 < fu := Nat.pos_of_ne_zero (by rintro rfl; rw [Nat.pow_zero] at hp; omega)
      obtain ⟨h1, h2⟩ := v_l01Dec fu (n / 10) p hp.symm (by omega) (by omega) h0 (by omega)
      rw [if_neg (by simpa using c'), e1, e2, e3, e4, byteI_ofNat, h1, Option.bind_some, decDigits_step c]
      unfold scat
      rw [if_pos (by simp; omega)]
      exact ⟨rfl, by simp; omega⟩
theorem v_decimal (n : Nat) (h : n ≤ 1000000000000000000) : F_impl_decimal (n : Int) = some ⟨Lib.decDigits n⟩ := by
  unfold F_impl_decimal F_strconv_FormatInt
  rw [if_pos ⟨rfl, by omega, by omega⟩, Option.bind_some]
  unfold Lib.itoa
  rw [if_neg (by omega)]; rfl
/-- A hex digit. -/
def hexC (x : UInt8) : UInt8 := (⟨[48, 49, 50, 51, 52, 53, 54, 55, 56, 57, 97, 98, 99, 100, 101, 102]⟩ : Str).l.getD x.toNat 0
def hexL (l : List UInt8) : List UInt8 := (l.map fun x => [hexC (x / 16), hexC (x % 16)]).flatten
theorem hexL_len (l : List UInt8) : (hexL l).length = 2 * l.length := by
  unfold hexL
  induction l with
  | nil => rfl
  | cons x l ih => simp only [List.map_cons, List.flatten_cons, List.length_append, List.length_cons, List.length_nil] at *; omega
theorem hex_hi : ∀ x : UInt8, shrB x 4 = x / 16 ∧ (x &&& 15) = x % 16 ∧ idx (⟨[48, 49, 50, 51, 52, 53, 54, 55, 56, 57, 97, 98, 99, 100, 101, 102]⟩ : Str).l (bI (x / 16)) = some (hexC (x / 16)) ∧ idx (⟨[48, 49, 50, 51, 52, 53, 54, 55, 56, 57, 97, 98, 99, 100, 101, 102]⟩ : Str).l (bI (x % 16)) = some (hexC (x % 16)) := by
  have h : ∀ k : Fin 256, (fun x : UInt8 => shrB x 4 = x / 16 ∧ (x &&& 15) = x % 16 ∧ idx (⟨[48, 49, 50, 51, 52, 53, 54, 55, 56, 57, 97, 98, 99, 100, 101, 102]⟩ : Str).l (bI (x / 16)) = some (hexC (x / 16)) ∧ idx (⟨[48, 49, 50, 51, 52, 53, 54, 55, 56, 57, 97, 98, 99, 100, 101, 102]⟩ : Str).l (bI (x % 16)) = some (hexC (x % 16))) (UInt8.ofNat k.val) := by decide +kernel
  intro x
  have := h ⟨x.toNat, x.toNat_lt⟩
  simpa using this
theorem hex_take (l : List UInt8) {i : Nat} (hi : i < l.length) : hexL (l.take (i + 1)) = hexL (l.take i) ++ [hexC (l[i] / 16), hexC (l[i] % 16)] := by
  unfold hexL
  rw [List.take_succ_eq_append_getElem hi, List.map_append, List.flatten_append]; simp
theorem v_l01Hex (l : List UInt8) (h : l.length ≤ 1000000) : F_spec_l01Hex l = some ⟨hexL l⟩ := by
  unfold F_spec_l01Hex
  have := iter_run (f := L0_spec_l01Hex l) (fun i : Nat => (hexL (l.take i), (i : Int))) 0 l.length (Nat.zero_le _) (t := hexL l) (fun i _ hi => by
    obtain ⟨_, _, h3, h4⟩ := hex_hi l[i]
    have hl := hexL_len (l.take i)
    rw [List.length_take] at hl
    unfold L0_spec_l01Hex
    have hx : idx l ((i : Nat) : Int) = some l[i] := by rw [idx_cast, List.getElem?_eq_getElem hi]
    simp only [Int.ofNat_lt, hi, decide_true, if_true, hx, Option.bind_some, h3, h4]
    rw [app_ok (by simp only [List.length_cons, List.length_nil]; omega), hex_take l hi, wr_nat (by omega)]; rfl) (by unfold L0_spec_l01Hex; simp)
  rw [show (([] : List UInt8), (0 : Int)) = (hexL (l.take 0), ((0 : Nat) : Int)) from rfl, this]; rfl
theorem v_hexOf (l : List UInt8) (h : l.length ≤ 1000000) : F_impl_hexOf l = some ⟨hexL l⟩ := by
  unfold F_impl_hexOf
  have := iter_run (f := L0_impl_hexOf l) (fun i : Nat => (hexL (l.take i), (i : Int))) 0 l.length (Nat.zero_le _) (t := hexL l) (fun i _ hi => by
    obtain ⟨h1, h2, h3, h4⟩ := hex_hi l[i]
    have hl := hexL_len (l.take i)
    rw [List.length_take] at hl
    unfold L0_impl_hexOf
    have hx : idx l ((i : Nat) : Int) = some l[i] := by rw [idx_cast, List.getElem?_eq_getElem hi]
    simp only [Int.ofNat_lt, hi, decide_true, if_true, hx, Option.bind_some, h1, h2, h3, h4]
    rw [app_ok (by simp only [List.length_cons, List.length_nil]; omega), hex_take l hi, wr_nat (by omega)]; rfl) (by unfold L0_impl_hexOf; simp)
  rw [show (([] : List UInt8), (0 : Int)) = (hexL (l.take 0), ((0 : Nat) : Int)) from rfl, this]; rfl
def textOf (s : GShare) : Str := ⟨(Lib.decDigits s.Place.toNat ++ [58]) ++ hexL s.Data⟩
def textC (s : GShare) : Str × Int := if isShareB s then (textOf s, 0) else (⟨[]⟩, 1)
theorem text_bind (s : GShare) (h : s.Data.length ≤ 100) {D : Option Str} {H : Option Str} (kD : D = some ⟨Lib.decDigits s.Place.toNat⟩) (kH : H = some ⟨hexL s.Data⟩) :
    ((D.bind fun (r7 : Str) => (scat r7 (⟨[58]⟩ : Str)).bind fun (x9 : Str) => H.bind fun (r11 : Str) => (scat x9 r11).bind fun (x13 : Str) => some x13 : Option (Str)).bind fun (j3 : Str) => some j3) = some (textOf s) := by
  have h1 := (v_l01Dec 64 s.Place.toNat (10 ^ 64) rfl (by have := s.Place.toNat_lt; omega) (by have := s.Place.toNat_lt; omega) (by omega) (by omega)).2
  have h2 := hexL_len s.Data
  rw [kD, kH]
  unfold scat textOf
  simp only [Option.bind_some, List.length_singleton, if_pos (show (Lib.decDigits s.Place.toNat).length + 1 ≤ 140737488355328 by omega)]
  rw [if_pos (by simp; omega)]; rfl
theorem v_impl_ShareText (s : GShare) : F_impl_ShareText s = some (textC s) := by
  unfold F_impl_ShareText F_impl_shareText textC
  rw [v_isShare, Option.bind_some]
  cases h : isShareB s with
  | false => rfl
  | true =>
    unfold isShareB at h
    simp only [Bool.and_eq_true, decide_eq_true_eq] at h
    have hp := s.Place.toNat_lt
    simp only [Bool.not_true, Bool.false_eq_true, if_false, if_true]
    rw [text_bind s h.2 (v_decimal s.Place.toNat (by omega)) (v_hexOf s.Data (by omega))]; rfl
theorem v_spec_ShareText (s : GShare) : F_spec_ShareText s = some (textC s) := by
  unfold F_spec_ShareText F_spec_l10Text textC
  rw [v_l10Share, Option.bind_some]
  cases h : isShareB s with
  | false => rfl
  | true =>
    unfold isShareB at h
    simp only [Bool.and_eq_true, decide_eq_true_eq] at h
    have hp := s.Place.toNat_lt
    simp only [Bool.not_true, Bool.false_eq_true, if_false, if_true]
    rw [text_bind s h.2 (v_l01Dec 64 s.Place.toNat (10 ^ 64) rfl (by omega) (by omega) (by omega) (by omega)).1 (v_l01Hex s.Data (by omega))]; rfl
theorem law_FnExactShareText (s : GShare) (h : Dat.bd s) : F_laws_FnExactShareText s = some true := by
  unfold F_laws_FnExactShareText
  refine weighed (v_szShare s (Wt.bdln s h)) (by omega) (by omega) fun r _ _ hw => ?_
  have hw : Wt.wt s ≤ 1048576 := by omega
  have hl := Wt.wtln s hw
  simp [v_toShare s hw, v_spec_ShareText, v_impl_ShareText, v_eqShare s hl]
end Go.Proofs.YtkcaldgoomphaaaDoor
