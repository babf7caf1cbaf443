/- The walk library, part S: loops over iterators of slices. -/
import Derived.RangeFuncNested
import Derived.RangeFuncBound
import Derived.RangeFuncCalls
import Derived.RangeFuncLeaves
import Derived.RangeFuncBox
import Derived.Shelf.Abstract
import Derived.Shelf.RegionOpen
import Derived.OwnWalkIn
import Derived.TacticsInMore
import Derived.LoopNIn
import Derived.LoopIn
import Derived.Test.YtkcaldgoomphaaaDoorLibR
namespace Go.Proofs.YtkcaldgoomphaaaDoor
open Go
section
open Go.RowKit
/-- What has come when k rounds are over: f 0, .., f (k - 1). -/
def upto {α : Type} (f : Nat → α) (k : Nat) : List α := (List.range k).map f
theorem upto_succ {α : Type} (f : Nat → α) (k : Nat) : upto f (k + 1) = upto f k ++ [f k] := by simp [upto, List.range_succ]
theorem upto_length {α : Type} (f : Nat → α) (k : Nat) : (upto f k).length = k := by simp [upto]
/-- What a round that goes on keeps: what lay below n₀, and the iterator's own variable. -/
def KpB (n₀ Bs : Nat) (W W' : World) : Prop := Below n₀ W W' ∧ W'.heap[Bs]? = W.heap[Bs]?
theorem KpB.trans {n₀ Bs : Nat} {A B C : World} (h : KpB n₀ Bs A B) (k : KpB n₀ Bs B C) : KpB n₀ Bs A C := ⟨h.1.trans k.1, k.2.trans h.2⟩
def backF (zs : List UInt8) (k : Nat) : Int × UInt8 := ((zs.length : Int) - 1 - k, (zs[zs.length - 1 - k]?.getD 0))
theorem upto_back (zs : List UInt8) : (upto (backF zs) zs.length).map (·.2) = zs.reverse := by
  apply List.ext_getElem
  · simp [upto]
  · intro i h1 h2
    have hi : i < zs.length := by simpa [upto] using h1
    have hj : zs.length - 1 - i < zs.length := by omega
    simp [upto, backF, List.getElem?_eq_getElem hj]
/-- The slice value sv holds the bytes zs below n₀. -/
def Byts (n₀ : Nat) (W : World) (p : Option Addr) (zs : List UInt8) : Prop :=
  zs = [] ∨ ∃ b off, p = some ⟨b, off, none⟩ ∧ b < n₀ ∧ ∀ j, j < zs.length → W.cell? ⟨b, off + j, none⟩ = some (.int .u8 (zs[j]?.getD 0).toNat)
theorem Byts.below {n₀ : Nat} {A B : World} (h : Below n₀ A B) {p : Option Addr} {zs : List UInt8} : Byts n₀ A p zs → Byts n₀ B p zs
  | .inl e => .inl e
  | .inr ⟨b, off, e, hb, hc⟩ => .inr ⟨b, off, e, hb, fun j hj => (h.cell (p := ⟨b, off + j, none⟩) hb).trans (hc j hj)⟩
theorem KeptB {w W : World} (h : Kept (Old w) w W) {n : Nat} (hn : n ≤ w.heap.size) : Below n w W := ⟨h.os, h.tape, h.output, h.size, fun k hk => h.block k (Nat.lt_of_lt_of_le hk hn)⟩
theorem KeptF {w W : World} (h : Kept (Old w) w W) (B : Nat) : KeepsFrom B w W := ⟨h.size, fun k o _ hk _ => (h.block k (Array.getElem?_eq_some_iff.1 hk).1).trans hk⟩
theorem encL_u8 : ∀ (l : List UInt8) (j : Nat), j < l.length → (encL l)[j]? = some (.int .u8 (l[j]?.getD 0).toNat)
  | [], j, h => by simp at h
  | x :: l, 0, _ => rfl
  | x :: l, j + 1, h => by simpa [encL, Flat.enc] using encL_u8 l j (by simpa using h)
theorem byts_ro {w : World} {l : List UInt8} {v : Value} (h : Ro w l [v]) : ∃ p cap, v = .slice p l.length cap ∧ Byts w.heap.size w p l := by
  obtain ⟨p, cap, hv, hc, hp⟩ := h
  simp only [List.cons.injEq, and_true] at hv
  refine ⟨p, cap, hv, ?_⟩
  by_cases hl : l = []
  · exact .inl hl
  cases p with
  | none => exact absurd (List.eq_nil_of_length_eq_zero (by have := hp.1; omega)) hl
  | some q =>
    obtain ⟨q1, q2, q3⟩ := q
    obtain ⟨h1, ecs, fpe, h2, h3, h4⟩ := hp
    have h1 := h1 (by have := List.length_pos_iff.2 hl; omega)
    simp only at h1
    subst h1
    obtain ⟨rfl, rfl⟩ := flat_elems.1 h2
    refine .inr ⟨q1, q2, rfl, ?_, fun j hj => h3 j _ ?_⟩
    · rcases h4 with ⟨h4, _⟩ | ⟨h4, _⟩
      · exact h4 (by have := List.length_pos_iff.2 hl; omega)
      · cases h4
    · exact encL_u8 l j hj
end
end Go.Proofs.YtkcaldgoomphaaaDoor
