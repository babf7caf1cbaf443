/- Walk library: slices of one's own, of elements with memory, seen as slices of the elements' cells (headers). -/
import Derived.Test.YtkcaldgoomphaaaDoorLibX
namespace Go.Proofs.YtkcaldgoomphaaaDoor
open Go

/-- n cells. -/
structure Opq (n : Nat) where
  cs : List Value
  len : cs.length = n
  one : ∀ v ∈ cs, v.oneCell' = true
instance {n : Nat} : Flat (Opq n) := ⟨n, fun x => x.cs, fun x => x.len, fun x => x.one⟩
def hcells {n : Nat} (hs : List (Opq n)) : List Value := (hs.map (·.cs)).flatten
section
variable {α : Type} [Rep α] {S St : Nat → Prop} {w w0 : World} {l : List α} {v : Value} {its : List Item}
/-- The elements, apart from the array that holds their cells. -/
def els (S : Nat → Prop) (l : List α) (hs : List (Opq (Rep.n α))) : Item := fun w fp => hs.length = l.length ∧ Elems S w l (hcells hs) fp
theorem els_loc {hs : List (Opq (Rep.n α))} (hS : ∀ b, S b → St b) : Loc St (els S l hs) := fun _ _ _ h hb => ⟨h.1, h.2.loc fun b k => hb b (k.imp id (hS b))⟩
theorem hdr_flat {n : Nat} : ∀ (hs : List (Opq n)), Elems (α := Opq n) NoB w hs (hcells hs) []
  | [] => ⟨rfl, rfl⟩
  | x :: hs => ⟨x.cs, hcells hs, [], [], rfl, rfl, ⟨rfl, rfl⟩, hdr_flat hs⟩
theorem hdr_only {n : Nat} : ∀ {hs : List (Opq n)} {cs : List Value} {fp : List Nat}, Elems (α := Opq n) NoB w hs cs fp → cs = hcells hs ∧ fp = []
  | [], _, _, h => ⟨h.1, h.2⟩
  | x :: hs, _, _, h => by
    obtain ⟨c, cs', f, fp', rfl, rfl, ⟨rfl, rfl⟩, h2⟩ := h
    obtain ⟨rfl, rfl⟩ := hdr_only h2
    exact ⟨rfl, rfl⟩
theorem hdr_of : ∀ {l : List α} {cs : List Value} {fp : List Nat}, Elems S w l cs fp → ∃ hs : List (Opq (Rep.n α)), hs.length = l.length ∧ cs = hcells hs
  | [], _, _, h => ⟨[], rfl, h.1⟩
  | x :: l, _, _, h => by
    obtain ⟨c, cs', f, fp', rfl, rfl, h1, h2⟩ := h
    obtain ⟨hs, e, rfl⟩ := hdr_of h2
    exact ⟨⟨c, Rep.len h1, Rep.cell h1⟩ :: hs, by simp [e], rfl⟩
/-- A slice is taken apart. -/
theorem M.toHdr (hM : M St w0 w (osl S l v :: its)) (hS : ∀ b, S b → St b) : ∃ hs : List (Opq (Rep.n α)), hs.length = l.length ∧ M St w0 w (osl NoB hs v :: els S l hs :: its) := by
  obtain ⟨hk, hs0, fp, ⟨f, f', rfl, _, ⟨p, cap, rfl, hcap, hO⟩, hr⟩, hnd, hlt⟩ := hM
  rcases hO with ⟨rfl, rfl, _⟩ | ⟨b, o, ecs, fpe, rfl, k1, k2, rfl, k3⟩
  · have : l = [] := List.eq_nil_of_length_eq_zero (by omega)
    subst this
    exact ⟨[], rfl, hk, hs0, [] ++ ([] ++ f'), ⟨[], _, rfl, osl_loc noB, ⟨p, 0, rfl, Nat.le_refl _, .inl ⟨rfl, rfl, trivial⟩⟩, [], f', rfl, els_loc hS, ⟨rfl, rfl, rfl⟩, hr⟩, by simpa using hnd, fun k h => hlt k (by simpa using h)⟩
  · obtain ⟨hs, e, rfl⟩ := hdr_of k1
    refine ⟨hs, e, hk, hs0, [b] ++ (fpe ++ f'), ⟨[b], _, rfl, osl_loc noB, ⟨some ⟨b, o, Option.none⟩, cap, by rw [e], by omega, .inr ⟨b, o, hcells hs, [], rfl, hdr_flat hs, k2, rfl, k3⟩⟩, fpe, f', rfl, els_loc hS, ⟨e, k1⟩, hr⟩, by simpa using hnd, fun k h => hlt k (by simpa using h)⟩
/-- It is put together again. -/
theorem M.ofHdr {hs : List (Opq (Rep.n α))} (hM : M St w0 w (osl NoB hs v :: els S l hs :: its)) (hS : ∀ b, S b → St b) : M St w0 w (osl S l v :: its) := by
  obtain ⟨hk, hs0, fp, ⟨f, _, rfl, _, ⟨p, cap, rfl, hcap, hO⟩, g, f', rfl, _, ⟨e, hE⟩, hr⟩, hnd, hlt⟩ := hM
  rcases hO with ⟨rfl, rfl, _⟩ | ⟨b, o, ecs, fpe, rfl, k1, k2, rfl, k3⟩
  · have e0 : hs = [] := List.eq_nil_of_length_eq_zero (by omega)
    subst e0
    have : l = [] := List.eq_nil_of_length_eq_zero (by simpa using e.symm)
    subst this
    obtain ⟨_, rfl⟩ := hE
    exact ⟨hk, hs0, [] ++ f', ⟨[], f', rfl, osl_loc hS, ⟨p, 0, rfl, Nat.le_refl _, .inl ⟨rfl, rfl, trivial⟩⟩, hr⟩, by simpa using hnd, fun k h => hlt k (by simpa using h)⟩
  · obtain ⟨rfl, rfl⟩ := hdr_only k1
    exact ⟨hk, hs0, (b :: g) ++ f', ⟨b :: g, f', rfl, osl_loc hS, ⟨some ⟨b, o, Option.none⟩, cap, by rw [e], by omega, .inr ⟨b, o, hcells hs, g, rfl, hE, k2, rfl, k3⟩⟩, hr⟩, by simpa using hnd, fun k h => hlt k (by simpa using h)⟩
theorem Elems.cutAt : ∀ {l : List α} {hs : List (Opq (Rep.n α))} {fp : List Nat} (i : Nat), hs.length = l.length → Elems S w l (hcells hs) fp → ∃ f1 f2, fp = f1 ++ f2 ∧ Elems S w (l.take i) (hcells (hs.take i)) f1 ∧ Elems S w (l.drop i) (hcells (hs.drop i)) f2
  | l, hs, fp, 0, _, h => ⟨[], fp, rfl, by simp [hcells, Elems], by simpa using h⟩
  | [], [], _, i + 1, _, h => ⟨[], [], by obtain ⟨_, rfl⟩ := h; rfl, by simp [hcells, Elems], by simp [hcells, Elems]⟩
  | [], _ :: _, _, _ + 1, e, _ => by simp at e
  | _ :: _, [], _, _ + 1, e, _ => by simp at e
  | x :: l, y :: hs, _, i + 1, e, h => by
    obtain ⟨c, cs', f, fp', hc, rfl, h1, h2⟩ := h
    have hc : y.cs ++ hcells hs = c ++ cs' := hc
    have hl : y.cs.length = c.length := by rw [y.len, Rep.len h1]
    obtain ⟨rfl, rfl⟩ := List.append_inj hc hl
    obtain ⟨f1, f2, rfl, k1, k2⟩ := Elems.cutAt i (by simpa using e) h2
    exact ⟨f ++ f1, f2, by simp, ⟨y.cs, _, f, f1, rfl, rfl, h1, k1⟩, k2⟩
theorem hcells_app {n : Nat} (a b : List (Opq n)) : hcells (a ++ b) = hcells a ++ hcells b := by simp [hcells]
/-- Some elements are given up. -/
theorem M.dropEls {hs : List (Opq (Rep.n α))} (hM : M St w0 w (els S l hs :: its)) (hS : ∀ b, S b → St b) (i j : Nat) (hij : i ≤ j) : M St w0 w (els S (l.take i ++ l.drop j) (hs.take i ++ hs.drop j) :: its) := by
  obtain ⟨hk, hs0, fp, ⟨f, f', rfl, _, ⟨e, hE⟩, hr⟩, hnd, hlt⟩ := hM
  obtain ⟨f1, f2, rfl, k1, k2⟩ := hE.cutAt i e
  obtain ⟨g1, g2, rfl, k3, k4⟩ := k2.cutAt (j - i) (by simp [e])
  have d1 : (l.drop i).drop (j - i) = l.drop j := by rw [List.drop_drop]; congr 1; omega
  have d2 : (hs.drop i).drop (j - i) = hs.drop j := by rw [List.drop_drop]; congr 1; omega
  rw [d1, d2] at k4
  have sub : (f1 ++ g2 ++ f').Sublist (f1 ++ (g1 ++ g2) ++ f') := by
    refine List.Sublist.append_right ?_ _
    exact List.Sublist.append_left (List.sublist_append_right _ _) _
  refine ⟨hk, hs0, (f1 ++ g2) ++ f', ⟨f1 ++ g2, f', rfl, els_loc hS, ⟨by simp [e], ?_⟩, hr⟩, sub.nodup hnd, fun k h => hlt k (sub.subset h)⟩
  rw [hcells_app]
  exact k1.append k4
end
/-- Cuts of headers go as cuts of data. -/
theorem slc_hdr {α β : Type} {l l1 : List α} {hs : List β} {a b : Int} (h : slc l a b = some l1) (e : hs.length = l.length) : slc hs a b = some ((hs.take b.toNat).drop a.toNat) ∧ l1 = (l.take b.toNat).drop a.toNat ∧ ((hs.take b.toNat).drop a.toNat).length = l1.length := by
  unfold slc at *
  by_cases c : 0 ≤ a ∧ a ≤ b ∧ b ≤ l.length
  · rw [if_pos c] at h
    have h := Option.some.inj h
    refine ⟨by rw [if_pos (by rw [e]; exact c)], h.symm, by rw [← h]; simp [e]⟩
  · rw [if_neg c] at h; cases h
theorem slc_hdr1 {α β : Type} {l l1 : List α} {hs : List β} {a b : Int} (h : slc l a b = some l1) (e : hs.length = l.length) : ∃ h1, slc hs a b = some h1 ∧ h1.length = l1.length := ⟨_, (slc_hdr h e).1, (slc_hdr h e).2.2⟩
theorem slc_hdrE {α β : Type} {l l1 : List α} {hs : List β} {a : Int} (h : slc l a (l.length : Int) = some l1) (e : hs.length = l.length) : ∃ h1, slc hs a (hs.length : Int) = some h1 ∧ h1.length = l1.length := by
  rw [← e] at h
  exact slc_hdr1 h e
theorem M.cutEls {α : Type} [Rep α] {S St : Nat → Prop} {w w0 : World} {l l1 l2 : List α} {its : List Item} {hs h1 h2 : List (Opq (Rep.n α))} {i j : Int} (hM : M St w0 w (els S l hs :: its)) (hS : ∀ b, S b → St b) (e1 : slc l 0 i = some l1) (e2 : slc l j (l.length : Int) = some l2) (g1 : slc hs 0 i = some h1) (g2 : slc hs j (hs.length : Int) = some h2) (hij : i ≤ j) :
    M St w0 w (els S (([] ++ l1) ++ l2) (([] ++ h1) ++ h2) :: its) := by
  have a1 := (slc_some e1).2
  have a2 := (slc_some e2).2
  have b1 := (slc_some g1).2
  have b2 := (slc_some g2).2
  have := hM.dropEls hS i.toNat j.toNat (Int.toNat_le_toNat hij)
  simp only [Int.toNat_natCast, List.take_length, Int.toNat_zero, List.drop_zero] at a1 a2 b1 b2
  rw [a1, a2, b1, b2]
  exact this
end Go.Proofs.YtkcaldgoomphaaaDoor
