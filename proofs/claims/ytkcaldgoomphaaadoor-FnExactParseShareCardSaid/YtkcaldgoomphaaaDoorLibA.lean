/- The walk library, part A: memory predicates. Nothing of the program is in sight here. -/
import Derived.ProofKit
import Derived.WalkKit
namespace Go.Proofs.YtkcaldgoomphaaaDoor
open Go

/-- What is asked of two worlds: the streams are the same, no block has gone, the blocks of St are as they were. -/
structure Kept (St : Nat → Prop) (w w' : World) : Prop where
  os : w'.os = w.os
  tape : w'.tape = w.tape
  output : w'.output = w.output
  size : w.heap.size ≤ w'.heap.size
  block : ∀ b, St b → w'.heap[b]? = w.heap[b]?

theorem Kept.refl (St : Nat → Prop) (w : World) : Kept St w w := ⟨rfl, rfl, rfl, Nat.le_refl _, fun _ _ => rfl⟩
theorem Kept.trans {St : Nat → Prop} {a b c : World} (h : Kept St a b) (k : Kept St b c) : Kept St a c :=
  ⟨k.os.trans h.os, k.tape.trans h.tape, k.output.trans h.output, Nat.le_trans h.size k.size, fun i hi => (k.block i hi).trans (h.block i hi)⟩
theorem Kept.mono {St St' : Nat → Prop} {a b : World} (h : Kept St a b) (hs : ∀ b, St' b → St b) : Kept St' a b :=
  ⟨h.os, h.tape, h.output, h.size, fun i hi => h.block i (hs i hi)⟩

/-- Blocks below the heap's size. -/
def Old (w : World) (b : Nat) : Prop := b < w.heap.size
/-- No block. -/
def NoB (_ : Nat) : Prop := False

theorem Kept.drew {St : Nat → Prop} {a w : World} (h : Kept St a w) : Kept St a w.drew := ⟨h.os, h.tape, h.output, h.size, h.block⟩

theorem heap_alloc_old (w : World) (o : Obj) (k : Nat) (h : k < w.heap.size) : (w.alloc o).heap[k]? = w.heap[k]? := by
  show (w.heap.push o)[k]? = _
  rw [Array.getElem?_push, if_neg (by omega)]
theorem heap_alloc_new (w : World) (o : Obj) : (w.alloc o).heap[w.heap.size]? = some o := by
  show (w.heap.push o)[w.heap.size]? = _
  rw [Array.getElem?_push, if_pos rfl]
theorem Kept.alloc (w : World) (o : Obj) : Kept (Old w) w (w.alloc o) :=
  ⟨rfl, rfl, rfl, by simp, fun b hb => heap_alloc_old w o b hb⟩

/-- The cells of a row, from a place on. -/
def At (w : World) (b o : Nat) (cs : List Value) : Prop := ∀ i v, cs[i]? = some v → w.cell? ⟨b, o + i, none⟩ = some v

/-- There is room for m cells at a place, and none of the block's cells is frozen. -/
def Room (w : World) (b o m : Nat) : Prop := ∃ c T fz, w.heap[b]? = some (.cells c T fz) ∧ o + m ≤ c.size ∧ ∀ i, i < c.size → ¬ (fz.1 ≤ i ∧ i < fz.2)

theorem cell?_of_heap {w w' : World} {b : Nat} (h : w'.heap[b]? = w.heap[b]?) (o : Nat) : w'.cell? ⟨b, o, none⟩ = w.cell? ⟨b, o, none⟩ := by
  simp [World.cell?, h]
theorem At.loc {w w' : World} {b o : Nat} {cs : List Value} (h : At w b o cs) (hb : w'.heap[b]? = w.heap[b]?) : At w' b o cs :=
  fun i v hv => by rw [cell?_of_heap hb]; exact h i v hv
theorem At.nil (w : World) (b o : Nat) : At w b o [] := fun i v h => by simp at h
theorem At.append {w : World} {b o : Nat} {c d : List Value} : At w b o (c ++ d) ↔ At w b o c ∧ At w b (o + c.length) d := by
  constructor
  · intro h
    refine ⟨fun i v hv => h i v ?_, fun i v hv => ?_⟩
    · rw [List.getElem?_append_left (by have := (List.getElem?_eq_some_iff.1 hv).1; exact this)]; exact hv
    · have := h (c.length + i) v (by rw [List.getElem?_append_right (by omega)]; simpa using hv)
      rw [← Nat.add_assoc] at this; exact this
  · rintro ⟨h1, h2⟩ i v hv
    by_cases hi : i < c.length
    · exact h1 i v (by rw [List.getElem?_append_left hi] at hv; exact hv)
    · have := h2 (i - c.length) v (by rw [List.getElem?_append_right (by omega)] at hv; exact hv)
      rw [show o + c.length + (i - c.length) = o + i by omega] at this; exact this
theorem At.lt {w : World} {b o : Nat} {cs : List Value} (h : At w b o cs) (hc : cs ≠ []) : b < w.heap.size := by
  cases cs with
  | nil => exact absurd rfl hc
  | cons v r =>
    have := h 0 v rfl
    simp only [World.cell?] at this
    rcases Nat.lt_or_ge b w.heap.size with hb | hb
    · exact hb
    · simp [Array.getElem?_eq_none hb] at this
theorem Room.loc {w w' : World} {b o m : Nat} (h : Room w b o m) (hb : w'.heap[b]? = w.heap[b]?) : Room w' b o m := by
  obtain ⟨c, T, fz, h1, h2⟩ := h; exact ⟨c, T, fz, by rw [hb]; exact h1, h2⟩
theorem Room.lt {w : World} {b o m : Nat} (h : Room w b o m) : b < w.heap.size := by
  obtain ⟨c, T, fz, h1, h2⟩ := h
  rcases Nat.lt_or_ge b w.heap.size with hb | hb
  · exact hb
  · simp [Array.getElem?_eq_none hb] at h1
theorem At.of_heap {w : World} {b : Nat} {cs : List Value} {T : TypeId} {fz : Nat × Nat} (h : w.heap[b]? = some (.cells cs.toArray T fz)) : At w b 0 cs := by
  intro i v hv
  simp [World.cell?, h, hv]

/-! ### Data -/

/-- Data that lie flat: their cells are known. -/
class Flat (α : Type) where
  n : Nat
  enc : α → List Value
  len : ∀ x, (enc x).length = n
  cell : ∀ x, ∀ v ∈ enc x, v.oneCell' = true

/-- Data in memory. S: the blocks that are shared; fp: the blocks that are its own, each once. -/
class Rep (α : Type) where
  n : Nat
  sat : (Nat → Prop) → World → α → List Value → List Nat → Prop
  len : ∀ {S w x cs fp}, sat S w x cs fp → cs.length = n
  loc : ∀ {S w w' x cs fp}, sat S w x cs fp → (∀ b, (b ∈ fp ∨ S b) → w'.heap[b]? = w.heap[b]?) → sat S w' x cs fp
  ro : ∀ {S S' : Nat → Prop} {w x cs fp}, sat S w x cs fp → (∀ b, (b ∈ fp ∨ S b) → S' b) → sat S' w x cs []
  wk : ∀ {S S' : Nat → Prop} {w x cs fp}, sat S w x cs fp → (∀ b, S b → S' b) → sat S' w x cs fp
  lt : ∀ {S w x cs fp}, sat S w x cs fp → ∀ b ∈ fp, b < w.heap.size
  cell : ∀ {S w x cs fp}, sat S w x cs fp → ∀ v ∈ cs, v.oneCell' = true

instance (priority := low) ofFlat {α : Type} [Flat α] : Rep α where
  n := Flat.n α
  sat := fun _ _ x cs fp => cs = Flat.enc x ∧ fp = []
  len := fun h => by rw [h.1]; exact Flat.len _
  loc := fun h _ => h
  ro := fun h _ => ⟨h.1, rfl⟩
  wk := fun h _ => h
  lt := fun h b hb => by rw [h.2] at hb; cases hb
  cell := fun h => by rw [h.1]; exact Flat.cell _

theorem sat_flat {α : Type} [Flat α] {S : Nat → Prop} {w : World} {x : α} {cs : List Value} {fp : List Nat} : Rep.sat S w x cs fp ↔ cs = Flat.enc x ∧ fp = [] := Iff.rfl

/-- The elements of a slice, one after the other. -/
def Elems {α : Type} [Rep α] (S : Nat → Prop) (w : World) : List α → List Value → List Nat → Prop
  | [], cs, fp => cs = [] ∧ fp = []
  | x :: l, cs, fp => ∃ c cs' f fp', cs = c ++ cs' ∧ fp = f ++ fp' ∧ Rep.sat S w x c f ∧ Elems S w l cs' fp'

section
variable {α : Type} [Rep α] {S S' : Nat → Prop} {w w' : World}
theorem Elems.len : ∀ {l : List α} {cs : List Value} {fp : List Nat}, Elems S w l cs fp → cs.length = l.length * Rep.n α
  | [], _, _, h => by obtain ⟨rfl, _⟩ := h; simp
  | x :: l, _, _, h => by
    obtain ⟨c, cs', f, fp', rfl, _, h1, h2⟩ := h
    rw [List.length_append, Rep.len h1, Elems.len h2, List.length_cons, Nat.add_mul]; omega
theorem Elems.loc : ∀ {l : List α} {cs : List Value} {fp : List Nat}, Elems S w l cs fp → (∀ b, (b ∈ fp ∨ S b) → w'.heap[b]? = w.heap[b]?) → Elems S w' l cs fp
  | [], _, _, h, _ => h
  | x :: l, _, _, h, hb => by
    obtain ⟨c, cs', f, fp', rfl, rfl, h1, h2⟩ := h
    exact ⟨c, cs', f, fp', rfl, rfl, Rep.loc h1 (fun b h => hb b (by simp; grind)), Elems.loc h2 (fun b h => hb b (by simp; grind))⟩
theorem Elems.ro : ∀ {l : List α} {cs : List Value} {fp : List Nat}, Elems S w l cs fp → (∀ b, (b ∈ fp ∨ S b) → S' b) → Elems S' w l cs []
  | [], _, _, h, _ => ⟨h.1, rfl⟩
  | x :: l, _, _, h, hb => by
    obtain ⟨c, cs', f, fp', rfl, rfl, h1, h2⟩ := h
    exact ⟨c, cs', [], [], rfl, rfl, Rep.ro h1 (fun b h => hb b (by simp; grind)), Elems.ro h2 (fun b h => hb b (by simp; grind))⟩
theorem Elems.wk : ∀ {l : List α} {cs : List Value} {fp : List Nat}, Elems S w l cs fp → (∀ b, S b → S' b) → Elems S' w l cs fp
  | [], _, _, h, _ => h
  | x :: l, _, _, h, hb => by
    obtain ⟨c, cs', f, fp', rfl, rfl, h1, h2⟩ := h
    exact ⟨c, cs', f, fp', rfl, rfl, Rep.wk h1 hb, Elems.wk h2 hb⟩
theorem Elems.lt : ∀ {l : List α} {cs : List Value} {fp : List Nat}, Elems S w l cs fp → ∀ b ∈ fp, b < w.heap.size
  | [], _, _, h, b, hb => by rw [h.2] at hb; cases hb
  | x :: l, _, _, h, b, hb => by
    obtain ⟨c, cs', f, fp', rfl, rfl, h1, h2⟩ := h
    rcases List.mem_append.1 hb with hb | hb
    · exact Rep.lt h1 b hb
    · exact Elems.lt h2 b hb
theorem Elems.cell : ∀ {l : List α} {cs : List Value} {fp : List Nat}, Elems S w l cs fp → ∀ v ∈ cs, v.oneCell' = true
  | [], _, _, h, v, hv => by rw [h.1] at hv; cases hv
  | x :: l, _, _, h, v, hv => by
    obtain ⟨c, cs', f, fp', rfl, rfl, h1, h2⟩ := h
    rcases List.mem_append.1 hv with hv | hv
    · exact Rep.cell h1 v hv
    · exact Elems.cell h2 v hv
theorem Elems.append : ∀ {l m : List α} {cs ds : List Value} {fp gp : List Nat}, Elems S w l cs fp → Elems S w m ds gp → Elems S w (l ++ m) (cs ++ ds) (fp ++ gp)
  | [], _, _, _, _, _, h, k => by obtain ⟨rfl, rfl⟩ := h; exact k
  | x :: l, _, _, _, _, _, h, k => by
    obtain ⟨c, cs', f, fp', rfl, rfl, h1, h2⟩ := h
    exact ⟨c, cs' ++ _, f, fp' ++ _, by simp, by simp, h1, Elems.append h2 k⟩
/-- One element, and what lies before and behind it. -/
theorem Elems.split : ∀ {l : List α} {cs : List Value} {fp : List Nat} {i : Nat} {x : α}, Elems S w l cs fp → l[i]? = some x →
    ∃ c1 c c2 f1 f f2, cs = c1 ++ (c ++ c2) ∧ fp = f1 ++ (f ++ f2) ∧ c1.length = i * Rep.n α ∧ Elems S w (l.take i) c1 f1 ∧ Rep.sat S w x c f ∧ Elems S w (l.drop (i + 1)) c2 f2
  | [], _, _, _, _, _, hi => by simp at hi
  | y :: l, _, _, 0, x, h, hi => by
    obtain ⟨c, cs', f, fp', rfl, rfl, h1, h2⟩ := h
    simp only [List.getElem?_cons_zero, Option.some.injEq] at hi
    subst hi
    exact ⟨[], c, cs', [], f, fp', rfl, rfl, by simp, ⟨rfl, rfl⟩, h1, h2⟩
  | y :: l, _, _, i + 1, x, h, hi => by
    obtain ⟨c, cs', f, fp', rfl, rfl, h1, h2⟩ := h
    obtain ⟨c1, d, c2, f1, g, f2, rfl, rfl, e1, k1, k2, k3⟩ := Elems.split h2 (by simpa using hi)
    refine ⟨c ++ c1, d, c2, f ++ f1, g, f2, by simp, by simp, ?_, ⟨c, c1, f, f1, rfl, rfl, h1, k1⟩, k2, k3⟩
    rw [List.length_append, Rep.len h1, e1, Nat.add_mul]; omega
theorem Elems.join : ∀ {l : List α} {i : Nat} {x : α} {c1 c c2 : List Value} {f1 f f2 : List Nat}, i < l.length → Elems S w (l.take i) c1 f1 → Rep.sat S w x c f → Elems S w (l.drop (i + 1)) c2 f2 →
    Elems S w (l.set i x) (c1 ++ (c ++ c2)) (f1 ++ (f ++ f2))
  | [], _, _, _, _, _, _, _, _, hi, _, _, _ => by simp at hi
  | y :: l, 0, x, c1, c, c2, f1, f, f2, _, h1, h2, h3 => by
    obtain ⟨rfl, rfl⟩ := h1
    exact ⟨c, c2, f, f2, rfl, rfl, h2, h3⟩
  | y :: l, i + 1, x, c1, c, c2, f1, f, f2, hi, h1, h2, h3 => by
    obtain ⟨d, cs', g, fp', rfl, rfl, k1, k2⟩ := h1
    refine ⟨d, cs' ++ (c ++ c2), g, fp' ++ (f ++ f2), by simp, by simp, k1, Elems.join (by simpa using hi) k2 h2 h3⟩

/-- Room at an address that is plain. -/
def RoomA (w : World) (q : Addr) (m : Nat) : Prop := Room w q.block q.off m ∧ q.spot = none
theorem RoomA.loc {w w' : World} {q : Addr} {m : Nat} (h : RoomA w q m) (hb : w'.heap[q.block]? = w.heap[q.block]?) : RoomA w' q m := ⟨h.1.loc hb, h.2⟩
theorem RoomA.lt {w : World} {q : Addr} {m : Nat} (h : RoomA w q m) : Old w q.block := h.1.lt
/-- A slice: nil, or shared, or its own. -/
def SlSat (S : Nat → Prop) (w : World) (l : List α) (cs : List Value) (fp : List Nat) : Prop :=
  ∃ p cap, cs = [.slice p l.length cap] ∧ l.length ≤ cap ∧
    match p with
    | none => cap = 0 ∧ fp = []
    | some q => (cap ≠ 0 → q.spot = none) ∧ ∃ ecs fpe, Elems S w l ecs fpe ∧ At w q.block q.off ecs ∧
        (((cap ≠ 0 → S q.block) ∧ fp = fpe) ∨ (fp = q.block :: fpe ∧ RoomA w q (cap * Rep.n α)))

instance : Rep (List α) where
  n := 1
  sat := SlSat
  len := by rintro S w x cs fp ⟨p, cap, rfl, _⟩; rfl
  loc := by
    rintro S w w' x cs fp ⟨p, cap, rfl, hc, h⟩ hb
    refine ⟨p, cap, rfl, hc, ?_⟩
    cases p with
    | none => exact h
    | some q =>
      obtain ⟨hs, ecs, fpe, h1, h2, h3⟩ := h
      rcases h3 with ⟨h3, rfl⟩ | ⟨rfl, h3⟩
      · refine ⟨hs, ecs, fp, Elems.loc h1 hb, ?_, .inl ⟨h3, rfl⟩⟩
        by_cases hx : x = []
        · subst hx; obtain ⟨rfl, _⟩ := h1; exact At.nil _ _ _
        · exact h2.loc (hb _ (.inr (h3 (by have := List.length_pos_iff.2 hx; omega))))
      · exact ⟨hs, ecs, fpe, Elems.loc h1 (fun b h => hb b (by simp; grind)), h2.loc (hb _ (by simp)), .inr ⟨rfl, h3.loc (hb _ (by simp))⟩⟩
  ro := by
    rintro S S' w x cs fp ⟨p, cap, rfl, hc, h⟩ hb
    refine ⟨p, cap, rfl, hc, ?_⟩
    cases p with
    | none => exact ⟨h.1, rfl⟩
    | some q =>
      obtain ⟨hs, ecs, fpe, h1, h2, h3⟩ := h
      rcases h3 with ⟨h3, rfl⟩ | ⟨rfl, h3⟩
      · exact ⟨hs, ecs, [], Elems.ro h1 hb, h2, .inl ⟨fun h => hb _ (.inr (h3 h)), rfl⟩⟩
      · exact ⟨hs, ecs, [], Elems.ro h1 (fun b h => hb b (by simp; grind)), h2, .inl ⟨fun _ => hb _ (by simp), rfl⟩⟩
  wk := by
    rintro S S' w x cs fp ⟨p, cap, rfl, hc, h⟩ hb
    refine ⟨p, cap, rfl, hc, ?_⟩
    cases p with
    | none => exact h
    | some q =>
      obtain ⟨hs, ecs, fpe, h1, h2, h3⟩ := h
      rcases h3 with ⟨h3, rfl⟩ | ⟨rfl, h3⟩
      · exact ⟨hs, ecs, fp, Elems.wk h1 hb, h2, .inl ⟨fun h => hb _ (h3 h), rfl⟩⟩
      · exact ⟨hs, ecs, fpe, Elems.wk h1 hb, h2, .inr ⟨rfl, h3⟩⟩
  lt := by
    rintro S w x cs fp ⟨p, cap, rfl, hc, h⟩ b hb
    cases p with
    | none => rw [h.2] at hb; cases hb
    | some q =>
      obtain ⟨hs, ecs, fpe, h1, h2, h3⟩ := h
      rcases h3 with ⟨h3, rfl⟩ | ⟨rfl, h3⟩
      · exact Elems.lt h1 b hb
      · rcases List.mem_cons.1 hb with rfl | hb
        · exact h3.lt
        · exact Elems.lt h1 b hb
  cell := by
    rintro S w x cs fp ⟨p, cap, rfl, _⟩ v hv
    simp at hv; subst hv; rfl
end

/-- Read only, within S. -/
abbrev RoS {α : Type} [Rep α] (S : Nat → Prop) (w : World) (x : α) (cs : List Value) : Prop := Rep.sat S w x cs []
/-- Read only, anywhere in the heap as it is. -/
abbrev Ro {α : Type} [Rep α] (w : World) (x : α) (cs : List Value) : Prop := Rep.sat (Old w) w x cs []

/-! ### Items of memory, each apart from the others -/

abbrev Item := World → List Nat → Prop
def Loc (St : Nat → Prop) (it : Item) : Prop := ∀ w w' fp, it w fp → (∀ b, (b ∈ fp ∨ St b) → w'.heap[b]? = w.heap[b]?) → it w' fp
theorem Loc.mono {St St' : Nat → Prop} {it : Item} (h : Loc St it) (hs : ∀ b, St b → St' b) : Loc St' it :=
  fun w w' fp hi hb => h w w' fp hi fun b h => hb b (h.imp id (hs b))

def own {α : Type} [Rep α] (S : Nat → Prop) (x : α) (cs : List Value) : Item := fun w fp => Rep.sat S w x cs fp
/-- A block known whole. -/
def raw (b : Nat) (cs : List Value) : Item := fun w fp => fp = [b] ∧ ∃ T, w.heap[b]? = some (.cells cs.toArray T (0, 0))
def emp : Item := fun _ fp => fp = []

theorem own_loc {α : Type} [Rep α] {S St : Nat → Prop} {x : α} {cs : List Value} (hs : ∀ b, S b → St b) : Loc St (own S x cs) :=
  fun _ _ _ h hb => Rep.loc h fun b h => hb b (h.imp id (hs b))
theorem raw_loc {St : Nat → Prop} {b : Nat} {cs : List Value} : Loc St (raw b cs) :=
  fun w w' fp h hb => by obtain ⟨rfl, T, h⟩ := h; exact ⟨rfl, T, by rw [hb b (by simp)]; exact h⟩
theorem emp_loc {St : Nat → Prop} : Loc St emp := fun _ _ _ h _ => h

def SepR (St : Nat → Prop) (w : World) : List Item → List Nat → Prop
  | [], fp => fp = []
  | it :: r, fp => ∃ f f', fp = f ++ f' ∧ Loc St it ∧ it w f ∧ SepR St w r f'

section
variable {St St' : Nat → Prop} {w w' : World}
theorem SepR.loc : ∀ {l : List Item} {fp : List Nat}, SepR St w l fp → (∀ b, (b ∈ fp ∨ St b) → w'.heap[b]? = w.heap[b]?) → SepR St w' l fp
  | [], _, h, _ => h
  | it :: r, _, h, hb => by
    obtain ⟨f, f', rfl, hl, h1, h2⟩ := h
    exact ⟨f, f', rfl, hl, hl _ _ _ h1 (fun b h => hb b (by simp; grind)), SepR.loc h2 (fun b h => hb b (by simp; grind))⟩
theorem SepR.mono : ∀ {l : List Item} {fp : List Nat}, SepR St w l fp → (∀ b, St b → St' b) → SepR St' w l fp
  | [], _, h, _ => h
  | it :: r, _, h, hb => by
    obtain ⟨f, f', rfl, hl, h1, h2⟩ := h
    exact ⟨f, f', rfl, hl.mono hb, h1, SepR.mono h2 hb⟩
theorem SepR.append : ∀ {l m : List Item} {fp gp : List Nat}, SepR St w l fp → SepR St w m gp → SepR St w (l ++ m) (fp ++ gp)
  | [], _, _, _, h, k => by cases h; exact k
  | it :: r, _, _, _, h, k => by
    obtain ⟨f, f', rfl, hl, h1, h2⟩ := h
    exact ⟨f, f' ++ _, by simp, hl, h1, SepR.append h2 k⟩
theorem SepR.split : ∀ {l m : List Item} {fp : List Nat}, SepR St w (l ++ m) fp → ∃ f g, fp = f ++ g ∧ SepR St w l f ∧ SepR St w m g
  | [], _, fp, h => ⟨[], fp, rfl, rfl, h⟩
  | it :: r, _, _, h => by
    obtain ⟨f, f', rfl, hl, h1, h2⟩ := h
    obtain ⟨g, g', rfl, k1, k2⟩ := SepR.split h2
    exact ⟨f ++ g, g', by simp, ⟨f, g, rfl, hl, h1, k1⟩, k2⟩
end

/-- The memory of a function's own: St the blocks that do not turn while it runs. -/
structure M (St : Nat → Prop) (w0 w : World) (items : List Item) : Prop where
  kept : Kept St w0 w
  st : ∀ b, St b → b < w0.heap.size
  sep : ∃ fp, SepR St w items fp ∧ fp.Nodup ∧ ∀ b ∈ fp, ¬ St b ∧ b < w.heap.size

/-- Items in memory that was made since w. -/
def Fr (w w' : World) (items : List Item) : Prop :=
  ∃ fp, SepR NoB w' items fp ∧ fp.Nodup ∧ ∀ b ∈ fp, w.heap.size ≤ b ∧ b < w'.heap.size
def FrS (S : Nat → Prop) (w w' : World) (items : List Item) : Prop :=
  ∃ fp, SepR S w' items fp ∧ fp.Nodup ∧ ∀ b ∈ fp, w.heap.size ≤ b ∧ b < w'.heap.size

section
variable {St : Nat → Prop} {w0 w w' : World} {its : List Item} {it : Item}
theorem M.start (w : World) : M (Old w) w w [] := ⟨.refl _ _, fun _ h => h, [], rfl, List.nodup_nil, fun _ h => by cases h⟩
theorem M.st' (h : M St w0 w its) : ∀ b, St b → b < w.heap.size := fun b hb => Nat.lt_of_lt_of_le (h.st b hb) h.kept.size
theorem M.pull {pre post : List Item} (h : M St w0 w (pre ++ it :: post)) : M St w0 w (it :: (pre ++ post)) := by
  obtain ⟨hk, hs, fp, h1, h2, h3⟩ := h
  obtain ⟨f, g, rfl, k1, k2⟩ := SepR.split h1
  obtain ⟨g1, g2, rfl, l1, l2, l3⟩ := k2
  refine ⟨hk, hs, g1 ++ (f ++ g2), ⟨g1, f ++ g2, rfl, l1, l2, SepR.append k1 l3⟩, ?_, fun b hb => h3 b (by simp at hb ⊢; grind)⟩
  refine (List.Perm.nodup_iff ?_).1 h2
  rw [← List.append_assoc, ← List.append_assoc]
  exact List.Perm.append_right _ List.perm_append_comm
theorem M.drop (h : M St w0 w (it :: its)) : M St w0 w its := by
  obtain ⟨hk, hs, fp, ⟨f, g, rfl, _, _, h1⟩, h2, h3⟩ := h
  exact ⟨hk, hs, g, h1, (List.nodup_append.1 h2).2.1, fun b hb => h3 b (by simp; grind)⟩
theorem M.keep (h : M St w0 w its) (hk : Kept (Old w) w w') : M St w0 w' its := by
  obtain ⟨h0, hs, fp, h1, h2, h3⟩ := h
  have hs' : ∀ b, St b → Old w b := fun b hb => Nat.lt_of_lt_of_le (hs b hb) h0.size
  refine ⟨h0.trans (hk.mono hs'), hs, fp, SepR.loc h1 (fun b hb => hk.block b ?_), h2, fun b hb => ⟨(h3 b hb).1, Nat.lt_of_lt_of_le (h3 b hb).2 hk.size⟩⟩
  exact hb.elim (fun h => (h3 b h).2) (hs' b)
theorem M.addS {new : List Item} (h : M St w0 w its) (hk : Kept (Old w) w w') (hf : FrS St w w' new) : M St w0 w' (new ++ its) := by
  have hst := h.st'
  obtain ⟨h0, hs, fp, h1, h2, h3⟩ := h
  obtain ⟨gp, k1, k2, k3⟩ := hf
  refine ⟨h0.trans (hk.mono hst), hs, gp ++ fp, SepR.append k1 (SepR.loc h1 fun b hb => hk.block b (hb.elim (fun h => (h3 b h).2) (hst b))), ?_, ?_⟩
  · refine List.nodup_append.2 ⟨k2, h2, fun a ha b hb e => ?_⟩
    subst e
    have := (k3 a ha).1; have := (h3 a hb).2; omega
  · intro b hb
    rcases List.mem_append.1 hb with hb | hb
    · exact ⟨fun hb' => absurd (hst b hb') (by have := (k3 b hb).1; omega), (k3 b hb).2⟩
    · exact ⟨(h3 b hb).1, Nat.lt_of_lt_of_le (h3 b hb).2 hk.size⟩
theorem Fr.toS {S : Nat → Prop} {new : List Item} (h : Fr w w' new) : FrS S w w' new := by
  obtain ⟨fp, h1, h2, h3⟩ := h; exact ⟨fp, h1.mono (fun _ h => h.elim), h2, h3⟩
theorem M.add {new : List Item} (h : M St w0 w its) (hk : Kept (Old w) w w') (hf : Fr w w' new) : M St w0 w' (new ++ its) := h.addS hk hf.toS
theorem Fr.nil (w w' : World) : Fr w w' [] := ⟨[], rfl, List.nodup_nil, fun _ h => by cases h⟩
theorem FrS.nil {S : Nat → Prop} (w w' : World) : FrS S w w' [] := ⟨[], rfl, List.nodup_nil, fun _ h => by cases h⟩
/-- A new block. -/
theorem M.alloc (h : M St w0 w its) (cs : List Value) (T : TypeId) : M St w0 (w.alloc (.cells cs.toArray T)) (raw w.heap.size cs :: its) :=
  h.addS (new := [_]) (Kept.alloc _ _) ⟨[w.heap.size], ⟨[w.heap.size], [], rfl, raw_loc, ⟨rfl, T, heap_alloc_new _ _⟩, rfl⟩, by simp, fun b hb => by simp at hb; subst hb; simp⟩
/-- What an item says, read in the world as it is. -/
theorem M.head (h : M St w0 w (it :: its)) : ∃ fp, it w fp ∧ ∀ b ∈ fp, b < w.heap.size := by
  obtain ⟨_, _, fp, ⟨f, g, rfl, _, h1, _⟩, _, h3⟩ := h
  exact ⟨f, h1, fun b hb => (h3 b (by simp; grind)).2⟩
theorem M.get {pre post : List Item} (h : M St w0 w (pre ++ it :: post)) : ∃ fp, it w fp ∧ ∀ b ∈ fp, b < w.heap.size := h.pull.head
theorem M.ro {α : Type} [Rep α] {S : Nat → Prop} {x : α} {cs : List Value} {pre post : List Item} (h : M St w0 w (pre ++ own S x cs :: post)) (hS : ∀ b, S b → Old w b) : Ro w x cs := by
  obtain ⟨fp, h1, h2⟩ := h.get
  exact Rep.ro h1 fun b hb => hb.elim (h2 b) (hS b)
theorem M.rawAt {b : Nat} {cs : List Value} {pre post : List Item} (h : M St w0 w (pre ++ raw b cs :: post)) : At w b 0 cs := by
  obtain ⟨fp, ⟨rfl, T, h1⟩, _⟩ := h.get
  exact At.of_heap h1
/-- The first item is turned: its blocks may have been written, new ones may have come. -/
theorem M.turn {new : List Item} (h : M St w0 w (it :: its)) (hos : w'.os = w.os) (htape : w'.tape = w.tape) (hout : w'.output = w.output) (hsize : w.heap.size ≤ w'.heap.size)
    (ht : ∀ fp, it w fp → (∀ b ∈ fp, ¬ St b ∧ b < w.heap.size) → fp.Nodup → (∀ b, b ∉ fp → b < w.heap.size → w'.heap[b]? = w.heap[b]?) ∧
      ∃ fp', SepR St w' new fp' ∧ fp'.Nodup ∧ ∀ b ∈ fp', b ∈ fp ∨ (w.heap.size ≤ b ∧ b < w'.heap.size)) : M St w0 w' (new ++ its) := by
  have hst := h.st'
  obtain ⟨h0, hs, fp, ⟨f, g, rfl, hl, h1, h2⟩, h3, h4⟩ := h
  obtain ⟨n1, n2, n3⟩ := List.nodup_append.1 h3
  obtain ⟨k1, fp', k2, k3, k4⟩ := ht f h1 (fun b hb => h4 b (by simp; grind)) n1
  have keepg : ∀ b, (b ∈ g ∨ St b) → w'.heap[b]? = w.heap[b]? := by
    intro b hb
    refine k1 b (fun hf => ?_) ?_
    · rcases hb with hb | hb
      · exact n3 b hf b hb rfl
      · exact (h4 b (by simp; grind)).1 hb
    · rcases hb with hb | hb
      · exact (h4 b (by simp; grind)).2
      · exact hst b hb
  refine ⟨h0.trans ⟨hos, htape, hout, hsize, fun b hb => keepg b (.inr hb)⟩, hs, fp' ++ g, SepR.append k2 (SepR.loc h2 keepg), ?_, ?_⟩
  · refine List.nodup_append.2 ⟨k3, n2, fun a ha b hb e => ?_⟩
    subst e
    rcases k4 a ha with hf | ⟨hf, _⟩
    · exact n3 a hf a hb rfl
    · have := (h4 a (by simp; grind)).2; omega
  · intro b hb
    rcases List.mem_append.1 hb with hb | hb
    · rcases k4 b hb with hf | ⟨hf, hf'⟩
      · exact ⟨(h4 b (by simp; grind)).1, Nat.lt_of_lt_of_le (h4 b (by simp; grind)).2 hsize⟩
      · exact ⟨fun hb' => absurd (hst b hb') (by omega), hf'⟩
    · exact ⟨(h4 b (by simp; grind)).1, Nat.lt_of_lt_of_le (h4 b (by simp; grind)).2 hsize⟩
end
end Go.Proofs.YtkcaldgoomphaaaDoor
