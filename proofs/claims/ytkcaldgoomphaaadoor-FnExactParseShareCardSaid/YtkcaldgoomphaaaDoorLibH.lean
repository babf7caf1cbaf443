/- The walk library, part H: what the generated walks lean on. -/
import Derived.Test.YtkcaldgoomphaaaDoorLibG
namespace Go.Proofs.YtkcaldgoomphaaaDoor
open Go

theorem splitB {p : Prop} (b : Bool) (h1 : b = true → p) (h2 : b = false → p) : p := by cases b; exact h2 rfl; exact h1 rfl
def nonneg (x : Int) : Option Unit := if 0 ≤ x then some () else none
theorem nonneg_some {x : Int} {u : Unit} (h : nonneg x = some u) : 0 ≤ x := by
  unfold nonneg at h; split at h
  · assumption
  · cases h
def nonzero (x : Int) : Option Unit := if x ≠ 0 then some () else none
theorem nonzero_some {x : Int} {u : Unit} (h : nonzero x = some u) : x ≠ 0 := by
  unfold nonzero at h; split at h
  · assumption
  · cases h

def Steps (Ph : Nat → Oper → Prop) : Nat → List Oper → Prop
  | _, [] => True
  | i, o :: r => Ph i o ∧ Steps Ph (i + 1) r
theorem steps_nil {Ph : Nat → Oper → Prop} {i : Nat} : Steps Ph i [] := trivial
theorem steps_cons {Ph : Nat → Oper → Prop} {i : Nat} {o : Oper} {r : List Oper} (h : Ph i o) (k : Steps Ph (i + 1) r) : Steps Ph i (o :: r) := ⟨h, k⟩
theorem Steps.get {Ph : Nat → Oper → Prop} : ∀ {l : List Oper} {k : Nat}, Steps Ph k l → ∀ i o, l[i]? = some o → Ph (k + i) o
  | [], _, _, i, o, h => by simp at h
  | p :: r, k, h, 0, o, hi => by simp at hi; subst hi; exact h.1
  | p :: r, k, h, i + 1, o, hi => by
    have := h.2.get i o (by simpa using hi)
    rwa [show k + 1 + i = k + (i + 1) by omega] at this
theorem steps_of {Ph : Nat → Oper → Prop} {l : List Oper} (h : Steps Ph 0 l) : ∀ i o, l[i]? = some o → Ph i o := fun i o hi => by
  have := h.get i o hi
  rwa [Nat.zero_add] at this

def GUp (C : World → Prop) (Gs : List (Value → World → Prop)) : Prop := ∀ g ∈ Gs, ∀ v w w', C w → Kept (Old w) w w' → g v w → g v w'
theorem gupN {C : World → Prop} : GUp C [] := fun _ h => by cases h
theorem gupE {C : World → Prop} {u : Value} {r : List (Value → World → Prop)} (h : GUp C r) : GUp C ((fun v _ => v = u) :: r) := by
  intro g hg
  rcases List.mem_cons.1 hg with rfl | hg
  · intro v w w' _ _ hv; exact hv
  · exact h g hg
theorem gup {C : World → Prop} {Gs : List (Value → World → Prop)} (h : GUp C Gs) : ∀ j v w w', C w → Kept (Old w) w w' → Gs.getD j (fun _ _ => True) v w → Gs.getD j (fun _ _ => True) v w' := by
  intro j v w w' hC hk hg
  rw [List.getD_eq_getElem?_getD] at hg ⊢
  cases hj : Gs[j]? with
  | none => trivial
  | some g => rw [hj] at hg; exact h g (List.mem_of_getElem? hj) v w w' hC hk hg

theorem sl_blk {α : Type} [Rep α] {S : Nat → Prop} {w : World} {l : List α} {v : Value} {i : Nat} {x : α} (h : Rep.sat S w l [v] []) (hi : l[i]? = some x) : S (sb v) := by
  obtain ⟨p, cap, hv, hc, hp⟩ := h
  simp only [List.cons.injEq, and_true] at hv
  have hil := (List.getElem?_eq_some_iff.1 hi).1
  have hne : l ≠ [] := fun h => by subst h; simp at hil
  cases p with
  | none => exfalso; have := hp.1; omega
  | some q =>
    obtain ⟨q1, q2, q3⟩ := q
    obtain ⟨h1, ecs, fpe, h2, h3, h4⟩ := hp
    rcases h4 with ⟨h4, _⟩ | ⟨h4, _⟩
    · rw [hv]; exact h4 (by have := List.length_pos_iff.2 hne; omega)
    · cases h4
theorem ro_nil {α : Type} [Rep α] {w : World} : Ro w ([] : List α) [.slice none 0 0] := ⟨none, 0, rfl, Nat.le_refl _, rfl, rfl⟩
theorem zsat_nil {α : Type} [Rep α] {w : World} {S : Nat → Prop} : Rep.sat S w ([] : List α) [.slice none 0 0] [] := ⟨none, 0, rfl, Nat.le_refl _, rfl, rfl⟩
theorem cellNil : ∀ v ∈ [Value.slice none 0 0], v.oneCell' = true := by intro v h; simp at h; subst h; rfl
theorem cellInt {k : IntKind} {n : Int} : ∀ v ∈ [Value.int k n], v.oneCell' = true := by intro v h; simp at h; subst h; rfl
theorem cellPtr {a : Option Addr} : ∀ v ∈ [Value.pointer a], v.oneCell' = true := by intro v h; simp at h; subst h; rfl
theorem ro_later {α : Type} [Rep α] {w w' : World} {x : α} {cs : List Value} (h : Ro w x cs) (hk : Kept (Old w) w w') : Ro w' x cs :=
  Rep.ro (Rep.loc h fun b hb => hk.block b (hb.elim (fun h => by cases h) id)) fun b hb => hb.elim (fun h => by cases h) (fun hb => Nat.lt_of_lt_of_le hb hk.size)
theorem at_later {w w' : World} {b o : Nat} {cs : List Value} (h : At w b o cs) (hk : Kept (Old w) w w') (hc : cs ≠ []) : At w' b o cs := h.loc (hk.block b (h.lt hc))
theorem at_lt_later {w w' : World} {b o : Nat} {cs : List Value} (h : At w b o cs) (hk : Kept (Old w) w w') (hc : cs ≠ []) : Old w' b := Nat.lt_of_lt_of_le (h.lt hc) hk.size

theorem evsN {e : List (Nat × Value)} : opvs e [] = some [] := rfl
theorem evsC {e : List (Nat × Value)} {x : Operand} {xs : List Operand} {v : Value} {vs : List Value} (h : opv e x = some v) (k : opvs e xs = some vs) : opvs e (x :: xs) = some (v :: vs) := by simp [opvs, h, k]
theorem evs_of {p : Prop} (h : p) : p := h

section
variable {n : Nat} {a : Act} {e : List (Nat × Value)} {w w' : World} {P : Program} {ops : Array Oper} {rest : List Oper} {Q : Exit → Act → World → Prop}
variable {d : Nat} {ty t : TypeId} {pos : String} {af : Array Edge} {g : Option (Nat × Bool)} {x y : Operand} {v u : Value}
theorem c_cut {X : Code} (Mid : Act → World → Prop) (h : X.wp P (Exit.then Mid Q) a w) (k : ∀ a w, Mid a w → Q .normal a w) : X.wp P Q a w :=
  wp_mono h fun ex a w hq => by cases ex <;> first | exact k _ _ hq | exact hq
theorem s_makeFunc {fn : Fn} {cs : List Operand} {vs : List Value} (h : Env n a e) (hw : Goes ops ⟨some d, .makeFunc fn #[] cs.toArray, ty, pos, af, g⟩ a) (hd : d < n) (hxs : opvs e cs = some vs)
    (k : ∀ a, Env n a ((d, .func fn #[] vs.toArray) :: e) → wpList P ops Q rest a w) : wpList P ops Q (⟨some d, .makeFunc fn #[] cs.toArray, ty, pos, af, g⟩ :: rest) a w :=
  s_val h hw rfl hd (by
    simp only [execOp]
    have := h.evs hxs
    simp [Instr.makeFunc, this]) k
theorem s_callv2 {f : Nat} {fv : Operand} {q : List Value} {xs : List Operand} {ats : Array TypeId} {vs : List Value} {R : Value → World → Prop} (h : Env n a e) (hw : Goes ops ⟨some d, .call ⟨.value fv, xs.toArray, ats⟩, ty, pos, af, g⟩ a) (hd : d < n)
    (hfv : opv e fv = some (.func (.func f) #[] q.toArray)) (hxs : opvs e xs = some vs) (hf : Callable P f) (hc : Calls P f (vs ++ q).toArray w fun en w' => ∃ v, en = .returned v ∧ R v w')
    (k : ∀ v w' a, R v w' → Env n a ((d, v) :: e) → wpList P ops Q rest a w') : wpList P ops Q (⟨some d, .call ⟨.value fv, xs.toArray, ats⟩, ty, pos, af, g⟩ :: rest) a w :=
  s_callv h hw hd hfv hxs hf (by simpa using hc) k
end

/-! ### Stores into parts -/
theorem splice_catI {pre : List (List Value)} {seg seg' d : List Value} {post : List (List Value)} {o k o' : Nat} (hk : clen pre = k) (hfit : o' + d.length ≤ seg.length) (hs : splice seg o' d = seg') (ho : o = k + o') :
    splice (cat (pre ++ seg :: post)) o d = cat (pre ++ seg' :: post) := by
  subst hk; subst ho; subst hs
  rw [cat_flatten, cat_flatten, List.flatten_append, List.flatten_append, List.flatten_cons, List.flatten_cons, ← clen_flatten]
  exact splice_in rfl hfit
theorem fit_cat {pre : List (List Value)} {seg d : List Value} {post : List (List Value)} {o : Nat} (hk : clen pre = o) (hl : d.length = seg.length) : o + d.length ≤ (cat (pre ++ seg :: post)).length := by
  rw [cat_flatten, List.flatten_append, List.length_append, clen_flatten, hk, List.flatten_cons, List.length_append]; omega
theorem fit_catI {pre : List (List Value)} {seg d : List Value} {post : List (List Value)} {o k o' : Nat} (hk : clen pre = k) (hfit : o' + d.length ≤ seg.length) (ho : o = k + o') : o + d.length ≤ (cat (pre ++ seg :: post)).length := by
  rw [cat_flatten, List.flatten_append, List.length_append, clen_flatten, hk, List.flatten_cons, List.length_append]; omega
theorem vset_of {α : Type} {n : Nat} {v : Vector α n} {i : Int} {x : α} (h : 0 ≤ i ∧ i < n) : vset v i x = some (v.setIfInBounds i.toNat x) := by unfold vset; rw [if_pos h]
theorem splice_vec0 {α : Type} [Flat α] {n : Nat} {v : Vector α n} {i : Int} {x : α} (h : 0 ≤ i ∧ i < n) : splice (Flat.enc v) (0 + i.toNat * Flat.n α) (Flat.enc x) = Flat.enc (v.setIfInBounds i.toNat x) := by
  rw [Nat.zero_add]; exact splice_vec (vset_of h)
theorem fit_vec {α : Type} [Flat α] {n : Nat} {v : Vector α n} {i : Int} {x : α} (h : 0 ≤ i ∧ i < n) : 0 + i.toNat * Flat.n α + (Flat.enc x).length ≤ (Flat.enc v).length := by
  rw [Flat.len, Flat.len]
  have h1 : (i.toNat + 1) * Flat.n α ≤ n * Flat.n α := Nat.mul_le_mul_right _ (by omega)
  rw [Nat.add_mul] at h1
  show _ ≤ n * Flat.n α
  omega
theorem fit_vec1 {α : Type} [Flat α] {n : Nat} {i : Int} {x : α} (h : 0 ≤ i ∧ i < n) : 0 + i.toNat * Flat.n α + (Flat.enc x).length ≤ Flat.n (Vector α n) := by
  have := fit_vec (v := Vector.replicate n x) (x := x) h
  rwa [Flat.len (Vector.replicate n x)] at this
theorem splice_vecI {α : Type} [Flat α] {n : Nat} {v : Vector α n} {i : Int} {x x' : α} {o o' : Nat} {d : List Value} (h : (0 ≤ i ∧ i < n) ∧ v.toList[i.toNat]? = some x) (hfit : o' + d.length ≤ (Flat.enc x).length) (hs : splice (Flat.enc x) o' d = Flat.enc x')
    (ho : o = i.toNat * Flat.n α + o') : splice (Flat.enc v) o d = Flat.enc (v.setIfInBounds i.toNat x') := by
  subst ho
  have e1 : Flat.enc v = encL v.toList := rfl
  have e2 : Flat.enc (v.setIfInBounds i.toNat x') = encL (v.toList.set i.toNat x') := by
    show encL (v.setIfInBounds i.toNat x').toList = _
    rw [Vector.toList_setIfInBounds]
  rw [e1, e2, encL_split h.2, encL_set h.2, ← hs]
  refine splice_in ?_ hfit
  rw [encL_len, List.length_take, Nat.min_eq_left (by have := (List.getElem?_eq_some_iff.1 h.2).1; omega)]
theorem fit_vecI {α : Type} [Flat α] {n : Nat} {v : Vector α n} {i : Int} {x : α} {o o' : Nat} {d : List Value} (h : (0 ≤ i ∧ i < n) ∧ v.toList[i.toNat]? = some x) (hfit : o' + d.length ≤ (Flat.enc x).length) (ho : o = i.toNat * Flat.n α + o') :
    o + d.length ≤ (Flat.enc v).length := by
  subst ho
  rw [Flat.len] at hfit
  rw [Flat.len]
  have h1 : (i.toNat + 1) * Flat.n α ≤ n * Flat.n α := Nat.mul_le_mul_right _ (by omega)
  rw [Nat.add_mul] at h1
  show _ ≤ n * Flat.n α
  omega

theorem fit_num {seg : List Value} {k m N : Nat} (h : seg.length = m) (h2 : k + m ≤ N) : k + seg.length ≤ N := by rw [h]; exact h2
theorem sl_cells {α : Type} [Rep α] {S : Nat → Prop} {w : World} {l : List α} {v : Value} {fp : List Nat} (h : Rep.sat S w l [v] fp) : v.cells.toList = [v] := by
  obtain ⟨p, cap, hv, _⟩ := h
  simp only [List.cons.injEq, and_true] at hv
  subst hv; rfl
end Go.Proofs.YtkcaldgoomphaaaDoor
