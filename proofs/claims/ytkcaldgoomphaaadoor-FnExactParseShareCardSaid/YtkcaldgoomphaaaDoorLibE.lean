/- The walk library, part E: stores; slices that are made and that grow. -/
import Derived.Test.YtkcaldgoomphaaaDoorLibD
namespace Go.Proofs.YtkcaldgoomphaaaDoor
open Go

/-! ### What a row of stores leaves -/
def splice (cs : List Value) (o : Nat) (vs : List Value) : List Value := cs.take o ++ (vs ++ cs.drop (o + vs.length))
theorem splice_len {cs : List Value} {o : Nat} {vs : List Value} (h : o + vs.length ≤ cs.length) : (splice cs o vs).length = cs.length := by
  simp [splice]; omega
theorem splice_mid (p c q d : List Value) (h : d.length = c.length) : splice (p ++ (c ++ q)) p.length d = p ++ (d ++ q) := by
  unfold splice
  rw [List.take_left, h, ← List.append_assoc p c q, ← List.length_append, List.drop_left]
theorem splice_in {p c q d : List Value} {k o : Nat} (ho : o = p.length + k) (h : k + d.length ≤ c.length) : splice (p ++ (c ++ q)) o d = p ++ (splice c k d ++ q) := by
  subst ho
  unfold splice
  rw [List.take_length_add_append, List.append_assoc, List.append_assoc, List.append_assoc]
  congr 1
  rw [List.take_append_of_le_length (by omega)]
  congr 1
  congr 1
  rw [Nat.add_assoc, List.drop_length_add_append, List.drop_append_of_le_length (by omega)]
theorem splice_all {c d : List Value} (h : d.length = c.length) : splice c 0 d = d := by simp [splice, h]

theorem setCell_heap (w : World) (b o : Nat) (v : Value) (c : Array Value) (T : TypeId) (fz : Nat × Nat) (h : w.heap[b]? = some (.cells c T fz)) :
    (w.setCell ⟨b, o, none⟩ v).heap[b]? = some (.cells (c.setIfInBounds o v) T fz) := by
  simp [World.setCell, Array.getElem?_modify, h]
theorem setCells_heap (b : Nat) (T : TypeId) (fz : Nat × Nat) : ∀ (vs : List Value) (o : Nat) (w : World) (c : Array Value), w.heap[b]? = some (.cells c T fz) → o + vs.length ≤ c.size →
    (w.setCells b o vs).heap[b]? = some (.cells (splice c.toList o vs).toArray T fz)
  | [], o, w, c, h, hl => by simp [World.setCells, splice, h]
  | v :: r, o, w, c, h, hl => by
    simp only [List.length_cons] at hl
    rw [World.setCells, setCells_heap b T fz r (o + 1) _ _ (setCell_heap w b o v c T fz h) (by simp; omega)]
    congr 2
    simp only [Array.toList_setIfInBounds, splice, List.length_cons]
    apply Array.ext'
    simp only []
    have h1 : (c.toList.set o v).take (o + 1) = c.toList.take o ++ [v] := by
      rw [List.take_set, List.take_succ_eq_append_getElem (by simp; omega), List.set_append_right _ _ (by simp; omega)]
      congr 1
      have : o - (c.toList.take o).length = 0 := by simp; omega
      rw [this]; rfl
    have h2 : (c.toList.set o v).drop (o + 1 + r.length) = c.toList.drop (o + (r.length + 1)) := by
      rw [List.drop_set_of_lt (by omega)]; congr 1; omega
    rw [h1, h2]; simp
theorem setCells_other (b k : Nat) (hk : k ≠ b) : ∀ (vs : List Value) (o : Nat) (w : World), (w.setCells b o vs).heap[k]? = w.heap[k]?
  | [], _, _ => rfl
  | v :: r, o, w => by
    rw [World.setCells, setCells_other b k hk r]
    simp only [World.setCell, Array.getElem?_modify]
    rw [if_neg (by omega)]
theorem setCells_size (b : Nat) : ∀ (vs : List Value) (o : Nat) (w : World), (w.setCells b o vs).heap.size = w.heap.size
  | [], _, _ => rfl
  | v :: r, o, w => by rw [World.setCells, setCells_size b r]; simp [World.setCell]
theorem setCells_streams (b : Nat) : ∀ (vs : List Value) (o : Nat) (w : World), (w.setCells b o vs).os = w.os ∧ (w.setCells b o vs).tape = w.tape ∧ (w.setCells b o vs).output = w.output
  | [], _, _ => ⟨rfl, rfl, rfl⟩
  | v :: r, o, w => by rw [World.setCells]; have := setCells_streams b r (o + 1) (w.setCell ⟨b, o, none⟩ v); exact this

/-- Stores into a block that is known. -/
theorem run_stores {P : Program} {w : World} {b o : Nat} {c : Array Value} {T : TypeId} {fz : Nat × Nat} {vs : List Value} (h : w.heap[b]? = some (.cells c T fz)) (hl : o + vs.length ≤ c.size)
    (hf : ∀ i, i < c.size → ¬ (fz.1 ≤ i ∧ i < fz.2)) (h1 : ∀ v ∈ vs, v.oneCell' = true) : (storeCells ⟨b, o, none⟩ vs).run P w = .ok () (w.setCells b o vs) := by
  have := run_storeCells_cells (P := P) b o vs 0 w (fun j hj => by
      simp only [Nat.add_zero]
      have : o + j < c.size := by omega
      simp [World.cell?, h, this]) (fun j hj => by
      simp only [Nat.add_zero, World.frozen?, h]
      have := hf (o + j) (by omega)
      simp only [Bool.and_eq_false_iff, decide_eq_false_iff_not]
      by_cases h3 : fz.1 ≤ o + j
      · exact .inr (fun h4 => this ⟨h3, h4⟩)
      · exact .inl h3) h1
  simpa using this

section
variable {n : Nat} {a : Act} {e : List (Nat × Value)} {w w' : World} {P : Program} {ops : Array Oper} {rest : List Oper} {Q : Exit → Act → World → Prop}
variable {d : Nat} {ty t : TypeId} {pos : String} {af : Array Edge} {g : Option (Nat × Bool)} {x y : Operand} {v : Value}
variable {St : Nat → Prop} {w0 : World} {its : List Item}

theorem M.storesRaw {b o : Nat} {cs seg : List Value} (hM : M St w0 w (raw b cs :: its)) (hb : o + seg.length ≤ cs.length) (hc : ∀ v ∈ seg, v.oneCell' = true) :
    (storeCells ⟨b, o, none⟩ seg).run P w = .ok () (w.setCells b o seg) ∧ M St w0 (w.setCells b o seg) (raw b (splice cs o seg) :: its) := by
  obtain ⟨fp, ⟨rfl, T, hheap⟩, _⟩ := hM.head
  refine ⟨run_stores (P := P) (o := o) hheap (by simpa using hb) (by intro i hi; simp) hc, ?_⟩
  refine M.turn (new := [raw b (splice cs o seg)]) hM (setCells_streams _ _ _ _).1 (setCells_streams _ _ _ _).2.1 (setCells_streams _ _ _ _).2.2 (by rw [setCells_size]; exact Nat.le_refl _) ?_
  rintro fp ⟨rfl, T', _⟩ _ _
  refine ⟨fun k hk _ => setCells_other _ _ (by simpa using hk) _ _ _, [b], ⟨[b], [], rfl, raw_loc, ⟨rfl, T, ?_⟩, rfl⟩, by simp, fun k hk => .inl hk⟩
  rw [setCells_heap b T (0, 0) _ _ _ _ hheap (by simpa using hb)]
/-- A store into a block that is known whole. -/
theorem s_store {D : TypeDesc} {sz by_ : Nat} {z : List Value} {b o : Nat} {cs seg cs' : List Value} {u : Value} (h : Env n a e) (hM : M St w0 w (raw b cs :: its)) (hw : Goes ops ⟨none, .store t x y, ty, pos, af, g⟩ a)
    (hx : opv e x = some (ptr b o)) (hy : opv e y = some u) (hu : u.cells.toList = seg) (ht : Ty P t D sz by_ z) (hl : seg.length = sz) (hb : o + seg.length ≤ cs.length) (hc : ∀ v ∈ seg, v.oneCell' = true) (hs : splice cs o seg = cs')
    (k : ∀ w a, M St w0 w (raw b cs' :: its) → Env n a e → wpList P ops Q rest a w) : wpList P ops Q (⟨none, .store t x y, ty, pos, af, g⟩ :: rest) a w := by
  subst hs
  obtain ⟨hr, hM'⟩ := M.storesRaw (P := P) hM hb hc
  refine s_unit h hw rfl (w' := w.setCells b o seg) ?_ fun a ha => k _ _ hM' ha
  simp only [execOp, h.ev hx, h.ev hy]
  have hsz : u.cells.size = sz := by rw [← hl, ← hu]; simp
  simp [Instr.storeAt, Instr.sureAddr, storeVar, run_sizeOf ht, hsz, hu, hr]

end

/-! ### Slices of one's own -/
/-- A slice that may be written: its array is its own, or it has none to speak of. The elements may share in S. -/
def OwnSl {α : Type} [Rep α] (S : Nat → Prop) (w : World) (l : List α) (v : Value) (fp : List Nat) : Prop :=
  ∃ p cap, v = .slice p l.length cap ∧ l.length ≤ cap ∧
    ((cap = 0 ∧ fp = [] ∧ True) ∨
     ∃ b o ecs fpe, p = some ⟨b, o, none⟩ ∧ Elems S w l ecs fpe ∧ At w b o ecs ∧ fp = b :: fpe ∧ Room w b o (cap * Rep.n α))
def osl {α : Type} [Rep α] (S : Nat → Prop) (l : List α) (v : Value) : Item := fun w fp => OwnSl S w l v fp

section
variable {α : Type} [Rep α] {S St : Nat → Prop} {w w' : World} {l : List α} {v : Value} {fp : List Nat}
theorem OwnSl.sat (h : OwnSl S w l v fp) : Rep.sat S w l [v] fp := by
  obtain ⟨p, cap, rfl, hc, h⟩ := h
  refine ⟨p, cap, rfl, hc, ?_⟩
  rcases h with ⟨rfl, rfl, hp⟩ | ⟨b, o, ecs, fpe, rfl, h1, h2, rfl, h3⟩
  · have : l = [] := List.eq_nil_of_length_eq_zero (by omega)
    subst this
    cases p with
    | none => exact ⟨rfl, rfl⟩
    | some q => exact ⟨fun h => absurd rfl h, [], [], ⟨rfl, rfl⟩, At.nil _ _ _, .inl ⟨fun h => absurd rfl h, rfl⟩⟩
  · exact ⟨fun _ => rfl, ecs, fpe, h1, h2, .inr ⟨rfl, h3, rfl⟩⟩
theorem OwnSl.loc (h : OwnSl S w l v fp) (hb : ∀ b, (b ∈ fp ∨ S b) → w'.heap[b]? = w.heap[b]?) : OwnSl S w' l v fp := by
  obtain ⟨p, cap, rfl, hc, h⟩ := h
  refine ⟨p, cap, rfl, hc, ?_⟩
  rcases h with h | ⟨b, o, ecs, fpe, rfl, h1, h2, rfl, h3⟩
  · exact .inl h
  · exact .inr ⟨b, o, ecs, fpe, rfl, h1.loc (fun b h => hb b (by simp; grind)), h2.loc (hb b (by simp)), rfl, h3.loc (hb b (by simp))⟩
theorem osl_loc (hS : ∀ b, S b → St b) : Loc St (osl S l v) := fun _ _ _ h hb => OwnSl.loc h fun b h => hb b (h.imp id (hS b))
theorem osl_own {w0 : World} {its : List Item} (hS : ∀ b, S b → St b) (h : M St w0 w (osl S l v :: its)) : M St w0 w (own S l [v] :: its) := by
  obtain ⟨hk, hs, fp, ⟨f, g, rfl, _, h1, h2⟩, h3, h4⟩ := h
  exact ⟨hk, hs, f ++ g, ⟨f, g, rfl, own_loc hS, OwnSl.sat h1, h2⟩, h3, h4⟩
theorem M.sl {w0 : World} {pre post : List Item} (h : M St w0 w (pre ++ osl S l v :: post)) (hS : ∀ b, S b → St b) : Ro w l [v] := by
  obtain ⟨fp, h1, h2⟩ := h.get
  exact Rep.ro (OwnSl.sat h1) fun b hb => hb.elim (h2 b) (fun hb => h.st' b (hS b hb))
theorem noB {St : Nat → Prop} : ∀ b, NoB b → St b := fun _ h => h.elim
/-- What came in, read in the world as it is. -/
theorem M.rd {β : Type} [Rep β] {w0 : World} {its : List Item} {x : β} {cs : List Value} (h : M St w0 w its) (hx : Rep.sat St w0 x cs []) : Rep.sat St w x cs [] :=
  Rep.loc hx fun b hb => h.kept.block b (hb.elim (fun h => by cases h) id)
theorem M.rdo {β : Type} [Rep β] {w0 : World} {its : List Item} {x : β} {cs : List Value} (h : M St w0 w its) (hx : Rep.sat St w0 x cs []) : Ro w x cs :=
  Rep.ro (h.rd hx) fun b hb => hb.elim (fun h => by cases h) (h.st' b)
end

theorem flat_elems {α : Type} [Flat α] {S : Nat → Prop} {w : World} : ∀ {l : List α} {cs : List Value} {fp : List Nat}, Elems S w l cs fp ↔ cs = encL l ∧ fp = []
  | [], cs, fp => Iff.rfl
  | x :: l, cs, fp => by
    constructor
    · rintro ⟨c, cs', f, fp', rfl, rfl, ⟨rfl, rfl⟩, h⟩
      obtain ⟨rfl, rfl⟩ := flat_elems.1 h
      exact ⟨rfl, rfl⟩
    · rintro ⟨rfl, rfl⟩
      exact ⟨Flat.enc x, encL l, [], [], rfl, rfl, ⟨rfl, rfl⟩, flat_elems.2 ⟨rfl, rfl⟩⟩

/-- 'append' in memory. -/
theorem run_app {α : Type} [Rep α] {P : Program} {w : World} {S S2 : Nat → Prop} {l m : List α} {v u : Value} {fp fq : List Nat} {t ty el : TypeId} {D : TypeDesc} {by_ : Nat} {z : List Value}
    (ho : OwnSl S w l v fp) (hu : Rep.sat S2 w m [u] fq) (ht : P.underlying t = some (.slice el)) (he : Ty P el D (Rep.n α) by_ z) (hzl : z.length = Rep.n α) (h0 : 0 < by_) (hb : (l.length + m.length) * by_ ≤ 140737488355328) :
    ∃ v' w', (Builtin.append_ #[t, t] ty #[v, u]).run P w = .ok v' w' ∧ w'.os = w.os ∧ w'.tape = w.tape ∧ w'.output = w.output ∧ w.heap.size ≤ w'.heap.size ∧ (∀ b, b < w.heap.size → (b ∈ fp → b ≠ sb v) → w'.heap[b]? = w.heap[b]?) ∧
      ∃ p cap, v' = .slice p (l.length + m.length) cap ∧ l.length + m.length ≤ cap ∧
        ((cap = 0 ∧ fp = [] ∧ True) ∨
         ∃ b o ecs fpe news fqe, p = some ⟨b, o, none⟩ ∧ Elems S w l ecs fpe ∧ Elems S2 w m news fqe ∧ (∀ k ∈ fqe, k ∈ fq) ∧ fqe.Sublist fq ∧ fpe.Sublist fp ∧ (fp = [] ∨ fp = sb v :: fpe) ∧ At w' b o (ecs ++ news) ∧ Room w' b o (cap * Rep.n α) ∧
           (fp = b :: fpe ∨ (w.heap.size ≤ b ∧ b < w'.heap.size))) := by
  obtain ⟨i, zv, hi, hsz, hby, hz, hzc⟩ := he.get
  obtain ⟨p, cap, rfl, hc, ho⟩ := ho
  obtain ⟨pu, capu, hu1, hcu, hu2⟩ := hu
  simp only [List.cons.injEq, and_true] at hu1
  subst hu1
  have hle : l.length + m.length ≤ 140737488355328 := Nat.le_trans (Nat.le_mul_of_pos_right _ h0) hb
  -- the new cells
  obtain ⟨news, fqe, hnews, hnl, hsub, hfirst⟩ : ∃ news fqe, Elems S2 w m news fqe ∧ news.length = m.length * i.size ∧ fqe.Sublist fq ∧ (m = [] ∨ ∃ a : Addr, pu = some a ∧ ∀ j v, news[j]? = some v → w.cell? (a.add j) = some v) := by
    cases pu with
    | none =>
      have : m = [] := List.eq_nil_of_length_eq_zero (by have := hu2.1; omega)
      subst this
      exact ⟨[], [], ⟨rfl, rfl⟩, by simp, List.nil_sublist _, .inl rfl⟩
    | some q =>
      by_cases hm : m = []
      · subst hm; exact ⟨[], [], ⟨rfl, rfl⟩, by simp, List.nil_sublist _, .inl rfl⟩
      obtain ⟨q1, q2, q3⟩ := q
      obtain ⟨hs, ecs, fpe, k1, k2, k3⟩ := hu2
      have hs := hs (by have := List.length_pos_iff.2 hm; omega)
      simp only at hs
      subst hs
      refine ⟨ecs, fpe, k1, by rw [k1.len, hsz], ?_, .inr ⟨_, rfl, fun j v hv => by rw [Addr.add_lit]; exact k2 j v hv⟩⟩
      rcases k3 with ⟨_, rfl⟩ | ⟨rfl, _⟩
      · exact List.Sublist.refl _
      · exact List.sublist_cons_self _ _
  have hfqm : ∀ k ∈ fqe, k ∈ fq := fun k hk => hsub.subset hk
  have h1 : ∀ u ∈ news, u.oneCell' = true := hnews.cell
  -- in place, or a new array
  by_cases hroom : l.length + m.length ≤ cap
  · -- in place
    rcases ho with ⟨rfl, rfl, hp⟩ | ⟨b, o, ecs, fpe, rfl, k1, k2, rfl, k3⟩
    · have hl0 : l = [] := List.eq_nil_of_length_eq_zero (by omega)
      have hm0 : m = [] := List.eq_nil_of_length_eq_zero (by omega)
      subst hl0; subst hm0
      refine ⟨.slice p 0 0, w, ?_, rfl, rfl, rfl, Nat.le_refl _, fun _ _ _ => rfl, p, 0, rfl, Nat.le_refl _, .inl ⟨rfl, rfl, hp⟩⟩
      have hl : ∀ (x : Addr), (loadCells x 0).run P w = .ok #[] w := fun x => by simpa using run_loadCells_list (P := P) w x [] (by simp)
      cases p <;> cases pu <;> simp [Builtin.append_, run_underlying ht, sizeOf, typeInfo, hi, Builtin.lenOf, Builtin.firstCells, hl, storeCells]
    · obtain ⟨c, T, fz, hheap, hsize, hfz⟩ := k3
      have hfit : o + l.length * i.size + news.length ≤ c.size := by
        have : (l.length + m.length) * Rep.n α ≤ cap * Rep.n α := Nat.mul_le_mul_right _ hroom
        rw [Nat.add_mul] at this
        rw [hnl, hsz]; omega
      have hst := run_stores (P := P) (o := o + l.length * i.size) (vs := news) hheap (by omega) hfz h1
      refine ⟨.slice (some ⟨b, o, none⟩) (l.length + m.length) cap, w.setCells b (o + l.length * i.size) news, ?_, (setCells_streams _ _ _ _).1, (setCells_streams _ _ _ _).2.1, (setCells_streams _ _ _ _).2.2,
        by rw [setCells_size]; exact Nat.le_refl _, fun k _ hk => setCells_other _ _ (fun h => hk (by rw [h]; simp) (by rw [h]; rfl)) _ _ _, some ⟨b, o, none⟩, cap, rfl, hroom, .inr ⟨b, o, ecs, fpe, news, fqe, rfl, k1, hnews, hfqm, hsub, List.sublist_cons_self _ _, .inr rfl, ?_, ?_, .inl rfl⟩⟩
      · have hf : (Builtin.firstCells i.size m.length (.slice pu m.length capu)).run P w = .ok news.toArray w := by
          rcases hfirst with rfl | ⟨a, rfl, ha⟩
          · have : news = [] := List.eq_nil_of_length_eq_zero (by simpa using hnl)
            subst this
            have hl : ∀ (x : Addr), (loadCells x 0).run P w = .ok #[] w := fun x => by simpa using run_loadCells_list (P := P) w x [] (by simp)
            cases pu <;> simp [Builtin.firstCells, hl]
          · exact run_firstCells_some (P := P) w i.size m.length a m.length capu news hnl ha
        simp [Builtin.append_, run_underlying ht, sizeOf, typeInfo, hi, Builtin.lenOf, hroom, hf, Addr.add_lit, hst]
      · have hh := setCells_heap b T fz news (o + l.length * i.size) w c hheap (by omega)
        have hel : ecs.length = l.length * i.size := by rw [k1.len, hsz]
        refine At.append.2 ⟨fun j v hv => ?_, fun j v hv => ?_⟩
        · have hj := (List.getElem?_eq_some_iff.1 hv).1
          have := k2 j v hv
          simp only [World.cell?, hheap, hh] at this ⊢
          simp only [Option.isSome_none, Bool.false_eq_true, if_false] at this ⊢
          rw [List.getElem?_toArray, splice, List.getElem?_append_left (by simp; omega), List.getElem?_take, if_pos (by omega)]
          simpa using this
        · have hj := (List.getElem?_eq_some_iff.1 hv).1
          rw [hel]
          simp only [World.cell?, hh]
          simp only [Option.isSome_none, Bool.false_eq_true, if_false]
          rw [List.getElem?_toArray, splice, List.getElem?_append_right (by simp; omega)]
          have : o + l.length * i.size + j - (c.toList.take (o + l.length * i.size)).length = j := by simp; omega
          rw [this, List.getElem?_append_left hj]; exact hv
      · refine ⟨_, T, fz, setCells_heap b T fz news _ w c hheap (by omega), ?_, ?_⟩
        · rw [List.size_toArray, splice_len (by simpa using hfit)]; simpa using hsize
        · intro j hj
          rw [List.size_toArray, splice_len (by simpa using hfit)] at hj
          exact hfz j (by simpa using hj)
  · -- it grows
    have hm0 : m ≠ [] := fun h => by subst h; simp at hroom; omega
    have hmpos : 0 < m.length := List.length_pos_iff.2 hm0
    rcases hfirst with rfl | ⟨a, rfl, ha⟩
    · exact absurd rfl hm0
    have hfit : Builtin.nextslicecap (l.length + m.length) cap * i.bytes ≤ 281474976710656 := growslice_fits (by omega) (by rw [hby]; exact hb)
    have h63 : ((l.length + m.length : Nat) : Int) ≤ 9223372036854775807 := by omega
    have hgc := grownCap_ge w (l.length + m.length) cap el
    -- the old cells
    obtain ⟨olds, fpe, k1, hol, hfpe, hfps, hrun⟩ : ∃ olds fpe, Elems S w l olds fpe ∧ olds.length = l.length * i.size ∧ fpe.Sublist fp ∧ (fp = [] ∨ fp = sb (.slice p l.length cap) :: fpe) ∧
        (Builtin.append_ #[t, t] ty #[.slice p l.length cap, .slice (some a) m.length capu]).run P w =
          .ok (.slice (some ⟨w.heap.size, 0, none⟩) (l.length + m.length) (grownCap w (l.length + m.length) cap el))
            (w.drew.alloc (.cells (olds.toArray ++ news.toArray ++ Builtin.zeroCells zv.cells (grownCap w (l.length + m.length) cap el - (l.length + m.length))) el)) := by
      rcases ho with ⟨rfl, rfl, hp⟩ | ⟨b, o, ecs, fpe, rfl, k1, k2, rfl, k3⟩
      · have hl0 : l = [] := List.eq_nil_of_length_eq_zero (by omega)
        subst hl0
        refine ⟨[], [], ⟨rfl, rfl⟩, by simp, List.nil_sublist _, .inl rfl, ?_⟩
        cases p with
        | none =>
          have h48 : m.length * i.bytes ≤ 281474976710656 := by
            rw [hby]; simp only [List.length_nil, Nat.zero_add] at hb; omega
          have := run_append_nil (P := P) w t ty el i zv ht hi hz a m.length capu news hnl ha hmpos (by omega) h48
          simpa using this
        | some q => exact run_append_grow (P := P) w t ty el i zv ht hi hz q 0 0 [] (by simp) (by simp) a m.length capu news hnl ha (by simpa using hmpos) (by simpa using h63) hfit
      · exact ⟨ecs, fpe, k1, by rw [k1.len, hsz], List.sublist_cons_self _ _, .inr rfl, run_append_grow (P := P) w t ty el i zv ht hi hz ⟨b, o, none⟩ l.length cap ecs (by rw [k1.len, hsz]) (fun j v hv => by rw [Addr.add_lit]; exact k2 j v hv) a m.length capu news hnl ha (by omega) h63 hfit⟩
    have hnewheap := heap_alloc_new w.drew (.cells (olds.toArray ++ news.toArray ++ Builtin.zeroCells zv.cells (grownCap w (l.length + m.length) cap el - (l.length + m.length))) el)
    refine ⟨_, _, hrun, rfl, rfl, rfl, by simp, fun k hk _ => heap_alloc_old w.drew _ k hk, _, _, rfl, hgc, .inr ⟨w.heap.size, 0, olds, fpe, news, fqe, rfl, k1, hnews, hfqm, hsub, hfpe, hfps, ?_, ?_, .inr ⟨Nat.le_refl _, by simp⟩⟩⟩
    · intro j v hv
      have hj := (List.getElem?_eq_some_iff.1 hv).1
      simp only [World.cell?]
      rw [show w.heap.size = w.drew.heap.size from rfl, hnewheap]
      simp only [Option.isSome_none, Bool.false_eq_true, if_false, Nat.zero_add]
      rw [Array.getElem?_append_left (by simpa using hj)]
      simpa using hv
    · refine ⟨_, el, (0, 0), hnewheap, ?_, by intro j _; simp⟩
      have hzs : zv.cells.size = i.size := by
        have := congrArg List.length hzc
        rw [hzl] at this; simpa [hsz] using this
      simp only [Array.size_append, List.size_toArray, size_zeroCells, hol, hnl, hzs, ← hsz]
      rw [← Nat.add_mul, ← Nat.add_mul, Nat.zero_add, show l.length + m.length + (grownCap w (l.length + m.length) cap el - (l.length + m.length)) = grownCap w (l.length + m.length) cap el by omega]
      exact Nat.le_refl _

section
variable {n : Nat} {a : Act} {e : List (Nat × Value)} {w w' : World} {P : Program} {ops : Array Oper} {rest : List Oper} {Q : Exit → Act → World → Prop}
variable {d : Nat} {ty t : TypeId} {pos : String} {af : Array Edge} {g : Option (Nat × Bool)} {x y : Operand} {v u : Value}
variable {St : Nat → Prop} {w0 : World} {its : List Item}

/-- 'append' over elements that lie flat: whatever is appended is only read. -/
theorem s_appendF {α : Type} [Flat α] {S2 : Nat → Prop} {l m : List α} {fq : List Nat} {el : TypeId} {D : TypeDesc} {by_ : Nat} {z : List Value}
    (h : Env n a e) (hM : M St w0 w (osl NoB l v :: its)) (hw : Goes ops ⟨some d, .call ⟨.builtin .append, [x, y].toArray, [t, t].toArray⟩, ty, pos, af, g⟩ a) (hd : d < n) (hx : opv e x = some v) (hy : opv e y = some u)
    (hu : Rep.sat S2 w m [u] fq) (ht : P.underlying t = some (.slice el)) (he : Ty P el D (Rep.n α) by_ z) (hzl : z.length = Rep.n α) (h0 : 0 < by_) (hb : (l.length + m.length) * by_ ≤ 140737488355328)
    (k : ∀ v' w a, M St w0 w (osl NoB (l ++ m) v' :: its) → Env n a ((d, v') :: e) → wpList P ops Q rest a w) : wpList P ops Q (⟨some d, .call ⟨.builtin .append, [x, y].toArray, [t, t].toArray⟩, ty, pos, af, g⟩ :: rest) a w := by
  obtain ⟨fp, hfp, _⟩ := hM.head
  obtain ⟨v', w', hr, hos, htp, hout, hsz, _, _⟩ := run_app (ty := ty) hfp hu ht he hzl h0 hb
  refine s_val h hw rfl hd (v := v') (w' := w') (by simp only [execOp, resolve]; simp [invoke, builtin, h.ev hx, h.ev hy, hr]) fun a ha => k _ _ _ ?_ ha
  refine hM.turn (new := [osl NoB (l ++ m) v']) hos htp hout hsz ?_
  intro fp hfp hlt hnd
  obtain ⟨v2, w2, hr2, _, _, _, _, hother, p, cap, hv2, hc, hres⟩ := run_app (ty := ty) hfp hu ht he hzl h0 hb
  rw [hr] at hr2
  simp only [Result.ok.injEq] at hr2
  obtain ⟨rfl, rfl⟩ := hr2
  refine ⟨fun b hb hb' => hother b hb' (fun h => absurd h hb), ?_⟩
  have hlen : l.length + m.length = (l ++ m).length := by simp
  rcases hres with ⟨rfl, rfl, hq⟩ | ⟨b, o, ecs, fpe, news, fqe, rfl, k1, k2, _, _, _, _, k3, k4, k5⟩
  · exact ⟨[], ⟨[], [], rfl, osl_loc noB, ⟨p, 0, by rw [hv2, hlen], by rw [← hlen]; exact hc, .inl ⟨rfl, rfl, hq⟩⟩, rfl⟩, List.nodup_nil, fun b hb => by cases hb⟩
  · obtain ⟨rfl, rfl⟩ := flat_elems.1 k1
    obtain ⟨rfl, rfl⟩ := flat_elems.1 k2
    refine ⟨[b], ⟨[b], [], rfl, osl_loc noB, ⟨some ⟨b, o, none⟩, cap, by rw [hv2, hlen], by rw [← hlen]; exact hc, .inr ⟨b, o, encL l ++ encL m, [], rfl, ?_, k3, rfl, k4⟩⟩, rfl⟩, by simp, fun b' hb' => ?_⟩
    · exact Elems.append (fp := []) (gp := []) (flat_elems.2 ⟨rfl, rfl⟩) (flat_elems.2 ⟨rfl, rfl⟩)
    · simp at hb'; subst hb'
      rcases k5 with rfl | k5
      · exact .inl (by simp)
      · exact .inr k5
/-- 'append' over elements with memory of their own: what is appended is a slice of the call's own that is used up. -/
theorem s_appendR {α : Type} [Rep α] {S : Nat → Prop} {l m : List α} {el : TypeId} {D : TypeDesc} {by_ : Nat} {z : List Value}
    (h : Env n a e) (hM : M St w0 w (osl S l v :: osl S m u :: its)) (hS : ∀ b, S b → St b) (hw : Goes ops ⟨some d, .call ⟨.builtin .append, [x, y].toArray, [t, t].toArray⟩, ty, pos, af, g⟩ a) (hd : d < n) (hx : opv e x = some v) (hy : opv e y = some u)
    (ht : P.underlying t = some (.slice el)) (he : Ty P el D (Rep.n α) by_ z) (hzl : z.length = Rep.n α) (h0 : 0 < by_) (hb : (l.length + m.length) * by_ ≤ 140737488355328)
    (k : ∀ v' w a, M St w0 w (osl S (l ++ m) v' :: its) → Env n a ((d, v') :: e) → wpList P ops Q rest a w) : wpList P ops Q (⟨some d, .call ⟨.builtin .append, [x, y].toArray, [t, t].toArray⟩, ty, pos, af, g⟩ :: rest) a w := by
  -- the two items as one
  obtain ⟨hk, hs, fp, ⟨f1, f', rfl, hl1, h1, f2, f3, rfl, hl2, h2, h3⟩, hnd, hlt⟩ := hM
  have hM2 : M St w0 w ((fun w fp => ∃ f1 f2, fp = f1 ++ f2 ∧ OwnSl S w l v f1 ∧ OwnSl S w m u f2) :: its) := by
    refine ⟨hk, hs, (f1 ++ f2) ++ f3, ⟨f1 ++ f2, f3, rfl, ?_, ⟨f1, f2, rfl, h1, h2⟩, h3⟩, by simpa using hnd, by simpa using hlt⟩
    rintro w w' fp ⟨g1, g2, rfl, k1, k2⟩ hb
    exact ⟨g1, g2, rfl, k1.loc (fun b h => hb b (by rcases h with h | h; exact .inl (by simp [h]); exact .inr (hS b h))), k2.loc (fun b h => hb b (by rcases h with h | h; exact .inl (by simp [h]); exact .inr (hS b h)))⟩
  obtain ⟨v', w', hr, hos, htp, hout, hsz, _, _⟩ := run_app (ty := ty) h1 h2.sat ht he hzl h0 hb
  refine s_val h hw rfl hd (v := v') (w' := w') (by simp only [execOp, resolve]; simp [invoke, builtin, h.ev hx, h.ev hy, hr]) fun a ha => k _ _ _ ?_ ha
  have hst := hM2.st'
  refine hM2.turn (new := [osl S (l ++ m) v']) hos htp hout hsz ?_
  rintro fp ⟨g1, g2, rfl, k1, k2⟩ hlt hnd
  obtain ⟨v2, w2, hr2, _, _, _, _, hother, p, cap, hv2, hc, hres⟩ := run_app (ty := ty) k1 k2.sat ht he hzl h0 hb
  rw [hr] at hr2
  simp only [Result.ok.injEq] at hr2
  obtain ⟨rfl, rfl⟩ := hr2
  refine ⟨fun b hb hb' => hother b hb' (fun h => absurd (by simp [h]) hb), ?_⟩
  have hlen : l.length + m.length = (l ++ m).length := by simp
  obtain ⟨n1, n2, n3⟩ := List.nodup_append.1 hnd
  rcases hres with ⟨rfl, rfl, hq⟩ | ⟨b, o, ecs, fpe, news, fqe, rfl, j1, j2, j3, j4, j5, j9, j6, j7, j8⟩
  · exact ⟨[], ⟨[], [], rfl, osl_loc hS, ⟨p, 0, by rw [hv2, hlen], by rw [← hlen]; exact hc, .inl ⟨rfl, rfl, hq⟩⟩, rfl⟩, List.nodup_nil, fun b hb => by cases hb⟩
  · have hbg2 : b ∉ g2 := by
      intro hb
      rcases j8 with hg1 | j8
      · exact n3 b (by rw [hg1]; simp) b hb rfl
      · have := (hlt b (by simp [hb])).2; omega
    have hbfpe : b ∉ fpe := by
      intro hb
      rcases j8 with hg1 | j8
      · rw [hg1] at n1; exact (List.nodup_cons.1 n1).1 hb
      · have := (hlt b (by simp [j5.subset hb])).2; omega
    have hkeep : ∀ c, (c ∈ fpe ∨ c ∈ fqe ∨ S c) → w'.heap[c]? = w.heap[c]? := by
      intro c hc'
      refine hother c ?_ ?_
      · rcases hc' with h | h | h
        · exact (hlt c (by simp [j5.subset h])).2
        · exact (hlt c (by simp [j3 c h])).2
        · exact hst c (hS c h)
      · rintro hcg rfl
        rcases hc' with h | h | h
        · rcases j9 with rfl | hg
          · cases hcg
          · rw [hg] at n1; exact (List.nodup_cons.1 n1).1 h
        · exact n3 _ hcg _ (j3 _ h) rfl
        · exact (hlt _ (by simp [hcg])).1 (hS _ h)
    refine ⟨b :: (fpe ++ fqe), ⟨b :: (fpe ++ fqe), [], by simp, osl_loc hS, ⟨some ⟨b, o, none⟩, cap, by rw [hv2, hlen], by rw [← hlen]; exact hc, .inr ⟨b, o, ecs ++ news, fpe ++ fqe, rfl, ?_, j6, rfl, j7⟩⟩, rfl⟩, ?_, ?_⟩
    · exact Elems.append (j1.loc fun c hc => hkeep c (by rcases hc with h | h; exact .inl h; exact .inr (.inr h))) (j2.loc fun c hc => hkeep c (by rcases hc with h | h; exact .inr (.inl h); exact .inr (.inr h)))
    · refine List.nodup_cons.2 ⟨fun h => ?_, List.nodup_append.2 ⟨j5.nodup n1, j4.nodup n2, fun x hx y hy hxy => n3 x (j5.subset hx) y (j3 y hy) hxy⟩⟩
      rcases List.mem_append.1 h with h | h
      · exact hbfpe h
      · exact hbg2 (j3 b h)
    · intro c hc
      rcases List.mem_cons.1 hc with rfl | hc
      · rcases j8 with rfl | j8
        · exact .inl (by simp)
        · exact .inr j8
      · rcases List.mem_append.1 hc with h | h
        · exact .inl (by simp [j5.subset h])
        · exact .inl (by simp [j3 c h])
end
end Go.Proofs.YtkcaldgoomphaaaDoor
