/- The walk library, part O: arrays written out, elements of array values; pointers as data. -/
import Derived.Test.YtkcaldgoomphaaaDoorLibN
namespace Go.Proofs.YtkcaldgoomphaaaDoor
open Go

theorem M.unsure {St : Nat → Prop} {w0 w : World} {pre post : List Item} {it : Item} {b : Bool} (h : M St w0 w (pre ++ it :: post)) (hb : b = true) : M St w0 w (pre ++ opt b it :: post) := by subst hb; rwa [opt_true]

/-! ### Arrays written out -/
abbrev FillA (sz : Nat) (z : List Value) (parts : List (Nat × Value)) (cs : List Value) : Prop := Instr.fill (fun i => some (i * sz, sz)) z.toArray parts = some cs.toArray
theorem filla_nil {sz : Nat} {z : List Value} : FillA sz z [] z := rfl
theorem filla_step {α : Type} [Flat α] {N : Nat} {v : Vector α N} {rest : List (Nat × Value)} {i : Nat} {u : Value} {x : α} {cs : List Value} {sz : Nat}
    (hs : sz = Flat.n α) (hi : i < N) (hv : u.cells.toList = Flat.enc x) (hr : FillA sz (Flat.enc (v.setIfInBounds i x)) rest cs) : FillA sz (Flat.enc v) ((i, u) :: rest) cs := by
  subst hs
  have hi' : (0 : Int) ≤ (i : Int) ∧ (i : Int) < N := ⟨by omega, by omega⟩
  have hus : u.cells.size = Flat.n α := by
    have := congrArg List.length hv
    simpa [Flat.len] using this
  have hfit : i * Flat.n α + u.cells.toList.length ≤ (Flat.enc v).length := by
    have := fit_vec (v := v) (x := x) hi'
    rw [hv]
    simpa using this
  have hf := foldl_splice u.cells.toList 0 (i * Flat.n α) (Flat.enc v).toArray (by simpa using hfit)
  have hz : u.cells.zipIdx.foldl (fun cs (c, j) => cs.setIfInBounds (i * Flat.n α + j) c) (Flat.enc v).toArray = (splice (Flat.enc v) (i * Flat.n α) u.cells.toList).toArray := by
    rw [← Array.foldl_toList, Array.toList_zipIdx]
    simpa using hf
  have hsp := splice_vec (vset_of (v := v) (x := x) hi')
  unfold FillA
  rw [Instr.fill]
  simp only []
  rw [if_neg (by
    have h1 : i * Flat.n α + u.cells.size ≤ (Flat.enc v).length := by simpa using hfit
    simp [hus] at h1 ⊢
    omega)]
  rw [hz, hv]
  have e : ((i : Int)).toNat = i := rfl
  rw [e] at hsp
  rw [hsp]
  exact hr
section
variable {n : Nat} {a : Act} {e : List (Nat × Value)} {w w' : World} {P : Program} {ops : Array Oper} {rest : List Oper} {Q : Exit → Act → World → Prop}
variable {d : Nat} {ty t : TypeId} {pos : String} {af : Array Edge} {g : Option (Nat × Bool)} {x y : Operand} {v u : Value}
theorem parts_eval {parts : List (Nat × Operand)} {vs : List (Nat × Value)} (h : Env n a e) (hxs : opvs e (parts.map (·.2)) = some (vs.map (·.2))) (hix : parts.map (·.1) = vs.map (·.1)) :
    (parts.map fun (p : Nat × Operand) => (p.1, a.eval p.2)) = vs := by
  have h1 := h.evs hxs
  rw [List.map_map] at h1
  apply List.ext_getElem?
  intro i
  have e1 : (parts.map (·.1))[i]? = (vs.map (·.1))[i]? := by rw [hix]
  have e2 : (parts.map (a.eval ∘ fun (p : Nat × Operand) => p.2))[i]? = (vs.map (·.2))[i]? := by rw [h1]
  simp only [List.getElem?_map] at e1 e2 ⊢
  cases hp : parts[i]? with
  | none =>
    rw [hp] at e1
    cases hq : vs[i]? with
    | none => rfl
    | some q => rw [hq] at e1; simp at e1
  | some p =>
    rw [hp] at e1 e2
    cases hq : vs[i]? with
    | none => rw [hq] at e1; simp at e1
    | some q =>
      rw [hq] at e1 e2
      simp only [Option.map_some, Option.some.injEq] at e1 e2 ⊢
      exact Prod.ext e1 e2
theorem s_buildA {el N : Nat} {parts : List (Nat × Operand)} {vs : List (Nat × Value)} {z cs ze : List Value} {sz by_ esz eby : Nat} {D De : TypeDesc} (h : Env n a e) (hw : Goes ops ⟨some d, .build t parts.toArray, ty, pos, af, g⟩ a) (hd : d < n)
    (hxs : opvs e (parts.map (·.2)) = some (vs.map (·.2))) (hix : parts.map (·.1) = vs.map (·.1)) (ht : Ty P t D sz by_ z) (hD : D = .array N el) (he : Ty P el De esz eby ze) (hf : FillA esz z vs cs)
    (k : ∀ a, Env n a ((d, .agg cs.toArray) :: e) → wpList P ops Q rest a w) : wpList P ops Q (⟨some d, .build t parts.toArray, ty, pos, af, g⟩ :: rest) a w := by
  refine s_val h hw rfl hd (w' := w) ?_ k
  have hvals := parts_eval h hxs hix
  have hb : P.built t vs = some cs.toArray := by
    obtain ⟨i, zv, h1, h2, _, h3, h4⟩ := ht.get
    obtain ⟨ie, _, k1, k2, _, _, _⟩ := he.get
    have hu := ht.und
    rw [hD] at hu
    unfold Program.built
    rw [h1, hu]
    simp only [h3, k1, k2]
    have h5 : zv.cells = z.toArray := by rw [← h4]
    simp only [h5]
    exact hf
  simp only [execOp]
  have : (parts.toArray.map fun (p : Nat × Operand) => (p.1, a.eval p.2)) = vs.toArray := by rw [List.map_toArray, hvals]
  simp only [Sem.run_bind]
  rw [show (Instr.build t (parts.toArray.map fun (i, x) => (i, a.eval x))).run P w = .ok (.agg cs.toArray) w from by
    have h2 := run_build (P := P) w t (parts.toArray.map fun (i, x) => (i, a.eval x)) cs.toArray (by
      have : (parts.toArray.map fun (i, x) => (i, a.eval x)).toList = vs := by simpa using hvals
      rw [this]; exact hb)
    exact h2]
  rfl

/-! ### Elements of array values -/
theorem enc_at {α : Type} [Flat α] {N i : Nat} {v : Vector α N} {x : α} (hi : v.toList[i]? = some x) : ∃ c1 c2, Flat.enc v = c1 ++ (Flat.enc x ++ c2) ∧ c1.length = i * Flat.n α := by
  refine ⟨encL (v.toList.take i), encL (v.toList.drop (i + 1)), encL_split hi, ?_⟩
  rw [encL_len, List.length_take, Nat.min_eq_left (Nat.le_of_lt (List.getElem?_eq_some_iff.1 hi).1)]
theorem s_indexV {α : Type} [Flat α] {N el sz by_ : Nat} {z : List Value} {De : TypeDesc} {K : IntKind} {i : Int} {v : Vector α N} {x0 : α} (h : Env n a e) (hw : Goes ops ⟨some d, .index t x y, ty, pos, af, g⟩ a) (hd : d < n)
    (hx : opv e x = some (.agg (Flat.enc v).toArray)) (hy : opv e y = some (.int K i)) (ht : P.underlying t = some (.array N el)) (he : Ty P el De sz by_ z) (hD : isAggD De = false) (hs : sz = Flat.n α) (hi : (0 ≤ i ∧ i < N) ∧ v.toList[i.toNat]? = some x0) (hu : Flat.enc x0 = [u])
    (k : ∀ a, Env n a ((d, u) :: e) → wpList P ops Q rest a w) : wpList P ops Q (⟨some d, .index t x y, ty, pos, af, g⟩ :: rest) a w := by
  obtain ⟨c1, c2, e1, e2⟩ := enc_at hi.2
  subst hs
  have hg : (Flat.enc v)[i.toNat * Flat.n α]? = some u := by
    rw [e1, hu, ← e2]
    simp
  exact s_val h hw rfl hd (by
    simp only [execOp, h.ev hx, h.ev hy]
    simp [Instr.index, asIntOf, run_underlying ht, hi.1, run_sizeOf he, part, run_isAgg he, hD, hg]) k
theorem s_indexVA {α : Type} [Flat α] {N el sz by_ : Nat} {z : List Value} {De : TypeDesc} {K : IntKind} {i : Int} {v : Vector α N} {x0 : α} (h : Env n a e) (hw : Goes ops ⟨some d, .index t x y, ty, pos, af, g⟩ a) (hd : d < n)
    (hx : opv e x = some (.agg (Flat.enc v).toArray)) (hy : opv e y = some (.int K i)) (ht : P.underlying t = some (.array N el)) (he : Ty P el De sz by_ z) (hD : isAggD De = true) (hs : sz = Flat.n α) (hi : (0 ≤ i ∧ i < N) ∧ v.toList[i.toNat]? = some x0)
    (k : ∀ a, Env n a ((d, .agg (Flat.enc x0).toArray) :: e) → wpList P ops Q rest a w) : wpList P ops Q (⟨some d, .index t x y, ty, pos, af, g⟩ :: rest) a w := by
  obtain ⟨c1, c2, e1, e2⟩ := enc_at hi.2
  subst hs
  have hg : List.take (Flat.n α) (List.drop (i.toNat * Flat.n α) (Flat.enc v)) = Flat.enc x0 := by
    rw [e1, ← e2, List.drop_left, List.take_left' (Flat.len x0)]
  exact s_val h hw rfl hd (by
    simp only [execOp, h.ev hx, h.ev hy]
    simp [Instr.index, asIntOf, run_underlying ht, hi.1, run_sizeOf he, part, run_isAgg he, hD, hg]) k

/-! ### Pointers as data -/
theorem s_nilCheck {b o : Nat} (h : Env n a e) (hw : Goes ops ⟨some d, .nilCheck x, ty, pos, af, g⟩ a) (hd : d < n) (hx : opv e x = some (ptr b o))
    (k : ∀ a, Env n a ((d, ptr b o) :: e) → wpList P ops Q rest a w) : wpList P ops Q (⟨some d, .nilCheck x, ty, pos, af, g⟩ :: rest) a w :=
  s_val h hw rfl hd (by simp only [execOp, h.ev hx]; rfl) k
end
/-! ### An array, seen whole as a slice -/
theorem raw_full {α : Type} [Flat α] {N b : Nat} {w : World} {v : Vector α N} (h : At w b 0 (Flat.enc v)) : Rep.sat (fun c => c = b) w v.toList [.slice (some ⟨b, 0, none⟩) N N] [] := by
  refine ⟨some ⟨b, 0, none⟩, N, by simp, by simp, fun _ => rfl, Flat.enc v, [], ?_, h, .inl ⟨fun _ => rfl, rfl⟩⟩
  show Elems _ w v.toList (encL v.toList) []
  generalize v.toList = l
  induction l with
  | nil => exact ⟨rfl, rfl⟩
  | cons x l ih => exact ⟨_, _, [], [], rfl, rfl, ⟨rfl, rfl⟩, ih⟩
section
variable {n : Nat} {a : Act} {e : List (Nat × Value)} {w w' : World} {P : Program} {ops : Array Oper} {rest : List Oper} {Q : Exit → Act → World → Prop}
variable {d : Nat} {ty t : TypeId} {pos : String} {af : Array Edge} {g : Option (Nat × Bool)} {x y : Operand} {v u : Value}
theorem s_indexFull {N el sz by_ b : Nat} {z : List Value} {D : TypeDesc} {K : IntKind} {i : Int} (h : Env n a e) (hw : Goes ops ⟨some d, .indexAddr t x y, ty, pos, af, g⟩ a) (hd : d < n)
    (hx : opv e x = some (.slice (some ⟨b, 0, none⟩) N N)) (hy : opv e y = some (.int K i)) (ht : P.underlying t = some (.slice el)) (he : Ty P el D sz by_ z) (hi : 0 ≤ i ∧ i < N)
    (k : ∀ a, Env n a ((d, ptr b (0 + i.toNat * sz)) :: e) → wpList P ops Q rest a w) : wpList P ops Q (⟨some d, .indexAddr t x y, ty, pos, af, g⟩ :: rest) a w :=
  s_val h hw rfl hd (by
    simp only [execOp, h.ev hx, h.ev hy]
    simp [Instr.indexAt, asIntOf, run_underlying ht, Instr.sureAddr, hi, run_sizeOf he, Addr.add_lit]) k
end
theorem k_ret0 {n : Nat} {a : Act} {e : List (Nat × Value)} {w : World} {P : Program} {fn : Func} {R : Ending → World → Prop} (hE : Env n a e) (hres : fn.results = #[]) (hR : R (.returned (.tuple [].toArray)) w) : bodyPost P fn R .ret a w := by
  refine bodyPost_ret ?_ hE.df hR
  rw [results_eq, hres]
  simp
theorem k_ret0n {n : Nat} {a : Act} {e : List (Nat × Value)} {w : World} {P : Program} {fn : Func} {R : Ending → World → Prop} (hE : Env n a e) (hres : fn.results = #[]) (hR : R (.returned (.tuple [].toArray)) w) : bodyPost P fn R .normal a w := k_ret0 hE hres hR
structure Ref (α : Type) where
  v : α
  deriving DecidableEq, Inhabited
instance {α : Type} [Dat α] : Dat (Ref α) := ⟨fun x => Dat.bd x.v, fun x => Dat.sz x.v + 1⟩
def RefSat {α : Type} [Rep α] (S : Nat → Prop) (w : World) (x : Ref α) (cs : List Value) (fp : List Nat) : Prop :=
  ∃ b ds fpe, cs = [ptr b 0] ∧ Rep.sat S w x.v ds fpe ∧ At w b 0 ds ∧ ((S b ∧ fp = fpe) ∨ (fp = b :: fpe ∧ ∃ T, w.heap[b]? = some (.cells ds.toArray T (0, 0))))
instance {α : Type} [Rep α] : Rep (Ref α) where
  n := 1
  sat := RefSat
  len := by rintro S w x cs fp ⟨b, ds, fpe, rfl, _⟩; rfl
  loc := by
    rintro S w w' x cs fp ⟨b, ds, fpe, rfl, h1, h2, h3⟩ hb
    rcases h3 with ⟨h3, rfl⟩ | ⟨rfl, T, h3⟩
    · exact ⟨b, ds, fp, rfl, Rep.loc h1 hb, h2.loc (hb _ (.inr h3)), .inl ⟨h3, rfl⟩⟩
    · exact ⟨b, ds, fpe, rfl, Rep.loc h1 (fun b h => hb b (by simp; grind)), h2.loc (hb _ (by simp)), .inr ⟨rfl, T, by rw [hb _ (by simp)]; exact h3⟩⟩
  ro := by
    rintro S S' w x cs fp ⟨b, ds, fpe, rfl, h1, h2, h3⟩ hb
    rcases h3 with ⟨h3, rfl⟩ | ⟨rfl, T, h3⟩
    · exact ⟨b, ds, [], rfl, Rep.ro h1 hb, h2, .inl ⟨hb _ (.inr h3), rfl⟩⟩
    · exact ⟨b, ds, [], rfl, Rep.ro h1 (fun b h => hb b (by simp; grind)), h2, .inl ⟨hb _ (by simp), rfl⟩⟩
  wk := by
    rintro S S' w x cs fp ⟨b, ds, fpe, rfl, h1, h2, h3⟩ hb
    rcases h3 with ⟨h3, rfl⟩ | ⟨rfl, T, h3⟩
    · exact ⟨b, ds, fp, rfl, Rep.wk h1 hb, h2, .inl ⟨hb _ h3, rfl⟩⟩
    · exact ⟨b, ds, fpe, rfl, Rep.wk h1 hb, h2, .inr ⟨rfl, T, h3⟩⟩
  lt := by
    rintro S w x cs fp ⟨b, ds, fpe, rfl, h1, h2, h3⟩ c hc
    rcases h3 with ⟨h3, rfl⟩ | ⟨rfl, T, h3⟩
    · exact Rep.lt h1 c hc
    · rcases List.mem_cons.1 hc with rfl | hc
      · rcases Nat.lt_or_ge c w.heap.size with h | h
        · exact h
        · rw [Array.getElem?_eq_none h] at h3; cases h3
      · exact Rep.lt h1 c hc
  cell := by
    rintro S w x cs fp ⟨b, ds, fpe, rfl, _⟩ v hv
    simp at hv; subst hv; rfl
section
variable {α : Type} [Rep α] {S : Nat → Prop} {w w0 : World} {x : Ref α} {fp : List Nat} {u : Value} {St : Nat → Prop} {its : List Item} {b : Nat} {ds : List Value}
theorem ref_cells (h : Rep.sat S w x [u] fp) : u.cells.toList = [u] := by obtain ⟨b, ds, fpe, e, _⟩ := h; obtain rfl := (List.cons.inj e).1; rfl
theorem ref_one {cs : List Value} (h : Rep.sat S w x cs fp) : ∃ v, cs = [v] := by obtain ⟨b, ds, fpe, e, _⟩ := h; exact ⟨_, e⟩
/-- A pointer that is read: its place and what lies there. -/
theorem ref_open (h : Rep.sat S w x [u] []) : ∃ b ds, u = ptr b 0 ∧ Rep.sat S w x.v ds [] ∧ At w b 0 ds ∧ S b := by
  obtain ⟨b, ds, fpe, e, h1, h2, h3⟩ := h
  rcases h3 with ⟨h3, rfl⟩ | ⟨h3, _⟩
  · exact ⟨b, ds, (List.cons.inj e).1, h1, h2, h3⟩
  · cases h3
theorem ref_ro {x : α} (hA : At w b 0 ds) (hx : Rep.sat S w x ds []) (hb : S b) : Rep.sat S w (⟨x⟩ : Ref α) [ptr b 0] [] := ⟨b, ds, [], rfl, hx, hA, .inl ⟨hb, rfl⟩⟩
/-- A block of one's own, and what its cells lead to, become one pointer. -/
theorem M.toRef {x : α} {S : Nat → Prop} (h : M St w0 w (raw b ds :: own S x ds :: its)) (hS : ∀ b, S b → St b) : M St w0 w (own S (⟨x⟩ : Ref α) [ptr b 0] :: its) :=
  h.pack2 (own_loc hS) fun f g h1 h2 => by
    obtain ⟨rfl, T, h3⟩ := h1
    exact ⟨b, ds, g, rfl, h2, At.of_heap h3, .inr ⟨rfl, T, h3⟩⟩
theorem M.toRefF {α : Type} [Flat α] {x : α} (h : M St w0 w (raw b (Flat.enc x) :: its)) : M St w0 w (own NoB (⟨x⟩ : Ref α) [ptr b 0] :: its) :=
  h.pack1 (own_loc fun _ h => h.elim) fun f h1 => by
    obtain ⟨rfl, T, h3⟩ := h1
    exact ⟨b, Flat.enc x, [], rfl, ⟨rfl, rfl⟩, At.of_heap h3, .inr ⟨rfl, T, h3⟩⟩
end
end Go.Proofs.YtkcaldgoomphaaaDoor
