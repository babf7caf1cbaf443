/- The walk library, part F: slices that are built, made, stored into, cut; structs as values. -/
import Derived.Test.YtkcaldgoomphaaaDoorLibE
namespace Go.Proofs.YtkcaldgoomphaaaDoor
open Go

/-! ### Literals -/
theorem splice_splice {cs a b : List Value} {o : Nat} (h : o + a.length + b.length ≤ cs.length) : splice (splice cs o a) (o + a.length) b = splice cs o (a ++ b) := by
  have hP : (cs.take o ++ a).length = o + a.length := by simp; omega
  unfold splice
  rw [← List.append_assoc (cs.take o) a, List.take_left' hP, ← hP, List.drop_append, hP]
  rw [List.drop_of_length_le (by rw [hP]; omega), List.nil_append, List.drop_drop, show o + a.length + b.length - (o + a.length) = b.length by omega]
  simp only [List.append_assoc, List.length_append]
  rw [Nat.add_assoc]
theorem foldl_splice : ∀ (vs : List Value) (k o : Nat) (cs : Array Value), o + k + vs.length ≤ cs.size →
    ((vs.zipIdx k).foldl (fun cs (c, j) => cs.setIfInBounds (o + j) c) cs) = (splice cs.toList (o + k) vs).toArray
  | [], k, o, cs, h => by simp [splice]
  | v :: r, k, o, cs, h => by
    simp only [List.length_cons] at h
    rw [List.zipIdx_cons, List.foldl_cons, foldl_splice r (k + 1) o _ (by simp; omega)]
    apply Array.ext'
    simp only [splice, Array.toList_setIfInBounds, List.length_cons]
    have h1 : (cs.toList.set (o + k) v).take (o + (k + 1)) = cs.toList.take (o + k) ++ [v] := by
      rw [show o + (k + 1) = o + k + 1 by omega, List.take_set, List.take_succ_eq_append_getElem (by simp; omega), List.set_append_right _ _ (by simp; omega)]
      congr 1
      have : o + k - (cs.toList.take (o + k)).length = 0 := by simp; omega
      rw [this]; rfl
    have h2 : (cs.toList.set (o + k) v).drop (o + (k + 1) + r.length) = cs.toList.drop (o + k + (r.length + 1)) := by
      rw [List.drop_set_of_lt (by omega)]; congr 1; omega
    rw [h1, h2]; simp
/-- Parts one behind the other, from number k on. -/
def numbered : Nat → List Value → List (Nat × Value)
  | _, [] => []
  | k, v :: r => (k, v) :: numbered (k + 1) r
theorem fill_all (size : Nat) (place : Nat → Option (Nat × Nat)) (hp : ∀ i, place i = some (i * size, size)) : ∀ (vs : List Value) (k : Nat) (cs : Array Value), (∀ v ∈ vs, v.cells.size = size) → (k + vs.length) * size ≤ cs.size →
    Instr.fill place cs (numbered k vs) = some (splice cs.toList (k * size) (vs.map (·.cells.toList)).flatten).toArray
  | [], k, cs, _, _ => by simp [numbered, Instr.fill, splice]
  | v :: r, k, cs, hv, hl => by
    have hv0 := hv v (by simp)
    simp only [List.length_cons] at hl
    have hks : k * size + size ≤ cs.size := by
      have : (k + 1) * size ≤ (k + (r.length + 1)) * size := Nat.mul_le_mul_right _ (by omega)
      rw [Nat.add_mul k 1] at this; omega
    simp only [numbered, Instr.fill, hp, hv0]
    rw [if_neg (by simp; omega)]
    have hz : v.cells.zipIdx.foldl (fun cs (c, j) => cs.setIfInBounds (k * size + j) c) cs = (splice cs.toList (k * size) v.cells.toList).toArray := by
      have := foldl_splice v.cells.toList 0 (k * size) cs (by simp [hv0]; omega)
      rw [← Array.foldl_toList, Array.toList_zipIdx]
      simpa using this
    rw [hz, fill_all size place hp r (k + 1) _ (fun u hu => hv u (by simp [hu])) (by
      rw [List.size_toArray, splice_len (by simp [hv0]; omega)]; simp; rw [show k + 1 + r.length = k + (r.length + 1) by omega]; exact hl)]
    congr 1
    have hlv : v.cells.toList.length = size := by simpa using hv0
    have hfl : ((r.map (·.cells.toList)).flatten).length = r.length * size := by
      have : ∀ (xs : List Value), (∀ u ∈ xs, u.cells.size = size) → ((xs.map (·.cells.toList)).flatten).length = xs.length * size := by
        intro xs
        induction xs with
        | nil => intro _; simp
        | cons u xs ih => intro hu; rw [List.map_cons, List.flatten_cons, List.length_append, ih (fun y hy => hu y (by simp [hy])), List.length_cons, Nat.add_mul]; have := hu u (by simp); simp [this]; omega
      exact this r (fun u hu => hv u (by simp [hu]))
    have e1 : (k + 1) * size = k * size + v.cells.toList.length := by rw [hlv, Nat.add_mul]; omega
    rw [List.map_cons, List.flatten_cons, e1]
    rw [splice_splice]
    rw [hlv, hfl]
    rw [Nat.add_mul, Nat.add_mul] at hl
    simp; omega

section
variable {n : Nat} {a : Act} {e : List (Nat × Value)} {w w' : World} {P : Program} {ops : Array Oper} {rest : List Oper} {Q : Exit → Act → World → Prop}
variable {d : Nat} {ty t : TypeId} {pos : String} {af : Array Edge} {g : Option (Nat × Bool)} {x y : Operand} {v u : Value}
variable {St : Nat → Prop} {w0 : World} {its : List Item}

def opsOf : Nat → List Operand → List (Nat × Operand)
  | _, [] => []
  | k, x :: r => (k, x) :: opsOf (k + 1) r
theorem Env.numbered (h : Env n a e) : ∀ (xs : List Operand) (k : Nat) (vs : List Value), opvs e xs = some vs → (opsOf k xs).map (fun (p : Nat × Operand) => (p.1, a.eval p.2)) = numbered k vs
  | [], k, vs, hx => by simp [opvs] at hx; subst hx; rfl
  | x :: r, k, vs, hx => by
    simp only [opvs] at hx
    split at hx
    · rename_i v vs' h1 h2
      simp only [Option.some.injEq] at hx
      subst hx
      simp only [opsOf, List.map_cons, h.ev h1, Go.Proofs.YtkcaldgoomphaaaDoor.numbered]
      rw [Env.numbered h r (k + 1) vs' h2]
    · cases hx

/-- A slice literal: its parts are there, one behind the other. items: what the elements own. -/
theorem s_build {α : Type} [Rep α] {S : Nat → Prop} {xs : List Operand} {vs : List Value} {m : Nat} {el : TypeId} {D : TypeDesc} {by_ : Nat} {z : List Value} {l : List α} {it : Item}
    (h : Env n a e) (hM : M St w0 w (it :: its)) (hS : ∀ b, S b → St b) (hw : Goes ops ⟨some d, .buildSlice t m (opsOf 0 xs).toArray, ty, pos, af, g⟩ a) (hd : d < n) (hxs : opvs e xs = some vs) (hm : vs.length = m) (hlm : l.length = m)
    (ht : P.underlying t = some (.slice el)) (he : Ty P el D (Rep.n α) by_ z) (_hzl : z.length = Rep.n α) (hsmall : m * Rep.n α ≤ 16777216)
    (hel : ∀ fp, it w fp → Elems S w l (vs.map (·.cells.toList)).flatten fp) (hcell : ∀ v ∈ vs, v.cells.size = Rep.n α)
    (k : ∀ v' w a, M St w0 w (osl S l v' :: its) → Env n a ((d, v') :: e) → wpList P ops Q rest a w) : wpList P ops Q (⟨some d, .buildSlice t m (opsOf 0 xs).toArray, ty, pos, af, g⟩ :: rest) a w := by
  have hsz := run_sizeOf he
  obtain ⟨zv, hzv, hzc⟩ := run_zeroValue he w
  have hsub : ∀ cs : Array Value, cs.size = m * Rep.n α → Instr.fill (fun i => some (i * Rep.n α, Rep.n α)) cs (numbered 0 vs) = some (vs.map (·.cells.toList)).flatten.toArray := by
    intro cs hcs
    rw [fill_all (Rep.n α) _ (fun _ => rfl) vs 0 cs hcell (by simp [hm, hcs])]
    congr 2
    have hfl : ((vs.map (·.cells.toList)).flatten).length = m * Rep.n α := by
      rw [← hm]
      clear hm hxs hel
      induction vs with
      | nil => simp
      | cons u xs ih => rw [List.map_cons, List.flatten_cons, List.length_append, ih (fun y hy => hcell y (by simp [hy])), List.length_cons, Nat.add_mul]; have := hcell u (by simp); simp [this]; omega
    rw [Nat.zero_mul]
    exact splice_all (by simpa [hcs] using hfl)
  have hnum := h.numbered xs 0 vs hxs
  have hcells : ∀ (zz : Array Value), ((Array.range (m * Rep.n α)).map (zz[· % zz.size]!)).size = m * Rep.n α := by intro zz; simp
  have hrun : (Instr.buildSlice t m ((opsOf 0 xs).toArray.map fun (i, x) => (i, a.eval x))).run P w = .ok (.slice (some ⟨w.heap.size, 0, none⟩) m m) (w.alloc (.cells (vs.map (·.cells.toList)).flatten.toArray el)) := by
    have hparts : ((opsOf 0 xs).toArray.map fun (i, x) => (i, a.eval x)).toList = numbered 0 vs := by simpa using hnum
    have hlim : ¬ (m * Rep.n α > 2 ^ 24) := by omega
    have hfill : ∀ zz : Array Value, Instr.fill (fun i => some (i * Rep.n α, Rep.n α)) ((Array.range (m * Rep.n α)).map (zz[· % zz.size]!)) (numbered 0 vs) = some (vs.map (·.cells.toList)).flatten.toArray := fun zz => hsub _ (hcells zz)
    unfold Instr.buildSlice
    simp only [Sem.run_bind, run_underlying ht, Result.andThen_ok, hsz, if_neg hlim, hparts]
    by_cases h0 : m * Rep.n α = 0
    · simp only [if_pos h0, pure_bind]
      rw [hfill]
      simp [newRow]
    · simp only [if_neg h0, pure_bind, Sem.run_bind, hzv, Result.andThen_ok]
      rw [hfill]
      simp [newRow]
  refine s_val h hw rfl hd (v := .slice (some ⟨w.heap.size, 0, none⟩) m m) (w' := w.alloc (.cells (vs.map (·.cells.toList)).flatten.toArray el)) (by simp only [execOp]; simp only [Sem.run_bind, hrun]; rfl) fun a ha => k _ _ _ ?_ ha
  have hst := hM.st'
  refine hM.turn (new := [osl S l _]) rfl rfl rfl (by simp) ?_
  intro fp hit hlt hnd
  have hE := hel fp hit
  have hnew := heap_alloc_new w (.cells (vs.map (·.cells.toList)).flatten.toArray el)
  have hkeep : ∀ b, (b ∈ fp ∨ S b) → (w.alloc (.cells (vs.map (·.cells.toList)).flatten.toArray el)).heap[b]? = w.heap[b]? := fun b hb => heap_alloc_old w _ b (by rcases hb with hb | hb; exact (hlt b hb).2; exact hst b (hS b hb))
  refine ⟨fun b _ hb => heap_alloc_old w _ b hb, w.heap.size :: fp, ⟨w.heap.size :: fp, [], by simp, osl_loc hS, ⟨some ⟨w.heap.size, 0, none⟩, m, by rw [hlm], by rw [hlm]; exact Nat.le_refl _, .inr ⟨w.heap.size, 0, _, fp, rfl, hE.loc hkeep, At.of_heap hnew, rfl, ?_⟩⟩, rfl⟩, ?_, ?_⟩
  · refine ⟨_, el, (0, 0), hnew, ?_, by intro i _; simp⟩
    have := hE.len
    rw [List.size_toArray, this, hlm]; omega
  · exact List.nodup_cons.2 ⟨fun hb => by have := (hlt _ hb).2; omega, hnd⟩
  · intro b hb
    rcases List.mem_cons.1 hb with rfl | hb
    · exact .inr ⟨Nat.le_refl _, by simp⟩
    · exact .inl hb
theorem M.emp (hM : M St w0 w its) : M St w0 w (emp :: its) := by
  obtain ⟨h1, h2, fp, h3, h4, h5⟩ := hM
  exact ⟨h1, h2, fp, ⟨[], fp, rfl, emp_loc, rfl, h3⟩, h4, h5⟩
/-- The nil slice. -/
theorem M.nilS {α : Type} [Rep α] (S : Nat → Prop) (hS : ∀ b, S b → St b) (hM : M St w0 w its) : M St w0 w (osl S ([] : List α) (.slice none 0 0) :: its) := by
  obtain ⟨h1, h2, fp, h3, h4, h5⟩ := hM
  exact ⟨h1, h2, fp, ⟨[], fp, rfl, osl_loc hS, ⟨none, 0, rfl, Nat.le_refl _, .inl ⟨rfl, rfl, trivial⟩⟩, h3⟩, h4, h5⟩
/-- A literal of flat elements. -/
theorem s_buildF {α : Type} [Flat α] {xs : List Operand} {vs : List Value} {m : Nat} {el : TypeId} {D : TypeDesc} {by_ : Nat} {z : List Value} {l : List α}
    (h : Env n a e) (hM : M St w0 w its) (hw : Goes ops ⟨some d, .buildSlice t m (opsOf 0 xs).toArray, ty, pos, af, g⟩ a) (hd : d < n) (hxs : opvs e xs = some vs) (hlm : l.length = m)
    (ht : P.underlying t = some (.slice el)) (he : Ty P el D (Rep.n α) by_ z) (hzl : z.length = Rep.n α) (hsmall : m * Rep.n α ≤ 16777216)
    (hel : vs.map (·.cells.toList) = l.map Flat.enc)
    (k : ∀ v' w a, M St w0 w (osl NoB l v' :: its) → Env n a ((d, v') :: e) → wpList P ops Q rest a w) : wpList P ops Q (⟨some d, .buildSlice t m (opsOf 0 xs).toArray, ty, pos, af, g⟩ :: rest) a w := by
  have hlen : vs.length = l.length := by simpa using congrArg List.length hel
  refine s_build (S := NoB) (l := l) h hM.emp noB hw hd hxs (by rw [hlen, hlm]) hlm ht he hzl hsmall ?_ ?_ k
  · intro fp hfp
    have hfp : fp = [] := hfp
    subst hfp
    refine flat_elems.2 ⟨?_, rfl⟩
    rw [hel]
    have : ∀ l : List α, (l.map Flat.enc).flatten = encL l := by
      intro l
      induction l with
      | nil => rfl
      | cons x l ih => simp [encL, ih]
    exact this l
  · intro v hv
    have : v.cells.toList ∈ l.map Flat.enc := by rw [← hel]; exact List.mem_map_of_mem (f := fun v : Value => v.cells.toList) hv
    obtain ⟨x, _, hx⟩ := List.mem_map.1 this
    have := Flat.len x
    rw [hx] at this
    have h2 : Rep.n α = Flat.n α := rfl
    rw [h2]
    simpa using this

/-! ### make -/
theorem made_list (z : List Value) (c : Nat) : (madeCells z.toArray (c * z.length)).toList = (List.replicate c z).flatten := by
  rcases Nat.eq_zero_or_pos z.length with h0 | hp
  · have : z = [] := List.eq_nil_of_length_eq_zero h0
    subst this
    induction c with
    | zero => simp [madeCells]
    | succ c ih => simp [madeCells]
  · apply List.ext_getElem?
    intro i
    have hlen : ((List.replicate c z).flatten).length = c * z.length := by simp
    by_cases hi : i < c * z.length
    · have h1 : i % z.length < z.length := Nat.mod_lt _ hp
      have hq : i / z.length < c := Nat.div_lt_of_lt_mul (by rw [Nat.mul_comm]; exact hi)
      have e1 : (madeCells z.toArray (c * z.length)).toList[i]? = some z[i % z.length] := by
        simp [madeCells, hi, h1]
      rw [e1]
      have e2 : ∀ (c i : Nat), i < c * z.length → ((List.replicate c z).flatten)[i]? = some (z[i % z.length]'(Nat.mod_lt _ hp)) := by
        intro c
        induction c with
        | zero => intro i hi; simp at hi
        | succ c ih =>
          intro i hi
          rw [List.replicate_succ, List.flatten_cons]
          by_cases hz : i < z.length
          · rw [List.getElem?_append_left hz, List.getElem?_eq_getElem hz]
            congr 2
            exact (Nat.mod_eq_of_lt hz).symm
          · rw [List.getElem?_append_right (by omega), ih (i - z.length) (by rw [Nat.add_mul] at hi; omega)]
            congr 2
            exact (Nat.mod_eq_sub_mod (by omega)).symm
      exact (e2 c i hi).symm
    · rw [List.getElem?_eq_none (by simp [madeCells]; omega), List.getElem?_eq_none (by rw [hlen]; omega)]
theorem elems_replicate {α : Type} [Rep α] {S : Nat → Prop} {x : α} {z : List Value} (hz : Rep.sat S w x z []) : ∀ c, Elems S w (List.replicate c x) (List.replicate c z).flatten []
  | 0 => ⟨rfl, rfl⟩
  | c + 1 => by rw [List.replicate_succ, List.replicate_succ, List.flatten_cons]; exact ⟨z, _, [], [], rfl, rfl, hz, elems_replicate hz c⟩
def mkS {α : Type} (bytes : Nat) (x : α) (c : Int) : Option (List α) := if 0 ≤ c ∧ c * bytes ≤ 140737488355328 then some (List.replicate c.toNat x) else none
theorem s_make {α : Type} [Rep α] {K K' : IntKind} {c : Int} {el : TypeId} {D : TypeDesc} {by_ : Nat} {z : List Value} {zero : α} {l : List α}
    (h : Env n a e) (hM : M St w0 w its) (hw : Goes ops ⟨some d, .makeSlice t x y, ty, pos, af, g⟩ a) (hd : d < n) (hx : opv e x = some (.int K c)) (hy : opv e y = some (.int K' c))
    (ht : P.underlying t = some (.slice el)) (he : Ty P el D (Rep.n α) by_ z) (hzl : z.length = Rep.n α) (h0 : 0 < by_) (hz : ∀ w, Rep.sat NoB w zero z []) (hb : mkS by_ zero c = some l)
    (k : ∀ v' w a, M St w0 w (osl NoB l v' :: its) → Env n a ((d, v') :: e) → wpList P ops Q rest a w) : wpList P ops Q (⟨some d, .makeSlice t x y, ty, pos, af, g⟩ :: rest) a w := by
  unfold mkS at hb
  split at hb
  case isFalse => cases hb
  rename_i hc
  obtain ⟨hc0, hcb⟩ := hc
  simp only [Option.some.injEq] at hb
  subst hb
  obtain ⟨i, zv, hi, hsz, hby, hzz, hzc⟩ := he.get
  have hcb' : c ≤ 140737488355328 := by
    have : c * 1 ≤ c * by_ := Int.mul_le_mul_of_nonneg_left (by omega) hc0
    omega
  have hr := run_make (P := P) w t el i zv ht hi hzz K K' c c hc0 (Int.le_refl _) (by rw [hby, Int.mul_comm]; omega) (by omega)
  have hcells : (madeCells zv.cells (c.toNat * i.size)).toList = (List.replicate c.toNat z).flatten := by
    have := made_list z c.toNat
    rw [hsz, ← hzl]
    rw [← this, ← hzc]
  refine s_val h hw rfl hd (v := _) (w' := _) (by simp only [execOp, h.ev hx, h.ev hy]; simp only [Sem.run_bind, hr]; rfl) fun a ha => k _ _ _ ?_ ha
  have hnew := heap_alloc_new w (.cells (madeCells zv.cells (c.toNat * i.size)) el)
  have hat : At (w.alloc (.cells (madeCells zv.cells (c.toNat * i.size)) el)) w.heap.size 0 (List.replicate c.toNat z).flatten := by
    have : madeCells zv.cells (c.toNat * i.size) = (List.replicate c.toNat z).flatten.toArray := by rw [← hcells]
    rw [this] at hnew ⊢
    exact At.of_heap hnew
  refine hM.add (new := [osl NoB (List.replicate c.toNat zero) _]) (Kept.alloc _ _) ⟨[w.heap.size], ⟨[w.heap.size], [], rfl, osl_loc (fun _ h => h), ⟨some ⟨w.heap.size, 0, none⟩, c.toNat, by simp, by simp, .inr ⟨w.heap.size, 0, _, [], rfl, elems_replicate (hz _) _, hat, rfl, ?_⟩⟩, rfl⟩, by simp, fun b hb => by simp at hb; subst hb; simp⟩
  refine ⟨_, el, (0, 0), hnew, ?_, by intro i _; simp⟩
  rw [size_madeCells, hsz]; omega

/-! ### Stores into a slice -/
def lset {α : Type} (l : List α) (i : Int) (x : α) : Option (List α) := if 0 ≤ i ∧ i < l.length then some (l.set i.toNat x) else none
theorem lset_some {α : Type} {l l' : List α} {i : Int} {x : α} (h : lset l i x = some l') : (0 ≤ i ∧ i < l.length) ∧ l' = l.set i.toNat x := by
  unfold lset at h
  split at h
  · rename_i h0; simp only [Option.some.injEq] at h; exact ⟨h0, h.symm⟩
  · cases h
theorem encL_append {α : Type} [Flat α] : ∀ (l m : List α), encL (l ++ m) = encL l ++ encL m
  | [], m => rfl
  | x :: l, m => by simp [encL, encL_append l m]
theorem encL_split {α : Type} [Flat α] {l : List α} {i : Nat} {x : α} (h : l[i]? = some x) : encL l = encL (l.take i) ++ (Flat.enc x ++ encL (l.drop (i + 1))) := by
  have hi := (List.getElem?_eq_some_iff.1 h).1
  have hx := (List.getElem?_eq_some_iff.1 h).2
  have : l = l.take i ++ (x :: l.drop (i + 1)) := by
    rw [← hx, ← List.drop_eq_getElem_cons hi, List.take_append_drop]
  conv => lhs; rw [this, encL_append]
  rfl
theorem encL_set {α : Type} [Flat α] {l : List α} {i : Nat} {x y : α} (h : l[i]? = some x) : encL (l.set i y) = encL (l.take i) ++ (Flat.enc y ++ encL (l.drop (i + 1))) := by
  have hi := (List.getElem?_eq_some_iff.1 h).1
  rw [List.set_eq_take_append_cons_drop, if_pos hi, encL_append]
  rfl
/-- A store into an element of a slice of one's own (or into a part of it: k cells behind its beginning). -/
theorem s_storeS {α : Type} [Flat α] {l : List α} {D : TypeDesc} {sz by_ : Nat} {z seg : List Value} {i k0 : Nat} {xo xn : α} (h : Env n a e) (hM : M St w0 w (osl NoB l v :: its)) (hw : Goes ops ⟨none, .store t x y, ty, pos, af, g⟩ a)
    (hx : opv e x = some (ptr (sb v) (so v + i * Rep.n α + k0))) (hy : opv e y = some u) (hu : u.cells.toList = seg) (ht : Ty P t D sz by_ z) (hl : seg.length = sz) (hc : ∀ v ∈ seg, v.oneCell' = true)
    (hi : l[i]? = some xo) (hfit : k0 + seg.length ≤ Flat.n α) (hs : splice (Flat.enc xo) k0 seg = Flat.enc xn)
    (k : ∀ w a, M St w0 w (osl NoB (l.set i xn) v :: its) → Env n a e → wpList P ops Q rest a w) : wpList P ops Q (⟨none, .store t x y, ty, pos, af, g⟩ :: rest) a w := by
  have hil := (List.getElem?_eq_some_iff.1 hi).1
  have key : ∀ fp, OwnSl NoB w l v fp → (storeCells ⟨sb v, so v + i * Rep.n α + k0, none⟩ seg).run P w = .ok () (w.setCells (sb v) (so v + i * Rep.n α + k0) seg) ∧ fp = [sb v] ∧
      OwnSl NoB (w.setCells (sb v) (so v + i * Rep.n α + k0) seg) (l.set i xn) v [sb v] := by
    rintro fp ⟨p, cap, rfl, hcap, hO⟩
    rcases hO with ⟨rfl, _⟩ | ⟨b, o, ecs, fpe, rfl, k1, k2, rfl, k3⟩
    · omega
    obtain ⟨rfl, rfl⟩ := flat_elems.1 k1
    obtain ⟨c, T, fz, hheap, hsize, hfz⟩ := k3
    have hsb : sb (.slice (some ⟨b, o, none⟩) l.length cap) = b := rfl
    have hso : so (.slice (some ⟨b, o, none⟩) l.length cap) = o := rfl
    rw [hsb, hso]
    have hel := encL_len l
    have hspl := encL_split hi
    have hsplset := encL_set (y := xn) hi
    have ht1 : (encL (l.take i)).length = i * Rep.n α := by rw [encL_len, List.length_take, Nat.min_eq_left (Nat.le_of_lt hil)]; rfl
    have hfit2 : o + i * Rep.n α + k0 + seg.length ≤ c.size := by
      have h1 : (i + 1) * Rep.n α ≤ cap * Rep.n α := Nat.mul_le_mul_right _ (by omega)
      rw [Nat.add_mul] at h1
      have h2 : Rep.n α = Flat.n α := rfl
      omega
    have hst := run_stores (P := P) (o := o + i * Rep.n α + k0) (vs := seg) hheap hfit2 hfz hc
    refine ⟨hst, rfl, some ⟨b, o, none⟩, cap, by simp, by simpa using hcap, .inr ⟨b, o, encL (l.set i xn), [], rfl, flat_elems.2 ⟨rfl, rfl⟩, ?_, rfl, ?_⟩⟩
    · have hh := setCells_heap b T fz seg (o + i * Rep.n α + k0) w c hheap hfit2
      -- the cells of the row
      intro j vv hv
      have hj := (List.getElem?_eq_some_iff.1 hv).1
      have hsetlen : (encL (l.set i xn)).length = (encL l).length := by rw [encL_len, encL_len, List.length_set]
      rw [hsetlen] at hj
      simp only [World.cell?, hh, Option.isSome_none, Bool.false_eq_true, if_false]
      rw [List.getElem?_toArray]
      -- both sides by the splice of the row
      have hrow : ∀ j, j < (encL l).length → c.toList[o + j]? = (encL l)[j]? := by
        intro j hj
        have := k2 j _ (List.getElem?_eq_getElem hj)
        simp only [World.cell?, hheap, Option.isSome_none, Bool.false_eq_true, if_false] at this
        rw [List.getElem?_eq_getElem hj]
        simpa using this
      have hset : encL (l.set i xn) = splice (encL l) (i * Rep.n α + k0) seg := by
        rw [hsplset, ← hs, hspl, ← splice_in (p := encL (l.take i)) (c := Flat.enc xo) (q := encL (l.drop (i + 1))) (k := k0) (o := i * Rep.n α + k0) (by rw [ht1]) (by rw [Flat.len]; exact hfit)]
      rw [hset] at hv
      have hlen2 : i * Rep.n α + k0 + seg.length ≤ (encL l).length := by
        rw [hel]
        have h1 : (i + 1) * Flat.n α ≤ l.length * Flat.n α := Nat.mul_le_mul_right _ (by omega)
        rw [Nat.add_mul] at h1
        have h2 : Rep.n α = Flat.n α := rfl
        rw [h2]; omega
      simp only [splice] at hv ⊢
      have hclen : o + (encL l).length ≤ c.toList.length := by
        have h1 : l.length * Flat.n α ≤ cap * Rep.n α := Nat.mul_le_mul_right _ hcap
        rw [hel]; simp; omega
      by_cases hj1 : j < i * Rep.n α + k0
      · rw [List.getElem?_append_left (by simp; omega), List.getElem?_take, if_pos hj1] at hv
        rw [List.getElem?_append_left (by simp at hclen ⊢; omega), List.getElem?_take, if_pos (by omega), hrow j hj]
        exact hv
      · rw [List.getElem?_append_right (by simp; omega)] at hv
        rw [List.getElem?_append_right (by simp; omega)]
        have e1 : (List.take (i * Rep.n α + k0) (encL l)).length = i * Rep.n α + k0 := by simp; omega
        have e2 : (List.take (o + i * Rep.n α + k0) c.toList).length = o + i * Rep.n α + k0 := by simp at hclen ⊢; omega
        rw [e1] at hv
        rw [e2, show o + j - (o + i * Rep.n α + k0) = j - (i * Rep.n α + k0) by omega]
        by_cases hj2 : j - (i * Rep.n α + k0) < seg.length
        · rw [List.getElem?_append_left hj2] at hv ⊢; exact hv
        · rw [List.getElem?_append_right (by omega), List.getElem?_drop] at hv ⊢
          rw [show o + i * Rep.n α + k0 + seg.length + (j - (i * Rep.n α + k0) - seg.length) = o + j by omega, hrow j hj]
          rw [show i * Rep.n α + k0 + seg.length + (j - (i * Rep.n α + k0) - seg.length) = j by omega] at hv
          exact hv
    · refine ⟨_, T, fz, setCells_heap b T fz seg _ w c hheap hfit2, ?_, ?_⟩
      · rw [List.size_toArray, splice_len (by simpa using hfit2)]; simpa using hsize
      · intro j hj
        rw [List.size_toArray, splice_len (by simpa using hfit2)] at hj
        exact hfz j (by simpa using hj)
  obtain ⟨fp0, hfp0, _⟩ := hM.head
  obtain ⟨hr, _, _⟩ := key fp0 hfp0
  refine s_unit h hw rfl (w' := w.setCells (sb v) (so v + i * Rep.n α + k0) seg) ?_ fun a ha => k _ _ ?_ ha
  · simp only [execOp, h.ev hx, h.ev hy]
    have hsz : u.cells.size = sz := by rw [← hl, ← hu]; simp
    simp [Instr.storeAt, Instr.sureAddr, storeVar, run_sizeOf ht, hsz, hu, hr]
  · refine M.turn (new := [osl NoB (l.set i xn) v]) hM (setCells_streams _ _ _ _).1 (setCells_streams _ _ _ _).2.1 (setCells_streams _ _ _ _).2.2 (by rw [setCells_size]; exact Nat.le_refl _) ?_
    intro fp hfp hlt hnd
    obtain ⟨_, rfl, hO⟩ := key fp hfp
    exact ⟨fun b hb _ => setCells_other _ _ (by simpa using hb) _ _ _, [sb v], ⟨[sb v], [], rfl, osl_loc noB, hO, rfl⟩, by simp, fun b hb => .inl hb⟩
end
end Go.Proofs.YtkcaldgoomphaaaDoor
