/- The walk library, part P: literals that are only read, slices seen as arrays, one's own slices cut short, nil slices that grow. -/
import Derived.Test.YtkcaldgoomphaaaDoorLibO
import Derived.Lib.AppendZeros
namespace Go.Proofs.YtkcaldgoomphaaaDoor
open Go

section
variable {n : Nat} {a : Act} {e : List (Nat × Value)} {w w' : World} {P : Program} {ops : Array Oper} {rest : List Oper} {Q : Exit → Act → World → Prop}
variable {d : Nat} {ty t : TypeId} {pos : String} {af : Array Edge} {g : Option (Nat × Bool)} {x y : Operand} {v u : Value}
variable {St : Nat → Prop} {w0 : World} {its : List Item}

/-! ### Literals whose parts are one cell each: the block is known whole -/
theorem flat1 : ∀ {vs : List Value}, (∀ v ∈ vs, v.cells.toList = [v]) → (vs.map (·.cells.toList)).flatten = vs
  | [], _ => rfl
  | v :: vs, h => by rw [List.map_cons, List.flatten_cons, h v (by simp), flat1 (fun u hu => h u (by simp [hu]))]; rfl
theorem s_buildLit {xs : List Operand} {vs : List Value} {m el by_ : Nat} {D : TypeDesc} {z : List Value}
    (h : Env n a e) (hM : M St w0 w its) (hw : Goes ops ⟨some d, .buildSlice t m (opsOf 0 xs).toArray, ty, pos, af, g⟩ a) (hd : d < n) (hxs : opvs e xs = some vs) (hm : vs.length = m)
    (ht : P.underlying t = some (.slice el)) (he : Ty P el D 1 by_ z) (hsmall : m ≤ 16777216) (hcell : ∀ v ∈ vs, v.cells.toList = [v])
    (k : ∀ b w a, M St w0 w (raw b vs :: its) → Env n a ((d, .slice (some ⟨b, 0, none⟩) m m) :: e) → wpList P ops Q rest a w) : wpList P ops Q (⟨some d, .buildSlice t m (opsOf 0 xs).toArray, ty, pos, af, g⟩ :: rest) a w := by
  have hsz := run_sizeOf he
  obtain ⟨zv, hzv, hzc⟩ := run_zeroValue he w
  have hc1 : ∀ v ∈ vs, v.cells.size = 1 := fun v hv => by have := congrArg List.length (hcell v hv); simpa using this
  have hnum := h.numbered xs 0 vs hxs
  have hsub : ∀ cs : Array Value, cs.size = m * 1 → Instr.fill (fun i => some (i * 1, 1)) cs (numbered 0 vs) = some vs.toArray := by
    intro cs hcs
    rw [fill_all 1 _ (fun _ => rfl) vs 0 cs hc1 (by simp [hm, hcs])]
    congr 2
    rw [Nat.zero_mul, flat1 hcell]
    exact splice_all (by simp [hcs, hm])
  have hrun : (Instr.buildSlice t m ((opsOf 0 xs).toArray.map fun (i, x) => (i, a.eval x))).run P w = .ok (.slice (some ⟨w.heap.size, 0, none⟩) m m) (w.alloc (.cells vs.toArray el)) := by
    have hparts : ((opsOf 0 xs).toArray.map fun (i, x) => (i, a.eval x)).toList = numbered 0 vs := by simpa using hnum
    have hlim : ¬ (m * 1 > 2 ^ 24) := by omega
    have hfill : ∀ zz : Array Value, Instr.fill (fun i => some (i * 1, 1)) ((Array.range (m * 1)).map (zz[· % zz.size]!)) (numbered 0 vs) = some vs.toArray := fun zz => hsub _ (by simp)
    unfold Instr.buildSlice
    simp only [Sem.run_bind, run_underlying ht, Result.andThen_ok, hsz, if_neg hlim, hparts]
    by_cases h0 : m * 1 = 0
    · simp only [if_pos h0, pure_bind]
      rw [hfill]
      simp [newRow]
    · simp only [if_neg h0, pure_bind, Sem.run_bind, hzv, Result.andThen_ok]
      rw [hfill]
      simp [newRow]
  exact s_val h hw rfl hd (v := .slice (some ⟨w.heap.size, 0, none⟩) m m) (w' := w.alloc (.cells vs.toArray el)) (by simp only [execOp]; simp only [Sem.run_bind, hrun]; rfl) fun a ha => k _ _ _ (hM.alloc vs el) ha
/-- The parts of a literal, each read. -/
def LitOk {α : Type} [Rep α] (w : World) : List α → List Value → Prop
  | [], [] => True
  | x :: l, v :: vs => Ro w x [v] ∧ LitOk w l vs
  | _, _ => False
theorem LitOk.elems {α : Type} [Rep α] {w : World} : ∀ {l : List α} {vs : List Value}, LitOk w l vs → Elems (Old w) w l vs []
  | [], [], _ => ⟨rfl, rfl⟩
  | _ :: _, v :: vs, h => ⟨[v], vs, [], [], rfl, rfl, h.1, LitOk.elems h.2⟩
  | [], _ :: _, h => h.elim
  | _ :: _, [], h => h.elim
theorem M.rawLt {b : Nat} {cs : List Value} {pre post : List Item} (h : M St w0 w (pre ++ raw b cs :: post)) : b < w.heap.size := by
  obtain ⟨fp, ⟨rfl, _⟩, h1⟩ := h.get
  exact h1 b (by simp)
theorem ro_lit {α : Type} [Rep α] {l : List α} {vs : List Value} {b m : Nat} (hA : At w b 0 vs) (hb : b < w.heap.size) (h : LitOk w l vs) (hm : l.length = m) : Ro w l [.slice (some ⟨b, 0, none⟩) m m] := by
  subst hm
  exact ⟨some ⟨b, 0, none⟩, l.length, rfl, Nat.le_refl _, fun _ => rfl, vs, [], h.elems, hA, .inl ⟨fun _ => hb, rfl⟩⟩

/-! ### A slice seen as an array -/
def toArr {α : Type} (N : Nat) (l : List α) : Option (Vector α N) := if h : N ≤ l.length then some ⟨(l.take N).toArray, by simp [h]⟩ else none
theorem toArr_some {α : Type} {N : Nat} {l : List α} {v : Vector α N} (h : toArr N l = some v) : N ≤ l.length ∧ v.toList = l.take N := by
  unfold toArr at h
  split at h
  · rename_i h0
    simp only [Option.some.injEq] at h
    subst h
    exact ⟨h0, rfl⟩
  · cases h
theorem s_toArr {α : Type} [Rep α] {S : Nat → Prop} {l : List α} {fp : List Nat} {N el : Nat} (h : Env n a e) (hw : Goes ops ⟨some d, .sliceToArrayPointer t x, ty, pos, af, g⟩ a) (hd : d < n) (hx : opv e x = some v)
    (ht : P.underlying t = some (.array N el)) (hs : Rep.sat S w l [v] fp) (hN : N ≤ l.length) (h0 : 0 < N)
    (k : ∀ a, Env n a ((d, ptr (sb v) (so v)) :: e) → wpList P ops Q rest a w) : wpList P ops Q (⟨some d, .sliceToArrayPointer t x, ty, pos, af, g⟩ :: rest) a w := by
  obtain ⟨p, cap, hv, hc, hp⟩ := hs
  simp only [List.cons.injEq, and_true] at hv
  subst hv
  refine s_val h hw rfl hd (w' := w) ?_ k
  have hlt : ¬ (l.length < N) := by omega
  cases p with
  | none => have := hp.1; omega
  | some q =>
    obtain ⟨h1, _⟩ := hp
    obtain ⟨q1, q2, q3⟩ := q
    have h1 := h1 (by omega)
    simp only at h1
    subst h1
    simp only [execOp, h.ev hx]
    simp [Instr.arrayAt, run_underlying ht, hlt, sb, so]
theorem encL_take {α : Type} [Flat α] : ∀ (l : List α) (k : Nat), encL (l.take k) = (encL l).take (k * Flat.n α)
  | [], k => by simp [encL]
  | x :: l, 0 => by simp [encL]
  | x :: l, k + 1 => by
    rw [List.take_succ_cons, encL, encL, encL_take l k, Nat.add_mul, Nat.one_mul, Nat.add_comm]
    rw [← Flat.len x, List.take_length_add_append]
theorem sl_arr {α : Type} [Flat α] {S : Nat → Prop} {l : List α} {fp : List Nat} {N : Nat} {X : Vector α N} (hs : Rep.sat S w l [v] fp) (hX : toArr N l = some X) (h0 : 0 < N) : At w (sb v) (so v) (Flat.enc X) := by
  obtain ⟨hN, hl⟩ := toArr_some hX
  obtain ⟨p, cap, hv, hc, hp⟩ := hs
  simp only [List.cons.injEq, and_true] at hv
  subst hv
  cases p with
  | none => have := hp.1; omega
  | some q =>
    obtain ⟨h1, ecs, fpe, h2, h3, _⟩ := hp
    obtain ⟨rfl, _⟩ := flat_elems.1 h2
    have h1 := h1 (by omega)
    obtain ⟨q1, q2, q3⟩ := q
    simp only at h1
    subst h1
    show At w q1 q2 (encL X.toList)
    rw [hl, encL_take]
    intro i c hi
    refine h3 i c ?_
    rw [List.getElem?_take] at hi
    split at hi
    · exact hi
    · cases hi

/-! ### One's own slice, cut short -/
theorem Elems.takeF {α : Type} [Rep α] {S : Nat → Prop} {w : World} : ∀ {l : List α} {cs : List Value} {fp : List Nat} (k : Nat), Elems S w l cs fp → ∃ f g, fp = f ++ g ∧ Elems S w (l.take k) (cs.take (k * Rep.n α)) f
  | l, cs, fp, 0, h => ⟨[], fp, rfl, by simp [Elems]⟩
  | [], cs, fp, k + 1, h => by obtain ⟨rfl, rfl⟩ := h; exact ⟨[], [], rfl, by simp [Elems]⟩
  | x :: l, cs, fp, k + 1, h => by
    obtain ⟨c, cs', f, fp', rfl, rfl, h1, h2⟩ := h
    obtain ⟨f1, g1, rfl, h3⟩ := Elems.takeF k h2
    refine ⟨f ++ f1, g1, by simp, ?_⟩
    rw [List.take_succ_cons, Nat.add_mul, Nat.one_mul, Nat.add_comm, show Rep.n α + k * Rep.n α = c.length + k * Rep.n α by rw [Rep.len h1], List.take_length_add_append]
    exact ⟨c, _, f, f1, rfl, rfl, h1, h3⟩
theorem OwnSl.cut {α : Type} [Rep α] {S : Nat → Prop} {l r : List α} {fp : List Nat} {j : Int} (h : OwnSl S w l v fp) (hb : slc l 0 j = some r) : ∃ fp', OwnSl S w r (sliceV v (0 : Int).toNat j.toNat (Rep.n α)) fp' ∧ fp'.Sublist fp := by
  obtain ⟨⟨_, h1, h2⟩, rfl⟩ := slc_some hb
  obtain ⟨p, cap, rfl, hc, h⟩ := h
  have e0 : (0 : Int).toNat = 0 := rfl
  have hlen : ((l.take j.toNat).drop 0).length = j.toNat := by simp; omega
  rw [e0, List.drop_zero] at *
  rcases h with ⟨rfl, rfl, hp⟩ | ⟨b, o, ecs, fpe, rfl, k1, k2, rfl, k3⟩
  · have : j.toNat = 0 := by omega
    rw [this] at *
    refine ⟨[], ⟨p, 0, by simp [sliceV], by simp, .inl ⟨rfl, rfl, hp⟩⟩, List.nil_sublist _⟩
  · obtain ⟨f, g, rfl, k4⟩ := Elems.takeF j.toNat k1
    have hadd : (if cap = 0 then some (⟨b, o, none⟩ : Addr) else some ((⟨b, o, none⟩ : Addr).add (0 * Rep.n α))) = some ⟨b, o, none⟩ := by
      split
      · rfl
      · rw [Addr.add_lit]; simp
    refine ⟨b :: f, ⟨some ⟨b, o, none⟩, cap, ?_, by rw [hlen]; omega, .inr ⟨b, o, _, f, rfl, k4, fun i c hi => k2 i c ?_, rfl, k3⟩⟩, by simp⟩
    · simp only [sliceV, Option.map_some, hlen, Nat.sub_zero, hadd]
    · rw [List.getElem?_take] at hi
      split at hi
      · exact hi
      · cases hi
theorem M.cut {α : Type} [Rep α] {S : Nat → Prop} {l r : List α} {j : Int} (hM : M St w0 w (osl S l v :: its)) (hS : ∀ b, S b → St b) (hb : slc l 0 j = some r) : M St w0 w (osl S r (sliceV v (0 : Int).toNat j.toNat (Rep.n α)) :: its) := by
  refine hM.turn (new := [osl S r _]) rfl rfl rfl (Nat.le_refl _) ?_
  intro fp hfp _ hnd
  obtain ⟨fp', h1, h2⟩ := OwnSl.cut hfp hb
  exact ⟨fun _ _ _ => rfl, fp', ⟨fp', [], by simp, osl_loc hS, h1, rfl⟩, h2.nodup hnd, fun b hb => .inl (h2.subset hb)⟩

/-! ### The nil slice -/
theorem s_capNil {el : TypeId} (h : Env n a e) (hw : Goes ops ⟨some d, .call ⟨.builtin .cap, [x].toArray, [t].toArray⟩, ty, pos, af, g⟩ a) (hd : d < n)
    (hx : opv e x = some (.slice none 0 0)) (ht : P.underlying t = some (.slice el))
    (k : ∀ a, Env n a ((d, vI 0) :: e) → wpList P ops Q rest a w) : wpList P ops Q (⟨some d, .call ⟨.builtin .cap, [x].toArray, [t].toArray⟩, ty, pos, af, g⟩ :: rest) a w :=
  s_val h hw rfl hd (by
    simp only [execOp, resolve]
    simp [invoke, builtin, h.ev hx, Builtin.cap_, run_underlying ht, goInt]) k
theorem s_lenNil {el : TypeId} (h : Env n a e) (hw : Goes ops ⟨some d, .call ⟨.builtin .len, [x].toArray, [t].toArray⟩, ty, pos, af, g⟩ a) (hd : d < n)
    (hx : opv e x = some (.slice none 0 0)) (ht : P.underlying t = some (.slice el))
    (k : ∀ a, Env n a ((d, vI 0) :: e) → wpList P ops Q rest a w) : wpList P ops Q (⟨some d, .call ⟨.builtin .len, [x].toArray, [t].toArray⟩, ty, pos, af, g⟩ :: rest) a w :=
  s_len (l := ([] : List Int)) h hw hd hx ht (zsat_nil (S := NoB)) k
theorem s_sliceNil {el sz by_ : Nat} {z : List Value} {D : TypeDesc} {hi : Operand} {K : IntKind} (h : Env n a e) (hw : Goes ops ⟨some d, .slice t x none (some hi) none, ty, pos, af, g⟩ a) (hd : d < n)
    (hx : opv e x = some (.slice none 0 0)) (hhi : opv e hi = some (.int K 0)) (ht : P.underlying t = some (.slice el)) (he : Ty P el D sz by_ z)
    (k : ∀ a, Env n a ((d, .slice none 0 0) :: e) → wpList P ops Q rest a w) : wpList P ops Q (⟨some d, .slice t x none (some hi) none, ty, pos, af, g⟩ :: rest) a w :=
  s_slice (l := ([] : List Int)) (r := []) (vlo := none) (vhi := some (.int K 0)) (i := 0) (j := 0) h hw hd hx rfl (opvo_some hhi) rfl rfl ht he (zsat_nil (S := NoB)) rfl k
theorem nth_zeros (z : Array Value) (m : Nat) : (Builtin.zeroCells z m).toList = (List.replicate m z.toList).flatten := by
  have := made_list z.toList m
  rw [← this]
  simp [Builtin.zeroCells, madeCells]
/-- append(nil, make(..)...). -/
theorem s_appendZ {α : Type} [Rep α] {K : IntKind} {c : Int} {tn el : TypeId} {kn : IntKind} {D : TypeDesc} {by_ : Nat} {z : List Value} {zero : α} {l : List α}
    (h : Env n a e) (hM : M St w0 w its) (hw : Goes ops ⟨some d, .call ⟨.builtin .append, [x, y].toArray, [t, tn].toArray⟩, ty, pos, af, g⟩ a) (hd : d < n) (hx : opv e x = some (.slice none 0 0)) (hy : opv e y = some (.int K c))
    (ht : P.underlying t = some (.slice el)) (htn : P.underlying tn = some (.int kn)) (he : Ty P el D (Rep.n α) by_ z) (hzl : z.length = Rep.n α) (h0 : 0 < by_) (hn : 0 < Rep.n α) (hz : ∀ w, Rep.sat NoB w zero z []) (hb : mkS by_ zero c = some l)
    (k : ∀ v' w a, M St w0 w (osl NoB l v' :: its) → Env n a ((d, v') :: e) → wpList P ops Q rest a w) : wpList P ops Q (⟨some d, .call ⟨.builtin .append, [x, y].toArray, [t, tn].toArray⟩, ty, pos, af, g⟩ :: rest) a w := by
  unfold mkS at hb
  split at hb
  case isFalse => cases hb
  rename_i hc
  obtain ⟨hc0, hcb⟩ := hc
  simp only [Option.some.injEq] at hb
  subst hb
  obtain ⟨i, zv, hi, hsz, hby, hzz, hzc⟩ := he.get
  have hcb' : c ≤ 140737488355328 := by
    have : c * 1 ≤ c * by_ := Int.mul_le_mul_of_nonneg_left (by omega) hc0
    omega
  obtain ⟨m, rfl⟩ : ∃ m : Nat, c = m := ⟨c.toNat, by omega⟩
  rw [Int.toNat_natCast] at *
  have hmb : m * by_ ≤ 140737488355328 := by
    have : ((m * by_ : Nat) : Int) ≤ 140737488355328 := by rw [Int.natCast_mul]; exact hcb
    omega
  by_cases hm : m = 0
  · subst hm
    refine s_val h hw rfl hd (v := .slice none 0 0) (w' := w) ?_ fun a ha => k _ _ _ (M.nilS NoB noB hM) ha
    simp only [execOp, resolve]
    simp [invoke, builtin, h.ev hx, h.ev hy, Builtin.append_, run_underlying ht, run_underlying htn, sizeOf, typeInfo, hi, asInt, asIntOf, IntKind.wrap_i64]
  · have hr := Lib.run_append_nil_zeros (P := P) w t tn ty el i zv K kn ht htn hi hzz m (by omega) (by rw [hsz]; omega) (by omega) (by rw [hby]; omega)
    have hgc := grownCap_ge w m 0 el
    refine s_val h hw rfl hd (v := .slice (some ⟨w.heap.size, 0, none⟩) m (grownCap w m 0 el)) (w' := w.drew.alloc (.cells (Builtin.zeroCells zv.cells m ++ Builtin.zeroCells zv.cells (grownCap w m 0 el - m)) el)) (by simp only [execOp, resolve]; simp [invoke, builtin, h.ev hx, h.ev hy, hr]) fun a ha => k _ _ _ ?_ ha
    have hcells : Builtin.zeroCells zv.cells m ++ Builtin.zeroCells zv.cells (grownCap w m 0 el - m) = ((List.replicate m z).flatten ++ (List.replicate (grownCap w m 0 el - m) z).flatten).toArray := by
      apply Array.ext'
      rw [Array.toList_append, nth_zeros, nth_zeros, hzc]
    rw [hcells]
    have hnew := heap_alloc_new w.drew (.cells ((List.replicate m z).flatten ++ (List.replicate (grownCap w m 0 el - m) z).flatten).toArray el)
    have hat := At.of_heap hnew
    rw [At.append] at hat
    refine (hM.drew).add (new := [osl NoB (List.replicate m zero) _]) (Kept.alloc _ _) ⟨[w.heap.size], ⟨[w.heap.size], [], rfl, osl_loc (fun _ h => h), ⟨some ⟨w.heap.size, 0, none⟩, grownCap w m 0 el, by simp, by simpa using hgc, .inr ⟨w.heap.size, 0, _, [], rfl, elems_replicate (hz _) _, hat.1, rfl, ?_⟩⟩, rfl⟩, by simp, fun b hb => by simp at hb; subst hb; exact ⟨Nat.le_refl _, by simp⟩⟩
    refine ⟨_, el, (0, 0), hnew, ?_, by intro j _; simp⟩
    have e1 : ∀ q : Nat, ((List.replicate q z).flatten).length = q * Rep.n α := fun q => by simp [hzl]
    rw [List.size_toArray, List.length_append, e1, e1, ← Nat.add_mul, Nat.zero_add, show m + (grownCap w m 0 el - m) = grownCap w m 0 el by omega]
    exact Nat.le_refl _
end
/-! ### Shifts of whole numbers without a sign -/
theorem bU_shr (p q : Int) (h : 0 ≤ q) : shV .shr .u64 p q = some (vU (shrI p q)) := by simp [shV, Int.not_lt.2 h, shrI, IntKind.bits]
theorem bU_shl (p q : Int) (h : 0 ≤ q) : shV .shl .u64 p q = some (vU (wru (p * 2 ^ (min q.toNat 64)))) := by simp [shV, Int.not_lt.2 h, IntKind.bits]
/-! ### Elements that are only read, appended -/
section
variable {n : Nat} {a : Act} {e : List (Nat × Value)} {w w' : World} {P : Program} {ops : Array Oper} {rest : List Oper} {Q : Exit → Act → World → Prop}
variable {d : Nat} {ty t : TypeId} {pos : String} {af : Array Edge} {g : Option (Nat × Bool)} {x y : Operand} {v u : Value}
variable {St : Nat → Prop} {w0 : World} {its : List Item}
theorem s_appendS {α : Type} [Rep α] {S : Nat → Prop} {l m : List α} {el : TypeId} {D : TypeDesc} {by_ : Nat} {z : List Value}
    (h : Env n a e) (hM : M St w0 w (osl S l v :: its)) (hS : ∀ b, S b → St b) (hw : Goes ops ⟨some d, .call ⟨.builtin .append, [x, y].toArray, [t, t].toArray⟩, ty, pos, af, g⟩ a) (hd : d < n) (hx : opv e x = some v) (hy : opv e y = some u)
    (hu : Rep.sat S w m [u] []) (ht : P.underlying t = some (.slice el)) (he : Ty P el D (Rep.n α) by_ z) (hzl : z.length = Rep.n α) (h0 : 0 < by_) (hb : (l.length + m.length) * by_ ≤ 140737488355328)
    (k : ∀ v' w a, M St w0 w (osl S (l ++ m) v' :: its) → Env n a ((d, v') :: e) → wpList P ops Q rest a w) : wpList P ops Q (⟨some d, .call ⟨.builtin .append, [x, y].toArray, [t, t].toArray⟩, ty, pos, af, g⟩ :: rest) a w := by
  obtain ⟨fp, hfp, _⟩ := hM.head
  obtain ⟨v', w', hr, hos, htp, hout, hsz, _, _⟩ := run_app (ty := ty) hfp hu ht he hzl h0 hb
  refine s_val h hw rfl hd (v := v') (w' := w') (by simp only [execOp, resolve]; simp [invoke, builtin, h.ev hx, h.ev hy, hr]) fun a ha => k _ _ _ ?_ ha
  have hst := hM.st'
  refine hM.turn (new := [osl S (l ++ m) v']) hos htp hout hsz ?_
  intro fp hfp hlt hnd
  obtain ⟨v2, w2, hr2, _, _, _, _, hother, p, cap, hv2, hc, hres⟩ := run_app (ty := ty) hfp hu ht he hzl h0 hb
  rw [hr] at hr2
  simp only [Result.ok.injEq] at hr2
  obtain ⟨rfl, rfl⟩ := hr2
  refine ⟨fun b hb hb' => hother b hb' (fun h => absurd h hb), ?_⟩
  have hlen : l.length + m.length = (l ++ m).length := by simp
  rcases hres with ⟨rfl, rfl, hq⟩ | ⟨b, o, ecs, fpe, news, fqe, rfl, j1, j2, j3, j4, j5, j9, j6, j7, j8⟩
  · exact ⟨[], ⟨[], [], rfl, osl_loc hS, ⟨p, 0, by rw [hv2, hlen], by rw [← hlen]; exact hc, .inl ⟨rfl, rfl, hq⟩⟩, rfl⟩, List.nodup_nil, fun b hb => by cases hb⟩
  · obtain rfl : fqe = [] := List.eq_nil_of_sublist_nil j4
    have hbfpe : b ∉ fpe := by
      intro hb
      rcases j8 with hg1 | j8
      · rw [hg1] at hnd; exact (List.nodup_cons.1 hnd).1 hb
      · have := (hlt b (j5.subset hb)).2; omega
    have hkeep : ∀ c, (c ∈ fpe ∨ S c) → w'.heap[c]? = w.heap[c]? := by
      intro c hc'
      refine hother c ?_ ?_
      · rcases hc' with h | h
        · exact (hlt c (j5.subset h)).2
        · exact hst c (hS c h)
      · rintro hcg rfl
        rcases hc' with h | h
        · rcases j9 with hf | hf
          · rw [hf] at hcg; cases hcg
          · rw [hf] at hnd; exact (List.nodup_cons.1 hnd).1 h
        · exact (hlt _ hcg).1 (hS _ h)
    refine ⟨b :: fpe, ⟨b :: fpe, [], by simp, osl_loc hS, ⟨some ⟨b, o, none⟩, cap, by rw [hv2, hlen], by rw [← hlen]; exact hc, .inr ⟨b, o, ecs ++ news, fpe, rfl, ?_, j6, rfl, j7⟩⟩, rfl⟩, List.nodup_cons.2 ⟨hbfpe, j5.nodup hnd⟩, fun c hc' => ?_⟩
    · have := Elems.append (j1.loc (w' := w') hkeep) (j2.loc (w' := w') (fun c hc => hkeep c (by rcases hc with h | h; cases h; exact .inr h)))
      simpa using this
    · rcases List.mem_cons.1 hc' with rfl | hc'
      · rcases j8 with hf | j8
        · exact .inl (by rw [hf]; simp)
        · exact .inr j8
      · exact .inl (j5.subset hc')
theorem SepR.locs : ∀ {l : List Item} {fp : List Nat}, SepR St w l fp → ∀ it ∈ l, Loc St it
  | [], _, _, _, h => by cases h
  | i :: l, _, ⟨_, _, _, h1, _, h2⟩, it, h => by
    rcases List.mem_cons.1 h with rfl | h
    · exact h1
    · exact SepR.locs h2 it h
theorem SepR.reloc2 {St' : Nat → Prop} : ∀ {l : List Item} {fp : List Nat}, SepR St' w l fp → (∀ it ∈ l, Loc St it) → SepR St w l fp
  | [], _, h, _ => h
  | i :: l, _, ⟨f, f', e, _, h1, h2⟩, hl => ⟨f, f', e, hl i (by simp), h1, SepR.reloc2 h2 fun it h => hl it (by simp [h])⟩
/-- What an item holds is only read for a while: its blocks count among those that do not turn. -/
theorem M.freeze {α : Type} [Rep α] {S : Nat → Prop} {x : α} {cs : List Value} (tk : List Item) {rest : List Item} (h : M St w0 w (own S x cs :: (tk ++ rest))) (hS : ∀ b, S b → St b) :
    ∃ St', (∀ b, St b → St' b) ∧ Rep.sat St' w x cs [] ∧ M St' w w (tk ++ rest) ∧ ∀ w' new, LocN new → M St' w w' (new ++ rest) → M St w0 w' (own S x cs :: (new ++ rest)) := by
  obtain ⟨hk, hs, fp, ⟨f, g, rfl, hl, h1, h2⟩, hnd, hlt⟩ := h
  obtain ⟨n1, n2, n3⟩ := List.nodup_append.1 hnd
  refine ⟨fun b => St b ∨ b ∈ f, fun b hb => .inl hb, Rep.ro h1 (fun b hb => hb.elim .inr fun h => .inl (hS b h)), ⟨Kept.refl _ _, ?_, g, h2.mono (fun b hb => .inl hb), n2, fun b hb => ⟨?_, (hlt b (by simp [hb])).2⟩⟩, ?_⟩
  · rintro b (hb | hb)
    · exact Nat.lt_of_lt_of_le (hs b hb) hk.size
    · exact (hlt b (by simp [hb])).2
  · rintro (hb' | hb')
    · exact (hlt b (by simp [hb])).1 hb'
    · exact n3 b hb' b hb rfl
  · rintro w' new hnew ⟨k1, k2, gp, k3, k4, k5⟩
    refine ⟨hk.trans (k1.mono fun b hb => .inl hb), hs, f ++ gp, ?_, ?_, ?_⟩
    · refine ⟨f, gp, rfl, own_loc hS, Rep.loc h1 (fun b hb => k1.block b (hb.elim .inr fun h => .inl (hS b h))), k3.reloc2 fun it hit => ?_⟩
      rcases List.mem_append.1 hit with hit | hit
      · exact (hnew it hit).mono noB
      · exact h2.locs it (List.mem_append_right _ hit)
    · refine List.nodup_append.2 ⟨n1, k4, fun a ha b hb e => ?_⟩
      subst e
      exact (k5 a hb).1 (.inr ha)
    · intro b hb
      rcases List.mem_append.1 hb with hb | hb
      · exact ⟨(hlt b (by simp [hb])).1, Nat.lt_of_lt_of_le (hlt b (by simp [hb])).2 k1.size⟩
      · exact ⟨fun h => (k5 b hb).1 (.inl h), (k5 b hb).2⟩
/-- What came in is read within more blocks, from a later world on. -/
theorem M.rdw {β : Type} [Rep β] {St' : Nat → Prop} {x : β} {cs : List Value} (h : M St w0 w its) (hx : Rep.sat St w0 x cs []) (hs : ∀ b, St b → St' b) : Rep.sat St' w x cs [] :=
  Rep.ro (h.rd hx) fun b hb => hb.elim (fun h => by cases h) (hs b)
/-! ### Arrays of slices, written out and looked into -/
theorem fill_lit {vs z : List Value} (hz : z.length = vs.length) (hc : ∀ v ∈ vs, v.cells.toList = [v]) : FillA 1 z (numbered 0 vs) vs := by
  unfold FillA
  rw [fill_all 1 _ (fun _ => rfl) vs 0 z.toArray (fun v hv => by have := congrArg List.length (hc v hv); simpa using this) (by simp [hz])]
  congr 2
  rw [Nat.zero_mul, flat1 hc]
  exact splice_all hz.symm
def LitSat {α : Type} [Rep α] (S : Nat → Prop) (w : World) : List α → List Value → Prop
  | [], [] => True
  | x :: l, v :: vs => Rep.sat S w x [v] [] ∧ LitSat S w l vs
  | _, _ => False
theorem litidx {α : Type} [Rep α] {S : Nat → Prop} {w : World} : ∀ {l : List α} {vs : List Value} {i : Nat} {x : α}, LitSat S w l vs → l[i]? = some x → ∃ u, vs[i]? = some u ∧ Rep.sat S w x [u] []
  | x :: l, v :: vs, 0, y, h, hi => ⟨v, rfl, by simp only [List.getElem?_cons_zero, Option.some.injEq] at hi; subst hi; exact h.1⟩
  | x :: l, v :: vs, i + 1, y, h, hi => litidx (l := l) (vs := vs) h.2 hi
  | [], vs, i, y, _, hi => by simp at hi
  | _ :: _, [], _, _, h, _ => h.elim
theorem s_indexL {N el by_ : Nat} {z : List Value} {De : TypeDesc} {K : IntKind} {i : Int} {vs : List Value} (h : Env n a e) (hw : Goes ops ⟨some d, .index t x y, ty, pos, af, g⟩ a) (hd : d < n)
    (hx : opv e x = some (.agg vs.toArray)) (hy : opv e y = some (.int K i)) (ht : P.underlying t = some (.array N el)) (he : Ty P el De 1 by_ z) (hD : isAggD De = false) (hi : 0 ≤ i ∧ i < N) (hu : vs[i.toNat]? = some u)
    (k : ∀ a, Env n a ((d, u) :: e) → wpList P ops Q rest a w) : wpList P ops Q (⟨some d, .index t x y, ty, pos, af, g⟩ :: rest) a w :=
  s_val h hw rfl hd (by
    simp only [execOp, h.ev hx, h.ev hy]
    simp [Instr.index, asIntOf, run_underlying ht, hi, run_sizeOf he, part, run_isAgg he, hD, hu]) k
end
end Go.Proofs.YtkcaldgoomphaaaDoor
