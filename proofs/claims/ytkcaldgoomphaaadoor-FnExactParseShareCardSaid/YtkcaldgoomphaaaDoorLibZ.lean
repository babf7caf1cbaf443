/- Walk library: slices.Delete and slices.Insert, over slices of one's own. -/
import Derived.Test.YtkcaldgoomphaaaDoorLibY
import Derived.Lib.SliceRun
import Derived.Lib.AppendZerosOnto
import Derived.Lib.Overlaps
namespace Go.Proofs.YtkcaldgoomphaaaDoor
open Go
def delF {α : Type} (l : List α) (i j : Int) : Option (List α) := if 0 ≤ i ∧ i ≤ j ∧ j ≤ l.length then some (l.take i.toNat ++ l.drop j.toNat) else none
theorem delF_some {α : Type} {l r : List α} {i j : Int} (h : delF l i j = some r) : (0 ≤ i ∧ i ≤ j ∧ j ≤ l.length) ∧ r = l.take i.toNat ++ l.drop j.toNat := by
  unfold delF at h
  split at h
  · rename_i h0; exact ⟨h0, (Option.some.inj h).symm⟩
  · cases h
theorem encL_drop {α : Type} [Flat α] (l : List α) (k : Nat) : encL (l.drop k) = (encL l).drop (k * Flat.n α) := by
  by_cases h : k ≤ l.length
  · have e2 : encL l = encL (l.take k) ++ encL (l.drop k) := by rw [← encL_append, List.take_append_drop]
    have e3 : (encL (l.take k)).length = k * Flat.n α := by rw [encL_len, List.length_take]; congr 1; omega
    rw [e2, List.drop_left' e3]
  · rw [List.drop_eq_nil_of_le (by omega), List.drop_eq_nil_of_le (by rw [encL_len]; exact Nat.mul_le_mul_right _ (by omega))]; rfl
theorem eqI {i j : Nat} (h : ((i : Int) == (j : Int)) = true) : i = j := by have := eq_of_beq h; omega
theorem neI {i j : Nat} (h : ((i : Int) == (j : Int)) = false) : ¬ i = j := fun e => by subst e; simp at h
section
variable {P : Program} {St : Nat → Prop} {w0 w : World} {its : List Item} {n : Nat} {a : Act} {e : List (Nat × Value)} {ops : Array Oper} {rest : List Oper} {Q : Exit → Act → World → Prop} {v : Value} {x y : Operand} {d t ty : TypeId} {pos : String} {af : Array Edge} {g : Option (Nat × Bool)}
/-- 'append' in place. -/
theorem run_app_in {el i m cap capu N by_ b o : Nat} {D : TypeDesc} {z : List Value} {q : Option Addr} {news : List Value} {c : Array Value} {T : TypeId} {fz : Nat × Nat}
    (ht : P.underlying t = some (.slice el)) (he : Ty P el D N by_ z) (hheap : w.heap[b]? = some (.cells c T fz)) (hfz : ∀ i, i < c.size → ¬ (fz.1 ≤ i ∧ i < fz.2)) (hroom : i + m ≤ cap) (hsz : o + cap * N ≤ c.size) (hnl : news.length = m * N)
    (hsrc : m = 0 ∨ ∃ A : Addr, q = some A ∧ ∀ j u, news[j]? = some u → w.cell? (A.add j) = some u) (h1 : ∀ u ∈ news, u.oneCell' = true) :
    (Builtin.append_ #[t, t] ty #[.slice (some ⟨b, o, none⟩) i cap, .slice q m capu]).run P w = .ok (.slice (some ⟨b, o, none⟩) (i + m) cap) (w.setCells b (o + i * N) news) := by
  obtain ⟨inf, zv, hi, hsz2, hby, hz, hzc⟩ := he.get
  have hfit : o + i * N + news.length ≤ c.size := by
    have : (i + m) * N ≤ cap * N := Nat.mul_le_mul_right _ hroom
    rw [Nat.add_mul] at this
    rw [hnl]; omega
  have hst := run_stores (P := P) (o := o + i * N) (vs := news) hheap hfit hfz h1
  subst hsz2
  have hf : (Builtin.firstCells inf.size m (.slice q m capu)).run P w = .ok news.toArray w := by
    rcases hsrc with rfl | ⟨A, rfl, hA⟩
    · have : news = [] := List.eq_nil_of_length_eq_zero (by simpa using hnl)
      subst this
      have hl : ∀ (x : Addr), (loadCells x 0).run P w = .ok #[] w := fun x => by simpa using run_loadCells_list (P := P) w x [] (by simp)
      cases q <;> simp [Builtin.firstCells, hl]
    · exact run_firstCells_some (P := P) w inf.size m A m capu news hnl hA
  simp [Builtin.append_, run_underlying ht, sizeOf, typeInfo, hi, Builtin.lenOf, hroom, hf, Addr.add_lit, hst]
/-- The parts of a slice of one's own that has room. -/
theorem own_parts {α : Type} [Flat α] {l : List α} (hM : M St w0 w (osl NoB l v :: its)) (hne : 0 < l.length) : ∃ b o cap c T fz, v = .slice (some ⟨b, o, none⟩) l.length cap ∧ l.length ≤ cap ∧ At w b o (encL l) ∧ w.heap[b]? = some (.cells c T fz) ∧ o + cap * Flat.n α ≤ c.size ∧ ∀ i, i < c.size → ¬ (fz.1 ≤ i ∧ i < fz.2) := by
  obtain ⟨fp, ⟨p, cap, rfl, hcap, hO⟩, _⟩ := hM.head
  rcases hO with ⟨rfl, _⟩ | ⟨b, o, ecs, fpe, rfl, k1, k2, rfl, c, T, fz, k3, k4, k5⟩
  · omega
  obtain ⟨rfl, rfl⟩ := flat_elems.1 k1
  exact ⟨b, o, cap, c, T, fz, rfl, hcap, k2, k3, k4, k5⟩
theorem sliceV_some {b o len cap lo hi N : Nat} (h : lo < cap) : sliceV (.slice (some ⟨b, o, none⟩) len cap) lo hi N = .slice (some ⟨b, o + lo * N, none⟩) (hi - lo) (cap - lo) := by
  simp only [sliceV, show ¬ cap = lo by omega, if_false, Option.map_some, Addr.add_lit]
theorem At.dropE {α : Type} [Flat α] {l : List α} {b o : Nat} (h : At w b o (encL l)) (j : Nat) : At w b (o + j * Flat.n α) (encL (l.drop j)) := by
  rw [encL_drop]
  intro i u hu
  rw [List.getElem?_drop] at hu
  have := h _ _ hu
  rwa [← Nat.add_assoc] at this
/-- append(s[:i], s[j:]...). -/
theorem s_delApp {α : Type} [Flat α] {l : List α} {i j el by_ : Nat} {D : TypeDesc} {z : List Value} (h : Env n a e) (hM : M St w0 w (osl NoB l v :: its)) (hw : Goes ops ⟨some d, .call ⟨.builtin .append, [x, y].toArray, [t, t].toArray⟩, ty, pos, af, g⟩ a) (hd : d < n)
    (hx : opv e x = some (sliceV v 0 i (Flat.n α))) (hy : opv e y = some (sliceV v j l.length (Flat.n α))) (ht : P.underlying t = some (.slice el)) (he : Ty P el D (Flat.n α) by_ z) (hij : i < j) (hj : j ≤ l.length)
    (k : ∀ w a, M St w0 w (osl NoB (l.take i ++ (l.drop j ++ l.drop (l.length - (j - i)))) v :: its) → Env n a ((d, sliceV v 0 (i + (l.length - j)) (Flat.n α)) :: e) → wpList P ops Q rest a w) : wpList P ops Q (⟨some d, .call ⟨.builtin .append, [x, y].toArray, [t, t].toArray⟩, ty, pos, af, g⟩ :: rest) a w := by
  obtain ⟨b, o, cap, c, T, fz, rfl, hcap, hA, hheap, hsz, hfz⟩ := own_parts hM (by omega)
  have hel := encL_len l
  have hnl : (encL (l.drop j)).length = (l.length - j) * Flat.n α := by rw [encL_len, List.length_drop]
  have hmul : i * Flat.n α + (l.length - j) * Flat.n α = (l.length - (j - i)) * Flat.n α := by rw [← Nat.add_mul]; congr 1; omega
  have hmul2 : (l.length - (j - i)) * Flat.n α ≤ l.length * Flat.n α := Nat.mul_le_mul_right _ (by omega)
  have hM' := M.setRow P (l' := l.take i ++ (l.drop j ++ l.drop (l.length - (j - i)))) (k := i * Flat.n α) (seg := encL (l.drop j)) hM (by simp; omega) (by
    rw [encL_append, encL_append, encL_take, encL_drop l (l.length - (j - i))]
    unfold splice
    rw [hnl, hmul]) (by rw [hnl, hel]; omega) (by omega) (encL_cell _)
  rw [sliceV_some (by omega)] at hx
  simp only [Nat.zero_mul, Nat.add_zero, Nat.sub_zero] at hx
  have hr : (Builtin.append_ #[t, t] ty #[.slice (some ⟨b, o, none⟩) i cap, sliceV (.slice (some ⟨b, o, none⟩) l.length cap) j l.length (Flat.n α)]).run P w = .ok (.slice (some ⟨b, o, none⟩) (i + (l.length - j)) cap) (w.setCells b (o + i * Flat.n α) (encL (l.drop j))) := by
    simp only [sliceV]
    refine run_app_in ht he hheap hfz (by omega) hsz hnl ?_ (encL_cell _)
    by_cases hc : cap = j
    · exact .inl (by omega)
    · rw [if_neg hc]
      exact .inr ⟨_, rfl, fun q u hu => by show w.cell? ((Addr.add ⟨b, o, none⟩ (j * Flat.n α)).add q) = some u; rw [Addr.add_lit, Addr.add_lit]; exact hA.dropE j q u hu⟩
  refine s_val h hw rfl hd (v := .slice (some ⟨b, o, none⟩) (i + (l.length - j)) cap) (w' := w.setCells b (o + i * Flat.n α) (encL (l.drop j))) ?_ fun a ha => k _ _ hM' ?_
  · simp only [execOp, resolve]
    simp [invoke, builtin, h.ev hx, h.ev hy, hr]
  · rw [sliceV_some (by omega)]
    simpa using ha
/-- s[k:m] of what was cut short. -/
theorem s_sliceUp {α : Type} [Flat α] {l : List α} {i m el by_ : Nat} {D : TypeDesc} {z : List Value} {lo hi : Operand} {K K' : IntKind} (h : Env n a e) (hM : M St w0 w (osl NoB l v :: its)) (hw : Goes ops ⟨some d, .slice t x (some lo) (some hi) none, ty, pos, af, g⟩ a) (hd : d < n)
    (hx : opv e x = some (sliceV v 0 i (Flat.n α))) (hlo : opv e lo = some (.int K i)) (hhi : opv e hi = some (.int K' m)) (ht : P.underlying t = some (.slice el)) (he : Ty P el D (Flat.n α) by_ z) (hi1 : i < m) (hm : m ≤ l.length)
    (k : ∀ a, Env n a ((d, sliceV v i m (Flat.n α)) :: e) → wpList P ops Q rest a w) : wpList P ops Q (⟨some d, .slice t x (some lo) (some hi) none, ty, pos, af, g⟩ :: rest) a w := by
  obtain ⟨b, o, cap, c, T, fz, rfl, hcap, hA, hheap, hsz, hfz⟩ := own_parts hM (by omega)
  rw [sliceV_some (by omega)] at hx
  simp only [Nat.zero_mul, Nat.add_zero, Nat.sub_zero] at hx
  refine s_val h hw rfl hd (w' := w) ?_ k
  simp only [execOp, h.ev hx, Option.map_some, h.ev hlo, h.ev hhi]
  have hsize := run_sizeOf he w
  have hq : ((m : Int) ≤ (cap : Int)) := by omega
  have hq2 : ((i : Int) ≤ (m : Int)) := by omega
  have hq3 : m ≤ cap := by omega
  have hq4 : i ≤ m := by omega
  simp [Instr.sliceAt, run_underlying ht, Instr.slice, Instr.sliceBounds, Instr.sliceBound, asIntOf, hq, hq2, hq3, hq4, hsize, sliceV]
/-- s[i:j:len(s)], looked at only. -/
theorem s_slice3 {α : Type} [Rep α] {S : Nat → Prop} {l : List α} {fp : List Nat} {i j el sz by_ : Nat} {D : TypeDesc} {z : List Value} {lo hi mx : Operand} {K K' K2 : IntKind} (h : Env n a e) (hw : Goes ops ⟨some d, .slice t x (some lo) (some hi) (some mx), ty, pos, af, g⟩ a) (hd : d < n)
    (hx : opv e x = some v) (hlo : opv e lo = some (.int K i)) (hhi : opv e hi = some (.int K' j)) (hmx : opv e mx = some (.int K2 l.length)) (ht : P.underlying t = some (.slice el)) (he : Ty P el D sz by_ z) (hs : Rep.sat S w l [v] fp) (hij : i ≤ j) (hj : j ≤ l.length)
    (k : ∀ u a, Env n a ((d, u) :: e) → wpList P ops Q rest a w) : wpList P ops Q (⟨some d, .slice t x (some lo) (some hi) (some mx), ty, pos, af, g⟩ :: rest) a w := by
  obtain ⟨p, cap, hv, hc, hp⟩ := hs
  simp only [List.cons.injEq, and_true] at hv
  subst hv
  refine s_val h hw rfl hd (v := .slice (if l.length = i then p else p.map (·.add (i * sz))) (j - i) (l.length - i)) (w' := w) ?_ (k _)
  simp only [execOp, h.ev hx, Option.map_some, h.ev hlo, h.ev hhi, h.ev hmx]
  have hsize := run_sizeOf he w
  have hq : ((l.length : Int) ≤ (cap : Int)) := by omega
  have hq2 : ((i : Int) ≤ (j : Int)) := by omega
  have hq3 : ((j : Int) ≤ (l.length : Int)) := by omega
  simp [Instr.sliceAt, run_underlying ht, Instr.slice, Instr.sliceBounds, Instr.sliceBound, asIntOf, hc, hij, hj, hq, hq2, hq3, hsize]
theorem run_clearN {el b o m c : Nat} {zv : Value} (ht : P.underlying t = some (.slice el)) (hv : ∀ w, (zeroValue el).run P w = .ok zv w) (h1 : ∀ u ∈ zv.cells.toList, u.oneCell' = true) (hm : 0 < m) {cs : Array Value} {T : TypeId} {fz : Nat × Nat} (hheap : w.heap[b]? = some (.cells cs T fz)) (hfz : ∀ i, i < cs.size → ¬ (fz.1 ≤ i ∧ i < fz.2)) (hsz : o + m * zv.cells.size ≤ cs.size) :
    (Builtin.clear_ #[t] ty #[.slice (some ⟨b, o, none⟩) m c]).run P w = .ok (.tuple #[]) (w.setCells b o (List.replicate m zv.cells.toList).flatten) := by
  have hst := run_stores (P := P) (o := o) (vs := (List.replicate m zv.cells.toList).flatten) hheap (by simpa using hsz) hfz (by
    intro u hu
    obtain ⟨l, hl, hu⟩ := List.mem_flatten.1 hu
    rw [List.eq_of_mem_replicate hl] at hu
    exact h1 u hu)
  obtain ⟨m, rfl⟩ : ∃ k, m = k + 1 := ⟨m - 1, by omega⟩
  simp [Builtin.clear_, run_underlying ht, hv, nth_zeros, hst]
theorem encL_repN {α : Type} [Flat α] {z : α} : ∀ m, encL (List.replicate m z) = (List.replicate m (Flat.enc z)).flatten
  | 0 => rfl
  | m + 1 => by rw [List.replicate_succ, List.replicate_succ, List.flatten_cons, ← encL_repN m]; rfl
/-- clear(s[i:]) of a slice of one's own. -/
theorem s_clearN {α : Type} [Flat α] {l : List α} {zero : α} {zv : Value} {el i : Nat} (h : Env n a e) (hM : M St w0 w (osl NoB l v :: its)) (hw : Goes ops ⟨none, .call ⟨.builtin .clear, [x].toArray, [t].toArray⟩, ty, pos, af, g⟩ a)
    (hx : opv e x = some (sliceV v i l.length (Flat.n α))) (ht : P.underlying t = some (.slice el)) (hz : ∀ w, (zeroValue el).run P w = .ok zv w) (hzv : Flat.enc zero = zv.cells.toList) (hi : i < l.length)
    (k : ∀ w a, M St w0 w (osl NoB (l.take i ++ List.replicate (l.length - i) zero) v :: its) → Env n a e → wpList P ops Q rest a w) : wpList P ops Q (⟨none, .call ⟨.builtin .clear, [x].toArray, [t].toArray⟩, ty, pos, af, g⟩ :: rest) a w := by
  obtain ⟨b, o, cap, c, T, fz, rfl, hcap, hA, hheap, hsz, hfz⟩ := own_parts hM (by omega)
  have hel := encL_len l
  have hzn : zv.cells.size = Flat.n α := by rw [← Array.length_toList, ← hzv, Flat.len]
  have hnl : (List.replicate (l.length - i) zv.cells.toList).flatten.length = (l.length - i) * Flat.n α := by simp [hzn]
  have hmul : i * Flat.n α + (l.length - i) * Flat.n α = l.length * Flat.n α := by rw [← Nat.add_mul]; congr 1; omega
  have hmul2 : l.length * Flat.n α ≤ cap * Flat.n α := Nat.mul_le_mul_right _ hcap
  have h1 : ∀ u ∈ zv.cells.toList, u.oneCell' = true := by rw [← hzv]; exact Flat.cell _
  have hM' := M.setRow P (l' := l.take i ++ List.replicate (l.length - i) zero) (k := i * Flat.n α) (seg := (List.replicate (l.length - i) zv.cells.toList).flatten) hM (by simp; omega) (by
    rw [encL_append, encL_take, encL_repN, hzv]
    unfold splice
    rw [hnl, hmul, List.drop_eq_nil_of_le (Nat.le_of_eq hel), List.append_nil]) (by rw [hnl, hel]; omega) (by omega) (by
    intro u hu
    obtain ⟨l, hl, hu⟩ := List.mem_flatten.1 hu
    rw [List.eq_of_mem_replicate hl] at hu
    exact h1 u hu)
  rw [sliceV_some (by omega)] at hx
  have hrun := run_clearN (w := w) (ty := ty) (c := cap - i) ht hz h1 (by omega : 0 < l.length - i) hheap hfz (o := o + i * Flat.n α) (by rw [hzn]; omega)
  have hr2 : (execOp a.eval ⟨none, .call ⟨.builtin .clear, [x].toArray, [t].toArray⟩, ty, pos, af, g⟩).run P w = .ok (.value (.tuple #[])) (w.setCells b (o + i * Flat.n α) (List.replicate (l.length - i) zv.cells.toList).flatten) := by
    simp only [execOp, resolve]
    simp [invoke, builtin, h.ev hx, hrun, Result.andThen]
  unfold wpList
  rw [if_pos hw]
  refine .inl ?_
  unfold Oper.wp
  rw [hr2, Oper.upon_value]
  exact k _ _ hM' h
/-- What is left of a slice that something was taken out of. -/
theorem M.delCut {α : Type} [Flat α] {l m : List α} {i j : Nat} {q : List α} (hM : M St w0 w (osl NoB ((l.take i ++ (l.drop j ++ m)).take (i + (l.length - j)) ++ q) v :: its)) (hij : i ≤ j) (hj : j ≤ l.length) (hq : m.length = j - i) :
    M St w0 w (osl NoB (l.take i ++ l.drop j) (sliceV v 0 (i + (l.length - j)) (Flat.n α)) :: its) := by
  have e : (l.take i ++ (l.drop j ++ m)).take (i + (l.length - j)) = l.take i ++ l.drop j := by
    rw [← List.append_assoc, List.take_left' (by simp; omega)]
  rw [e] at hM
  have := hM.cut noB (r := l.take i ++ l.drop j) (j := ((i + (l.length - j) : Nat) : Int)) (by
    have : (0 : Int) ≤ 0 ∧ (0 : Int) ≤ ((i + (l.length - j) : Nat) : Int) ∧ ((i + (l.length - j) : Nat) : Int) ≤ ((l.take i ++ l.drop j) ++ q).length := by simp; omega
    unfold slc
    rw [if_pos this]
    simp only [Int.toNat_natCast, Int.toNat_zero, List.drop_zero]
    rw [List.take_left' (by simp; omega)])
  exact this
theorem Ty.zero {D : TypeDesc} {sz by_ : Nat} {z : List Value} (h : Ty P t D sz by_ z) : ∃ v, (∀ w, (zeroValue t).run P w = .ok v w) ∧ v.cells.toList = z := by
  obtain ⟨i, v, h1, h2, _, h3, h4⟩ := h.get
  exact ⟨v, fun w => by simp [zeroValue, typeInfo, h1, h3], h4⟩
/-- clear(s[i:]), whatever is behind. -/
theorem s_clearO {N el i by_ : Nat} {l : List (Opq N)} {D : TypeDesc} {z : List Value} (h : Env n a e) (hM : M St w0 w (osl NoB l v :: its)) (hw : Goes ops ⟨none, .call ⟨.builtin .clear, [x].toArray, [t].toArray⟩, ty, pos, af, g⟩ a)
    (hx : opv e x = some (sliceV v i l.length N)) (ht : P.underlying t = some (.slice el)) (he : Ty P el D N by_ z) (hzl : z.length = N) (hz1 : z.all (·.oneCell') = true) (hi : i < l.length)
    (k : ∀ (q : List (Opq N)) w a, M St w0 w (osl NoB (l.take i ++ q) v :: its) → Env n a e → wpList P ops Q rest a w) : wpList P ops Q (⟨none, .call ⟨.builtin .clear, [x].toArray, [t].toArray⟩, ty, pos, af, g⟩ :: rest) a w := by
  obtain ⟨zv, h1, h2⟩ := he.zero
  exact s_clearN (zero := (⟨z, hzl, fun u hu => List.all_eq_true.1 hz1 u hu⟩ : Opq N)) h hM hw hx ht h1 h2.symm hi (k _)
/-- len of what was cut short. -/
theorem s_lenCut {α : Type} [Flat α] {l : List α} {el k : Nat} (h : Env n a e) (hM : M St w0 w (osl NoB l v :: its)) (hw : Goes ops ⟨some d, .call ⟨.builtin .len, [x].toArray, [t].toArray⟩, ty, pos, af, g⟩ a) (hd : d < n)
    (hx : opv e x = some (sliceV v 0 k (Flat.n α))) (ht : P.underlying t = some (.slice el)) (hk : k ≤ l.length)
    (kk : ∀ a, Env n a ((d, vI (k : Int)) :: e) → wpList P ops Q rest a w) : wpList P ops Q (⟨some d, .call ⟨.builtin .len, [x].toArray, [t].toArray⟩, ty, pos, af, g⟩ :: rest) a w := by
  refine s_len (l := l.take k) h hw hd hx ht (ro_slice (lo := 0) (hi := (k : Int)) (hM.sl (pre := []) noB) (by
    unfold slc
    rw [if_pos (by omega)]
    simp)) fun a hE => kk a (by simpa [Nat.min_eq_left hk] using hE)
/-- The contract of slices.Delete, from headers to elements. -/
theorem del_wrap {α : Type} [Rep α] {K : Nat} {W : World} {l r : List α} {p1 p2 : Int} (hd : ∀ {its : List Item} {hs : List (Opq (Rep.n α))} {i j : Nat}, M St W w (osl NoB hs v :: its) → i ≤ j → j ≤ hs.length →
      Calls P K [v, vI (i : Int), vI (j : Int)].toArray w (fun en w' => ∃ y, en = .returned y ∧ M St W w' (osl NoB (hs.take i ++ hs.drop j) y :: its)))
    (hM : M St W w (osl NoB l v :: its)) (hF : delF l p1 p2 = some r) : Calls P K [v, vI p1, vI p2].toArray w (fun en w' => ∃ u, en = .returned u ∧ ∃ y, u = y ∧ M St W w' (osl NoB r y :: its)) := by
  obtain ⟨⟨h0, h1, h2⟩, rfl⟩ := delF_some hF
  obtain ⟨i, rfl⟩ : ∃ i : Nat, p1 = i := ⟨p1.toNat, by omega⟩
  obtain ⟨j, rfl⟩ : ∃ j : Nat, p2 = j := ⟨p2.toNat, by omega⟩
  obtain ⟨hs, hl, hM⟩ := hM.toHdr noB
  refine (hd hM (by omega) (by omega)).mono ?_
  rintro en w' ⟨y, rfl, hM⟩
  refine ⟨y, rfl, y, rfl, ?_⟩
  have hM := ((hM.pull (pre := [_])).dropEls noB i j (by omega)).pull (pre := [_])
  exact M.ofHdr (α := α) hM noB
end
/-! ### slices.Insert of one element -/
def insF {α : Type} (by_ : Nat) (l : List α) (i : Int) (m : List α) : Option (List α) := if 0 ≤ i ∧ i ≤ l.length ∧ m.length = 1 ∧ (l.length + 1) * by_ ≤ 140737488355328 then some (l.take i.toNat ++ (m ++ l.drop i.toNat)) else none
theorem insF_some {α : Type} {by_ : Nat} {l m r : List α} {i : Int} (h : insF by_ l i m = some r) : (0 ≤ i ∧ i ≤ l.length ∧ m.length = 1 ∧ (l.length + 1) * by_ ≤ 140737488355328) ∧ r = l.take i.toNat ++ (m ++ l.drop i.toNat) := by
  unfold insF at h
  split at h
  · rename_i h0; exact ⟨h0, (Option.some.inj h).symm⟩
  · cases h
section
variable {P : Program} {St : Nat → Prop} {w0 w : World} {its : List Item} {n : Nat} {a : Act} {e : List (Nat × Value)} {ops : Array Oper} {rest : List Oper} {Q : Exit → Act → World → Prop} {v u : Value} {x y : Operand} {d t ty : TypeId} {pos : String} {af : Array Edge} {g : Option (Nat × Bool)}
theorem s_capS {el len cap : Nat} {p : Option Addr} (h : Env n a e) (hw : Goes ops ⟨some d, .call ⟨.builtin .cap, [x].toArray, [t].toArray⟩, ty, pos, af, g⟩ a) (hd : d < n) (hx : opv e x = some (.slice p len cap)) (ht : P.underlying t = some (.slice el))
    (k : ∀ a, Env n a ((d, vI (cap : Int)) :: e) → wpList P ops Q rest a w) : wpList P ops Q (⟨some d, .call ⟨.builtin .cap, [x].toArray, [t].toArray⟩, ty, pos, af, g⟩ :: rest) a w :=
  s_val h hw rfl hd (by
    simp only [execOp, resolve]
    simp [invoke, builtin, h.ev hx, Builtin.cap_, run_underlying ht, goInt]) k
theorem s_sliceLo {el len cap b o i sz by_ : Nat} {D : TypeDesc} {z : List Value} {lo : Operand} {K : IntKind} (h : Env n a e) (hw : Goes ops ⟨some d, .slice t x (some lo) none none, ty, pos, af, g⟩ a) (hd : d < n) (hx : opv e x = some (.slice (some ⟨b, o, none⟩) len cap)) (hlo : opv e lo = some (.int K i)) (ht : P.underlying t = some (.slice el)) (he : Ty P el D sz by_ z) (hi : i ≤ len) (hc : i < cap)
    (k : ∀ a, Env n a ((d, .slice (some ⟨b, o + i * sz, none⟩) (len - i) (cap - i)) :: e) → wpList P ops Q rest a w) : wpList P ops Q (⟨some d, .slice t x (some lo) none none, ty, pos, af, g⟩ :: rest) a w := by
  refine s_val h hw rfl hd (w' := w) ?_ k
  simp only [execOp, h.ev hx, Option.map_some, h.ev hlo]
  have hsize := run_sizeOf he w
  have hne : ¬ cap = i := by omega
  simp [Instr.sliceAt, run_underlying ht, Instr.slice, Instr.sliceBounds, Instr.sliceBound, asIntOf, hi, hsize, hne, Addr.add_lit]
theorem s_sliceHi {el len cap b o j sz by_ : Nat} {D : TypeDesc} {z : List Value} {hi : Operand} {K : IntKind} (h : Env n a e) (hw : Goes ops ⟨some d, .slice t x none (some hi) none, ty, pos, af, g⟩ a) (hd : d < n) (hx : opv e x = some (.slice (some ⟨b, o, none⟩) len cap)) (hhi : opv e hi = some (.int K j)) (ht : P.underlying t = some (.slice el)) (he : Ty P el D sz by_ z) (hj : j ≤ cap)
    (k : ∀ a, Env n a ((d, .slice (some ⟨b, o, none⟩) j cap) :: e) → wpList P ops Q rest a w) : wpList P ops Q (⟨some d, .slice t x none (some hi) none, ty, pos, af, g⟩ :: rest) a w := by
  refine s_val h hw rfl hd (w' := w) ?_ k
  simp only [execOp, h.ev hx, Option.map_some, h.ev hhi]
  have hsize := run_sizeOf he w
  simp [Instr.sliceAt, run_underlying ht, Instr.slice, Instr.sliceBounds, Instr.sliceBound, asIntOf, hj, hsize, Addr.add_lit]
theorem run_copyS {t2 el b o dl dc m sl sc N by_ : Nat} {D : TypeDesc} {z : List Value} {A : Addr} {news : List Value} {c : Array Value} {T : TypeId} {fz : Nat × Nat} (ht : P.underlying t = some (.slice el)) (he : Ty P el D N by_ z) (hm : Nat.min sl dl = m)
    (hnl : news.length = m * N) (hsrc : ∀ j u, news[j]? = some u → w.cell? (A.add j) = some u) (h1 : ∀ u ∈ news, u.oneCell' = true) (hheap : w.heap[b]? = some (.cells c T fz)) (hfz : ∀ i, i < c.size → ¬ (fz.1 ≤ i ∧ i < fz.2)) (hfit : o + news.length ≤ c.size) :
    (Builtin.copy_ #[t, t2] ty #[.slice (some ⟨b, o, none⟩) dl dc, .slice (some A) sl sc]).run P w = .ok (vI (m : Int)) (w.setCells b o news) := by
  have hst := run_stores (P := P) (o := o) (vs := news) hheap hfit hfz h1
  have hf := run_firstCells_some (P := P) w N m A sl sc news hnl hsrc
  have hsize := run_sizeOf he w
  simp [Builtin.copy_, run_underlying ht, Builtin.lenOf, hm, hsize, hf, hst, goInt]
theorem sl_srcF {α : Type} [Flat α] {S : Nat → Prop} {m : List α} {fq : List Nat} (h : Rep.sat S w m [u] fq) (hm : 0 < m.length) : ∃ A cap, u = .slice (some A) m.length cap ∧ m.length ≤ cap ∧ (∃ b o, A = ⟨b, o, none⟩) ∧ ∀ j c, (encL m)[j]? = some c → w.cell? (A.add j) = some c := by
  obtain ⟨p, cap, hv, hc, hp⟩ := h
  obtain rfl := (List.cons.inj hv).1
  cases p with
  | none => have := hp.1; omega
  | some q =>
    obtain ⟨hs, ecs, fpe, k1, k2, _⟩ := hp
    obtain ⟨rfl, rfl⟩ := flat_elems.1 k1
    have hs := hs (by omega)
    obtain ⟨q1, q2, q3⟩ := q
    simp only at hs
    subst hs
    exact ⟨_, cap, rfl, hc, ⟨q1, q2, rfl⟩, fun j c hj => by rw [Addr.add_lit]; exact k2 j c hj⟩
/-- copy(s[i:], v), s one's own. -/
theorem s_copyIn {α : Type} [Flat α] {S : Nat → Prop} {l m : List α} {fq : List Nat} {i el t2 by_ : Nat} {D : TypeDesc} {z : List Value} (h : Env n a e) (hM : M St w0 w (osl NoB l v :: its)) (hw : Goes ops ⟨some d, .call ⟨.builtin .copy, [x, y].toArray, [t, t2].toArray⟩, ty, pos, af, g⟩ a) (hd : d < n)
    (hx : opv e x = some (sliceV v i l.length (Flat.n α))) (hy : opv e y = some u) (hu : Rep.sat S w m [u] fq) (ht : P.underlying t = some (.slice el)) (he : Ty P el D (Flat.n α) by_ z) (hm : 0 < m.length) (hi : i + m.length ≤ l.length)
    (k : ∀ w a, M St w0 w (osl NoB (l.take i ++ (m ++ l.drop (i + m.length))) v :: its) → Env n a ((d, vI (m.length : Int)) :: e) → wpList P ops Q rest a w) : wpList P ops Q (⟨some d, .call ⟨.builtin .copy, [x, y].toArray, [t, t2].toArray⟩, ty, pos, af, g⟩ :: rest) a w := by
  obtain ⟨b, o, cap, c, T, fz, rfl, hcap, hA, hheap, hsz, hfz⟩ := own_parts hM (by omega)
  obtain ⟨A, cu, rfl, hcu, _, hsrc⟩ := sl_srcF hu hm
  have hel := encL_len l
  have hml := encL_len m
  have hmul : i * Flat.n α + m.length * Flat.n α = (i + m.length) * Flat.n α := by rw [← Nat.add_mul]
  have hmul2 : (i + m.length) * Flat.n α ≤ l.length * Flat.n α := Nat.mul_le_mul_right _ hi
  have hmul3 : l.length * Flat.n α ≤ cap * Flat.n α := Nat.mul_le_mul_right _ hcap
  have hM' := M.setRow P (l' := l.take i ++ (m ++ l.drop (i + m.length))) (k := i * Flat.n α) (seg := encL m) hM (by simp; omega) (by
    rw [encL_append, encL_append, encL_take, encL_drop]
    unfold splice
    rw [hml, hmul]) (by rw [hml, hel]; omega) (by omega) (encL_cell _)
  rw [sliceV_some (by omega)] at hx
  have hr := run_copyS (ty := ty) (t2 := t2) (dc := cap - i) (sc := cu) ht he (show Nat.min m.length (l.length - i) = m.length from Nat.min_eq_left (by omega)) hml hsrc (encL_cell _) hheap hfz (o := o + i * Flat.n α) (by rw [hml]; omega)
  refine s_val h hw rfl hd (v := vI (m.length : Int)) (w' := w.setCells b (o + i * Flat.n α) (encL m)) ?_ fun a ha => k _ _ hM' ha
  simp only [execOp, resolve]
  simp [invoke, builtin, h.ev hx, h.ev hy, hr]
/-- The row gets a longer end. -/
theorem M.tailRow {α : Type} [Flat α] {l l' : List α} {b o cap k : Nat} {seg : List Value} (hM : M St w0 w (osl NoB l (.slice (some ⟨b, o, Option.none⟩) l.length cap) :: its)) (hne : 0 < l.length) (he : encL l' = (encL l).take k ++ seg) (hk : k ≤ (encL l).length) (hc : l'.length ≤ cap) :
    M St w0 (w.setCells b (o + k) seg) (osl NoB l' (.slice (some ⟨b, o, Option.none⟩) l'.length cap) :: its) := by
  refine M.turn (new := [osl NoB l' _]) hM (setCells_streams _ _ _ _).1 (setCells_streams _ _ _ _).2.1 (setCells_streams _ _ _ _).2.2 (by rw [setCells_size]; exact Nat.le_refl _) ?_
  rintro fp ⟨p, cap', hv, hcap, hO⟩ hlt hnd
  simp only [Value.slice.injEq] at hv
  obtain ⟨rfl, _, rfl⟩ := hv
  rcases hO with ⟨rfl, _⟩ | ⟨b', o', ecs, fpe, hq, k1, k2, rfl, c, T, fz, hheap, hsize, hfz⟩
  · omega
  simp only [Option.some.injEq, Addr.mk.injEq, and_true] at hq
  obtain ⟨rfl, rfl⟩ := hq
  obtain ⟨rfl, rfl⟩ := flat_elems.1 k1
  have hl' : (encL l').length = k + seg.length := by rw [he, List.length_append, List.length_take]; omega
  have hl2 := encL_len l'
  have hmul : l'.length * Flat.n α ≤ cap * Flat.n α := Nat.mul_le_mul_right _ hc
  have hsize : o + cap * Flat.n α ≤ c.size := hsize
  have hfit : o + k + seg.length ≤ c.size := by omega
  have hh := setCells_heap b T fz seg (o + k) w c hheap hfit
  refine ⟨fun q hq _ => setCells_other _ _ (by simpa using hq) _ _ _, [b], ⟨[b], [], rfl, osl_loc noB, ⟨some ⟨b, o, Option.none⟩, cap, rfl, hc, .inr ⟨b, o, encL l', [], rfl, flat_elems.2 ⟨rfl, rfl⟩, ?_, rfl, _, T, fz, hh, ?_, ?_⟩⟩, rfl⟩, by simp, fun q hq => .inl hq⟩
  · have hrow : ∀ j, j < (encL l).length → c.toList[o + j]? = (encL l)[j]? := by
      intro j hj
      have := k2 j _ (List.getElem?_eq_getElem hj)
      simp only [World.cell?, hheap, Option.isSome_none, Bool.false_eq_true, if_false] at this
      rw [List.getElem?_eq_getElem hj]
      simpa using this
    intro j vv hv
    have hj := (List.getElem?_eq_some_iff.1 hv).1
    simp only [World.cell?, hh, Option.isSome_none, Bool.false_eq_true, if_false]
    rw [List.getElem?_toArray]
    rw [he] at hv
    simp only [splice]
    have e2 : (List.take (o + k) c.toList).length = o + k := by simp; omega
    by_cases hj1 : j < k
    · rw [List.getElem?_append_left (by rw [e2]; omega), List.getElem?_take, if_pos (by omega), hrow j (by omega)]
      rw [List.getElem?_append_left (by rw [List.length_take]; omega), List.getElem?_take, if_pos hj1] at hv
      exact hv
    · rw [List.getElem?_append_right (by rw [e2]; omega), e2, show o + j - (o + k) = j - k by omega]
      rw [List.getElem?_append_right (by rw [List.length_take]; omega)] at hv
      have e1 : (List.take k (encL l)).length = k := by rw [List.length_take]; omega
      rw [e1] at hv
      rw [List.getElem?_append_left (by omega)]
      exact hv
  · rw [List.size_toArray, splice_len (by simpa using hfit)]; exact (by simpa using hsize : o + cap * Flat.n α ≤ c.toList.length)
  · intro j hj
    rw [List.size_toArray, splice_len (by simpa using hfit)] at hj
    exact hfz j (by simpa using hj)
/-- copy(s[i+1:n+1], s[i:]), s one's own of n elements, with room. -/
theorem s_copyUp {α : Type} [Flat α] {l : List α} {i el t2 by_ b o cap : Nat} {D : TypeDesc} {z : List Value} (h : Env n a e) (hM : M St w0 w (osl NoB l (.slice (some ⟨b, o, none⟩) l.length cap) :: its)) (hw : Goes ops ⟨some d, .call ⟨.builtin .copy, [x, y].toArray, [t, t2].toArray⟩, ty, pos, af, g⟩ a) (hd : d < n)
    (hx : opv e x = some (.slice (some ⟨b, o + (i + 1) * Flat.n α, none⟩) (l.length + 1 - (i + 1)) (cap - (i + 1)))) (hy : opv e y = some (.slice (some ⟨b, o + i * Flat.n α, none⟩) (l.length + 1 - i) (cap - i))) (ht : P.underlying t = some (.slice el)) (he : Ty P el D (Flat.n α) by_ z) (hi : i < l.length) (hc : l.length + 1 ≤ cap)
    (k : ∀ w a, M St w0 w (osl NoB (l.take (i + 1) ++ l.drop i) (.slice (some ⟨b, o, none⟩) (l.length + 1) cap) :: its) → Env n a ((d, vI ((l.length - i : Nat) : Int)) :: e) → wpList P ops Q rest a w) : wpList P ops Q (⟨some d, .call ⟨.builtin .copy, [x, y].toArray, [t, t2].toArray⟩, ty, pos, af, g⟩ :: rest) a w := by
  obtain ⟨b', o', cap', c, T, fz, hv, hcap, hA, hheap, hsz, hfz⟩ := own_parts hM (by omega)
  simp only [Value.slice.injEq, Option.some.injEq, Addr.mk.injEq, and_true, true_and] at hv
  obtain ⟨⟨rfl, rfl⟩, rfl⟩ := hv
  have hel := encL_len l
  have hnl : (encL (l.drop i)).length = (l.length - i) * Flat.n α := by rw [encL_len, List.length_drop]
  have hlen : (l.take (i + 1) ++ l.drop i).length = l.length + 1 := by simp; omega
  have hmul2 : (i + 1) * Flat.n α ≤ l.length * Flat.n α := Nat.mul_le_mul_right _ hi
  have hmul3 : (i + 1) * Flat.n α + (l.length - i) * Flat.n α = (l.length + 1) * Flat.n α := by rw [← Nat.add_mul]; congr 1; omega
  have hmul4 : (l.length + 1) * Flat.n α ≤ cap * Flat.n α := Nat.mul_le_mul_right _ hc
  have hM' := M.tailRow (l' := l.take (i + 1) ++ l.drop i) (k := (i + 1) * Flat.n α) (seg := encL (l.drop i)) hM (by omega) (by rw [encL_append, encL_take]) (by rw [hel]; exact hmul2) (by rw [hlen]; exact hc)
  rw [hlen] at hM'
  have hr := run_copyS (ty := ty) (t2 := t2) (dc := cap - (i + 1)) (sc := cap - i) ht he (show Nat.min (l.length + 1 - i) (l.length + 1 - (i + 1)) = l.length - i from by show min _ _ = _; omega) hnl (A := ⟨b, o + i * Flat.n α, none⟩) (fun j u hu => by rw [Addr.add_lit]; exact hA.dropE i j u hu) (encL_cell _) hheap hfz (o := o + (i + 1) * Flat.n α) (by rw [hnl]; omega)
  generalize (Value.slice (some ⟨b, o + (i + 1) * Flat.n α, none⟩) (l.length + 1 - (i + 1)) (cap - (i + 1))) = X at hx hr
  generalize (Value.slice (some ⟨b, o + i * Flat.n α, none⟩) (l.length + 1 - i) (cap - i)) = Y at hy hr
  refine s_val h hw rfl hd (v := vI ((l.length - i : Nat) : Int)) (w' := w.setCells b (o + (i + 1) * Flat.n α) (encL (l.drop i))) ?_ fun a ha => k _ _ hM' ha
  simp only [execOp, resolve]
  simp [invoke, builtin, h.ev hx, h.ev hy, hr]
end
section
variable {P : Program} {St : Nat → Prop} {w0 w : World} {its : List Item} {n : Nat} {a : Act} {e : List (Nat × Value)} {ops : Array Oper} {rest : List Oper} {Q : Exit → Act → World → Prop} {v u : Value} {x y : Operand} {d t ty : TypeId} {pos : String} {af : Array Edge} {g : Option (Nat × Bool)}
/-- append(s[:i], make(..)...), s without room. -/
theorem s_growZ {N el by_ b o cap i q : Nat} {l : List (Opq N)} {tn : TypeId} {kn K : IntKind} {D : TypeDesc} {z : List Value} (h : Env n a e) (hM : M St w0 w (osl NoB l (.slice (some ⟨b, o, none⟩) l.length cap) :: its)) (hw : Goes ops ⟨some d, .call ⟨.builtin .append, [x, y].toArray, [t, tn].toArray⟩, ty, pos, af, g⟩ a) (hd : d < n)
    (hx : opv e x = some (.slice (some ⟨b, o, none⟩) i cap)) (hy : opv e y = some (.int K (q : Int))) (ht : P.underlying t = some (.slice el)) (htn : P.underlying tn = some (.int kn)) (he : Ty P el D N by_ z) (hzl : z.length = N) (hz1 : z.all (·.oneCell') = true) (h0 : 0 < by_) (hN : 0 < N) (hi : i ≤ l.length) (hne : 0 < l.length) (hq : 0 < q) (hg : cap < i + q) (hb : (i + q) * by_ ≤ 140737488355328)
    (k : ∀ (r : List (Opq N)) v' w a, r.length = q → M St w0 w (osl NoB (l.take i ++ r) v' :: osl NoB l (.slice (some ⟨b, o, none⟩) l.length cap) :: its) → Env n a ((d, v') :: e) → wpList P ops Q rest a w) : wpList P ops Q (⟨some d, .call ⟨.builtin .append, [x, y].toArray, [t, tn].toArray⟩, ty, pos, af, g⟩ :: rest) a w := by
  obtain ⟨b', o', cap', c, T, fz, hv, hcap, hA, hheap, hsz, hfz⟩ := own_parts hM hne
  simp only [Value.slice.injEq, Option.some.injEq, Addr.mk.injEq, and_true, true_and] at hv
  obtain ⟨⟨rfl, rfl⟩, rfl⟩ := hv
  obtain ⟨inf, zv, hin, hsize, hby, hzz, hzc⟩ := he.get
  have hle : i + q ≤ 140737488355328 := Nat.le_trans (Nat.le_mul_of_pos_right _ h0) hb
  have hqb : q * by_ ≤ (i + q) * by_ := Nat.mul_le_mul_right _ (by omega)
  have hol : (encL (l.take i)).length = i * N := by rw [encL_len, List.length_take, Nat.min_eq_left hi]; rfl
  have hA' : At w b o (encL (l.take i)) := by
    rw [encL_take]
    intro j c hj
    rw [List.getElem?_take] at hj
    split at hj
    · exact hA j c hj
    · cases hj
  have hold : (Builtin.firstCells inf.size i (.slice (some ⟨b, o, none⟩) i cap)).run P w.drew = .ok (encL (l.take i)).toArray w.drew :=
    run_firstCells_some (P := P) w.drew inf.size i ⟨b, o, none⟩ i cap _ (by rw [hol, hsize]) fun j c hj => by rw [Addr.add_lit]; exact hA' j c hj
  have hr := Lib.run_append_grow_zeros (P := P) w t tn ty el inf zv K kn ht htn hin hzz (some ⟨b, o, none⟩) i cap (encL (l.take i)) hold q hq (by omega) hg (by omega) (by rw [hby]; omega) (growslice_fits (by omega) (by rw [hby]; exact hb))
  have hgc := grownCap_ge w (i + q) cap el
  have hlen : (l.take i ++ List.replicate q (⟨z, hzl, fun u hu => List.all_eq_true.1 hz1 u hu⟩ : Opq N)).length = i + q := by simp; omega
  refine s_val h hw rfl hd (v := .slice (some ⟨w.heap.size, 0, none⟩) (i + q) (grownCap w (i + q) cap el)) (w' := w.drew.alloc (.cells ((encL (l.take i)).toArray ++ Builtin.zeroCells zv.cells q ++ Builtin.zeroCells zv.cells (grownCap w (i + q) cap el - (i + q))) el)) (by simp only [execOp, resolve]; simp [invoke, builtin, h.ev hx, h.ev hy, hr]) fun a ha => k (List.replicate q ⟨z, hzl, fun u hu => List.all_eq_true.1 hz1 u hu⟩) _ _ _ (by simp) ?_ ha
  have hcells : (encL (l.take i)).toArray ++ Builtin.zeroCells zv.cells q ++ Builtin.zeroCells zv.cells (grownCap w (i + q) cap el - (i + q)) = ((encL (l.take i) ++ (List.replicate q z).flatten) ++ (List.replicate (grownCap w (i + q) cap el - (i + q)) z).flatten).toArray := by
    apply Array.ext'
    rw [Array.toList_append, Array.toList_append, nth_zeros, nth_zeros, hzc]
  rw [hcells]
  have hnew := heap_alloc_new w.drew (.cells ((encL (l.take i) ++ (List.replicate q z).flatten) ++ (List.replicate (grownCap w (i + q) cap el - (i + q)) z).flatten).toArray el)
  have hat := At.of_heap hnew
  rw [At.append] at hat
  refine (hM.drew).add (new := [osl NoB (l.take i ++ List.replicate q _) _]) (Kept.alloc _ _) ⟨[w.heap.size], ⟨[w.heap.size], [], rfl, osl_loc (fun _ h => h), ⟨some ⟨w.heap.size, 0, none⟩, grownCap w (i + q) cap el, by rw [hlen], by rw [hlen]; exact hgc, .inr ⟨w.heap.size, 0, encL (l.take i) ++ (List.replicate q z).flatten, [], rfl, flat_elems.2 ⟨by rw [encL_append, encL_repN]; rfl, rfl⟩, hat.1, rfl, ?_⟩⟩, rfl⟩, by simp, fun b hb => by simp at hb; subst hb; exact ⟨Nat.le_refl _, by simp⟩⟩
  refine ⟨_, el, (0, 0), hnew, ?_, by intro j _; simp⟩
  have e1 : ∀ q : Nat, ((List.replicate q z).flatten).length = q * N := fun q => by simp [hzl]
  rw [List.size_toArray, List.length_append, List.length_append, e1, e1, hol, ← Nat.add_mul, ← Nat.add_mul, Nat.zero_add, show i + q + (grownCap w (i + q) cap el - (i + q)) = grownCap w (i + q) cap el by omega]
  exact Nat.le_refl _
/-- No mark of a string's bytes behind the block. -/
def NoMk (w : World) (b : Nat) : Prop := ∀ c T fz, w.heap[b]? = some (.cells c T fz) → ¬ (fz.1 ≤ c.size ∧ c.size < fz.2)
/-- A slice of one's own whose array was not made of a string. -/
def osn {α : Type} [Rep α] (S : Nat → Prop) (l : List α) (v : Value) : Item := fun w fp => OwnSl S w l v fp ∧ (sb v ∈ fp → NoMk w (sb v))
theorem osn_loc {α : Type} [Rep α] {S : Nat → Prop} {l : List α} (hS : ∀ b, S b → St b) : Loc St (osn S l v) := fun _ _ _ h hb => ⟨h.1.loc fun b h => hb b (h.imp id (hS b)), fun hm c T fz hh => h.2 hm c T fz (by rw [← hb _ (.inl hm)]; exact hh)⟩
theorem M.osn_osl {α : Type} [Rep α] {S : Nat → Prop} {l : List α} (hM : M St w0 w (osn S l v :: its)) (hS : ∀ b, S b → St b) : M St w0 w (osl S l v :: its) := hM.pack1 (osl_loc hS) fun _ k => k.1
theorem M.insE {pre post : List Item} (hM : M St w0 w (pre ++ post)) : M St w0 w (pre ++ Go.Proofs.YtkcaldgoomphaaaDoor.emp :: post) := by
  obtain ⟨h1, h2, fp, h3, h4, h5⟩ := hM
  obtain ⟨f, g, rfl, k1, k2⟩ := SepR.split h3
  exact ⟨h1, h2, f ++ g, SepR.append k1 ⟨[], g, rfl, emp_loc, rfl, k2⟩, h4, h5⟩
theorem s_buildN {α : Type} [Rep α] {S : Nat → Prop} {xs : List Operand} {vs : List Value} {m : Nat} {el : TypeId} {D : TypeDesc} {by_ : Nat} {z : List Value} {l : List α} {it : Item}
    (h : Env n a e) (hM : M St w0 w (it :: its)) (hS : ∀ b, S b → St b) (hw : Goes ops ⟨some d, .buildSlice t m (opsOf 0 xs).toArray, ty, pos, af, g⟩ a) (hd : d < n) (hxs : opvs e xs = some vs) (hm : vs.length = m) (hlm : l.length = m)
    (ht : P.underlying t = some (.slice el)) (he : Ty P el D (Rep.n α) by_ z) (_hzl : z.length = Rep.n α) (hsmall : m * Rep.n α ≤ 16777216)
    (hel : ∀ fp, it w fp → Elems S w l (vs.map (·.cells.toList)).flatten fp) (hcell : ∀ v ∈ vs, v.cells.size = Rep.n α)
    (k : ∀ v' w a, M St w0 w (osn S l v' :: its) → Env n a ((d, v') :: e) → wpList P ops Q rest a w) : wpList P ops Q (⟨some d, .buildSlice t m (opsOf 0 xs).toArray, ty, pos, af, g⟩ :: rest) a w := by
  have hsz := run_sizeOf he
  obtain ⟨zv, hzv, hzc⟩ := run_zeroValue he w
  have hsub : ∀ cs : Array Value, cs.size = m * Rep.n α → Instr.fill (fun i => some (i * Rep.n α, Rep.n α)) cs (numbered 0 vs) = some (vs.map (·.cells.toList)).flatten.toArray := by
    intro cs hcs
    rw [fill_all (Rep.n α) _ (fun _ => rfl) vs 0 cs hcell (by simp [hm, hcs])]
    congr 2
    have hfl : ((vs.map (·.cells.toList)).flatten).length = m * Rep.n α := by
      rw [← hm]
      clear hm hxs hel
      induction vs with
      | nil => simp
      | cons u xs ih => rw [List.map_cons, List.flatten_cons, List.length_append, ih (fun y hy => hcell y (by simp [hy])), List.length_cons, Nat.add_mul]; have := hcell u (by simp); simp [this]; omega
    rw [Nat.zero_mul]
    exact splice_all (by simpa [hcs] using hfl)
  have hnum := h.numbered xs 0 vs hxs
  have hcells : ∀ (zz : Array Value), ((Array.range (m * Rep.n α)).map (zz[· % zz.size]!)).size = m * Rep.n α := by intro zz; simp
  have hrun : (Instr.buildSlice t m ((opsOf 0 xs).toArray.map fun (i, x) => (i, a.eval x))).run P w = .ok (.slice (some ⟨w.heap.size, 0, none⟩) m m) (w.alloc (.cells (vs.map (·.cells.toList)).flatten.toArray el)) := by
    have hparts : ((opsOf 0 xs).toArray.map fun (i, x) => (i, a.eval x)).toList = numbered 0 vs := by simpa using hnum
    have hlim : ¬ (m * Rep.n α > 2 ^ 24) := by omega
    have hfill : ∀ zz : Array Value, Instr.fill (fun i => some (i * Rep.n α, Rep.n α)) ((Array.range (m * Rep.n α)).map (zz[· % zz.size]!)) (numbered 0 vs) = some (vs.map (·.cells.toList)).flatten.toArray := fun zz => hsub _ (hcells zz)
    unfold Instr.buildSlice
    simp only [Sem.run_bind, run_underlying ht, Result.andThen_ok, hsz, if_neg hlim, hparts]
    by_cases h0 : m * Rep.n α = 0
    · simp only [if_pos h0, pure_bind]
      rw [hfill]
      simp [newRow]
    · simp only [if_neg h0, pure_bind, Sem.run_bind, hzv, Result.andThen_ok]
      rw [hfill]
      simp [newRow]
  refine s_val h hw rfl hd (v := .slice (some ⟨w.heap.size, 0, none⟩) m m) (w' := w.alloc (.cells (vs.map (·.cells.toList)).flatten.toArray el)) (by simp only [execOp]; simp only [Sem.run_bind, hrun]; rfl) fun a ha => k _ _ _ ?_ ha
  have hst := hM.st'
  refine hM.turn (new := [osn S l _]) rfl rfl rfl (by simp) ?_
  intro fp hit hlt hnd
  have hE := hel fp hit
  have hnew := heap_alloc_new w (.cells (vs.map (·.cells.toList)).flatten.toArray el)
  have hkeep : ∀ b, (b ∈ fp ∨ S b) → (w.alloc (.cells (vs.map (·.cells.toList)).flatten.toArray el)).heap[b]? = w.heap[b]? := fun b hb => heap_alloc_old w _ b (by rcases hb with hb | hb; exact (hlt b hb).2; exact hst b (hS b hb))
  refine ⟨fun b _ hb => heap_alloc_old w _ b hb, w.heap.size :: fp, ⟨w.heap.size :: fp, [], by simp, osn_loc hS, ⟨⟨some ⟨w.heap.size, 0, none⟩, m, by rw [hlm], by rw [hlm]; exact Nat.le_refl _, .inr ⟨w.heap.size, 0, _, fp, rfl, hE.loc hkeep, At.of_heap hnew, rfl, ?_⟩⟩, fun _ c T fz hh => by
      have := hnew.symm.trans hh
      simp only [Option.some.injEq, Obj.cells.injEq] at this
      obtain ⟨_, _, rfl⟩ := this
      simp⟩, rfl⟩, ?_, ?_⟩
  · refine ⟨_, el, (0, 0), hnew, ?_, by intro i _; simp⟩
    have := hE.len
    rw [List.size_toArray, this, hlm]; omega
  · exact List.nodup_cons.2 ⟨fun hb => by have := (hlt _ hb).2; omega, hnd⟩
  · intro b hb
    rcases List.mem_cons.1 hb with rfl | hb
    · exact .inr ⟨Nat.le_refl _, by simp⟩
    · exact .inl hb
theorem s_buildFN {α : Type} [Flat α] {xs : List Operand} {vs : List Value} {m : Nat} {el : TypeId} {D : TypeDesc} {by_ : Nat} {z : List Value} {l : List α}
    (h : Env n a e) (hM : M St w0 w its) (hw : Goes ops ⟨some d, .buildSlice t m (opsOf 0 xs).toArray, ty, pos, af, g⟩ a) (hd : d < n) (hxs : opvs e xs = some vs) (hlm : l.length = m)
    (ht : P.underlying t = some (.slice el)) (he : Ty P el D (Rep.n α) by_ z) (hzl : z.length = Rep.n α) (hsmall : m * Rep.n α ≤ 16777216)
    (hel : vs.map (·.cells.toList) = l.map Flat.enc)
    (k : ∀ v' w a, M St w0 w (osn NoB l v' :: its) → Env n a ((d, v') :: e) → wpList P ops Q rest a w) : wpList P ops Q (⟨some d, .buildSlice t m (opsOf 0 xs).toArray, ty, pos, af, g⟩ :: rest) a w := by
  have hlen : vs.length = l.length := by simpa using congrArg List.length hel
  refine s_buildN (S := NoB) (l := l) h hM.emp noB hw hd hxs (by rw [hlen, hlm]) hlm ht he hzl hsmall ?_ ?_ k
  · intro fp hfp
    have hfp : fp = [] := hfp
    subst hfp
    refine flat_elems.2 ⟨?_, rfl⟩
    rw [hel]
    have : ∀ l : List α, (l.map Flat.enc).flatten = encL l := by
      intro l
      induction l with
      | nil => rfl
      | cons x l ih => simp [encL, ih]
    exact this l
  · intro v hv
    have : v.cells.toList ∈ l.map Flat.enc := by rw [← hel]; exact List.mem_map_of_mem (f := fun v : Value => v.cells.toList) hv
    obtain ⟨x, _, hx⟩ := List.mem_map.1 this
    have := Flat.len x
    rw [hx] at this
    have h2 : Rep.n α = Flat.n α := rfl
    rw [h2]
    simpa using this
theorem s_build1N {α : Type} [Rep α] {S : Nat → Prop} {xs : List Operand} {el : TypeId} {D : TypeDesc} {by_ : Nat} {z seg : List Value} {xn : α}
    (h : Env n a e) (hM : M St w0 w (own S xn seg :: its)) (hS : ∀ b, S b → St b) (hw : Goes ops ⟨some d, .buildSlice t 1 (opsOf 0 xs).toArray, ty, pos, af, g⟩ a) (hd : d < n) (hxs : opvs e xs = some [u]) (hu : u.cells.toList = seg)
    (ht : P.underlying t = some (.slice el)) (he : Ty P el D (Rep.n α) by_ z) (hzl : z.length = Rep.n α) (hsmall : 1 * Rep.n α ≤ 16777216)
    (k : ∀ v' w a, M St w0 w (osn S [xn] v' :: its) → Env n a ((d, v') :: e) → wpList P ops Q rest a w) : wpList P ops Q (⟨some d, .buildSlice t 1 (opsOf 0 xs).toArray, ty, pos, af, g⟩ :: rest) a w := by
  subst hu
  obtain ⟨fp0, hfp0, _⟩ := hM.head
  have hl0 := Rep.len hfp0
  exact s_buildN (l := [xn]) h hM hS hw hd hxs rfl rfl ht he hzl hsmall (fun fp hfp => by
    have hfp : Rep.sat S w xn u.cells.toList fp := hfp
    exact ⟨u.cells.toList, [], fp, [], by simp, by simp, hfp, rfl, rfl⟩) (fun v hv => by simp at hv; subst hv; simpa using hl0) k
/-- slices.overlaps of two slices of one's own: they do not. -/
theorem s_overlaps {α β : Type} [Flat α] [Flat β] {l : List α} {m : List β} {f el tB la ca k2 sz by_ b o cap : Nat} {D : TypeDesc} {z : List Value} {fn : Func} {ats : Array TypeId} {xs : List Operand} (h : Env n a e) (hM : M St w0 w (osl NoB l (.slice (some ⟨b, o, none⟩) l.length cap) :: osn NoB m u :: its)) (hw : Goes ops ⟨some d, .call ⟨.value (.func f), xs.toArray, ats⟩, ty, pos, af, g⟩ a) (hd : d < n)
    (hxs : opvs e xs = some [u, .slice (some ⟨b, o + k2, none⟩) la ca]) (hf : P.funcs[f]? = some fn) (hb : fn.body.isNone = true) (hn : (fn.name == "runtime.NumGoroutine") = false) (hnx : Extern.findNext fn = none) (hfd : Extern.find fn = some (Extern.SlicesOverlaps.overlaps #[t, t] #[tB])) (ht : P.underlying t = some (.slice el)) (he : Ty P el D sz by_ z)
    (hm : 0 < m.length) (hl : 0 < l.length) (hN : 0 < Flat.n α) (hN2 : 0 < Flat.n β) (hc : 0 < cap)
    (k : ∀ a, Env n a ((d, vT false) :: e) → wpList P ops Q rest a w) : wpList P ops Q (⟨some d, .call ⟨.value (.func f), xs.toArray, ats⟩, ty, pos, af, g⟩ :: rest) a w := by
  have hMp := hM.pull (pre := [_])
  obtain ⟨bu, ou, cu, cc, T1, fz1, rfl, hcu, _, hh1, hs1, hf1⟩ := own_parts (hMp.osn_osl noB) hm
  have hcu1 : 0 < cu * Flat.n β := Nat.mul_pos (by omega) hN2
  obtain ⟨b', o', cap', c, T, fz, hv, hcap, hA, hheap, hsz, hfz⟩ := own_parts hM hl
  simp only [Value.slice.injEq, Option.some.injEq, Addr.mk.injEq, and_true, true_and] at hv
  obtain ⟨⟨rfl, rfl⟩, rfl⟩ := hv
  have hne : bu ≠ b := by
    obtain ⟨_, _, fp, ⟨f1, f', rfl, _, ⟨p1, c1, e1, _, g1⟩, f2, f3, rfl, _, ⟨⟨p2, c2, e2, _, g2⟩, _⟩, _⟩, hnd, _⟩ := hM
    rintro rfl
    simp only [Value.slice.injEq] at e1 e2
    obtain ⟨rfl, _, rfl⟩ := e1
    obtain ⟨rfl, _, rfl⟩ := e2
    rcases g1 with ⟨e, _⟩ | ⟨b1, o1, _, _, e, _, _, rfl, _⟩
    · omega
    rcases g2 with ⟨e', _⟩ | ⟨b2, o2, _, _, e', _, _, rfl, _⟩
    · omega
    simp only [Option.some.injEq, Addr.mk.injEq, and_true] at e e'
    obtain ⟨rfl, rfl⟩ := e
    obtain ⟨rfl, rfl⟩ := e'
    simp at hnd
  have hcs : 0 < c.size := by
    have : 0 < cap * Flat.n α := Nat.mul_pos hc hN
    omega
  have hr := Lib.run_overlaps_apart (P := P) w t tB el ht sz (fun w => run_sizeOf he w) ⟨bu, ou, none⟩ ⟨b, o + k2, none⟩ m.length cu la ca hne T1 T cc.size c.size (by simp [World.shape?, hh1]) (by simp [World.shape?, hheap]) (by omega)
    (by
      have := hf1 ou (by omega)
      simp only [World.frozen?, hh1, Bool.and_eq_false_iff, decide_eq_false_iff_not]
      omega)
    (by
      have : ¬ (fz1.1 ≤ cc.size ∧ cc.size < fz1.2) := by
        obtain ⟨fp, ⟨⟨p2, c2, e2, _, g2⟩, hk⟩, _⟩ := hMp.head
        simp only [Value.slice.injEq] at e2
        obtain ⟨rfl, _, rfl⟩ := e2
        rcases g2 with ⟨e', _⟩ | ⟨b2, o2, _, _, e', _, _, rfl, _⟩
        · omega
        simp only [Option.some.injEq, Addr.mk.injEq, and_true] at e'
        obtain ⟨rfl, rfl⟩ := e'
        exact hk (by simp [sb]) _ _ _ hh1
      simp only [World.frozen?, hh1, Bool.and_eq_false_iff, decide_eq_false_iff_not]
      omega)
  refine s_val h hw rfl hd (w' := w) ?_ k
  simp only [execOp, resolve, Act.eval]
  simp only [Deferred.ofValue, Sem.run_bind, pure, Sem.run, Result.andThen_ok, invoke]
  have hargs : (xs.toArray.map a.eval) = #[.slice (some ⟨bu, ou, none⟩) m.length cu, .slice (some ⟨b, o + k2, none⟩) la ca] := by simp [h.evs hxs]
  simp only [hargs, Array.append_empty]
  have := run_callFunc_extern (P := P) hf hn hb hnx hfd #[.slice (some ⟨bu, ou, none⟩) m.length cu, .slice (some ⟨b, o + k2, none⟩) la ca] w
  simpa [hr] using this
end
theorem slcE {α : Type} {l : List α} {i : Nat} (h : i ≤ l.length) : slc l (i : Int) (l.length : Int) = some (l.drop i) := by
  unfold slc; rw [if_pos (by omega)]; simp
theorem slcA {α : Type} {l : List α} {i : Nat} (h : i ≤ l.length) : slc l 0 (i : Int) = some (l.take i) := by
  unfold slc; rw [if_pos (by omega)]; simp
theorem wrI {x : Int} {k : Nat} (h : x = k) (h1 : 0 ≤ x) (h2 : x ≤ 4611686018427387904) : wr x = k := by
  show IntKind.i64.wrap x = k
  rw [IntKind.wrap_i64]; omega
theorem insA {α : Type} {l m q : List α} {i : Nat} (hi : i ≤ l.length) (hm : m.length = 1) : (l.take i ++ q).take i ++ (m ++ (l.take i ++ q).drop (i + m.length)) = l.take i ++ (m ++ q.drop 1) := by
  have e : (l.take i).length = i := by simp; omega
  rw [List.take_left' e, hm, List.drop_append, e, List.drop_eq_nil_of_le (by omega), List.nil_append, show i + 1 - i = 1 by omega]
theorem insB {α : Type} {l m q : List α} {i : Nat} (hi : i ≤ l.length) (hm : m.length = 1) (hq : q.length = l.length + 1 - i) : (l.take i ++ (m ++ q.drop 1)).take (i + 1) ++ (l.drop i ++ (l.take i ++ (m ++ q.drop 1)).drop (i + 1 + (l.drop i).length)) = l.take i ++ (m ++ l.drop i) := by
  have e : (l.take i ++ m).length = i + 1 := by simp; omega
  have e2 : (l.take i ++ m ++ q.drop 1).drop (i + 1 + (l.drop i).length) = [] := List.drop_eq_nil_of_le (by simp; omega)
  rw [← List.append_assoc (l.take i) m, List.take_left' e, e2, List.append_nil, List.append_assoc]
theorem insC {α : Type} {l m : List α} {i : Nat} (hi : i ≤ l.length) (hm : m.length = 1) : (l.take (i + 1) ++ l.drop i).take i ++ (m ++ (l.take (i + 1) ++ l.drop i).drop (i + m.length)) = l.take i ++ (m ++ l.drop i) := by
  rw [hm]
  by_cases h : i = l.length
  · subst h
    rw [List.take_of_length_le (Nat.le_succ _), List.drop_length, List.append_nil, List.take_length, List.drop_eq_nil_of_le (Nat.le_succ _)]
  · have e : (l.take (i + 1)).length = i + 1 := by simp; omega
    rw [List.drop_left' e, List.take_append_of_le_length (by omega), List.take_take, Nat.min_eq_left (Nat.le_succ _)]
section
variable {P : Program} {α : Type} [Rep α] {S St : Nat → Prop} {w w0 : World} {l m r : List α} {v u : Value} {its : List Item}
theorem M.toHdrN (hM : M St w0 w (osn S l v :: its)) (hS : ∀ b, S b → St b) : ∃ hs : List (Opq (Rep.n α)), hs.length = l.length ∧ M St w0 w (osn NoB hs v :: els S l hs :: its) := by
  obtain ⟨hk, hs0, fp, ⟨f, f', rfl, _, ⟨⟨p, cap, rfl, hcap, hO⟩, hmk⟩, hr⟩, hnd, hlt⟩ := hM
  rcases hO with ⟨rfl, rfl, _⟩ | ⟨b, o, ecs, fpe, rfl, k1, k2, rfl, k3⟩
  · have : l = [] := List.eq_nil_of_length_eq_zero (by omega)
    subst this
    exact ⟨[], rfl, hk, hs0, [] ++ ([] ++ f'), ⟨[], _, rfl, osn_loc noB, ⟨⟨p, 0, rfl, Nat.le_refl _, .inl ⟨rfl, rfl, trivial⟩⟩, fun h => by cases h⟩, [], f', rfl, els_loc hS, ⟨rfl, rfl, rfl⟩, hr⟩, by simpa using hnd, fun k h => hlt k (by simpa using h)⟩
  · obtain ⟨hs, e, rfl⟩ := hdr_of k1
    refine ⟨hs, e, hk, hs0, [b] ++ (fpe ++ f'), ⟨[b], _, rfl, osn_loc noB, ⟨⟨some ⟨b, o, Option.none⟩, cap, by rw [e], by omega, .inr ⟨b, o, hcells hs, [], rfl, hdr_flat hs, k2, rfl, k3⟩⟩, fun _ => hmk (by simp [sb])⟩, fpe, f', rfl, els_loc hS, ⟨e, k1⟩, hr⟩, by simpa using hnd, fun k h => hlt k (by simpa using h)⟩
theorem M.insEls {hs ms : List (Opq (Rep.n α))} (hM : M St w0 w (els S m ms :: els S l hs :: its)) (hS : ∀ b, S b → St b) (i : Nat) : M St w0 w (els S (l.take i ++ (m ++ l.drop i)) (hs.take i ++ (ms ++ hs.drop i)) :: its) := by
  obtain ⟨hk, hs0, fp, ⟨f, _, rfl, _, ⟨e1, hE1⟩, g, f', rfl, _, ⟨e, hE⟩, hr⟩, hnd, hlt⟩ := hM
  obtain ⟨f1, f2, rfl, k1, k2⟩ := hE.cutAt i e
  refine ⟨hk, hs0, (f1 ++ (f ++ f2)) ++ f', ⟨f1 ++ (f ++ f2), f', rfl, els_loc hS, ⟨by simp [e, e1], ?_⟩, hr⟩, ?_, fun k h => hlt k (by simp at h ⊢; grind)⟩
  · rw [hcells_app, hcells_app]
    exact k1.append (hE1.append k2)
  · refine (List.Perm.nodup_iff ?_).1 hnd
    rw [← List.append_assoc, ← List.append_assoc]
    refine List.Perm.append_right _ ?_
    rw [← List.append_assoc]
    exact List.Perm.append_right _ List.perm_append_comm
theorem ins_wrap {K by_ : Nat} {W : World} {p1 : Int} (hd : ∀ {its : List Item} {hs ms : List (Opq (Rep.n α))} {i : Nat}, M St W w (osl NoB hs v :: osn NoB ms u :: its) → i ≤ hs.length → ms.length = 1 → (hs.length + 1) * by_ ≤ 140737488355328 →
      Calls P K [v, vI (i : Int), u].toArray w (fun en w' => ∃ y, en = .returned y ∧ M St W w' (osl NoB (hs.take i ++ (ms ++ hs.drop i)) y :: its)))
    (hM : M St W w (osl NoB l v :: osn NoB m u :: its)) (hF : insF by_ l p1 m = some r) : Calls P K [v, vI p1, u].toArray w (fun en w' => ∃ x, en = .returned x ∧ ∃ y, x = y ∧ M St W w' (osl NoB r y :: its)) := by
  obtain ⟨⟨h0, h1, h2, h3⟩, rfl⟩ := insF_some hF
  obtain ⟨i, rfl⟩ : ∃ i : Nat, p1 = i := ⟨p1.toNat, by omega⟩
  obtain ⟨hs, hl, hM⟩ := hM.toHdr noB
  obtain ⟨ms, hl2, hM⟩ := (hM.pull (pre := [_, _])).toHdrN noB
  refine (hd (hM.pull (pre := [_, _])) (by omega) (by omega) (by rw [hl]; exact h3)).mono ?_
  rintro en w' ⟨y, rfl, hM⟩
  refine ⟨y, rfl, y, rfl, ?_⟩
  have hM := (((hM.pull (pre := [_, _])).pull (pre := [_, _])).insEls noB i).pull (pre := [_])
  exact M.ofHdr (α := α) hM noB
end
section
variable {α : Type} [Rep α] {S St : Nat → Prop} {w w0 : World} {l l1 l2 m : List α} {its : List Item} {hs h1 h2 ms : List (Opq (Rep.n α))} {i : Int}
theorem M.insEls2 (hM : M St w0 w (els S m ms :: els S l hs :: its)) (hS : ∀ b, S b → St b) (e1 : slc l 0 i = some l1) (e2 : slc l i (l.length : Int) = some l2) (g1 : slc hs 0 i = some h1) (g2 : slc hs i (hs.length : Int) = some h2) :
    M St w0 w (els S ((([] ++ l1) ++ m) ++ l2) ((([] ++ h1) ++ ms) ++ h2) :: its) := by
  have a1 := (slc_some e1).2
  have a2 := (slc_some e2).2
  have b1 := (slc_some g1).2
  have b2 := (slc_some g2).2
  have := hM.insEls hS i.toNat
  simp only [Int.toNat_natCast, List.take_length, Int.toNat_zero, List.drop_zero] at a1 a2 b1 b2
  rw [a1, a2, b1, b2, List.nil_append, List.nil_append, List.append_assoc, List.append_assoc]
  exact this
theorem M.elsOne {β : Type} [Rep β] {x : List β} {u : Value} {o : Opq (Rep.n (List β))} (hM : M St w0 w (osl NoB x u :: its)) (ho : o.cs = [u]) : M St w0 w (els NoB [x] [o] :: its) :=
  hM.pack1 (els_loc noB) fun fp h => ⟨rfl, [u], [], fp, [], by simp [hcells, ho], by simp, OwnSl.sat h, rfl, rfl⟩
end
section
variable {α : Type} [Rep α] {S St : Nat → Prop} {w w0 : World} {l r : List α} {v : Value} {its : List Item} {fp : List Nat}
theorem Elems.dropF : ∀ {l : List α} {cs : List Value} {fp : List Nat} (k : Nat), Elems S w l cs fp → ∃ f g, fp = f ++ g ∧ Elems S w (l.drop k) (cs.drop (k * Rep.n α)) g
  | l, cs, fp, 0, h => ⟨[], fp, rfl, by simpa using h⟩
  | [], cs, fp, k + 1, h => by obtain ⟨rfl, rfl⟩ := h; exact ⟨[], [], rfl, by simp [Elems]⟩
  | x :: l, cs, fp, k + 1, h => by
    obtain ⟨c, cs', f, fp', rfl, rfl, h1, h2⟩ := h
    obtain ⟨f1, g1, rfl, h3⟩ := Elems.dropF k h2
    refine ⟨f ++ f1, g1, by simp, ?_⟩
    rw [List.drop_succ_cons, Nat.add_mul, Nat.one_mul, Nat.add_comm, show Rep.n α + k * Rep.n α = c.length + k * Rep.n α by rw [Rep.len h1], List.drop_length_add_append]
    exact h3
theorem OwnSl.cutF {i : Int} (h : OwnSl S w l v fp) (hb : slc l i (l.length : Int) = some r) : ∃ fp', OwnSl S w r (sliceV v i.toNat (l.length : Int).toNat (Rep.n α)) fp' ∧ fp'.Sublist fp := by
  obtain ⟨⟨h0, h1, _⟩, rfl⟩ := slc_some hb
  obtain ⟨i, rfl⟩ : ∃ k : Nat, i = k := ⟨i.toNat, by omega⟩
  obtain ⟨p, cap, rfl, hcap, h⟩ := h
  simp only [Int.toNat_natCast, List.take_length]
  have hlen : (l.drop i).length = l.length - i := by simp
  rcases h with ⟨rfl, rfl, hp⟩ | ⟨b, o, ecs, fpe, rfl, k1, k2, rfl, c, T, fz, k3, k4, k5⟩
  · obtain rfl : i = 0 := by omega
    exact ⟨[], ⟨p, 0, by simp [sliceV], by simpa using hcap, .inl ⟨rfl, rfl, trivial⟩⟩, List.nil_sublist _⟩
  · by_cases hc : cap = i
    · subst hc
      refine ⟨[], ⟨some ⟨b, o, none⟩, cap - cap, by simp [sliceV, hlen], by omega, .inl ⟨by omega, rfl, trivial⟩⟩, List.nil_sublist _⟩
    · obtain ⟨f, g, rfl, k6⟩ := k1.dropF i
      have hmul : i * Rep.n α + (cap - i) * Rep.n α = cap * Rep.n α := by rw [← Nat.add_mul]; congr 1; omega
      refine ⟨b :: g, ⟨some ⟨b, o + i * Rep.n α, none⟩, cap - i, by simp [sliceV, hlen, hc, Addr.add_lit], by omega, .inr ⟨b, o + i * Rep.n α, _, g, rfl, k6, fun j x hj => ?_, rfl, c, T, fz, k3, by omega, k5⟩⟩, List.Sublist.cons_cons _ (List.sublist_append_right _ _)⟩
      rw [List.getElem?_drop] at hj
      have := k2 _ _ hj
      rwa [← Nat.add_assoc] at this
theorem M.cutF {i : Int} (hM : M St w0 w (osl S l v :: its)) (hS : ∀ b, S b → St b) (hb : slc l i (l.length : Int) = some r) : M St w0 w (osl S r (sliceV v i.toNat (l.length : Int).toNat (Rep.n α)) :: its) := by
  refine hM.turn (new := [osl S r _]) rfl rfl rfl (Nat.le_refl _) ?_
  intro fp hfp _ hnd
  obtain ⟨fp', h1, h2⟩ := OwnSl.cutF hfp hb
  exact ⟨fun _ _ _ => rfl, fp', ⟨fp', [], by simp, osl_loc hS, h1, rfl⟩, h2.nodup hnd, fun b hb => .inl (h2.subset hb)⟩
end
end Go.Proofs.YtkcaldgoomphaaaDoor
