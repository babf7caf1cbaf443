/- The walk library, part T: slices of one's own, a row of cells stored; clear. -/
import Derived.Test.YtkcaldgoomphaaaDoorLibS
import Derived.Lib.SliceRun
namespace Go.Proofs.YtkcaldgoomphaaaDoor
open Go
section
variable {P : Program} {St : Nat → Prop} {w0 w : World} {its : List Item} {n : Nat} {a : Act} {e : List (Nat × Value)} {ops : Array Oper} {rest : List Oper} {Q : Exit → Act → World → Prop} {v : Value} {x : Operand} {t ty : TypeId} {pos : String} {af : Array Edge} {g : Option (Nat × Bool)}
theorem own_splice {α : Type} [Flat α] {l l' : List α} {k : Nat} {seg : List Value} {fp : List Nat} (hO : OwnSl NoB w l v fp) (hlen : l'.length = l.length) (he : encL l' = splice (encL l) k seg) (hfit : k + seg.length ≤ (encL l).length) (hne : 0 < l.length) (hc : ∀ v ∈ seg, v.oneCell' = true) :
    (storeCells ⟨sb v, so v + k, none⟩ seg).run P w = .ok () (w.setCells (sb v) (so v + k) seg) ∧ fp = [sb v] ∧ OwnSl NoB (w.setCells (sb v) (so v + k) seg) l' v [sb v] ∧
      (∃ c T fz, w.heap[sb v]? = some (.cells c T fz) ∧ so v + (encL l).length ≤ c.size ∧ ∀ i, i < c.size → ¬ (fz.1 ≤ i ∧ i < fz.2)) := by
  obtain ⟨p, cap, rfl, hcap, hO⟩ := hO
  rcases hO with ⟨rfl, _⟩ | ⟨b, o, ecs, fpe, rfl, k1, k2, rfl, k3⟩
  · omega
  obtain ⟨rfl, rfl⟩ := flat_elems.1 k1
  obtain ⟨c, T, fz, hheap, hsize, hfz⟩ := k3
  have hsb : sb (.slice (some ⟨b, o, none⟩) l.length cap) = b := rfl
  have hso : so (.slice (some ⟨b, o, none⟩) l.length cap) = o := rfl
  rw [hsb, hso]
  have hel := encL_len l
  have hcl : o + (encL l).length ≤ c.size := by
    have h1 : l.length * Flat.n α ≤ cap * Rep.n α := Nat.mul_le_mul_right _ hcap
    rw [hel]; omega
  have hfit2 : o + k + seg.length ≤ c.size := by omega
  have hst := run_stores (P := P) (o := o + k) (vs := seg) hheap hfit2 hfz hc
  refine ⟨hst, rfl, ⟨some ⟨b, o, none⟩, cap, by rw [hlen], by omega, .inr ⟨b, o, encL l', [], rfl, flat_elems.2 ⟨rfl, rfl⟩, ?_, rfl, ?_⟩⟩, c, T, fz, hheap, hcl, hfz⟩
  · have hh := setCells_heap b T fz seg (o + k) w c hheap hfit2
    intro j vv hv
    have hj := (List.getElem?_eq_some_iff.1 hv).1
    rw [he, splice_len hfit] at hj
    simp only [World.cell?, hh, Option.isSome_none, Bool.false_eq_true, if_false]
    rw [List.getElem?_toArray]
    have hrow : ∀ j, j < (encL l).length → c.toList[o + j]? = (encL l)[j]? := by
      intro j hj
      have := k2 j _ (List.getElem?_eq_getElem hj)
      simp only [World.cell?, hheap, Option.isSome_none, Bool.false_eq_true, if_false] at this
      rw [List.getElem?_eq_getElem hj]
      simpa using this
    rw [he] at hv
    simp only [splice] at hv ⊢
    have hclen : o + (encL l).length ≤ c.toList.length := by simpa using hcl
    by_cases hj1 : j < k
    · rw [List.getElem?_append_left (by simp; omega), List.getElem?_take, if_pos hj1] at hv
      rw [List.getElem?_append_left (by simp at hclen ⊢; omega), List.getElem?_take, if_pos (by omega), hrow j hj]
      exact hv
    · rw [List.getElem?_append_right (by simp; omega)] at hv
      rw [List.getElem?_append_right (by simp; omega)]
      have e1 : (List.take k (encL l)).length = k := by simp; omega
      have e2 : (List.take (o + k) c.toList).length = o + k := by simp at hclen ⊢; omega
      rw [e1] at hv
      rw [e2, show o + j - (o + k) = j - k by omega]
      by_cases hj2 : j - k < seg.length
      · rw [List.getElem?_append_left hj2] at hv ⊢; exact hv
      · rw [List.getElem?_append_right (by omega), List.getElem?_drop] at hv ⊢
        rw [show o + k + seg.length + (j - k - seg.length) = o + j by omega, hrow j hj]
        rw [show k + seg.length + (j - k - seg.length) = j by omega] at hv
        exact hv
  · refine ⟨_, T, fz, setCells_heap b T fz seg _ w c hheap hfit2, ?_, ?_⟩
    · rw [List.size_toArray, splice_len (by simpa using hfit2)]; simpa using hsize
    · intro j hj
      rw [List.size_toArray, splice_len (by simpa using hfit2)] at hj
      exact hfz j (by simpa using hj)
theorem M.setRow (P : Program) {α : Type} [Flat α] {l l' : List α} {k : Nat} {seg : List Value} (hM : M St w0 w (osl NoB l v :: its)) (hlen : l'.length = l.length) (he : encL l' = splice (encL l) k seg) (hfit : k + seg.length ≤ (encL l).length) (hne : 0 < l.length) (hc : ∀ v ∈ seg, v.oneCell' = true) :
    M St w0 (w.setCells (sb v) (so v + k) seg) (osl NoB l' v :: its) := by
  refine M.turn (new := [osl NoB l' v]) hM (setCells_streams _ _ _ _).1 (setCells_streams _ _ _ _).2.1 (setCells_streams _ _ _ _).2.2 (by rw [setCells_size]; exact Nat.le_refl _) ?_
  intro fp hfp hlt hnd
  obtain ⟨_, rfl, hO, _⟩ := own_splice (P := P) hfp hlen he hfit hne hc
  exact ⟨fun b hb _ => setCells_other _ _ (by simpa using hb) _ _ _, [sb v], ⟨[sb v], [], rfl, osl_loc noB, hO, rfl⟩, by simp, fun b hb => .inl hb⟩
def clr {α : Type} (l : List α) (i : Int) (z : α) : Option (List α) := if 0 ≤ i ∧ i < l.length then some (l.take i.toNat ++ List.replicate (l.length - i.toNat) z) else none
theorem encL_rep {α : Type} [Flat α] {z : α} {zv : Value} (hz : Flat.enc z = [zv]) : ∀ m, encL (List.replicate m z) = List.replicate m zv
  | 0 => rfl
  | m + 1 => by rw [List.replicate_succ, List.replicate_succ]; show Flat.enc z ++ encL _ = _; rw [hz, encL_rep hz m]; rfl
/-- clear(s[i:]) of a slice of one's own, elements of one cell. -/
theorem s_clear1 {α : Type} [Flat α] {l l' : List α} {zero : α} {zv : Value} {el : TypeId} {i : Int} (h : Env n a e) (hM : M St w0 w (osl NoB l v :: its)) (hw : Goes ops ⟨none, .call ⟨.builtin .clear, [x].toArray, [t].toArray⟩, ty, pos, af, g⟩ a)
    (hx : opv e x = some (sliceV v i.toNat (l.length : Int).toNat 1)) (ht : P.underlying t = some (.slice el)) (hz : ∀ w, (zeroValue el).run P w = .ok zv w) (hzv : Flat.enc zero = [zv]) (hcl : zv.cells = #[zv]) (h1 : zv.oneCell' = true) (hn : Flat.n α = 1) (hl : clr l i zero = some l')
    (k : ∀ w a, M St w0 w (osl NoB l' v :: its) → Env n a e → wpList P ops Q rest a w) : wpList P ops Q (⟨none, .call ⟨.builtin .clear, [x].toArray, [t].toArray⟩, ty, pos, af, g⟩ :: rest) a w := by
  unfold clr at hl
  split at hl
  · rename_i hi
    obtain ⟨i, rfl⟩ : ∃ j : Nat, i = j := ⟨i.toNat, by omega⟩
    have hi : i < l.length := by omega
    obtain rfl := Option.some.inj hl
    simp only [Int.toNat_natCast] at hx k
    have hel := encL_len l
    rw [hn, Nat.mul_one] at hel
    have het : encL (l.take i) = (encL l).take i := by
      have e2 : encL l = encL (l.take i) ++ encL (l.drop i) := by rw [← encL_append, List.take_append_drop]
      have e3 : (encL (l.take i)).length = i := by rw [encL_len, hn, List.length_take]; omega
      rw [e2, List.take_left' e3]
    have he : encL (l.take i ++ List.replicate (l.length - i) zero) = splice (encL l) i (List.replicate (l.length - i) zv) := by
      rw [encL_append, encL_rep hzv, het]
      unfold splice
      rw [List.length_replicate, List.drop_eq_nil_of_le (by omega), List.append_nil]
    have hseg : ∀ v ∈ List.replicate (l.length - i) zv, v.oneCell' = true := fun u hu => by rw [List.eq_of_mem_replicate hu]; exact h1
    have hlen : (l.take i ++ List.replicate (l.length - i) zero).length = l.length := by simp; omega
    have hfit : i + (List.replicate (l.length - i) zv).length ≤ (encL l).length := by simp; omega
    obtain ⟨fp0, hfp0, _⟩ := hM.head
    obtain ⟨hr, _, _, c, T, fz, hheap, hsz, hfz⟩ := own_splice (P := P) hfp0 hlen he hfit (by omega) hseg
    have hM' := M.setRow P hM hlen he hfit (by omega) hseg
    obtain ⟨p, cap, rfl, hcap, hO⟩ := hfp0
    rcases hO with ⟨rfl, _⟩ | ⟨b, o, ecs, fpe, rfl, k1, k2, rfl, k3⟩
    · omega
    have hsb : sb (.slice (some ⟨b, o, none⟩) l.length cap) = b := rfl
    have hso : so (.slice (some ⟨b, o, none⟩) l.length cap) = o := rfl
    rw [hsb, hso] at hr hM'
    rw [hsb] at hheap; rw [hso] at hsz
    have hx' : opv e x = some (.slice (some ⟨b, o + i, none⟩) (l.length - i) (cap - i)) := by
      rw [hx]
      simp only [sliceV, show ¬ cap = i by omega, if_false, Option.map_some, Nat.mul_one, Addr.add_lit]
    have hrun := Lib.run_clear_slice (P := P) w t el ty zv ht hz hcl h1 b (o + i) (l.length - i) (cap - i) (by omega) (fun j hj => by
      have : o + i + j < c.size := by omega
      simp [World.cell?, hheap, this]) (fun j hj => by
      simp only [World.frozen?, hheap]
      have := hfz (o + i + j) (by omega)
      simp only [Bool.and_eq_false_iff, decide_eq_false_iff_not]
      omega)
    have hr2 : (execOp a.eval ⟨none, .call ⟨.builtin .clear, [x].toArray, [t].toArray⟩, ty, pos, af, g⟩).run P w = .ok (.value (.tuple #[])) (w.setCells b (o + i) (List.replicate (l.length - i) zv)) := by
      simp only [execOp, resolve]
      simp [invoke, builtin, h.ev hx', hrun, Result.andThen]
    unfold wpList
    rw [if_pos hw]
    refine .inl ?_
    unfold Oper.wp
    rw [hr2, Oper.upon_value]
    exact k _ _ hM' h
  · cases hl
end
end Go.Proofs.YtkcaldgoomphaaaDoor
