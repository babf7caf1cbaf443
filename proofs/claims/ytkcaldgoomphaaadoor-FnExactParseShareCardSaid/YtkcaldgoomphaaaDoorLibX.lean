/- The walk library: elements taken out of slices of one's own. -/
import Derived.Test.YtkcaldgoomphaaaDoorLibW
namespace Go.Proofs.YtkcaldgoomphaaaDoor
open Go
section
variable {α : Type} [Rep α] {S St : Nat → Prop} {w w' w0 : World} {l : List α} {v : Value} {i : Nat} {x : α} {cs : List Value} {its pre post : List Item}
theorem M.holeAt (h : M St w0 w (pre ++ hole S l i v cs :: post)) : At w (sb v) (so v + i * Rep.n α) cs := by
  obtain ⟨fp, ⟨b, o, cap, c1, c2, f1, f2, rfl, _, _, q1, _, _, _, q2, _, _⟩, _⟩ := h.get
  have := (At.append.1 (At.append.1 q2).2).1
  rw [q1] at this
  exact this
theorem M.close0 (hM : M St w0 w (own S x cs :: hole S l i v cs :: its)) (hS : ∀ b, S b → St b) (hi : l[i]? = some x) : M St w0 w (osl S l v :: its) := by
  have h := hM.close1 hS
  have e : l.set i x = l := by
    obtain ⟨h1, h2⟩ := List.getElem?_eq_some_iff.1 hi
    subst h2; exact List.set_getElem_self h1
  rwa [e] at h
end
section
variable {n : Nat} {a : Act} {e : List (Nat × Value)} {w w' : World} {P : Program} {ops : Array Oper} {rest : List Oper} {Q : Exit → Act → World → Prop}
variable {d : Nat} {ty t : TypeId} {pos : String} {af : Array Edge} {g : Option (Nat × Bool)} {x y : Operand} {v u : Value}
variable {St : Nat → Prop} {w0 : World} {its pre post : List Item}
theorem s_indexH {α : Type} [Rep α] {S : Nat → Prop} {l : List α} {el sz by_ j : Nat} {cs z : List Value} {D : TypeDesc} {K : IntKind} {i : Int} (h : Env n a e) (hM : M St w0 w (pre ++ hole S l j v cs :: post)) (hw : Goes ops ⟨some d, .indexAddr t x y, ty, pos, af, g⟩ a) (hd : d < n)
    (hx : opv e x = some v) (hy : opv e y = some (.int K i)) (ht : P.underlying t = some (.slice el)) (he : Ty P el D sz by_ z) (hi : 0 ≤ i ∧ i < l.length)
    (k : ∀ a, Env n a ((d, ptr (sb v) (so v + i.toNat * sz)) :: e) → wpList P ops Q rest a w) : wpList P ops Q (⟨some d, .indexAddr t x y, ty, pos, af, g⟩ :: rest) a w := by
  obtain ⟨fp, ⟨b, o, cap, c1, c2, f1, f2, hv, _⟩, _⟩ := hM.get
  refine s_val h hw rfl hd (v := ptr (sb v) (so v + i.toNat * sz)) (w' := w) ?_ k
  simp only [execOp, h.ev hx, h.ev hy, hv, sb, so]
  simp [Instr.indexAt, asIntOf, run_underlying ht, hi, run_sizeOf he, Addr.add_lit]
/-- A store into the cells of an element that is taken out. -/
theorem s_storeH {α : Type} [Rep α] {S : Nat → Prop} {l : List α} {D : TypeDesc} {sz by_ : Nat} {z seg cs cs' : List Value} {i k0 : Nat} (h : Env n a e) (hM : M St w0 w (hole S l i v cs :: its)) (hS : ∀ b, S b → St b) (hw : Goes ops ⟨none, .store t x y, ty, pos, af, g⟩ a)
    (hx : opv e x = some (ptr (sb v) (so v + i * Rep.n α + k0))) (hy : opv e y = some u) (hu : u.cells.toList = seg) (ht : Ty P t D sz by_ z) (hl : seg.length = sz) (hc : ∀ v ∈ seg, v.oneCell' = true)
    (hfit : k0 + seg.length ≤ cs.length) (hs : splice cs k0 seg = cs')
    (k : ∀ w a, M St w0 w (hole S l i v cs' :: its) → Env n a e → wpList P ops Q rest a w) : wpList P ops Q (⟨none, .store t x y, ty, pos, af, g⟩ :: rest) a w := by
  subst hs
  have hst := hM.st'
  have key : ∀ fp, hole S l i v cs w fp → fp.Nodup → (∀ b ∈ fp, ¬ St b ∧ b < w.heap.size) → (storeCells ⟨sb v, so v + i * Rep.n α + k0, none⟩ seg).run P w = .ok () (w.setCells (sb v) (so v + i * Rep.n α + k0) seg) ∧ sb v ∈ fp ∧
      hole S l i v (splice cs k0 seg) (w.setCells (sb v) (so v + i * Rep.n α + k0) seg) fp := by
    rintro fp ⟨b, o, cap, c1, c2, e1, e2, rfl, hcap, hil, q1, hccl, q2, q4, k2, k3, rfl⟩ hnd hlt
    have hrm := k3
    obtain ⟨c, T, fz, hheap, hsize, hfz⟩ := k3
    have hsb : sb (.slice (some ⟨b, o, none⟩) l.length cap) = b := rfl
    have hso : so (.slice (some ⟨b, o, none⟩) l.length cap) = o := rfl
    rw [hsb, hso]
    have h1 : (i + 1) * Rep.n α ≤ l.length * Rep.n α := Nat.mul_le_mul_right _ (by omega)
    rw [Nat.add_mul] at h1
    have h2 : l.length * Rep.n α ≤ cap * Rep.n α := Nat.mul_le_mul_right _ hcap
    have hfit2 : o + i * Rep.n α + k0 + seg.length ≤ c.size := by omega
    have hst' := run_stores (P := P) (o := o + i * Rep.n α + k0) (vs := seg) hheap hfit2 hfz hc
    obtain ⟨n4, n5⟩ := List.nodup_cons.1 hnd
    have hkeep : ∀ k, (k ∈ e1 ∨ k ∈ e2 ∨ S k) → (w.setCells b (o + i * Rep.n α + k0) seg).heap[k]? = w.heap[k]? := by
      intro k hk
      refine setCells_other _ _ ?_ _ _ _
      rintro rfl
      rcases hk with h | h | h
      · exact n4 (by simp [h])
      · exact n4 (by simp [h])
      · exact (hlt _ (List.mem_cons_self ..)).1 (hS _ h)
    have hlen2 : (splice cs k0 seg).length = cs.length := splice_len hfit
    have hd2 : (l.drop (i + 1)).length * Rep.n α = c2.length := q4.len.symm
    rw [List.length_drop] at hd2
    have hc2 : i * Rep.n α + Rep.n α + c2.length = l.length * Rep.n α := by
      rw [← hd2, ← Nat.add_one_mul, ← Nat.add_mul]; congr 1; omega
    have hsp : splice (c1 ++ (cs ++ c2)) (i * Rep.n α + k0) seg = c1 ++ (splice cs k0 seg ++ c2) := splice_in (by rw [q1]) (by omega)
    refine ⟨hst', List.mem_cons_self .., b, o, cap, c1, c2, e1, e2, rfl, hcap, hil, q1, by rw [hlen2]; exact hccl, q2.loc fun k hk => hkeep k (by rcases hk with h | h; exact .inl h; exact .inr (.inr h)), q4.loc fun k hk => hkeep k (by rcases hk with h | h; exact .inr (.inl h); exact .inr (.inr h)), ?_, hrm.set hheap rfl hfit2, rfl⟩
    rw [← hsp, show o + i * Rep.n α + k0 = o + (i * Rep.n α + k0) by omega]
    refine k2.set hheap ?_ ?_
    · simp only [List.length_append]; omega
    · simp only [List.length_append]; omega
  obtain ⟨hk0, hs0, fp, ⟨f1, f', rfl, hl1, h1, hr⟩, hnd, hlt⟩ := hM
  obtain ⟨hrun, _, _⟩ := key f1 h1 (List.nodup_append.1 hnd).1 (fun b hb => hlt b (by simp [hb]))
  have hM : M St w0 w (hole S l i v cs :: its) := ⟨hk0, hs0, f1 ++ f', ⟨f1, f', rfl, hl1, h1, hr⟩, hnd, hlt⟩
  refine s_unit h hw rfl (w' := w.setCells (sb v) (so v + i * Rep.n α + k0) seg) ?_ fun a ha => k _ _ ?_ ha
  · simp only [execOp, h.ev hx, h.ev hy]
    have hsz : u.cells.size = sz := by rw [← hl, ← hu]; simp
    simp [Instr.storeAt, Instr.sureAddr, storeVar, run_sizeOf ht, hsz, hu, hrun]
  · refine M.turn (new := [hole S l i v (splice cs k0 seg)]) hM (setCells_streams _ _ _ _).1 (setCells_streams _ _ _ _).2.1 (setCells_streams _ _ _ _).2.2 (by rw [setCells_size]; exact Nat.le_refl _) ?_
    rintro fp j1 hlt hnd
    obtain ⟨_, hin, hO⟩ := key fp j1 hnd hlt
    refine ⟨fun b hb _ => setCells_other _ _ (fun h => hb (by rw [h]; exact hin)) _ _ _, fp, ⟨fp, [], by simp, hole_loc hS, hO, rfl⟩, hnd, fun b hb => .inl hb⟩
end
theorem k_ret6 {n : Nat} {a : Act} {e : List (Nat × Value)} {w : World} {P : Program} {fn : Func} {R : Ending → World → Prop} {r1 r2 r3 r4 r5 r6 : ResultVar} {v1 v2 v3 v4 v5 v6 : Value} (hE : Env n a e) (hres : fn.results = #[r1, r2, r3, r4, r5, r6]) (h1 : ResIs P w a r1 v1) (h2 : ResIs P w a r2 v2) (h3 : ResIs P w a r3 v3) (h4 : ResIs P w a r4 v4) (h5 : ResIs P w a r5 v5) (h6 : ResIs P w a r6 v6)
    (hR : R (.returned (.tuple [v1, v2, v3, v4, v5, v6].toArray)) w) : bodyPost P fn R .ret a w := by
  refine bodyPost_ret ?_ hE.df hR
  rw [results_eq, hres]
  simp [resIs_run h1, resIs_run h2, resIs_run h3, resIs_run h4, resIs_run h5, resIs_run h6]
end Go.Proofs.YtkcaldgoomphaaaDoor
