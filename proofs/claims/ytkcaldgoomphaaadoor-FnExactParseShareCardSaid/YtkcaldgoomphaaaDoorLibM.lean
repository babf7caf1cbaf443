/- The walk library, part M: parts of elements that have memory of their own; elements taken out and put back. -/
import Derived.Test.YtkcaldgoomphaaaDoorLibL
import Derived.Laws.Cover3
namespace Go.Proofs.YtkcaldgoomphaaaDoor
open Go

/-- A row after a store into it. -/
theorem At.set {w : World} {b o k : Nat} {row seg : List Value} {c : Array Value} {T : TypeId} {fz : Nat × Nat} (h : At w b o row) (hheap : w.heap[b]? = some (.cells c T fz)) (hk : k + seg.length ≤ row.length) (hrow : o + row.length ≤ c.size) :
    At (w.setCells b (o + k) seg) b o (splice row k seg) := by
  have hfit : o + k + seg.length ≤ c.size := by omega
  have hh := setCells_heap b T fz seg (o + k) w c hheap hfit
  intro j vv hv
  have hj := (List.getElem?_eq_some_iff.1 hv).1
  rw [splice_len hk] at hj
  simp only [World.cell?, hh, Option.isSome_none, Bool.false_eq_true, if_false]
  rw [List.getElem?_toArray]
  have hrw : ∀ j, j < row.length → c.toList[o + j]? = row[j]? := by
    intro j hj
    have := h j _ (List.getElem?_eq_getElem hj)
    simp only [World.cell?, hheap, Option.isSome_none, Bool.false_eq_true, if_false] at this
    rw [List.getElem?_eq_getElem hj]
    simpa using this
  have hcl : c.toList.length = c.size := by simp
  simp only [splice] at hv ⊢
  by_cases hj1 : j < k
  · rw [List.getElem?_append_left (by simp; omega), List.getElem?_take, if_pos hj1] at hv
    rw [List.getElem?_append_left (by rw [List.length_take]; omega), List.getElem?_take, if_pos (by omega), hrw j hj]
    exact hv
  · rw [List.getElem?_append_right (by simp; omega)] at hv
    rw [List.getElem?_append_right (by simp; omega)]
    have e1' : (List.take k row).length = k := by rw [List.length_take]; omega
    have e2' : (List.take (o + k) c.toList).length = o + k := by rw [List.length_take]; omega
    rw [e1'] at hv
    rw [e2', show o + j - (o + k) = j - k by omega]
    by_cases hj2 : j - k < seg.length
    · rw [List.getElem?_append_left hj2] at hv ⊢; exact hv
    · rw [List.getElem?_append_right (by omega), List.getElem?_drop] at hv ⊢
      rw [show o + k + seg.length + (j - k - seg.length) = o + j by omega, hrw j hj]
      rw [show k + seg.length + (j - k - seg.length) = j by omega] at hv
      exact hv
theorem At.uniq {w : World} {b o : Nat} {c d : List Value} (h : At w b o c) (k : At w b o d) (hl : c.length = d.length) : c = d := by
  apply List.ext_getElem?
  intro i
  by_cases hi : i < c.length
  · have h1 := h i _ (List.getElem?_eq_getElem hi)
    have h2 := k i _ (List.getElem?_eq_getElem (by omega : i < d.length))
    rw [h1] at h2
    rw [List.getElem?_eq_getElem hi, List.getElem?_eq_getElem (by omega : i < d.length)]
    exact h2
  · rw [List.getElem?_eq_none (by omega), List.getElem?_eq_none (by omega)]
theorem Room.set {w : World} {b o m b2 o2 : Nat} {seg : List Value} {c : Array Value} {T : TypeId} {fz : Nat × Nat} (h : Room w b o m) (hheap : w.heap[b]? = some (.cells c T fz)) (h2 : b2 = b) (hfit : o2 + seg.length ≤ c.size) : Room (w.setCells b2 o2 seg) b o m := by
  subst h2
  obtain ⟨c', T', fz', h1, h3, h4⟩ := h
  rw [hheap] at h1
  simp only [Option.some.injEq, Obj.cells.injEq] at h1
  obtain ⟨rfl, rfl, rfl⟩ := h1
  refine ⟨_, T, fz, setCells_heap b2 T fz seg _ w c hheap hfit, ?_, ?_⟩
  · rw [List.size_toArray, splice_len (by simpa using hfit)]; simpa using h3
  · intro j hj
    rw [List.size_toArray, splice_len (by simpa using hfit)] at hj
    exact h4 j (by simpa using hj)

theorem cat_inj {c d e' : List Value} {r s : List (List Value)} {f : List Value} (h : cat (c :: e' :: r) = cat (d :: f :: s)) (hl : c.length = d.length) : c = d ∧ cat (e' :: r) = cat (f :: s) := List.append_inj h hl

theorem sat_cast {α : Type} [Rep α] {S : Nat → Prop} {w : World} {x : α} {c d : List Value} {f : List Nat} (h : c = d) (hs : Rep.sat S w x d f) : Rep.sat S w x c f := by rw [h]; exact hs
theorem fit_part {n m k N : Nat} {i : Int} {seg : List Value} (h : 0 ≤ i ∧ i < n) (hl : seg.length = m) (hN : k + n * m ≤ N) : k + i.toNat * m + seg.length ≤ N := by
  have h1 : (i.toNat + 1) * m ≤ n * m := Nat.mul_le_mul_right _ (by omega)
  rw [Nat.add_mul] at h1
  omega
theorem opv_off {e : List (Nat × Value)} {x : Operand} {b o o' : Nat} (h : opv e x = some (ptr b o)) (ho : o = o') : opv e x = some (ptr b o') := by rw [h, ho]

theorem toList_eq {c : Array Value} {l : List Value} (h : c.toList = l) : c = l.toArray := by rw [← h]

/-! ### An element taken out -/
/-- A slice of one's own without what its element i owns; cs: the element's cells. -/
def hole {α : Type} [Rep α] (S : Nat → Prop) (l : List α) (i : Nat) (v : Value) (cs : List Value) : Item := fun w fp =>
  ∃ b o cap c1 c2 f1 f2, v = .slice (some ⟨b, o, none⟩) l.length cap ∧ l.length ≤ cap ∧ i < l.length ∧ c1.length = i * Rep.n α ∧ cs.length = Rep.n α ∧ Elems S w (l.take i) c1 f1 ∧ Elems S w (l.drop (i + 1)) c2 f2 ∧
    At w b o (c1 ++ (cs ++ c2)) ∧ Room w b o (cap * Rep.n α) ∧ fp = b :: (f1 ++ f2)
section
variable {α : Type} [Rep α] {S St : Nat → Prop} {w w' w0 : World} {l : List α} {v : Value} {i : Nat} {x : α} {cs : List Value} {its : List Item}
theorem hole_loc (hS : ∀ b, S b → St b) : Loc St (hole S l i v cs) := by
  rintro w w' fp ⟨b, o, cap, c1, c2, f1, f2, h1, h2, h3, h4, h5, h6, h7, h8, h9, rfl⟩ hb
  exact ⟨b, o, cap, c1, c2, f1, f2, h1, h2, h3, h4, h5, h6.loc (fun k hk => hb k (by rcases hk with h | h; exact .inl (by simp [h]); exact .inr (hS k h))), h7.loc (fun k hk => hb k (by rcases hk with h | h; exact .inl (by simp [h]); exact .inr (hS k h))),
    h8.loc (hb b (by simp)), h9.loc (hb b (by simp)), rfl⟩
theorem M.open1 (hM : M St w0 w (osl S l v :: its)) (hS : ∀ b, S b → St b) (hi : l[i]? = some x) : ∃ cs, M St w0 w (own S x cs :: hole S l i v cs :: its) ∧ At w (sb v) (so v + i * Rep.n α) cs := by
  obtain ⟨hk, hs, fp, ⟨f, f', rfl, _, ⟨p, cap, rfl, hcap, hO⟩, hr⟩, hnd, hlt⟩ := hM
  have hil := (List.getElem?_eq_some_iff.1 hi).1
  rcases hO with ⟨rfl, _⟩ | ⟨b, o, ecs, fpe, rfl, k1, k2, rfl, k3⟩
  · omega
  obtain ⟨c1, cc, c2, e1, ee, e2, rfl, rfl, q1, q2, q3, q4⟩ := k1.split hi
  have hcc := Rep.len q3
  refine ⟨cc, ⟨hk, hs, ee ++ ((b :: (e1 ++ e2)) ++ f'), ⟨ee, _, rfl, own_loc hS, q3, b :: (e1 ++ e2), f', rfl, hole_loc hS, ⟨b, o, cap, c1, c2, e1, e2, rfl, hcap, hil, q1, hcc, q2, q4, k2, k3, rfl⟩, hr⟩, ?_, fun k hk => hlt k (by simp at hk ⊢; grind)⟩, ?_⟩
  · refine (List.Perm.nodup_iff ?_).1 hnd
    have : (b :: (e1 ++ (ee ++ e2))) ++ f' = ((b :: e1) ++ ee) ++ (e2 ++ f') := by simp
    rw [this]
    have h2 : ee ++ ((b :: (e1 ++ e2)) ++ f') = (ee ++ (b :: e1)) ++ (e2 ++ f') := by simp
    rw [h2]
    exact List.Perm.append_right _ List.perm_append_comm
  · have := (At.append.1 (At.append.1 k2).2).1
    rw [q1] at this
    exact this
theorem M.close1 (hM : M St w0 w (own S x cs :: hole S l i v cs :: its)) (hS : ∀ b, S b → St b) : M St w0 w (osl S (l.set i x) v :: its) := by
  obtain ⟨hk, hs, fp, ⟨f, f', rfl, _, h1, g, g', rfl, _, ⟨b, o, cap, c1, c2, f1, f2, rfl, h3, h4, h5, h6, h7, h8, h9, h10, rfl⟩, hr⟩, hnd, hlt⟩ := hM
  have h1 : Rep.sat S w x cs f := h1
  refine ⟨hk, hs, (b :: (f1 ++ (f ++ f2))) ++ g', ⟨b :: (f1 ++ (f ++ f2)), g', rfl, osl_loc hS, ⟨some ⟨b, o, Option.none⟩, cap, by simp, by simpa using h3, .inr ⟨b, o, _, _, rfl, Elems.join h4 h7 h1 h8, h9, rfl, h10⟩⟩, hr⟩, ?_, fun k hk => hlt k (by simp at hk ⊢; grind)⟩
  refine (List.Perm.nodup_iff ?_).1 hnd
  have : (b :: (f1 ++ (f ++ f2))) ++ g' = ((b :: f1) ++ f) ++ (f2 ++ g') := by simp
  rw [this]
  have h2 : f ++ ((b :: (f1 ++ f2)) ++ g') = (f ++ (b :: f1)) ++ (f2 ++ g') := by simp
  rw [h2]
  exact List.Perm.append_right _ List.perm_append_comm
/-- Items one after the other as one. -/
theorem M.packL {m : List Item} {it : Item} (h : M St w0 w (m ++ its)) (hl : Loc St it) (hp : ∀ fp, SepR St w m fp → it w fp) : M St w0 w (it :: its) := by
  obtain ⟨h1, h2, fp, h3, h4, h5⟩ := h
  obtain ⟨f, g, rfl, k1, k2⟩ := SepR.split h3
  exact ⟨h1, h2, _, ⟨f, g, rfl, hl, hp f k1, k2⟩, h4, h5⟩
/-- One item as several. -/
theorem M.unpackL {m : List Item} {it : Item} (h : M St w0 w (it :: its)) (hp : ∀ fp, it w fp → SepR St w m fp) : M St w0 w (m ++ its) := by
  obtain ⟨h1, h2, fp, ⟨f, g, rfl, _, k1, k2⟩, h4, h5⟩ := h
  exact ⟨h1, h2, _, SepR.append (hp f k1) k2, h4, h5⟩
theorem SepR.one {it : Item} {fp : List Nat} (hl : Loc St it) (h : it w fp) : SepR St w [it] fp := ⟨fp, [], by simp, hl, h, rfl⟩
theorem SepR.cons {it : Item} {m : List Item} {f g : List Nat} (hl : Loc St it) (h : it w f) (k : SepR St w m g) : SepR St w (it :: m) (f ++ g) := ⟨f, g, rfl, hl, h, k⟩
theorem own_osl0 {fp : List Nat} (hs : Rep.sat NoB w l [v] fp) : OwnSl NoB w l v fp := by
  obtain ⟨p, cap, hv, hc, hp⟩ := hs
  simp only [List.cons.injEq, and_true] at hv
  refine ⟨p, cap, hv, hc, ?_⟩
  cases p with
  | none => exact .inl ⟨hp.1, hp.2, trivial⟩
  | some q =>
    obtain ⟨q1, q2, q3⟩ := q
    obtain ⟨h1, ecs, fpe, h2, h3, h4⟩ := hp
    rcases h4 with ⟨h4, rfl⟩ | ⟨rfl, h4, h5⟩
    · have hcap : cap = 0 := Classical.byContradiction fun hcap => h4 hcap
      subst hcap
      have hl : l = [] := List.eq_nil_of_length_eq_zero (by omega)
      subst hl
      exact .inl ⟨rfl, h2.2, trivial⟩
    · simp only at h5
      subst h5
      exact .inr ⟨q1, q2, ecs, fpe, rfl, h2, h3, rfl, h4⟩
theorem M.toOsl0 (h : M St w0 w (own NoB l [v] :: its)) : M St w0 w (osl NoB l v :: its) := h.pack1 (osl_loc noB) fun _ k => own_osl0 k
theorem own_osl {fp : List Nat} (hs : Rep.sat NoB w l [v] fp) (_ : i < l.length) : OwnSl NoB w l v fp := own_osl0 hs
theorem M.toOsl (h : M St w0 w (own NoB l [v] :: its)) (hi : i < l.length) : M St w0 w (osl NoB l v :: its) := h.toOsl0
theorem M.toOwn (h : M St w0 w (osl S l v :: its)) (hS : ∀ b, S b → St b) : M St w0 w (own S l [v] :: its) := h.pack1 (own_loc hS) fun _ k => OwnSl.sat k
end
section
variable {n : Nat} {a : Act} {e : List (Nat × Value)} {w w' : World} {P : Program} {ops : Array Oper} {rest : List Oper} {Q : Exit → Act → World → Prop}
variable {d : Nat} {ty t : TypeId} {pos : String} {af : Array Edge} {g : Option (Nat × Bool)} {x y : Operand} {v u : Value}
variable {St : Nat → Prop} {w0 : World} {its : List Item}
/-- A store into a part of an element that has memory of its own; the part is plain. -/
theorem s_storeRF {α : Type} [Rep α] {S : Nat → Prop} {l : List α} {D : TypeDesc} {sz by_ : Nat} {z seg : List Value} {i k0 : Nat} {xo xn : α} (h : Env n a e) (hM : M St w0 w (osl S l v :: its)) (hS : ∀ b, S b → St b) (hw : Goes ops ⟨none, .store t x y, ty, pos, af, g⟩ a)
    (hx : opv e x = some (ptr (sb v) (so v + i * Rep.n α + k0))) (hy : opv e y = some u) (hu : u.cells.toList = seg) (ht : Ty P t D sz by_ z) (hl : seg.length = sz) (hc : ∀ v ∈ seg, v.oneCell' = true)
    (hi : l[i]? = some xo) (hfit : k0 + seg.length ≤ Rep.n α) (hs : ∀ (S : Nat → Prop) (w : World) cs f, Rep.sat S w xo cs f → Rep.sat S w xn (splice cs k0 seg) f)
    (k : ∀ w a, M St w0 w (osl S (l.set i xn) v :: its) → Env n a e → wpList P ops Q rest a w) : wpList P ops Q (⟨none, .store t x y, ty, pos, af, g⟩ :: rest) a w := by
  have hil := (List.getElem?_eq_some_iff.1 hi).1
  have hst := hM.st'
  have key : ∀ fp, OwnSl S w l v fp → fp.Nodup → (∀ b ∈ fp, ¬ St b ∧ b < w.heap.size) → (storeCells ⟨sb v, so v + i * Rep.n α + k0, none⟩ seg).run P w = .ok () (w.setCells (sb v) (so v + i * Rep.n α + k0) seg) ∧ sb v ∈ fp ∧
      OwnSl S (w.setCells (sb v) (so v + i * Rep.n α + k0) seg) (l.set i xn) v fp := by
    rintro fp ⟨p, cap, rfl, hcap, hO⟩ hnd hlt
    rcases hO with ⟨rfl, _⟩ | ⟨b, o, ecs, fpe, rfl, k1, k2, rfl, k3⟩
    · omega
    have hrm := k3
    obtain ⟨c, T, fz, hheap, hsize, hfz⟩ := k3
    have hsb : sb (.slice (some ⟨b, o, none⟩) l.length cap) = b := rfl
    have hso : so (.slice (some ⟨b, o, none⟩) l.length cap) = o := rfl
    rw [hsb, hso]
    have hel := k1.len
    have h1 : (i + 1) * Rep.n α ≤ l.length * Rep.n α := Nat.mul_le_mul_right _ (by omega)
    rw [Nat.add_mul] at h1
    have h2 : l.length * Rep.n α ≤ cap * Rep.n α := Nat.mul_le_mul_right _ hcap
    have hfit2 : o + i * Rep.n α + k0 + seg.length ≤ c.size := by omega
    have hst' := run_stores (P := P) (o := o + i * Rep.n α + k0) (vs := seg) hheap hfit2 hfz hc
    obtain ⟨c1, cc, c2, e1, ee, e2, rfl, rfl, q1, q2, q3, q4⟩ := k1.split hi
    have hccl := Rep.len q3
    obtain ⟨n4, n5⟩ := List.nodup_cons.1 hnd
    have hkeep : ∀ k, (k ∈ e1 ∨ k ∈ e2 ∨ k ∈ ee ∨ S k) → (w.setCells b (o + i * Rep.n α + k0) seg).heap[k]? = w.heap[k]? := by
      intro k hk
      refine setCells_other _ _ ?_ _ _ _
      rintro rfl
      rcases hk with h | h | h | h
      · exact n4 (by simp [h])
      · exact n4 (by simp [h])
      · exact n4 (by simp [h])
      · exact (hlt _ (List.mem_cons_self ..)).1 (hS _ h)
    have hsp : splice (c1 ++ (cc ++ c2)) (i * Rep.n α + k0) seg = c1 ++ (splice cc k0 seg ++ c2) := splice_in (by rw [q1]) (by omega)
    refine ⟨hst', List.mem_cons_self .., some ⟨b, o, none⟩, cap, by simp, by simpa using hcap, .inr ⟨b, o, c1 ++ (splice cc k0 seg ++ c2), e1 ++ (ee ++ e2), rfl, ?_, ?_, rfl, ?_⟩⟩
    · exact Elems.join hil (q2.loc fun k hk => hkeep k (by rcases hk with h | h; exact .inl h; exact .inr (.inr (.inr h)))) (Rep.loc (hs _ _ _ _ q3) fun k hk => hkeep k (by rcases hk with h | h; exact .inr (.inr (.inl h)); exact .inr (.inr (.inr h))))
        (q4.loc fun k hk => hkeep k (by rcases hk with h | h; exact .inr (.inl h); exact .inr (.inr (.inr h))))
    · rw [← hsp, show o + i * Rep.n α + k0 = o + (i * Rep.n α + k0) by omega]
      exact k2.set hheap (by omega) (by omega)
    · exact hrm.set hheap rfl hfit2
  obtain ⟨hk0, hs0, fp, ⟨f1, f', rfl, hl1, h1, hr⟩, hnd, hlt⟩ := hM
  obtain ⟨hrun, _, _⟩ := key f1 h1 (List.nodup_append.1 hnd).1 (fun b hb => hlt b (by simp [hb]))
  have hM : M St w0 w (osl S l v :: its) := ⟨hk0, hs0, f1 ++ f', ⟨f1, f', rfl, hl1, h1, hr⟩, hnd, hlt⟩
  refine s_unit h hw rfl (w' := w.setCells (sb v) (so v + i * Rep.n α + k0) seg) ?_ fun a ha => k _ _ ?_ ha
  · simp only [execOp, h.ev hx, h.ev hy]
    have hsz : u.cells.size = sz := by rw [← hl, ← hu]; simp
    simp [Instr.storeAt, Instr.sureAddr, storeVar, run_sizeOf ht, hsz, hu, hrun]
  · refine M.turn (new := [osl S (l.set i xn) v]) hM (setCells_streams _ _ _ _).1 (setCells_streams _ _ _ _).2.1 (setCells_streams _ _ _ _).2.2 (by rw [setCells_size]; exact Nat.le_refl _) ?_
    rintro fp j1 hlt hnd
    obtain ⟨_, hin, hO⟩ := key fp j1 hnd hlt
    refine ⟨fun b hb _ => setCells_other _ _ (fun h => hb (by rw [h]; exact hin)) _ _ _, fp, ⟨fp, [], by simp, osl_loc hS, hO, rfl⟩, hnd, fun b hb => .inl hb⟩
/-- Is a slice nil? The test's answer, and what follows from yes. -/
theorem s_eqNil {α : Type} [Rep α] {S : Nat → Prop} {l : List α} {fp : List Nat} {el y' : TypeId} (h : Env n a e) (hw : Goes ops ⟨some d, .binOp .eql t x y y', ty, pos, af, g⟩ a) (hd : d < n) (hx : opv e x = some v) (hy : opv e y = some (.slice none 0 0)) (ht : P.underlying t = some (.slice el)) (hs : Rep.sat S w l [v] fp)
    (k : ∀ b a, (b = true → l = []) → Env n a ((d, vT b) :: e) → wpList P ops Q rest a w) : wpList P ops Q (⟨some d, .binOp .eql t x y y', ty, pos, af, g⟩ :: rest) a w := by
  obtain ⟨p, cap, hv, hc, hp⟩ := hs
  simp only [List.cons.injEq, and_true] at hv
  subst hv
  have hr := run_equal_slice_nil (P := P) w t el p l.length cap ht
  have hgd : (eqGuard .eql t x y (.slice p l.length cap) (.slice none 0 0)).run P w = .ok () w := by simp [eqGuard]
  have hb : (binOp .eql t (.slice p l.length cap) (.slice none 0 0)).run P w = .ok (vT p.isNone) w := by
    simp only [binOp, Sem.run_bind, hr, Result.andThen_ok, Sem.run_pure]
  refine s_val h hw rfl hd (by simp only [execOp, h.ev hx, h.ev hy, Sem.run_bind, hgd, hb, Result.andThen_ok]; rfl) fun a ha => k p.isNone a ?_ ha
  intro hn
  cases p with
  | none => exact List.eq_nil_of_length_eq_zero (by have := hp.1; omega)
  | some q => simp at hn
end
theorem okWide_array {P : Program} {w : World} {r : Reach} {base : Nat} {t : TypeId} {v : Value} {n : Nat} {e : TypeId} (ht : P.underlying t = some (.array n e)) (h : Value.okWide P w r base t v) : ∃ cs, v = .agg cs ∧ cs.size = P.cellsOf t := by
  simp only [Value.okWide, ht] at h
  obtain ⟨cs, h1, h2, _⟩ := h
  exact ⟨cs, h1, h2⟩
end Go.Proofs.YtkcaldgoomphaaaDoor
