/- The walk library, part K: struct literals; elements that are taken out of a slice of one's own. -/
import Derived.Test.YtkcaldgoomphaaaDoorLibJ
import Derived.Laws.Tables
namespace Go.Proofs.YtkcaldgoomphaaaDoor
open Go

/-! ### Struct literals -/
abbrev Places (P : Program) (fs : List Field) (pl : List (Nat × Nat)) : Prop := fs.mapM (fun f => (P.info? f.type).map fun i => (f.offset, i.size)) = some pl
abbrev FillTo (pl : List (Nat × Nat)) (z : List Value) (parts : List (Nat × Value)) (cs : List Value) : Prop := Instr.fill (pl.toArray[·]?) z.toArray parts = some cs.toArray
theorem fill_nil {pl : List (Nat × Nat)} {z : List Value} : FillTo pl z [] z := rfl
theorem fill_step {pl : List (Nat × Nat)} {pre : List (List Value)} {seg seg' : List Value} {post : List (List Value)} {rest : List (Nat × Value)} {i off size : Nat} {v : Value} {cs : List Value}
    (hi : pl[i]? = some (off, size)) (hk : clen pre = off) (hl : seg.length = size) (hl' : seg'.length = size) (hv : v.cells.toList = seg') (hr : FillTo pl (cat (pre ++ seg' :: post)) rest cs) :
    FillTo pl (cat (pre ++ seg :: post)) ((i, v) :: rest) cs := by
  subst hv
  have hvs : v.cells.size = size := by simpa using hl'
  have hfit : off + v.cells.toList.length ≤ (cat (pre ++ seg :: post)).length := fit_cat hk (by rw [hl', hl])
  have hfit2 : off + size ≤ (cat (pre ++ seg :: post)).length := by rw [hl'] at hfit; exact hfit
  have hf := foldl_splice v.cells.toList 0 off (cat (pre ++ seg :: post)).toArray (by simpa using hfit)
  have hz : v.cells.zipIdx.foldl (fun cs (c, j) => cs.setIfInBounds (off + j) c) (cat (pre ++ seg :: post)).toArray = (splice (cat (pre ++ seg :: post)) off v.cells.toList).toArray := by
    rw [← Array.foldl_toList, Array.toList_zipIdx]
    simpa using hf
  unfold FillTo
  rw [Instr.fill]
  simp only [List.getElem?_toArray, hi]
  rw [if_neg (by simp [hvs]; omega)]
  rw [hz, splice_cat hk (by rw [hl', hl])]
  have := hr
  unfold FillTo at this
  simpa only [List.getElem?_toArray] using this
section
variable {n : Nat} {a : Act} {e : List (Nat × Value)} {w w' : World} {P : Program} {ops : Array Oper} {rest : List Oper} {Q : Exit → Act → World → Prop}
variable {d : Nat} {ty t : TypeId} {pos : String} {af : Array Edge} {g : Option (Nat × Bool)} {x y : Operand} {v u : Value}
variable {St : Nat → Prop} {w0 : World} {its : List Item}
theorem s_buildStr {fs : Array Field} {pl : List (Nat × Nat)} {parts : List (Nat × Operand)} {vs : List (Nat × Value)} {z cs : List Value} {sz by_ : Nat} (h : Env n a e) (hw : Goes ops ⟨some d, .build t parts.toArray, ty, pos, af, g⟩ a) (hd : d < n)
    (hxs : opvs e (parts.map (·.2)) = some (vs.map (·.2))) (hix : parts.map (·.1) = vs.map (·.1)) (ht : Ty P t (.struct fs) sz by_ z) (hp : Places P fs.toList pl) (hf : FillTo pl z vs cs)
    (k : ∀ a, Env n a ((d, .agg cs.toArray) :: e) → wpList P ops Q rest a w) : wpList P ops Q (⟨some d, .build t parts.toArray, ty, pos, af, g⟩ :: rest) a w := by
  refine s_val h hw rfl hd (w' := w) ?_ k
  have hvals : (parts.map fun (p : Nat × Operand) => (p.1, a.eval p.2)) = vs := by
    have h1 := h.evs hxs
    rw [List.map_map] at h1
    apply List.ext_getElem?
    intro i
    have e1 : (parts.map (·.1))[i]? = (vs.map (·.1))[i]? := by rw [hix]
    have e2 : (parts.map (a.eval ∘ fun (p : Nat × Operand) => p.2))[i]? = (vs.map (·.2))[i]? := by rw [h1]
    simp only [List.getElem?_map] at e1 e2 ⊢
    cases hp : parts[i]? with
    | none =>
      rw [hp] at e1
      cases hq : vs[i]? with
      | none => rfl
      | some q => rw [hq] at e1; simp at e1
    | some p =>
      rw [hp] at e1 e2
      cases hq : vs[i]? with
      | none => rw [hq] at e1; simp at e1
      | some q =>
        rw [hq] at e1 e2
        simp only [Option.map_some, Option.some.injEq] at e1 e2 ⊢
        exact Prod.ext e1 e2
  have hb : P.built t vs = some cs.toArray := by
    obtain ⟨i, zv, h1, h2, _, h3, h4⟩ := ht.get
    unfold Program.built
    rw [h1, ht.und]
    simp only [h3]
    rw [show fs.toList.mapM (fun f => (P.info? f.type).map fun i => (f.offset, i.size)) = some pl from hp]
    have h5 : zv.cells = z.toArray := by rw [← h4]
    simp only [h5]
    exact hf
  simp only [execOp]
  have : (parts.toArray.map fun (p : Nat × Operand) => (p.1, a.eval p.2)) = vs.toArray := by rw [List.map_toArray, hvals]
  simp only [Sem.run_bind]
  rw [show (Instr.build t (parts.toArray.map fun (i, x) => (i, a.eval x))).run P w = .ok (.agg cs.toArray) w from by
    have h2 := run_build (P := P) w t (parts.toArray.map fun (i, x) => (i, a.eval x)) cs.toArray (by
      have : (parts.toArray.map fun (i, x) => (i, a.eval x)).toList = vs := by simpa using hvals
      rw [this]; exact hb)
    exact h2]
  rfl
end


/-! ### Drawn regions whose operations make memory -/
def opt (b : Bool) (it : Item) : Item := fun w fp => if b = true then it w fp else fp = []
def optL (mk : List (Nat × (Value → Item))) (D : Nat → Bool) (u : Nat → Value) : List Item := mk.map fun p => opt (D p.1) (p.2 (u p.1))
def updD (D : Nat → Bool) (i : Nat) : Nat → Bool := fun j => if j = i then true else D j
theorem opt_true (it : Item) : opt true it = it := by funext w fp; simp [opt]
theorem opt_false (it : Item) : opt false it = emp := by funext w fp; simp [opt, emp]
section
variable {St : Nat → Prop} {w0 w : World} {its pre post : List Item} {it : Item} {b : Bool}
theorem M.sure (h : M St w0 w (pre ++ opt b it :: post)) (hb : b = true) : M St w0 w (pre ++ it :: post) := by subst hb; rwa [opt_true] at h
theorem M.push {pre post : List Item} (h : M St w0 w (it :: (pre ++ post))) : M St w0 w (pre ++ it :: post) := by
  obtain ⟨hk, hs, fp, ⟨g1, g, rfl, l1, l2, k⟩, h2, h3⟩ := h
  obtain ⟨f, g2, rfl, k1, k2⟩ := SepR.split k
  refine ⟨hk, hs, f ++ (g1 ++ g2), SepR.append k1 ⟨g1, g2, rfl, l1, l2, k2⟩, ?_, fun b hb => h3 b (by simp at hb ⊢; grind)⟩
  refine (List.Perm.nodup_iff ?_).1 h2
  rw [← List.append_assoc, ← List.append_assoc]
  exact List.Perm.append_right _ List.perm_append_comm
theorem M.emps (h : M St w0 w its) (mk : List (Nat × (Value → Item))) (u : Nat → Value) : M St w0 w (its ++ optL mk (fun _ => false) u) := by
  induction mk with
  | nil => simpa [optL] using h
  | cons p mk ih =>
    have : M St w0 w (Go.Proofs.YtkcaldgoomphaaaDoor.emp :: (its ++ optL mk (fun _ => false) u)) := ih.emp
    rw [← opt_false (p.2 (u p.1))] at this
    exact M.push this
theorem optL_upd {mk : List (Nat × (Value → Item))} {D : Nat → Bool} {u : Nat → Value} {i : Nat} {v : Value} (hi : ∀ p ∈ mk, p.1 ≠ i) : optL mk (updD D i) (updU u i v) = optL mk D u := by
  unfold optL
  apply List.map_congr_left
  intro p hp
  simp only [updD, updU, if_neg (hi p hp)]
/-- An operation that makes nothing. -/
theorem M.optKeep {mk : List (Nat × (Value → Item))} {D : Nat → Bool} {u : Nat → Value} {i : Nat} {v : Value} (h : M St w0 w (its ++ optL mk D u)) (hi : (mk.all fun p => p.1 != i) = true) : M St w0 w (its ++ optL mk (updD D i) (updU u i v)) := by
  rw [optL_upd]; exact h
  intro p hp
  have := List.all_eq_true.1 hi p hp
  simpa using this
/-- An operation that makes an item. -/
theorem M.optFill {mk1 mk2 : List (Nat × (Value → Item))} {D : Nat → Bool} {u : Nat → Value} {i : Nat} {v : Value} {f : Value → Item} (h : M St w0 w (f v :: (its ++ optL (mk1 ++ (i, f) :: mk2) D u))) (hi : ((mk1 ++ mk2).all fun p => p.1 != i) = true) (hD : D i = false) :
    M St w0 w (its ++ optL (mk1 ++ (i, f) :: mk2) (updD D i) (updU u i v)) := by
  have hne : ∀ p ∈ mk1 ++ mk2, p.1 ≠ i := fun p hp => by have := List.all_eq_true.1 hi p hp; simpa using this
  have e1 : ∀ D u, optL (mk1 ++ (i, f) :: mk2) D u = optL mk1 D u ++ (opt (D i) (f (u i)) :: optL mk2 D u) := by intro D u; simp [optL]
  rw [e1] at h ⊢
  rw [optL_upd (fun p hp => hne p (List.mem_append_left _ hp)), optL_upd (fun p hp => hne p (List.mem_append_right _ hp))]
  rw [hD, opt_false] at h
  have h2 : M St w0 w ((f v :: (its ++ optL mk1 D u)) ++ Go.Proofs.YtkcaldgoomphaaaDoor.emp :: optL mk2 D u) := by simpa using h
  have h3 := h2.pull.drop
  have h4 : M St w0 w (f v :: ((its ++ optL mk1 D u) ++ optL mk2 D u)) := by simpa using h3
  have h5 := M.push h4
  have e2 : opt (updD D i i) (f (updU u i v i)) = f v := by simp [updD, updU, opt_true]
  rw [e2]
  simpa using h5
end

def DrawI2 (P : Program) (l hd tl : List Oper) (Q : Exit → Act → World → Prop) (n : Nat) (ts : List Nat) (e0 : List (Nat × Value)) (St : Nat → Prop) (w0 : World) (its : List Item) (mk : List (Nat × (Value → Item))) (G : Nat → Value → Prop) (listed : Array Bool) (a : Act) (w : World) : Prop :=
  ((∀ i, i < hd.length → dn listed i) ∧ ∃ k, k ≤ tl.length ∧ (∀ j, j < k → dn listed (hd.length + j)) ∧ (∀ j, k ≤ j → j < tl.length → ¬ dn listed (hd.length + j)) ∧ wpList P l.toArray Q (tl.drop k) a w) ∨
  ((¬ ∀ i, i < hd.length → dn listed i) ∧ (∀ j, hd.length ≤ j → ¬ dn listed j) ∧ ∃ u, Env n a (envU ts 0 u e0) ∧ M St w0 w (its ++ optL mk (fun j => listed.getD j false) u) ∧ ∀ j, dn listed j → G j (u j))

/-- The law, with items that come up on the way. -/
theorem c_draw2 {P : Program} {id : Nat} {hd tl : List Oper} {Q : Exit → Act → World → Prop} {a : Act} {w : World} {n : Nat} {e0 : List (Nat × Value)} {St : Nat → Prop} {w0 : World} {its : List Item}
    (hm : P.follows .mixedOrders = true) (hE : edgesB (hd ++ tl) 0 = true) (hT : tailB (hd ++ tl) hd.length = true)
    (ts : List Nat) (hn : ts.Nodup) (mk : List (Nat × (Value → Item))) (hmk : (mk.all fun p => decide (p.1 < hd.length)) = true) (G : Nat → Value → Prop)
    (h0 : Env n a e0) (hM0 : M St w0 w.drew its)
    (hstep : ∀ (i : Nat) (o : Oper), hd[i]? = some o → ∀ a w (u : Nat → Value) (D : Nat → Bool), Env n a (envU ts 0 u e0) → M St w0 w (its ++ optL mk D u) → D i = false → (∀ (k : Nat) (e : Edge), o.after.toList[k]? = some e → Region.binds .any e = true → D e.on = true ∧ G e.on (u e.on)) →
      wpList P (hd ++ tl).toArray (nrm fun a' w' => ∃ v t, ts[i]? = some t ∧ Env n a' ((t, v) :: envU ts 0 u e0) ∧ G i v ∧ M St w0 w' (its ++ optL mk (updD D i) (updU u i v))) [o] a w)
    (htail : ∀ a w u, Env n a (envU ts 0 u e0) → M St w0 w (its ++ mk.map fun p => p.2 (u p.1)) → (∀ j, j < hd.length → G j (u j)) → wpList P (hd ++ tl).toArray Q tl a w) :
    (Code.region id (hd ++ tl).toArray true).wp P Q a w := by
  refine wp_region_any hm ?_
  generalize hl : hd ++ tl = l at *
  have hln : l.length = hd.length + tl.length := by rw [← hl]; simp
  have hmk' : ∀ p ∈ mk, p.1 < hd.length := fun p hp => by have := List.all_eq_true.1 hmk p hp; simpa using this
  have hbl : (bef l []).length = l.length := by
    have : ∀ (r : List Oper) (acc : List Nat), (bef r acc).length = acc.length + r.length := by
      intro r; induction r with
      | nil => intro acc; simp [bef]
      | cons o r ih => intro acc; rw [bef, ih]; simp; omega
    rw [this]; simp
  have tailDone : ∀ listed i o, l[i]? = some o → hd.length ≤ i → DownC l (dn listed) → (∀ e ∈ o.after.toList, Region.binds .any e = true → dn listed e.on) → ∀ j, j < i → dn listed j := by
    intro listed i o hi hle hdc hp j hj
    have hil := (List.getElem?_eq_some_iff.1 hi).1
    have hbit : ((bef l []).getD i 0).testBit j = true := by
      unfold tailB at hT
      simp only [List.all_eq_true] at hT
      have := hT i (by simpa using hil)
      simp only [Bool.or_eq_true, decide_eq_true_eq, List.all_eq_true] at this
      rcases this with h | h
      · omega
      · exact h j (by simpa using hj)
    exact bef_spec l l [] 0 rfl (by simp) (fun i hi => absurd hi (Nat.not_lt_zero i)) i (by rw [hbl]; exact hil) (dn listed) hdc (fun o' e ho' he hb => by rw [hi] at ho'; cases ho'; exact hp e he hb) j hbit
  have hfuel : ((List.range l.length).filter fun i => !(Array.replicate l.toArray.size false).getD i false).length ≤ l.toArray.size := by
    refine Nat.le_trans (List.length_filter_le _ _) ?_; simp
  have hnot0 : ∀ i, ¬ dn (Array.replicate l.toArray.size false) i := by
    intro i; unfold dn; rw [Array.getD_eq_getD_getElem?, Array.getElem?_replicate]; split <;> simp
  have full : ∀ listed u, (∀ i, i < hd.length → dn listed i) → optL mk (fun j => listed.getD j false) u = mk.map fun p => p.2 (u p.1) := by
    intro listed u hall
    unfold optL
    apply List.map_congr_left
    intro p hp
    have : listed.getD p.1 false = true := hall _ (hmk' p hp)
    show opt (listed.getD p.1 false) _ = _
    rw [this, opt_true]
  refine wpAny_of_inv hE (DrawI2 P l hd tl Q n ts e0 St w0 its mk G) ?_ ?_ _ _ _ _ (by simp) hfuel (fun i o e _ _ _ h => absurd h (hnot0 i)) ?_
  · intro listed i o a w hsz hi hnd hdc hp hI
    have hil := (List.getElem?_eq_some_iff.1 hi).1
    by_cases hh : i < hd.length
    · -- a head operation
      have hnall : ¬ ∀ i, i < hd.length → dn listed i := fun h => hnd (h i hh)
      obtain ⟨h, _⟩ | ⟨_, ht0, u, k1, k2, k3⟩ := hI
      · exact absurd h hnall
      have hio : hd[i]? = some o := by rw [← hl] at hi; rwa [List.getElem?_append_left hh] at hi
      refine wpOp_of (by simpa using hi) ?_
      have hs := hstep i o hio a w u (fun j => listed.getD j false) k1 k2 (by simpa [dn] using hnd) (fun k e hk hb => ⟨hp e (List.mem_of_getElem? hk) hb, k3 _ (hp e (List.mem_of_getElem? hk) hb)⟩)
      have hmono : ∀ (X Y : Act → World → Prop), (∀ a w, X a w → Y a w) → ∀ a w, wpList P l.toArray (nrm X) [o] a w → wpList P l.toArray (nrm Y) [o] a w := by
        intro X Y hXY a w h
        unfold wpList at h ⊢
        split
        · rename_i hw
          rw [if_pos hw] at h
          rcases h with h | ⟨_, a', w', h⟩
          · exact .inl (Oper.wp_mono2 (fun _ _ h => hXY _ _ h) (fun _ _ _ h => h.elim) (fun ⟨_, _, h⟩ => h.elim) h)
          · exact h.elim
        · rename_i hw
          rw [if_neg hw] at h
          exact hXY _ _ h
      refine hmono _ _ ?_ a w hs
      rintro a' w' ⟨v, t, hti, hEnv, hGi, hM'⟩
      have hEnv' := hEnv.upd hn hti
      have hset : ∀ j, dn (listed.setIfInBounds i true) j ↔ (j = i ∨ dn listed j) := fun j => dn_set (by omega)
      have hD : (fun j => (listed.setIfInBounds i true).getD j false) = updD (fun j => listed.getD j false) i := by
        funext j
        unfold updD
        by_cases hj : j = i
        · rw [if_pos hj]; exact (hset j).2 (.inl hj)
        · rw [if_neg hj]
          rw [Bool.eq_iff_iff]
          exact (hset j).trans ⟨fun h => h.resolve_left hj, .inr⟩
      have hG' : ∀ j, dn (listed.setIfInBounds i true) j → G j (updU u i v j) := by
        intro j hj
        rcases (hset j).1 hj with rfl | hj'
        · simpa [updU] using hGi
        · have hji : j ≠ i := fun h => by subst h; exact hnd hj'
          simp only [updU, if_neg hji]
          exact k3 j hj'
      have htn : ∀ j, hd.length ≤ j → ¬ dn (listed.setIfInBounds i true) j := by
        intro j hj hd'
        rcases (hset j).1 hd' with rfl | hj'
        · omega
        · exact ht0 j hj hj'
      rw [← hD] at hM'
      by_cases hall : ∀ j, j < hd.length → dn (listed.setIfInBounds i true) j
      · exact .inl ⟨hall, 0, Nat.zero_le _, fun j hj => by omega, fun j _ _ => htn _ (by omega), htail a' w' _ hEnv' (by rw [← full _ _ hall]; exact hM') (fun j hj => hG' j (hall j hj))⟩
      · exact .inr ⟨hall, htn, _, hEnv', hM', hG'⟩
    · have hdone := tailDone listed i o hi (by omega) hdc hp
      have hall : ∀ j, j < hd.length → dn listed j := fun j hj => hdone j (by omega)
      obtain ⟨_, k, hk, k1, k2, k3⟩ | ⟨h, _⟩ := hI
      case inr => exact absurd hall h
      have hki : hd.length + k = i := by
        rcases Nat.lt_trichotomy (hd.length + k) i with h | h | h
        · exact absurd (hdone _ h) (k2 k (Nat.le_refl _) (by omega))
        · exact h
        · exact absurd (by have := k1 (i - hd.length) (by omega); rwa [show hd.length + (i - hd.length) = i by omega] at this) hnd
      have hto : tl[k]? = some o := by
        rw [← hl] at hi
        rw [List.getElem?_append_right (by omega)] at hi
        rwa [show i - hd.length = k by omega] at hi
      have hdr : tl.drop k = o :: tl.drop (k + 1) := by
        rw [List.drop_eq_getElem_cons (List.getElem?_eq_some_iff.1 hto).1]
        congr 1
        exact (List.getElem?_eq_some_iff.1 hto).2
      rw [hdr] at k3
      refine wpOp_mono (fun a' w' hl => ?_) (wpOp_list (by simpa using hi) k3)
      have hset : ∀ j, dn (listed.setIfInBounds i true) j ↔ (j = i ∨ dn listed j) := fun j => dn_set (by omega)
      have hall' : ∀ j, j < hd.length → dn (listed.setIfInBounds i true) j := fun j hj => (hset j).2 (.inr (hall j hj))
      refine .inl ⟨hall', k + 1, (List.getElem?_eq_some_iff.1 hto).1, fun j hj => (hset _).2 ?_, fun j hj1 hj2 hd' => ?_, hl⟩
      · rcases Nat.lt_or_ge j k with h | h
        · exact .inr (k1 j h)
        · exact .inl (by omega)
      · rcases (hset _).1 hd' with h | h
        · omega
        · exact k2 j (by omega) hj2 h
  · intro listed a w hsz hall hI
    have hall' : ∀ i, i < hd.length → dn listed i := fun i hi => hall i (by omega)
    obtain ⟨_, k, hk, k1, k2, k3⟩ | ⟨h, _⟩ := hI
    case inr => exact absurd hall' h
    have : k = tl.length := by
      rcases Nat.lt_or_ge k tl.length with h | h
      · exact absurd (hall (hd.length + k) (by omega)) (k2 k (Nat.le_refl _) h)
      · omega
    subst this
    rw [List.drop_length] at k3
    exact k3
  · have hu : ∀ (r : List Nat) (j : Nat) (u : Nat → Value), (∀ k t, r[k]? = some t → u (j + k) = a.tmps.getD t undef) → Env n a (envU r j u e0) := by
      intro r
      induction r with
      | nil => intro j u _; exact h0
      | cons t r ih =>
        intro j u hu
        have h1 := ih (j + 1) u (fun k s hk => by have := hu (k + 1) s (by simpa using hk); rwa [show j + (k + 1) = j + 1 + k by omega] at this)
        refine ⟨h1.sz, h1.df, fun s x hs => ?_⟩
        simp only [envU, List.lookup_cons] at hs
        by_cases hst : s = t
        · subst hst
          simp at hs
          rw [← hs]
          exact (hu 0 s rfl).symm
        · rw [show (s == t) = false by simpa using hst] at hs
          exact h1.get s x hs
    have hEnv : Env n a (envU ts 0 (fun j => a.tmps.getD (ts.getD j 0) undef) e0) := hu ts 0 _ (fun k t hk => by simp [List.getD_eq_getElem?_getD, hk])
    have hDf : (fun j => (Array.replicate l.toArray.size false).getD j false) = fun _ => false := by
      funext j
      have := hnot0 j
      unfold dn at this
      simpa using this
    by_cases hall : ∀ i, i < hd.length → dn (Array.replicate l.toArray.size false) i
    · have hnil : hd.length = 0 := by
        rcases Nat.eq_zero_or_pos hd.length with h | h
        · exact h
        · exact absurd (hall 0 h) (hnot0 0)
      have hmk0 : mk = [] := List.eq_nil_iff_forall_not_mem.2 fun p hp => by have := hmk' p hp; omega
      exact .inl ⟨hall, 0, Nat.zero_le _, fun j hj => by omega, fun j _ _ => hnot0 _, htail a _ _ hEnv (by subst hmk0; simpa using hM0) (fun j hj => by omega)⟩
    · refine .inr ⟨hall, fun j _ => hnot0 j, _, hEnv, ?_, fun j hj => absurd hj (hnot0 j)⟩
      rw [hDf]
      exact hM0.emps mk _
end Go.Proofs.YtkcaldgoomphaaaDoor
