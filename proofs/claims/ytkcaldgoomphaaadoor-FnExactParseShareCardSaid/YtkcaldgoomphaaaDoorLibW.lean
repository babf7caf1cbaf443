/- The walk library: drawn regions, in short. -/
import Derived.Test.YtkcaldgoomphaaaDoorLibV
namespace Go.Proofs.YtkcaldgoomphaaaDoor
open Go
/-- What an operation of a drawn region yields: a value, one that follows from those of makers, or a new one. -/
inductive Ent where
  | p0 (v : Value)
  | pl (ds : List Nat) (f : List Value → Value)
  | mk (pr : Value → Prop)
def Ent.g : Ent → List Nat × (List Value → Value → Prop)
  | .p0 x => ([], fun _ v => v = x)
  | .pl ds f => (ds, fun us v => v = f us)
  | .mk pr => ([], fun _ v => pr v)
def Ent.v (u : Nat → Value) (j : Nat) : Ent → Value
  | .p0 x => x
  | .pl ds f => f (ds.map u)
  | .mk _ => u j
def Ent.p (u : Nat → Value) (j t : Nat) : Ent → Nat × Value
  | .p0 x => (t, x)
  | .pl ds f => (t, f (ds.map u))
  | .mk _ => (t, u j)
theorem Ent.p_eq {u : Nat → Value} {j t : Nat} : ∀ {x : Ent}, x.p u j t = (t, x.v u j)
  | .p0 _ => rfl
  | .pl _ _ => rfl
  | .mk _ => rfl
/-- What the operations ahead of operation i have put into their slots (acc: the last one first). -/
def depE (ts : List Nat) (i : Nat) (acc : List Ent) (u : Nat → Value) : List Edge → List (Nat × Value)
  | [] => []
  | e :: r => cond (Region.binds .any e && decide (e.on < i)) (match ts[e.on]?, acc[i - 1 - e.on]? with
      | some t, some x => x.p u e.on t :: depE ts i acc u r
      | _, _ => depE ts i acc u r) (depE ts i acc u r)
def finE (ts : List Nat) (u : Nat → Value) : List Ent → Nat → List (Nat × Value)
  | x :: F, i + 1 => (match ts[i]? with | some t => x.p u i t | none => (0, undef)) :: finE ts u F i
  | _, _ => []
theorem depE_mem {ts : List Nat} {i : Nat} {acc : List Ent} {u : Nat → Value} : ∀ {es : List Edge} {p : Nat × Value}, p ∈ depE ts i acc u es → ∃ e ∈ es, Region.binds .any e = true ∧ e.on < i ∧ ∃ x, ts[e.on]? = some p.1 ∧ acc[i - 1 - e.on]? = some x ∧ p.2 = x.v u e.on
  | [], p, h => by cases h
  | e :: r, p, h => by
    have tl : p ∈ depE ts i acc u r → ∃ e' ∈ e :: r, Region.binds .any e' = true ∧ e'.on < i ∧ ∃ x, ts[e'.on]? = some p.1 ∧ acc[i - 1 - e'.on]? = some x ∧ p.2 = x.v u e'.on := fun h => by
      obtain ⟨e', h1, h2⟩ := depE_mem h
      exact ⟨e', by simp [h1], h2⟩
    unfold depE at h
    cases hb : (Region.binds .any e && decide (e.on < i))
    · rw [hb] at h; exact tl h
    · rw [hb] at h
      simp only [cond_true] at h
      simp only [Bool.and_eq_true, decide_eq_true_eq] at hb
      split at h
      · rename_i t x h1 h2
        rcases List.mem_cons.1 h with rfl | h
        · rw [Ent.p_eq]
          exact ⟨e, by simp, hb.1, hb.2, x, h1, h2, rfl⟩
        · exact tl h
      · exact tl h
theorem lookup_mem {l : List (Nat × Value)} {s : Nat} {x : Value} (h : l.lookup s = some x) : (s, x) ∈ l := by
  induction l with
  | nil => cases h
  | cons p l ih =>
    obtain ⟨t, v⟩ := p
    rw [List.lookup_cons] at h
    by_cases hst : s = t
    · subst hst; simp at h; subst h; simp
    · rw [show (s == t) = false by simpa using hst] at h
      exact List.mem_cons_of_mem _ (ih h)
theorem lookup_app {X Y : List (Nat × Value)} {s : Nat} : (X ++ Y).lookup s = match X.lookup s with | some x => some x | none => Y.lookup s := by
  induction X with
  | nil => rfl
  | cons p X ih =>
    obtain ⟨t, v⟩ := p
    rw [List.cons_append, List.lookup_cons, List.lookup_cons]
    cases (s == t)
    · exact ih
    · rfl
theorem Env.pre {n : Nat} {a : Act} {X Y : List (Nat × Value)} (h : Env n a Y) (hX : ∀ p ∈ X, Y.lookup p.1 = some p.2) : Env n a (X ++ Y) := by
  refine ⟨h.sz, h.df, fun s v hs => ?_⟩
  rw [lookup_app] at hs
  cases hx : X.lookup s with
  | none => rw [hx] at hs; exact h.get s v hs
  | some x =>
    rw [hx] at hs
    cases hs
    exact h.get s v (hX _ (lookup_mem hx))
theorem Env.unpre {n : Nat} {a : Act} {X Y : List (Nat × Value)} {t : Nat} {v : Value} (h : Env n a ((t, v) :: (X ++ Y))) (hX : ∀ p ∈ X, Y.lookup p.1 = some p.2) : Env n a ((t, v) :: Y) := by
  refine ⟨h.sz, h.df, fun s x hs => h.get s x ?_⟩
  rw [List.lookup_cons] at hs ⊢
  cases hst : (s == t)
  · rw [hst] at hs
    simp only at hs ⊢
    rw [lookup_app]
    cases hx : X.lookup s with
    | none => exact hs
    | some y =>
      have := hX _ (lookup_mem hx)
      simp only at this
      rw [this] at hs
      exact hs
  · rw [hst] at hs; exact hs
theorem wp1_mono {P : Program} {ops : Array Oper} {o : Oper} {X Y : Act → World → Prop} {a : Act} {w : World} (h : wpList P ops (nrm X) [o] a w) (hXY : ∀ a w, X a w → Y a w) : wpList P ops (nrm Y) [o] a w := by
  unfold wpList at h ⊢
  split
  · rename_i hw
    rw [if_pos hw] at h
    rcases h with h | ⟨_, a', w', h⟩
    · exact .inl (Oper.wp_mono2 (fun _ _ h => hXY _ _ h) (fun _ _ _ h => h.elim) (fun ⟨_, _, h⟩ => h.elim) h)
    · exact h.elim
  · rename_i hw
    rw [if_neg hw] at h
    exact hXY _ _ h
/-- What an operation of a drawn region may build on. -/
structure QC (n : Nat) (ts : List Nat) (e0 : List (Nat × Value)) (St : Nat → Prop) (w0 : World) (its : List Item) (mk : Mk) (hd : List Oper) (i : Nat) (acc : List Ent) (o : Oper) (a : Act) (w : World) (u : Nat → Value) (D : Nat → Bool) : Prop where
  E : Env n a (depE ts i acc u o.after.toList ++ envU ts 0 u e0)
  M : M St w0 w (its ++ qL mk D u)
  G : GOk (acc.reverse.map Ent.g) D u
  F : D i = false
  c : ∀ (j : Nat) (p : Oper) (e : Edge), hd[j]? = some p → e ∈ p.after.toList → Region.binds .any e = true → D j = true → D e.on = true
  p : ∀ (k : Nat) (e : Edge), o.after.toList[k]? = some e → Region.binds .any e = true → D e.on = true
section
variable (P : Program) (ops : Array Oper) (n : Nat) (ts : List Nat) (e0 : List (Nat × Value)) (St : Nat → Prop) (w0 : World) (its : List Item) (mk : Mk) (hd : List Oper)
def QOk (i : Nat) (acc : List Ent) (o : Oper) (x : Ent) : Prop :=
  ∀ a w (u : Nat → Value) (D : Nat → Bool), QC n ts e0 St w0 its mk hd i acc o a w u D → wpList P ops (nrm fun a' w' => ∃ v t, ts[i]? = some t ∧ Env n a' ((t, v) :: (depE ts i acc u o.after.toList ++ envU ts 0 u e0)) ∧
    ((∀ k ∈ x.g.1, D k = true) ∧ x.g.2 (x.g.1.map u) v) ∧ M St w0 w' (its ++ qL mk (updD D i) (updU u i v))) [o] a w
def QS : Nat → List Oper → List Ent → List Ent → Prop
  | _, [], acc, F => F = acc
  | i, o :: r, acc, F => ∃ x, QOk P ops n ts e0 St w0 its mk hd i acc o x ∧ QS (i + 1) r (x :: acc) F
end
section
variable {P : Program} {ops : Array Oper} {n : Nat} {ts : List Nat} {e0 : List (Nat × Value)} {St : Nat → Prop} {w0 : World} {its : List Item} {mk : Mk} {hd : List Oper} {i : Nat} {acc F : List Ent} {o : Oper} {r : List Oper}
theorem QS.pre : ∀ {r : List Oper} {i : Nat} {acc F : List Ent}, acc.length = i → QS P ops n ts e0 St w0 its mk hd i r acc F → F.length = i + r.length ∧ F.drop r.length = acc ∧ ∀ k o, r[k]? = some o → ∃ x, F.reverse[i + k]? = some x ∧ ∃ A, A.reverse = F.reverse.take (i + k) ∧ A.length = i + k ∧ QOk P ops n ts e0 St w0 its mk hd (i + k) A o x
  | [], i, acc, F, hi, h => by
    obtain rfl : F = acc := h
    exact ⟨by simpa using hi, by simp, fun i o h => by simp at h⟩
  | p :: r, i, acc, F, hi, ⟨x, h1, h2⟩ => by
    obtain ⟨k1, k2, k3⟩ := QS.pre (by simp [hi]) h2
    have hrev : F.reverse.take (i + 1) = acc.reverse ++ [x] := by
      have : F.reverse = (F.drop r.length).reverse ++ (F.take r.length).reverse := by rw [← List.reverse_append, List.take_append_drop]
      rw [this, k2, List.reverse_cons, List.take_append_of_le_length (by simp [hi])]
      rw [List.take_of_length_le (by simp [hi])]
    refine ⟨by simp only [List.length_cons]; omega, ?_, fun k o hk => ?_⟩
    · have := congrArg (List.drop 1) k2
      rw [List.drop_drop] at this
      simpa [Nat.add_comm] using this
    · cases k with
      | zero =>
        simp at hk; subst hk
        refine ⟨x, ?_, acc, ?_, by simpa using hi, h1⟩
        · have h5 : (F.reverse.take (i + 1))[i]? = some x := by rw [hrev, List.getElem?_append_right (by simp [hi])]; simp [hi]
          rw [List.getElem?_take_of_lt (by omega)] at h5
          simpa using h5
        · have h6 := congrArg (List.take i) hrev
          rw [List.take_take, Nat.min_eq_left (by omega)] at h6
          rw [Nat.add_zero, h6, List.take_append_of_le_length (by simp [hi])]
          exact (List.take_of_length_le (by simp [hi])).symm
      | succ k =>
        obtain ⟨y, h3, h4⟩ := k3 k o (by simpa using hk)
        have e : i + (k + 1) = i + 1 + k := by omega
        rw [e]
        exact ⟨y, h3, h4⟩
theorem qs0 : QS P ops n ts e0 St w0 its mk hd i [] acc acc := rfl
/-- Nothing is made. -/
theorem qsP {v : Value} (h : ∀ {a w} {u : Nat → Value} {D : Nat → Bool}, QC n ts e0 St w0 its mk hd i acc o a w u D → wpList P ops (nrm fun a' w' => Kept (Old w) w w' ∧ ∃ t, ts[i]? = some t ∧ Env n a' ((t, v) :: (depE ts i acc u o.after.toList ++ envU ts 0 u e0))) [o] a w)
    (k : QS P ops n ts e0 St w0 its mk hd (i + 1) r (.p0 v :: acc) F) (hi : (mk.all fun p => p.1.all fun k => k != i) = true := by rfl) : QS P ops n ts e0 St w0 its mk hd i (o :: r) acc F := by
  refine ⟨.p0 v, fun a w u D x => wp1_mono (h x) ?_, k⟩
  rintro a' w' ⟨hK, t, ht, hE⟩
  exact ⟨v, t, ht, hE, ⟨(fun k h => by cases h), rfl⟩, M.qKeep (x.M.keep hK) hi⟩
theorem qsD {ds : List Nat} {f : List Value → Value} (h : ∀ {a w} {u : Nat → Value} {D : Nat → Bool}, QC n ts e0 St w0 its mk hd i acc o a w u D → wpList P ops (nrm fun a' w' => Kept (Old w) w w' ∧ (∀ k ∈ ds, D k = true) ∧ ∃ t, ts[i]? = some t ∧ Env n a' ((t, f (ds.map u)) :: (depE ts i acc u o.after.toList ++ envU ts 0 u e0))) [o] a w)
    (k : QS P ops n ts e0 St w0 its mk hd (i + 1) r (.pl ds f :: acc) F) (hi : (mk.all fun p => p.1.all fun k => k != i) = true := by rfl) : QS P ops n ts e0 St w0 its mk hd i (o :: r) acc F := by
  refine ⟨.pl ds f, fun a w u D x => wp1_mono (h x) ?_, k⟩
  rintro a' w' ⟨hK, hd', t, ht, hE⟩
  exact ⟨_, t, ht, hE, ⟨hd', rfl⟩, M.qKeep (x.M.keep hK) hi⟩
/-- Something is made. -/
theorem qsM {pr : Value → Prop} (h : ∀ {a w} {u : Nat → Value} {D : Nat → Bool}, QC n ts e0 St w0 its mk hd i acc o a w u D → wpList P ops (nrm fun a' w' => ∃ v t, ts[i]? = some t ∧ Env n a' ((t, v) :: (depE ts i acc u o.after.toList ++ envU ts 0 u e0)) ∧ M St w0 w' (its ++ qL mk (updD D i) (updU u i v)) ∧ pr v) [o] a w)
    (k : QS P ops n ts e0 St w0 its mk hd (i + 1) r (.mk pr :: acc) F) : QS P ops n ts e0 St w0 its mk hd i (o :: r) acc F := by
  refine ⟨.mk pr, fun a w u D x => wp1_mono (h x) ?_, k⟩
  rintro a' w' ⟨v, t, ht, hE, hM, hp⟩
  exact ⟨v, t, ht, hE, ⟨(fun k h => by cases h), hp⟩, hM⟩
theorem qsV {v : Value} (h : ∀ {a w} {u : Nat → Value} {D : Nat → Bool}, QC n ts e0 St w0 its mk hd i acc o a w u D → wpList P ops (nrm fun a' w' => ∃ t, ts[i]? = some t ∧ Env n a' ((t, v) :: (depE ts i acc u o.after.toList ++ envU ts 0 u e0)) ∧ M St w0 w' (its ++ qL mk (updD D i) (updU u i v))) [o] a w)
    (k : QS P ops n ts e0 St w0 its mk hd (i + 1) r (.p0 v :: acc) F) : QS P ops n ts e0 St w0 its mk hd i (o :: r) acc F := by
  refine ⟨.p0 v, fun a w u D x => wp1_mono (h x) ?_, k⟩
  rintro a' w' ⟨t, ht, hE, hM⟩
  exact ⟨v, t, ht, hE, ⟨(fun k h => by cases h), rfl⟩, hM⟩
theorem Ent.eq {x : Ent} {u : Nat → Value} {j : Nat} (h : x.g.2 (x.g.1.map u) (u j)) : u j = x.v u j := by
  cases x with
  | p0 v => exact h
  | pl ds f => exact h
  | mk pr => rfl
theorem Env.setq {a : Act} {e : List (Nat × Value)} {t : Nat} {x y : Value} (h : Env n a e) (hl : e.lookup t = some x) (hq : x = y) : Env n a ((t, y) :: e) := by
  subst hq
  exact Env.pre (X := [(t, x)]) h fun p hp => by
    simp only [List.mem_singleton] at hp
    subst hp; exact hl
theorem finE_mem {u : Nat → Value} {s : Nat} {y : Value} : ∀ {F : List Ent} {m : Nat}, m ≤ ts.length → F.length = m → (s, y) ∈ finE ts u F m → ∃ (i : Nat) (x : Ent), ts[i]? = some s ∧ F.reverse[i]? = some x ∧ y = x.v u i
  | [], m, _, hl, h => by simp [finE] at h
  | x :: F, 0, _, hl, h => by simp at hl
  | x :: F, m + 1, hm, hl, h => by
    rw [finE] at h
    have ht : ts[m]? = some ts[m] := List.getElem?_eq_getElem (by omega)
    rw [ht] at h
    have hFl : F.length = m := by simpa using hl
    rcases List.mem_cons.1 h with h | h
    · simp only at h
      rw [Ent.p_eq] at h
      cases h
      refine ⟨m, x, ht, ?_, rfl⟩
      rw [List.reverse_cons, List.getElem?_append_right (by simp [hFl])]
      simp [hFl]
    · obtain ⟨i, z, h1, h2, h3⟩ := finE_mem (by omega) hFl h
      refine ⟨i, z, h1, ?_, h3⟩
      have := (List.getElem?_eq_some_iff.1 h2).1
      rw [List.reverse_cons, List.getElem?_append_left this]
      exact h2
theorem finE_none {u : Nat → Value} {s : Nat} : ∀ {F : List Ent} {m : Nat}, m ≤ ts.length → F.length = m → (finE ts u F m).lookup s = none → ∀ i, i < m → ts[i]? ≠ some s
  | [], m, _, hl, _ => fun i hi => by simp at hl; omega
  | x :: F, 0, _, hl, _ => by simp at hl
  | x :: F, m + 1, hm, hl, hn => fun i hi hs => by
    rw [finE] at hn
    have ht : ts[m]? = some ts[m] := List.getElem?_eq_getElem (by omega)
    rw [ht] at hn
    simp only at hn
    rw [Ent.p_eq, List.lookup_cons] at hn
    by_cases hst : s = ts[m]
    · rw [show (s == ts[m]) = true by simpa using hst] at hn; cases hn
    · rw [show (s == ts[m]) = false by simpa using hst] at hn
      by_cases him : i = m
      · subst him; rw [ht] at hs; exact hst (by simpa using hs.symm)
      · exact finE_none (by omega) (by simpa using hl) hn i (by omega) hs
theorem Env.fin {a : Act} {u : Nat → Value} (h : Env n a (finE ts u F ts.length ++ envU ts 0 u e0)) (hl : F.length = ts.length) : Env n a (finE ts u F ts.length ++ e0) := by
  refine ⟨h.sz, h.df, fun s v hs => h.get s v ?_⟩
  rw [lookup_app] at hs ⊢
  cases hx : (finE ts u F ts.length).lookup s with
  | some x => rw [hx] at hs; exact hs
  | none =>
    rw [hx] at hs
    simp only at hs ⊢
    rw [envU_out ts 0 s u e0 (fun hm => by
      obtain ⟨i, hi⟩ := List.mem_iff_getElem?.1 hm
      exact finE_none (Nat.le_refl _) hl hx i (List.getElem?_eq_some_iff.1 hi).1 hi)]
    exact hs
/-- THE LAW, in short: the values follow from the steps. -/
theorem c_drawQ {id : Nat} {Q : Exit → Act → World → Prop} {a : Act} {w : World} (ts : List Nat)
    (hm : P.follows .mixedOrders = true) (hE : edgesB ops.toList 0 = true) (hT : tailB ops.toList ts.length = true) (hn : ts.Nodup) (hlen : Nat.ble ts.length ops.toList.length = true)
    (h0 : Env n a e0) (hM0 : ∀ u, M St w0 w.drew (its ++ qL mk (fun _ => false) u))
    (hS : QS P ops n ts e0 St w0 its mk (ops.toList.take ts.length) 0 (ops.toList.take ts.length) [] F)
    (htail : ∀ a w u D, Env n a (finE ts u F ts.length ++ e0) → M St w0 w (its ++ qL mk D u) → GOk (F.reverse.map Ent.g) D u → (∀ j, j < ts.length → D j = true) → wpList P ops Q (ops.toList.drop ts.length) a w) :
    (Code.region id ops true).wp P Q a w := by
  have hops : (ops.toList.take ts.length ++ ops.toList.drop ts.length).toArray = ops := by rw [List.take_append_drop, Array.toArray_toList]
  have hl : ops.toList.take ts.length ++ ops.toList.drop ts.length = ops.toList := List.take_append_drop _ _
  obtain ⟨k1, _, k3⟩ := QS.pre (acc := []) (i := 0) rfl hS
  simp only [Nat.zero_add] at k1 k3
  have hlen := Nat.le_of_ble_eq_true hlen
  have hhl : (ops.toList.take ts.length).length = ts.length := by rw [List.length_take, Nat.min_eq_left hlen]
  have key := c_draw3 (P := P) (id := id) (hd := ops.toList.take ts.length) (tl := ops.toList.drop ts.length) (Q := Q) (a := a) (w := w) (n := n) (e0 := e0) hm (by rw [hl]; exact hE) (by rw [hl, hhl]; exact hT) ts hn
    (fun D u w => M St w0 w (its ++ qL mk D u) ∧ GOk (F.reverse.map Ent.g) D u) h0 (fun u => ⟨hM0 u, gok0⟩) ?_ ?_
  · rw [hops] at key; exact key
  · intro i o hi a w u D hEnv hI hD hdc hp
    rw [hops]
    obtain ⟨x, hx, A, hA, hAl, hok⟩ := k3 i o hi
    have hat : ∀ j, j < i → ∀ y, A[i - 1 - j]? = some y → F.reverse[j]? = some y := fun j hj y hy => by
      have h5 : A.reverse[j]? = some y := by
        rw [List.getElem?_reverse (by omega), hAl]
        rw [← hy]
      rw [hA, List.getElem?_take_of_lt (by omega)] at h5
      exact h5
    have hX : ∀ p ∈ depE ts i A u o.after.toList, (envU ts 0 u e0).lookup p.1 = some p.2 := by
      intro p hp'
      obtain ⟨e, he, hb, hei, y, h1, h2, h3⟩ := depE_mem hp'
      obtain ⟨k, hk⟩ := List.mem_iff_getElem?.1 he
      have hDe := hp k e hk hb
      have h6 := (hI.2 e.on hDe y.g (by rw [List.getElem?_map, hat e.on hei y h2]; rfl)).2
      rw [envU_in ts 0 e.on p.1 u e0 hn h1, h3, Nat.zero_add, Ent.eq h6]
    refine wp1_mono (hok a w u D ⟨hEnv.pre hX, hI.1, ?_, hD, hdc, hp⟩) ?_
    · intro j hj g hg
      refine hI.2 j hj g ?_
      rw [List.getElem?_map] at hg ⊢
      rw [hA] at hg
      cases hz : (F.reverse.take i)[j]? with
      | none => rw [hz] at hg; cases hg
      | some z =>
        have h5 := (List.getElem?_eq_some_iff.1 hz).1
        have h6 : j < i := by simp at h5; omega
        rw [hz] at hg
        rw [List.getElem?_take_of_lt h6] at hz
        rw [hz]
        exact hg
    · rintro a' w' ⟨v, t, ht, hE', hg, hM'⟩
      exact ⟨v, t, ht, hE'.unpre hX, hM', hI.2.upd hD fun g hgi => by
        rw [List.getElem?_map, hx] at hgi
        cases hgi
        exact hg⟩
  · intro a w u D hEnv hI hall
    rw [hops]
    rw [hhl] at hall
    have hFl : F.length = ts.length := by rw [k1, hhl]
    refine htail a w u D ((hEnv.pre ?_).fin hFl) hI.1 hI.2 hall
    rintro ⟨s, y⟩ hs
    obtain ⟨i, x, h1, h2, h3⟩ := finE_mem (Nat.le_refl _) hFl hs
    have hil := (List.getElem?_eq_some_iff.1 h1).1
    have h6 := (hI.2 i (hall i hil) x.g (by rw [List.getElem?_map, h2]; rfl)).2
    rw [envU_in ts 0 i s u e0 hn h1, h3, Nat.zero_add]
    simp only
    rw [Ent.eq h6]
theorem c_drawP {id : Nat} {Q : Exit → Act → World → Prop} {a : Act} {w : World} (ts : List Nat)
    (hm : P.follows .mixedOrders = true) (hE : edgesB ops.toList 0 = true) (hT : tailB ops.toList ts.length = true) (hn : ts.Nodup) (hlen : Nat.ble ts.length ops.toList.length = true)
    (h0 : Env n a e0) (hM : M St w0 w its)
    (hS : QS P ops n ts e0 St w0 its [] (ops.toList.take ts.length) 0 (ops.toList.take ts.length) [] F)
    (htail : ∀ a w u, Env n a (finE ts u F ts.length ++ e0) → M St w0 w its → wpList P ops Q (ops.toList.drop ts.length) a w) :
    (Code.region id ops true).wp P Q a w :=
  c_drawQ ts hm hE hT hn hlen h0 (fun u => M.q0 hM.drew u) hS fun a w u D hE hM _ _ => htail a w u hE (by simpa [qL] using hM)
end
theorem aggQ {v : Value} {l : List Value} (h1 : (Value.cells v).toList = l) (h2 : ∃ cs, v = .agg cs) : v = .agg l.toArray := by
  obtain ⟨cs, rfl⟩ := h2
  exact congrArg Value.agg (toList_eq h1)
theorem offD {hd : List Oper} {D : Nat → Bool} {j k : Nat} {p : Oper} {e : Edge} (c : ∀ (j : Nat) (p : Oper) (e : Edge), hd[j]? = some p → e ∈ p.after.toList → Region.binds .any e = true → D j = true → D e.on = true) (hj : hd[j]? = some p) (he : p.after.toList[k]? = some e) (hb : Region.binds .any e = true) (h : D e.on = false) : D j = false :=
  Bool.eq_false_iff.2 fun hx => Bool.noConfusion (h.symm.trans (c j p e hj (List.mem_of_getElem? he) hb hx))
section
variable {St : Nat → Prop} {w0 w : World} {its pre post : List Item}
theorem M.recown {α : Type} [Rep α] {S : Nat → Prop} {x : α} {c c' : List Value} (h : M St w0 w (own S x c :: its)) (e : c = c') : M St w0 w (own S x c' :: its) := e ▸ h
theorem M.openCellT {a b : Bool} {v : Value} {z c : List Value} (h : M St w0 w (pre ++ cellI a b v z c :: post)) (ha : a = true) (hb : b = true) : ∃ b', v = ptr b' 0 ∧ M St w0 w (raw b' c :: (pre ++ post)) := by
  have := M.openCell h ha
  subst hb
  exact this
theorem M.openCellF {a b : Bool} {v : Value} {z c : List Value} (h : M St w0 w (pre ++ cellI a b v z c :: post)) (ha : a = true) (hb : b = false) : ∃ b', v = ptr b' 0 ∧ M St w0 w (raw b' z :: (pre ++ post)) := by
  have := M.openCell h ha
  subst hb
  exact this
/-- An item that holds a slice. -/
def SatI {α : Type} [Rep α] (it : Item) (l : List α) (u : Value) : Prop := ∀ w fp, it w fp → Rep.sat NoB w l [u] fp
theorem sio {α : Type} [Rep α] {l : List α} {u : Value} : SatI (osl NoB l u) l u := fun _ _ h => OwnSl.sat h
theorem siw {α : Type} [Rep α] {l : List α} {u : Value} : SatI (own NoB l [u]) l u := fun _ _ h => h
end
theorem kr0 {P : Program} {l : Array Oper} {w : World} {n t : Nat} {e : List (Nat × Value)} {v : Value} {ti : Option Nat} (h1 : ti = some t) :
    ∀ a, Env n a ((t, v) :: e) → wpList P l (nrm fun a' w' => Kept (Old w) w w' ∧ ∃ t, ti = some t ∧ Env n a' ((t, v) :: e)) [] a w := fun _ hE => ⟨Kept.refl _ _, _, h1, hE⟩
theorem kc {P : Program} {l : Array Oper} {w : World} {n t : Nat} {e : List (Nat × Value)} {x : Value} {ti : Option Nat} (h1 : ti = some t) :
    ∀ v w' a, (v = x ∧ Kept (Old w) w w') → Env n a ((t, v) :: e) → wpList P l (nrm fun a' w' => Kept (Old w) w w' ∧ ∃ t, ti = some t ∧ Env n a' ((t, x) :: e)) [] a w' := fun _ _ _ ⟨hv, hK⟩ hE => ⟨hK, _, h1, hv ▸ hE⟩
section
variable {n : Nat} {a : Act} {e : List (Nat × Value)} {w : World} {P : Program} {ops : Array Oper} {rest : List Oper} {Q : Exit → Act → World → Prop} {d : Nat} {ty t : TypeId} {pos : String} {af : Array Edge} {g : Option (Nat × Bool)} {x : Operand}
theorem s_convW {src dst : TypeId} {p : UInt8} {D : TypeDesc} (h : Env n a e) (hw : Goes ops ⟨some d, .convert src dst x, ty, pos, af, g⟩ a) (hd : d < n) (hx : opv e x = some (vB p))
    (hs : P.underlying src = some D) (ht : P.underlying dst = some (.int .i64)) (k : ∀ a, Env n a ((d, vI (bI p)) :: e) → wpList P ops Q rest a w) : wpList P ops Q (⟨some d, .convert src dst x, ty, pos, af, g⟩ :: rest) a w :=
  s_conv h hw hd hx hs ht fun a hE => by rw [byte_wide] at hE; exact k a hE
theorem s_convU {src dst : TypeId} {p : UInt8} {D : TypeDesc} (h : Env n a e) (hw : Goes ops ⟨some d, .convert src dst x, ty, pos, af, g⟩ a) (hd : d < n) (hx : opv e x = some (vB p))
    (hs : P.underlying src = some D) (ht : P.underlying dst = some (.int .u64)) (k : ∀ a, Env n a ((d, .int .u64 (bI p)) :: e) → wpList P ops Q rest a w) : wpList P ops Q (⟨some d, .convert src dst x, ty, pos, af, g⟩ :: rest) a w :=
  s_conv h hw hd hx hs ht fun a hE => by rw [byte_wideU] at hE; exact k a hE
theorem s_convB {src dst : TypeId} {J : IntKind} {p : Int} {D : TypeDesc} (h : Env n a e) (hw : Goes ops ⟨some d, .convert src dst x, ty, pos, af, g⟩ a) (hd : d < n) (hx : opv e x = some (.int J p))
    (hs : P.underlying src = some D) (ht : P.underlying dst = some (.int .u8)) (k : ∀ a, Env n a ((d, vB (byteI p)) :: e) → wpList P ops Q rest a w) : wpList P ops Q (⟨some d, .convert src dst x, ty, pos, af, g⟩ :: rest) a w :=
  s_conv h hw hd hx hs ht fun a hE => by rw [byteI_val] at hE; exact k a hE
end
end Go.Proofs.YtkcaldgoomphaaaDoor
