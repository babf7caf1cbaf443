/- The walk library, part N: drawn regions, the general law. -/
import Derived.Test.YtkcaldgoomphaaaDoorLibM
namespace Go.Proofs.YtkcaldgoomphaaaDoor
open Go

theorem el_nx {σ ρ τ : Type} {s : σ} {f : σ → Option τ} {g : ρ → Option τ} {r : τ} (h : (Fl.nx s : Fl σ ρ).el f g = some r) : f s = some r := h
/-- A part of what a call with several results hands back. -/
def tupGet (v : Value) (i : Nat) : Value := match v with
  | .tuple vs => vs.toList.getD i undef
  | _ => undef
def rawP (v : Value) (cs : List Value) : Item := fun w fp => ∃ b, v = ptr b 0 ∧ raw b cs w fp
/-- A new variable: not yet there; there; stored into. -/
def cellI (there stored : Bool) (v : Value) (z c : List Value) : Item := if there = true then (if stored = true then rawP v c else rawP v z) else Go.Proofs.YtkcaldgoomphaaaDoor.emp
abbrev Gs := List (List Nat × (List Value → Value → Prop))
abbrev Mk := List (List Nat × (List Bool → List Value → Item))
def qL (mk : Mk) (D : Nat → Bool) (u : Nat → Value) : List Item := mk.map fun p => p.2 (p.1.map D) (p.1.map u)
def mkO (j : Nat) (f : Value → Item) : List Nat × (List Bool → List Value → Item) := ([j], fun bs us => opt (bs.headD false) (f (us.headD undef)))
def mkC (j s : Nat) (z c : List Value) : List Nat × (List Bool → List Value → Item) := ([j, s], fun bs us => cellI (bs.headD false) (bs.getD 1 false) (us.headD undef) z c)
def GOk (gs : Gs) (D : Nat → Bool) (u : Nat → Value) : Prop := ∀ j, D j = true → ∀ g, gs[j]? = some g → (∀ k ∈ g.1, D k = true) ∧ g.2 (g.1.map u) (u j)
theorem map_upd {D : Nat → Bool} {u : Nat → Value} {i : Nat} {v : Value} {l : List Nat} (h : i ∉ l) : l.map (updD D i) = l.map D ∧ l.map (updU u i v) = l.map u := by
  constructor <;> apply List.map_congr_left <;> intro k hk <;> have : k ≠ i := (fun e => h (e ▸ hk))
  · simp [updD, this]
  · simp [updU, this]
theorem qL_upd {mk : Mk} {D : Nat → Bool} {u : Nat → Value} {i : Nat} {v : Value} (hi : ∀ p ∈ mk, i ∉ p.1) : qL mk (updD D i) (updU u i v) = qL mk D u := by
  unfold qL
  apply List.map_congr_left
  intro p hp
  obtain ⟨h1, h2⟩ := map_upd (D := D) (u := u) (v := v) (hi p hp)
  rw [h1, h2]
theorem GOk.upd {gs : Gs} {D : Nat → Bool} {u : Nat → Value} {i : Nat} {v : Value} (h : GOk gs D u) (hD : D i = false) (hi : ∀ g, gs[i]? = some g → (∀ k ∈ g.1, D k = true) ∧ g.2 (g.1.map u) v) : GOk gs (updD D i) (updU u i v) := by
  have tr : ∀ k, D k = true → updD D i k = true := fun k hk => by
    unfold updD
    split
    · rfl
    · exact hk
  have nm : ∀ l : List Nat, (∀ k ∈ l, D k = true) → i ∉ l := fun l hl hm => by have := hl i hm; rw [hD] at this; cases this
  intro j hj g hg
  by_cases hji : j = i
  · subst hji
    obtain ⟨h1, h2⟩ := hi g hg
    refine ⟨fun k hk => tr k (h1 k hk), ?_⟩
    rw [(map_upd (D := D) (u := u) (v := v) (nm _ h1)).2]
    simpa [updU] using h2
  · have hj' : D j = true := by unfold updD at hj; rwa [if_neg hji] at hj
    obtain ⟨h1, h2⟩ := h j hj' g hg
    refine ⟨fun k hk => tr k (h1 k hk), ?_⟩
    rw [(map_upd (D := D) (u := u) (v := v) (nm _ h1)).2]
    simpa [updU, hji] using h2
theorem GOk.put {gs : Gs} {D : Nat → Bool} {u : Nat → Value} {i : Nat} {v : Value} {ks : List Nat} {pr : List Value → Value → Prop} (h : GOk gs D u) (hD : D i = false) (hi : gs[i]? = some (ks, pr)) (h1 : ∀ k ∈ ks, D k = true) (h2 : pr (ks.map u) v) : GOk gs (updD D i) (updU u i v) :=
  h.upd hD fun g hg => by rw [hi] at hg; cases hg; exact ⟨h1, h2⟩
theorem allN {D : Nat → Bool} : ∀ k ∈ ([] : List Nat), D k = true := fun _ h => by cases h
theorem allC {D : Nat → Bool} {k : Nat} {ks : List Nat} (h : D k = true) (hs : ∀ k ∈ ks, D k = true) : ∀ j ∈ k :: ks, D j = true := fun j hj => by
  rcases List.mem_cons.1 hj with rfl | hj
  · exact h
  · exact hs j hj
theorem gok0 {gs : Gs} {u : Nat → Value} : GOk gs (fun _ => false) u := fun _ h => by cases h
def allI (St : Nat → Prop) (l : List Item) : Item := fun w fp => SepR St w l fp
theorem allI_loc {St : Nat → Prop} {l : List Item} : Loc St (allI St l) := fun _ _ _ h hb => SepR.loc h hb
theorem locNO {α : Type} [Rep α] {x : α} {cs : List Value} {r : List Item} (h : LocN r) : LocN (own NoB x cs :: r) := by
  intro it hi
  rcases List.mem_cons.1 hi with rfl | hi
  · exact own_loc fun _ h => h
  · exact h it hi
theorem Env.dummy {n : Nat} {a : Act} {e : List (Nat × Value)} {t : Nat} (h : Env n a e) (ht : n ≤ t) : Env n a ((t, undef) :: e) := by
  refine ⟨h.sz, h.df, fun s v hs => ?_⟩
  simp only [List.lookup_cons] at hs
  by_cases hst : s = t
  · subst hst
    simp at hs
    subst hs
    rw [Array.getD_eq_getD_getElem?, Array.getElem?_eq_none (by rw [h.sz]; exact ht)]; rfl
  · rw [show (s == t) = false by simpa using hst] at hs
    exact h.get s v hs
section
variable {St : Nat → Prop} {w0 w : World} {its pre post : List Item} {mk mk1 mk2 : Mk} {D : Nat → Bool} {u : Nat → Value} {i s b : Nat} {v : Value} {z c : List Value}
theorem M.qEmp (h : M St w0 w its) (mk : Mk) (he : ∀ p ∈ mk, ∀ us, p.2 (p.1.map fun _ => false) us = Go.Proofs.YtkcaldgoomphaaaDoor.emp) (u : Nat → Value) : M St w0 w (its ++ qL mk (fun _ => false) u) := by
  induction mk with
  | nil => simpa [qL] using h
  | cons p mk ih =>
    have h1 := ih (fun q hq => he q (by simp [hq]))
    have : M St w0 w (Go.Proofs.YtkcaldgoomphaaaDoor.emp :: (its ++ qL mk (fun _ => false) u)) := h1.emp
    rw [← he p (by simp) (p.1.map u)] at this
    exact M.push this
theorem emps0 : ∀ p ∈ ([] : Mk), ∀ us, p.2 (p.1.map fun _ => false) us = Go.Proofs.YtkcaldgoomphaaaDoor.emp := fun _ h => by cases h
theorem empsO {j : Nat} {f : Value → Item} (h : ∀ p ∈ mk, ∀ us, p.2 (p.1.map fun _ => false) us = Go.Proofs.YtkcaldgoomphaaaDoor.emp) : ∀ p ∈ mkO j f :: mk, ∀ us, p.2 (p.1.map fun _ => false) us = Go.Proofs.YtkcaldgoomphaaaDoor.emp := by
  intro p hp us
  rcases List.mem_cons.1 hp with rfl | hp
  · simp [mkO, opt_false]
  · exact h p hp us
theorem empsC {j : Nat} (h : ∀ p ∈ mk, ∀ us, p.2 (p.1.map fun _ => false) us = Go.Proofs.YtkcaldgoomphaaaDoor.emp) : ∀ p ∈ mkC j s z c :: mk, ∀ us, p.2 (p.1.map fun _ => false) us = Go.Proofs.YtkcaldgoomphaaaDoor.emp := by
  intro p hp us
  rcases List.mem_cons.1 hp with rfl | hp
  · rfl
  · exact h p hp us
theorem noti (h : (mk.all fun p => p.1.all fun k => k != i) = true) : ∀ p ∈ mk, i ∉ p.1 := by
  intro p hp hm
  have := List.all_eq_true.1 (List.all_eq_true.1 h p hp) i hm
  simp at this
theorem M.qKeep (h : M St w0 w (its ++ qL mk D u)) (hi : (mk.all fun p => p.1.all fun k => k != i) = true) : M St w0 w (its ++ qL mk (updD D i) (updU u i v)) := by
  rw [qL_upd (noti hi)]; exact h
theorem qL_app {mk1 mk2 : Mk} {p : List Nat × (List Bool → List Value → Item)} : qL (mk1 ++ p :: mk2) D u = qL mk1 D u ++ (p.2 (p.1.map D) (p.1.map u) :: qL mk2 D u) := by simp [qL]
/-- In place of an item that holds nothing. -/
theorem M.qPut {p : List Nat × (List Bool → List Value → Item)} {it : Item} (h : M St w0 w (it :: (its ++ qL (mk1 ++ p :: mk2) D u))) (hi : ((mk1 ++ mk2).all fun p => p.1.all fun k => k != i) = true)
    (h1 : p.2 (p.1.map D) (p.1.map u) = Go.Proofs.YtkcaldgoomphaaaDoor.emp) (h2 : p.2 (p.1.map (updD D i)) (p.1.map (updU u i v)) = it) : M St w0 w (its ++ qL (mk1 ++ p :: mk2) (updD D i) (updU u i v)) := by
  have hne := noti hi
  rw [qL_app] at h ⊢
  rw [qL_upd (fun p hp => hne p (List.mem_append_left _ hp)), qL_upd (fun p hp => hne p (List.mem_append_right _ hp)), h2]
  rw [h1] at h
  have h3 : M St w0 w ((it :: (its ++ qL mk1 D u)) ++ Go.Proofs.YtkcaldgoomphaaaDoor.emp :: qL mk2 D u) := by simpa using h
  have h4 := h3.pull.drop
  have h5 : M St w0 w (it :: ((its ++ qL mk1 D u) ++ qL mk2 D u)) := by simpa using h4
  simpa using M.push h5
theorem M.qFill {f : Value → Item} (h : M St w0 w (f v :: (its ++ qL (mk1 ++ mkO i f :: mk2) D u))) (hi : ((mk1 ++ mk2).all fun p => p.1.all fun k => k != i) = true) (hD : D i = false) :
    M St w0 w (its ++ qL (mk1 ++ mkO i f :: mk2) (updD D i) (updU u i v)) :=
  M.qPut h hi (by simp [mkO, hD, opt_false]) (by simp [mkO, updD, updU, opt_true])
theorem M.qAlloc (h : M St w0 w (raw b z :: (its ++ qL (mk1 ++ mkC i s z c :: mk2) D u))) (hi : ((mk1 ++ mk2).all fun p => p.1.all fun k => k != i) = true) (hD : D i = false) (hs : D s = false) (hne : s ≠ i) :
    M St w0 w (its ++ qL (mk1 ++ mkC i s z c :: mk2) (updD D i) (updU u i (ptr b 0))) := by
  have h' : M St w0 w (rawP (ptr b 0) z :: (its ++ qL (mk1 ++ mkC i s z c :: mk2) D u)) := h.pack1 (fun w w' fp ⟨b', e, k⟩ hb => ⟨b', e, raw_loc w w' fp k hb⟩) fun fp k => ⟨b, rfl, k⟩
  refine M.qPut h' hi (by simp [mkC, hD, cellI]) ?_
  simp [mkC, updD, updU, cellI, hne, hs]
theorem M.openCell {there stored : Bool} (h : M St w0 w (pre ++ cellI there stored v z c :: post)) (ht : there = true) : ∃ b, v = ptr b 0 ∧ M St w0 w (raw b (if stored = true then c else z) :: (pre ++ post)) := by
  have h1 := h.pull
  obtain ⟨fp, hfp, _⟩ := h1.head
  subst ht
  have e : cellI true stored v z c = rawP v (if stored = true then c else z) := by cases stored <;> rfl
  rw [e] at hfp h1
  obtain ⟨b, hb, _⟩ := hfp
  exact ⟨b, hb, h1.pack1 raw_loc fun fp ⟨b', e', k⟩ => by rw [hb] at e'; simp [ptr] at e'; subst e'; exact k⟩
theorem M.qStore (h : M St w0 w (raw b c :: (its ++ (qL mk1 D u ++ qL mk2 D u)))) (hi : ((mk1 ++ mk2).all fun p => p.1.all fun k => k != s) = true) (hj : D i = true) (hb : u i = ptr b 0) (hne : i ≠ s) :
    M St w0 w (its ++ qL (mk1 ++ mkC i s z c :: mk2) (updD D s) (updU u s v)) := by
  have hne' := noti hi
  rw [qL_app, qL_upd (fun p hp => hne' p (List.mem_append_left _ hp)), qL_upd (fun p hp => hne' p (List.mem_append_right _ hp))]
  have e : (mkC i s z c).2 ((mkC i s z c).1.map (updD D s)) ((mkC i s z c).1.map (updU u s v)) = rawP (ptr b 0) c := by
    simp [mkC, updD, updU, cellI, hne, hj, hb]
  rw [e]
  have h' : M St w0 w (rawP (ptr b 0) c :: (its ++ (qL mk1 D u ++ qL mk2 D u))) := h.pack1 (fun w w' fp ⟨b', e, k⟩ hb => ⟨b', e, raw_loc w w' fp k hb⟩) fun fp k => ⟨b, rfl, k⟩
  have h5 : M St w0 w (rawP (ptr b 0) c :: ((its ++ qL mk1 D u) ++ qL mk2 D u)) := by simpa using h'
  simpa using M.push h5
end

/-- A variable from before that one operation of the region stores into. -/
def tog (b : Bool) (A B : Item) : Item := if b = true then B else A
def mkT (s : Nat) (A B : Item) : List Nat × (List Bool → List Value → Item) := ([s], fun bs _ => tog (bs.headD false) A B)
section
variable {St : Nat → Prop} {w0 w : World} {its pre post : List Item} {mk mk1 mk2 : Mk} {D : Nat → Bool} {u : Nat → Value} {s : Nat} {v : Value} {A B : Item}
theorem M.q0 (h : M St w0 w its) (u : Nat → Value) : M St w0 w (its ++ qL [] (fun _ => false) u) := by simpa [qL] using h
theorem M.qE {p : List Nat × (List Bool → List Value → Item)} (h : M St w0 w (its ++ qL mk (fun _ => false) u)) (he : ∀ us, p.2 (p.1.map fun _ => false) us = Go.Proofs.YtkcaldgoomphaaaDoor.emp) : M St w0 w (its ++ qL (p :: mk) (fun _ => false) u) := by
  have : M St w0 w (Go.Proofs.YtkcaldgoomphaaaDoor.emp :: (its ++ qL mk (fun _ => false) u)) := h.emp
  rw [← he (p.1.map u)] at this
  exact M.push this
theorem M.qT (h : M St w0 w ((A :: its) ++ qL mk (fun _ => false) u)) : M St w0 w (its ++ qL (mkT s A B :: mk) (fun _ => false) u) := M.push (pre := its) (post := qL mk (fun _ => false) u) h
theorem emO {j : Nat} {f : Value → Item} : ∀ us, (mkO j f).2 ((mkO j f).1.map fun _ => false) us = Go.Proofs.YtkcaldgoomphaaaDoor.emp := fun _ => by simp [mkO, opt_false]
theorem emC {j s : Nat} {z c : List Value} : ∀ us, (mkC j s z c).2 ((mkC j s z c).1.map fun _ => false) us = Go.Proofs.YtkcaldgoomphaaaDoor.emp := fun _ => rfl
theorem M.togA {b : Bool} (h : M St w0 w (pre ++ tog b A B :: post)) (hb : b = false) : M St w0 w (pre ++ A :: post) := by subst hb; exact h
theorem M.togB {b : Bool} (h : M St w0 w (pre ++ tog b A B :: post)) (hb : b = true) : M St w0 w (pre ++ B :: post) := by subst hb; exact h
theorem M.untogA {b : Bool} (h : M St w0 w (pre ++ A :: post)) (hb : b = false) : M St w0 w (pre ++ tog b A B :: post) := by subst hb; exact h
theorem M.qTog (h : M St w0 w (B :: (its ++ (qL mk1 D u ++ qL mk2 D u)))) (hi : ((mk1 ++ mk2).all fun p => p.1.all fun k => k != s) = true) : M St w0 w (its ++ qL (mk1 ++ mkT s A B :: mk2) (updD D s) (updU u s v)) := by
  have hne' := noti hi
  rw [qL_app, qL_upd (fun p hp => hne' p (List.mem_append_left _ hp)), qL_upd (fun p hp => hne' p (List.mem_append_right _ hp))]
  have e : (mkT s A B).2 ((mkT s A B).1.map (updD D s)) ((mkT s A B).1.map (updU u s v)) = B := by simp [mkT, updD, tog]
  rw [e]
  have h5 : M St w0 w (B :: ((its ++ qL mk1 D u) ++ qL mk2 D u)) := by simpa using h
  simpa using M.push h5
end

def DrawI3 (P : Program) (l hd tl : List Oper) (Q : Exit → Act → World → Prop) (n : Nat) (ts : List Nat) (e0 : List (Nat × Value)) (I : (Nat → Bool) → (Nat → Value) → World → Prop) (listed : Array Bool) (a : Act) (w : World) : Prop :=
  ((∀ i, i < hd.length → dn listed i) ∧ ∃ k, k ≤ tl.length ∧ (∀ j, j < k → dn listed (hd.length + j)) ∧ (∀ j, k ≤ j → j < tl.length → ¬ dn listed (hd.length + j)) ∧ wpList P l.toArray Q (tl.drop k) a w) ∨
  ((¬ ∀ i, i < hd.length → dn listed i) ∧ (∀ j, hd.length ≤ j → ¬ dn listed j) ∧ ∃ u, Env n a (envU ts 0 u e0) ∧ I (fun j => listed.getD j false) u w)

theorem c_draw3 {P : Program} {id : Nat} {hd tl : List Oper} {Q : Exit → Act → World → Prop} {a : Act} {w : World} {n : Nat} {e0 : List (Nat × Value)}
    (hm : P.follows .mixedOrders = true) (hE : edgesB (hd ++ tl) 0 = true) (hT : tailB (hd ++ tl) hd.length = true)
    (ts : List Nat) (hn : ts.Nodup) (I : (Nat → Bool) → (Nat → Value) → World → Prop)
    (h0 : Env n a e0) (hM0 : ∀ u, I (fun _ => false) u w.drew)
    (hstep : ∀ (i : Nat) (o : Oper), hd[i]? = some o → ∀ a w (u : Nat → Value) (D : Nat → Bool), Env n a (envU ts 0 u e0) → I D u w → D i = false → (∀ (j : Nat) (p : Oper) (e : Edge), hd[j]? = some p → e ∈ p.after.toList → Region.binds .any e = true → D j = true → D e.on = true) →
      (∀ (k : Nat) (e : Edge), o.after.toList[k]? = some e → Region.binds .any e = true → D e.on = true) →
      wpList P (hd ++ tl).toArray (nrm fun a' w' => ∃ v t, ts[i]? = some t ∧ Env n a' ((t, v) :: envU ts 0 u e0) ∧ I (updD D i) (updU u i v) w') [o] a w)
    (htail : ∀ a w u D, Env n a (envU ts 0 u e0) → I D u w → (∀ j, j < hd.length → D j = true) → wpList P (hd ++ tl).toArray Q tl a w) :
    (Code.region id (hd ++ tl).toArray true).wp P Q a w := by
  refine wp_region_any hm ?_
  generalize hl : hd ++ tl = l at *
  have hln : l.length = hd.length + tl.length := by rw [← hl]; simp
  have hbl : (bef l []).length = l.length := by
    have : ∀ (r : List Oper) (acc : List Nat), (bef r acc).length = acc.length + r.length := by
      intro r; induction r with
      | nil => intro acc; simp [bef]
      | cons o r ih => intro acc; rw [bef, ih]; simp; omega
    rw [this]; simp
  have tailDone : ∀ listed i o, l[i]? = some o → hd.length ≤ i → DownC l (dn listed) → (∀ e ∈ o.after.toList, Region.binds .any e = true → dn listed e.on) → ∀ j, j < i → dn listed j := by
    intro listed i o hi hle hdc hp j hj
    have hil := (List.getElem?_eq_some_iff.1 hi).1
    have hbit : ((bef l []).getD i 0).testBit j = true := by
      unfold tailB at hT
      simp only [List.all_eq_true] at hT
      have := hT i (by simpa using hil)
      simp only [Bool.or_eq_true, decide_eq_true_eq, List.all_eq_true] at this
      rcases this with h | h
      · omega
      · exact h j (by simpa using hj)
    exact bef_spec l l [] 0 rfl (by simp) (fun i hi => absurd hi (Nat.not_lt_zero i)) i (by rw [hbl]; exact hil) (dn listed) hdc (fun o' e ho' he hb => by rw [hi] at ho'; cases ho'; exact hp e he hb) j hbit
  have hfuel : ((List.range l.length).filter fun i => !(Array.replicate l.toArray.size false).getD i false).length ≤ l.toArray.size := by
    refine Nat.le_trans (List.length_filter_le _ _) ?_; simp
  have hnot0 : ∀ i, ¬ dn (Array.replicate l.toArray.size false) i := by
    intro i; unfold dn; rw [Array.getD_eq_getD_getElem?, Array.getElem?_replicate]; split <;> simp
  refine wpAny_of_inv hE (DrawI3 P l hd tl Q n ts e0 I) ?_ ?_ _ _ _ _ (by simp) hfuel (fun i o e _ _ _ h => absurd h (hnot0 i)) ?_
  · intro listed i o a w hsz hi hnd hdc hp hI
    have hil := (List.getElem?_eq_some_iff.1 hi).1
    by_cases hh : i < hd.length
    · -- a head operation
      have hnall : ¬ ∀ i, i < hd.length → dn listed i := fun h => hnd (h i hh)
      obtain ⟨h, _⟩ | ⟨_, ht0, u, k1, k2⟩ := hI
      · exact absurd h hnall
      have hio : hd[i]? = some o := by rw [← hl] at hi; rwa [List.getElem?_append_left hh] at hi
      refine wpOp_of (by simpa using hi) ?_
      have hs := hstep i o hio a w u (fun j => listed.getD j false) k1 k2 (by simpa [dn] using hnd) (fun j p e hj he hb hdj => hdc j p e (by rw [← hl, List.getElem?_append_left (List.getElem?_eq_some_iff.1 hj).1]; exact hj) he hb hdj) (fun k e hk hb => hp e (List.mem_of_getElem? hk) hb)
      have hmono : ∀ (X Y : Act → World → Prop), (∀ a w, X a w → Y a w) → ∀ a w, wpList P l.toArray (nrm X) [o] a w → wpList P l.toArray (nrm Y) [o] a w := by
        intro X Y hXY a w h
        unfold wpList at h ⊢
        split
        · rename_i hw
          rw [if_pos hw] at h
          rcases h with h | ⟨_, a', w', h⟩
          · exact .inl (Oper.wp_mono2 (fun _ _ h => hXY _ _ h) (fun _ _ _ h => h.elim) (fun ⟨_, _, h⟩ => h.elim) h)
          · exact h.elim
        · rename_i hw
          rw [if_neg hw] at h
          exact hXY _ _ h
      refine hmono _ _ ?_ a w hs
      rintro a' w' ⟨v, t, hti, hEnv, hM'⟩
      have hEnv' := hEnv.upd hn hti
      have hset : ∀ j, dn (listed.setIfInBounds i true) j ↔ (j = i ∨ dn listed j) := fun j => dn_set (by omega)
      have hD : (fun j => (listed.setIfInBounds i true).getD j false) = updD (fun j => listed.getD j false) i := by
        funext j
        unfold updD
        by_cases hj : j = i
        · rw [if_pos hj]; exact (hset j).2 (.inl hj)
        · rw [if_neg hj]
          rw [Bool.eq_iff_iff]
          exact (hset j).trans ⟨fun h => h.resolve_left hj, .inr⟩
      have htn : ∀ j, hd.length ≤ j → ¬ dn (listed.setIfInBounds i true) j := by
        intro j hj hd'
        rcases (hset j).1 hd' with rfl | hj'
        · omega
        · exact ht0 j hj hj'
      rw [← hD] at hM'
      by_cases hall : ∀ j, j < hd.length → dn (listed.setIfInBounds i true) j
      · exact .inl ⟨hall, 0, Nat.zero_le _, fun j hj => by omega, fun j _ _ => htn _ (by omega), htail a' w' _ _ hEnv' hM' (fun j hj => hall j hj)⟩
      · exact .inr ⟨hall, htn, _, hEnv', hM'⟩
    · have hdone := tailDone listed i o hi (by omega) hdc hp
      have hall : ∀ j, j < hd.length → dn listed j := fun j hj => hdone j (by omega)
      obtain ⟨_, k, hk, k1, k2, k3⟩ | ⟨h, _⟩ := hI
      case inr => exact absurd hall h
      have hki : hd.length + k = i := by
        rcases Nat.lt_trichotomy (hd.length + k) i with h | h | h
        · exact absurd (hdone _ h) (k2 k (Nat.le_refl _) (by omega))
        · exact h
        · exact absurd (by have := k1 (i - hd.length) (by omega); rwa [show hd.length + (i - hd.length) = i by omega] at this) hnd
      have hto : tl[k]? = some o := by
        rw [← hl] at hi
        rw [List.getElem?_append_right (by omega)] at hi
        rwa [show i - hd.length = k by omega] at hi
      have hdr : tl.drop k = o :: tl.drop (k + 1) := by
        rw [List.drop_eq_getElem_cons (List.getElem?_eq_some_iff.1 hto).1]
        congr 1
        exact (List.getElem?_eq_some_iff.1 hto).2
      rw [hdr] at k3
      refine wpOp_mono (fun a' w' hl => ?_) (wpOp_list (by simpa using hi) k3)
      have hset : ∀ j, dn (listed.setIfInBounds i true) j ↔ (j = i ∨ dn listed j) := fun j => dn_set (by omega)
      have hall' : ∀ j, j < hd.length → dn (listed.setIfInBounds i true) j := fun j hj => (hset j).2 (.inr (hall j hj))
      refine .inl ⟨hall', k + 1, (List.getElem?_eq_some_iff.1 hto).1, fun j hj => (hset _).2 ?_, fun j hj1 hj2 hd' => ?_, hl⟩
      · rcases Nat.lt_or_ge j k with h | h
        · exact .inr (k1 j h)
        · exact .inl (by omega)
      · rcases (hset _).1 hd' with h | h
        · omega
        · exact k2 j (by omega) hj2 h
  · intro listed a w hsz hall hI
    have hall' : ∀ i, i < hd.length → dn listed i := fun i hi => hall i (by omega)
    obtain ⟨_, k, hk, k1, k2, k3⟩ | ⟨h, _⟩ := hI
    case inr => exact absurd hall' h
    have : k = tl.length := by
      rcases Nat.lt_or_ge k tl.length with h | h
      · exact absurd (hall (hd.length + k) (by omega)) (k2 k (Nat.le_refl _) h)
      · omega
    subst this
    rw [List.drop_length] at k3
    exact k3
  · have hu : ∀ (r : List Nat) (j : Nat) (u : Nat → Value), (∀ k t, r[k]? = some t → u (j + k) = a.tmps.getD t undef) → Env n a (envU r j u e0) := by
      intro r
      induction r with
      | nil => intro j u _; exact h0
      | cons t r ih =>
        intro j u hu
        have h1 := ih (j + 1) u (fun k s hk => by have := hu (k + 1) s (by simpa using hk); rwa [show j + (k + 1) = j + 1 + k by omega] at this)
        refine ⟨h1.sz, h1.df, fun s x hs => ?_⟩
        simp only [envU, List.lookup_cons] at hs
        by_cases hst : s = t
        · subst hst
          simp at hs
          rw [← hs]
          exact (hu 0 s rfl).symm
        · rw [show (s == t) = false by simpa using hst] at hs
          exact h1.get s x hs
    have hEnv : Env n a (envU ts 0 (fun j => a.tmps.getD (ts.getD j 0) undef) e0) := hu ts 0 _ (fun k t hk => by simp [List.getD_eq_getElem?_getD, hk])
    have hDf : (fun j => (Array.replicate l.toArray.size false).getD j false) = fun _ => false := by
      funext j
      have := hnot0 j
      unfold dn at this
      simpa using this
    by_cases hall : ∀ i, i < hd.length → dn (Array.replicate l.toArray.size false) i
    · have hnil : hd.length = 0 := by
        rcases Nat.eq_zero_or_pos hd.length with h | h
        · exact h
        · exact absurd (hall 0 h) (hnot0 0)
      exact .inl ⟨hall, 0, Nat.zero_le _, fun j hj => by omega, fun j _ _ => hnot0 _, htail a _ _ _ hEnv (hM0 _) (fun j hj => by omega)⟩
    · refine .inr ⟨hall, fun j _ => hnot0 j, _, hEnv, ?_⟩
      rw [hDf]
      exact hM0 _
end Go.Proofs.YtkcaldgoomphaaaDoor
