/- The walk library, part D: regions whose order is drawn. One walk, in the order of the text, serves every order. -/
import Derived.Test.YtkcaldgoomphaaaDoorLibC
namespace Go.Proofs.YtkcaldgoomphaaaDoor
open Go

def nrm (K : Act → World → Prop) : Exit → Act → World → Prop
  | .normal, a, w => K a w
  | _, _, _ => False

section
variable {P : Program} {ops : Array Oper} {Q Q' : Exit → Act → World → Prop} {a : Act} {w : World}
theorem Oper.wp_mono2 {o : Oper} {K K' : Act → World → Prop} (h : ∀ a w, K a w → K' a w) (hq : ∀ c a w, Q (.panic c) a w → Q' (.panic c) a w) (hl : LetsOut Q → LetsOut Q')
    (hh : o.wp P a w K Q) : o.wp P a w K' Q' := by
  unfold Oper.wp at *
  generalize (execOp a.eval o).run P w = r at *
  cases r with
  | ok n w' =>
    cases n <;> simp only [Oper.upon] at hh ⊢ <;>
      first
        | exact h _ _ hh
        | exact Calls.mono hh (fun e w'' he => by cases e <;> first | exact h _ _ he | exact hq _ _ _ he | exact hl he)
        | exact Rows.mono hh (fun _ _ he => h _ _ he)
  | halt x w' => cases x <;> simp only [Oper.upon] at hh ⊢ <;> first | exact hh | exact hq _ _ _ hh
theorem wpOp_of {o : Oper} {i : Nat} {K : Act → World → Prop} (hi : ops[i]? = some o) (h : wpList P ops (nrm K) [o] a w) : wpOp P ops Q i K a w := by
  unfold wpOp
  rw [hi]
  unfold wpList at h
  simp only []
  split
  · rename_i hw
    rw [if_pos hw] at h
    rcases h with h | ⟨_, a', w', h⟩
    · exact .inl (Oper.wp_mono2 (fun _ _ h => h) (fun _ _ _ h => h.elim) (fun ⟨_, _, h⟩ => h.elim) h)
    · exact h.elim
  · rename_i hw
    rw [if_neg hw] at h
    exact h
theorem wpOp_list {o : Oper} {i : Nat} {rest : List Oper} (hi : ops[i]? = some o) (h : wpList P ops Q (o :: rest) a w) : wpOp P ops Q i (wpList P ops Q rest) a w := by
  unfold wpOp
  rw [hi]
  unfold wpList at h
  exact h
end

/-- Slots that were written in the region, each with what it holds; behind them the slots from before. -/
def envU : List Nat → Nat → (Nat → Value) → List (Nat × Value) → List (Nat × Value)
  | [], _, _, e => e
  | t :: r, j, u, e => (t, u j) :: envU r (j + 1) u e
def updU (u : Nat → Value) (i : Nat) (v : Value) : Nat → Value := fun j => if j = i then v else u j

theorem envU_in : ∀ (ts : List Nat) (j k t : Nat) (u : Nat → Value) (e : List (Nat × Value)), ts.Nodup → ts[k]? = some t → (envU ts j u e).lookup t = some (u (j + k))
  | [], _, _, _, _, _, _, h => by simp at h
  | s :: r, j, 0, t, u, e, _, h => by
    simp at h; subst h; simp [envU]
  | s :: r, j, k + 1, t, u, e, hn, h => by
    have h' : r[k]? = some t := by simpa using h
    have hne : t ≠ s := fun hts => by subst hts; exact (List.nodup_cons.1 hn).1 (List.mem_of_getElem? h')
    simp only [envU, List.lookup_cons, show (t == s) = false by simpa using hne]
    rw [envU_in r (j + 1) k t u e (List.nodup_cons.1 hn).2 h']
    congr 2; omega
theorem envU_out : ∀ (ts : List Nat) (j t : Nat) (u : Nat → Value) (e : List (Nat × Value)), t ∉ ts → (envU ts j u e).lookup t = e.lookup t
  | [], _, _, _, _, _ => rfl
  | s :: r, j, t, u, e, h => by
    simp only [List.mem_cons, not_or] at h
    simp only [envU, List.lookup_cons, show (t == s) = false by simpa using h.1]
    exact envU_out r (j + 1) t u e h.2
theorem Env.upd {n : Nat} {a : Act} {ts : List Nat} {u : Nat → Value} {e : List (Nat × Value)} {i t : Nat} {v : Value} (hn : ts.Nodup) (hi : ts[i]? = some t) (h : Env n a ((t, v) :: envU ts 0 u e)) : Env n a (envU ts 0 (updU u i v) e) := by
  refine ⟨h.sz, h.df, fun s x hs => h.get s x ?_⟩
  simp only [List.lookup_cons]
  by_cases hst : s = t
  · subst hst
    rw [envU_in ts 0 i s _ e hn hi] at hs
    simpa [updU] using hs
  · rw [show (s == t) = false by simpa using hst]
    simp only
    by_cases hm : s ∈ ts
    · obtain ⟨k, hk⟩ := List.mem_iff_getElem?.1 hm
      rw [envU_in ts 0 k s _ e hn hk] at hs ⊢
      have : k ≠ i := fun hki => by subst hki; rw [hk] at hi; exact hst (by simpa using hi)
      simpa [updU, this] using hs
    · rw [envU_out ts 0 s _ e hm] at hs ⊢; exact hs

/-! ### The order -/
def bef : List Oper → List Nat → List Nat
  | [], acc => acc
  | o :: r, acc => bef r (acc ++ [o.after.toList.foldl (fun s e => if Region.binds .any e then s ||| 2 ^ e.on ||| acc.getD e.on 0 else s) 0])
def edgesB : List Oper → Nat → Bool
  | [], _ => true
  | o :: r, i => o.after.toList.all (fun e => !Region.binds .any e || decide (e.on < i)) && edgesB r (i + 1)
def tailB (l : List Oper) (h : Nat) : Bool :=
  let b := bef l []
  (List.range l.length).all fun i => decide (i < h) || (List.range i).all fun j => (b.getD i 0).testBit j

def DownC (l : List Oper) (D : Nat → Prop) : Prop := ∀ i o e, l[i]? = some o → e ∈ o.after.toList → Region.binds .any e = true → D i → D e.on

theorem edgesB_spec : ∀ (l : List Oper) (k : Nat), edgesB l k = true → ∀ i o e, l[i]? = some o → e ∈ o.after.toList → Region.binds .any e = true → e.on < k + i
  | [], _, _, _, _, _, h, _, _ => by simp at h
  | p :: r, k, hb, 0, o, e, h, he, hbi => by
    simp at h; subst h
    simp only [edgesB, Bool.and_eq_true, List.all_eq_true] at hb
    have := hb.1 e he
    simp [hbi] at this
    omega
  | p :: r, k, hb, i + 1, o, e, h, he, hbi => by
    simp only [edgesB, Bool.and_eq_true] at hb
    have := edgesB_spec r (k + 1) hb.2 i o e (by simpa using h) he hbi
    omega

theorem fold_bits (acc : List Nat) (j : Nat) : ∀ (es : List Edge) (s : Nat), (es.foldl (fun s e => if Region.binds .any e then s ||| 2 ^ e.on ||| acc.getD e.on 0 else s) s).testBit j = true →
    s.testBit j = true ∨ ∃ e ∈ es, Region.binds .any e = true ∧ (e.on = j ∨ (acc.getD e.on 0).testBit j = true)
  | [], s, h => .inl h
  | e :: r, s, h => by
    rw [List.foldl_cons] at h
    rcases fold_bits acc j r _ h with h | ⟨e', h1, h2⟩
    · split at h
      · rename_i hb
        rw [Nat.testBit_or, Nat.testBit_or, Bool.or_eq_true, Bool.or_eq_true, Nat.testBit_two_pow] at h
        rcases h with (h | h) | h
        · exact .inl h
        · exact .inr ⟨e, by simp, hb, .inl (by simpa using h)⟩
        · exact .inr ⟨e, by simp, hb, .inr h⟩
      · exact .inl h
    · exact .inr ⟨e', by simp [h1], h2⟩

theorem bef_spec (full : List Oper) : ∀ (l : List Oper) (acc : List Nat) (k : Nat), acc.length = k → (∀ i, l[i]? = full[k + i]?) →
    (∀ i, i < k → ∀ D, DownC full D → (∀ o e, full[i]? = some o → e ∈ o.after.toList → Region.binds .any e = true → D e.on) → ∀ j, (acc.getD i 0).testBit j = true → D j) →
    ∀ i, i < (bef l acc).length → ∀ D, DownC full D → (∀ o e, full[i]? = some o → e ∈ o.after.toList → Region.binds .any e = true → D e.on) → ∀ j, ((bef l acc).getD i 0).testBit j = true → D j
  | [], acc, k, hk, _, h, i, hi, D, hD, hd, j, hj => h i (by simpa [bef, hk] using hi) D hD hd j hj
  | o :: r, acc, k, hk, hl, h, i, hi, D, hD, hd, j, hj => by
    refine bef_spec full r _ (k + 1) (by simp [hk]) (fun i => by have := hl (i + 1); simpa [Nat.add_assoc, Nat.add_comm 1 i] using this) ?_ i hi D hD hd j hj
    intro i hi D hD hd j hj
    have ho : full[k]? = some o := by have := hl 0; simpa using this.symm
    by_cases hik : i < k
    · refine h i hik D hD hd j ?_
      rw [List.getD_eq_getElem?_getD, List.getElem?_append_left (by omega)] at hj
      rwa [List.getD_eq_getElem?_getD]
    · have hik : i = k := by omega
      subst hik
      rw [List.getD_eq_getElem?_getD, List.getElem?_append_right (by omega), hk] at hj
      simp only [Nat.sub_self, List.getElem?_cons_zero, Option.getD_some] at hj
      rcases fold_bits acc j _ _ hj with h0 | ⟨e, h1, h2, h3⟩
      · simp at h0
      · have hDe := hd o e ho h1 h2
        rcases h3 with rfl | h3
        · exact hDe
        · by_cases hek : e.on < i
          · exact h e.on hek D hD (fun o' e' ho' he' hb' => hD e.on o' e' ho' he' hb' hDe) j h3
          · rw [List.getD_eq_getElem?_getD, List.getElem?_eq_none (by omega)] at h3
            simp at h3

/-- Which operations have been done. -/
abbrev dn (listed : Array Bool) (i : Nat) : Prop := listed.getD i false = true

theorem dn_set {listed : Array Bool} {i j : Nat} (hi : i < listed.size) : dn (listed.setIfInBounds i true) j ↔ (j = i ∨ dn listed j) := by
  unfold dn
  simp only [Array.getD_eq_getD_getElem?, Array.getElem?_setIfInBounds]
  by_cases h : i = j
  · subst h; simp [hi]
  · simp [h, Ne.symm h]

theorem wpAny_of_inv {P : Program} {l : List Oper} {Q : Exit → Act → World → Prop} (hE : edgesB l 0 = true) (I : Array Bool → Act → World → Prop)
    (hstep : ∀ listed i o a w, listed.size = l.length → l[i]? = some o → ¬ dn listed i → DownC l (dn listed) → (∀ e ∈ o.after.toList, Region.binds .any e = true → dn listed e.on) → I listed a w →
      wpOp P l.toArray Q i (I (listed.setIfInBounds i true)) a w)
    (hend : ∀ listed a w, listed.size = l.length → (∀ i, i < l.length → dn listed i) → I listed a w → Q .normal a w) :
    ∀ (fuel : Nat) (listed : Array Bool) (a : Act) (w : World), listed.size = l.length → ((List.range l.length).filter fun i => !listed.getD i false).length ≤ fuel → DownC l (dn listed) → I listed a w → wpAny P .any l.toArray Q fuel listed a w := by
  have hnone : ∀ listed : Array Bool, listed.size = l.length → Region.ready .any l.toArray listed = [] → ∀ i, i < l.length → dn listed i := by
    intro listed hsz hr i
    induction i using Nat.strongRecOn with
    | _ i ih =>
      intro hi
      by_cases hd : dn listed i
      · exact hd
      exfalso
      have hm : i ∈ Region.ready .any l.toArray listed := by
        unfold Region.ready
        rw [List.mem_filter]
        refine ⟨by simpa using hi, ?_⟩
        have hg : l.toArray[i]? = some l[i] := by simp [hi]
        rw [hg]
        simp only [Option.map_some, Option.getD_some, Bool.and_eq_true, Bool.not_eq_true']
        constructor
        · unfold dn at hd
          rw [Array.getD_eq_getD_getElem?] at hd ⊢
          have : i < listed.size := by omega
          simp [this] at hd ⊢
          exact hd
        · rw [← Array.all_toList, List.all_eq_true]
          intro e he
          by_cases hb : Region.binds .any e = true
          · have hlt := edgesB_spec l 0 hE i l[i] e (by simp [hi]) he hb
            have := ih e.on (by omega) (by omega)
            simp only [Bool.or_eq_true]; exact .inr this
          · simp [hb]
      rw [hr] at hm; cases hm
  intro fuel
  induction fuel with
  | zero =>
    intro listed a w hsz hf hdc hI
    have hall : ∀ i, i < l.length → dn listed i := by
      intro i hi
      have : ((List.range l.length).filter fun i => !listed.getD i false) = [] := List.eq_nil_of_length_eq_zero (by omega)
      rw [List.filter_eq_nil_iff] at this
      have := this i (by simpa using hi)
      unfold dn; simpa using this
    refine ⟨?_, hend listed a w hsz hall hI⟩
    unfold Region.ready
    rw [List.filter_eq_nil_iff]
    intro i hi
    have hi' : i < l.length := by simpa using hi
    have := hall i hi'
    unfold dn at this
    rw [Array.getD_eq_getD_getElem?] at this ⊢
    have hlt : i < listed.size := by omega
    simp [hlt] at this ⊢
    simp [this]
  | succ fuel ih =>
    intro listed a w hsz hf hdc hI
    refine ⟨fun hr => hend listed a w hsz (hnone listed hsz hr) hI, fun i hi => ?_⟩
    unfold Region.ready at hi
    rw [List.mem_filter] at hi
    obtain ⟨h1, h2⟩ := hi
    have hil : i < l.length := by simpa using h1
    have hg : l.toArray[i]? = some l[i] := by simp [hil]
    rw [hg] at h2
    simp only [Option.map_some, Option.getD_some, Bool.and_eq_true, Bool.not_eq_true'] at h2
    have hnd : ¬ dn listed i := by
      unfold dn
      have hlt : i < listed.size := by omega
      have h3 := h2.1
      rw [Array.getD_eq_getD_getElem?] at h3 ⊢
      simp [hlt] at h3 ⊢
      exact h3
    have hpre : ∀ e ∈ l[i].after.toList, Region.binds .any e = true → dn listed e.on := by
      intro e he hb
      have h4 := h2.2
      rw [← Array.all_toList, List.all_eq_true] at h4
      have := h4 e he
      simp only [hb, Bool.not_true, Bool.false_or] at this
      exact this
    refine wpOp_mono (fun a' w' hI' => ih _ a' w' (by simpa using hsz) ?_ ?_ hI') (hstep listed i l[i] a w hsz (by simp [hil]) hnd hdc hpre hI)
    · have hlt : ((List.range l.length).filter fun j => !(listed.setIfInBounds i true).getD j false).length < ((List.range l.length).filter fun j => !listed.getD j false).length := by
        have hsub : ∀ j, (!(listed.setIfInBounds i true).getD j false) = true → (!listed.getD j false) = true := by
          intro j hj
          have : ¬ dn (listed.setIfInBounds i true) j := by unfold dn; simpa using hj
          rw [dn_set (by omega)] at this
          have h5 : ¬ dn listed j := fun h => this (.inr h)
          unfold dn at h5; simpa using h5
        rw [← List.countP_eq_length_filter, ← List.countP_eq_length_filter]
        have hmono : ∀ (xs : List Nat), i ∈ xs → xs.countP (fun j => !(listed.setIfInBounds i true).getD j false) < xs.countP (fun j => !listed.getD j false) := by
          intro xs
          induction xs with
          | nil => intro h; cases h
          | cons x xs ihx =>
            intro hx
            have hle : xs.countP (fun j => !(listed.setIfInBounds i true).getD j false) ≤ xs.countP (fun j => !listed.getD j false) := List.countP_mono_left (fun j _ => hsub j)
            rw [List.countP_cons, List.countP_cons]
            rcases List.mem_cons.1 hx with rfl | hx
            · have e1 : (!(listed.setIfInBounds i true).getD i false) = false := by
                have : dn (listed.setIfInBounds i true) i := (dn_set (by omega)).2 (.inl rfl)
                unfold dn at this; simp [this]
              have e2 : (!listed.getD i false) = true := by unfold dn at hnd; simpa using hnd
              rw [e1, e2]; simp only [Bool.false_eq_true, if_false, if_true]; omega
            · have := ihx hx
              by_cases hc : (!(listed.setIfInBounds i true).getD x false) = true
              · rw [hc, hsub x hc]; simp only [if_true]; omega
              · simp only [Bool.not_eq_true] at hc; rw [hc]; simp only [Bool.false_eq_true, if_false]; split <;> omega
        exact hmono _ (by simpa using hil)
      omega
    · intro j o e hj he hb hdj
      rw [dn_set (by omega)] at hdj ⊢
      rcases hdj with rfl | hdj
      · have : o = l[j] := by rw [List.getElem?_eq_getElem hil] at hj; simpa using hj.symm
        subst this
        exact .inr (hpre e he hb)
      · exact .inr (hdc j o e hj he hb hdj)

/-- Where a drawn region stands. -/
def DrawI (P : Program) (l hd tl : List Oper) (Q : Exit → Act → World → Prop) (n : Nat) (ts : List Nat) (e0 : List (Nat × Value)) (C : World → Prop) (G : Nat → Value → World → Prop) (listed : Array Bool) (a : Act) (w : World) : Prop :=
  ((∀ i, i < hd.length → dn listed i) ∧ ∃ k, k ≤ tl.length ∧ (∀ j, j < k → dn listed (hd.length + j)) ∧ (∀ j, k ≤ j → j < tl.length → ¬ dn listed (hd.length + j)) ∧ wpList P l.toArray Q (tl.drop k) a w) ∨
  ((¬ ∀ i, i < hd.length → dn listed i) ∧ (∀ j, hd.length ≤ j → ¬ dn listed j) ∧ ∃ u, Env n a (envU ts 0 u e0) ∧ C w ∧ ∀ j, dn listed j → G j (u j) w)

/-- THE LAW. hd: operations that yield values and, as to memory, only add; tl: those behind, one after the other. -/
theorem c_draw {P : Program} {id : Nat} {hd tl : List Oper} {Q : Exit → Act → World → Prop} {a : Act} {w : World} {n : Nat} {e0 : List (Nat × Value)}
    (hm : P.follows .mixedOrders = true) (hE : edgesB (hd ++ tl) 0 = true) (hT : tailB (hd ++ tl) hd.length = true)
    (ts : List Nat) (hn : ts.Nodup) (C : World → Prop) (G : Nat → Value → World → Prop)
    (hC : ∀ w w', C w → Kept (Old w) w w' → C w') (hG : ∀ j v w w', C w → Kept (Old w) w w' → G j v w → G j v w')
    (h0 : Env n a e0) (hC0 : C w.drew)
    (hstep : ∀ (i : Nat) (o : Oper), hd[i]? = some o → ∀ a w (u : Nat → Value), Env n a (envU ts 0 u e0) → C w → (∀ (k : Nat) (e : Edge), o.after.toList[k]? = some e → Region.binds .any e = true → G e.on (u e.on) w) →
      wpList P (hd ++ tl).toArray (nrm fun a' w' => Kept (Old w) w w' ∧ ∃ v t, ts[i]? = some t ∧ Env n a' ((t, v) :: envU ts 0 u e0) ∧ G i v w') [o] a w)
    (htail : ∀ a w u, Env n a (envU ts 0 u e0) → C w → (∀ j, j < hd.length → G j (u j) w) → wpList P (hd ++ tl).toArray Q tl a w) :
    (Code.region id (hd ++ tl).toArray true).wp P Q a w := by
  refine wp_region_any hm ?_
  generalize hl : hd ++ tl = l at *
  have hln : l.length = hd.length + tl.length := by rw [← hl]; simp
  have hbl : (bef l []).length = l.length := by
    have : ∀ (r : List Oper) (acc : List Nat), (bef r acc).length = acc.length + r.length := by
      intro r; induction r with
      | nil => intro acc; simp [bef]
      | cons o r ih => intro acc; rw [bef, ih]; simp; omega
    rw [this]; simp
  have tailDone : ∀ listed i o, l[i]? = some o → hd.length ≤ i → DownC l (dn listed) → (∀ e ∈ o.after.toList, Region.binds .any e = true → dn listed e.on) → ∀ j, j < i → dn listed j := by
    intro listed i o hi hle hdc hp j hj
    have hil := (List.getElem?_eq_some_iff.1 hi).1
    have hbit : ((bef l []).getD i 0).testBit j = true := by
      unfold tailB at hT
      simp only [List.all_eq_true] at hT
      have := hT i (by simpa using hil)
      simp only [Bool.or_eq_true, decide_eq_true_eq, List.all_eq_true] at this
      rcases this with h | h
      · omega
      · exact h j (by simpa using hj)
    exact bef_spec l l [] 0 rfl (by simp) (fun i hi => absurd hi (Nat.not_lt_zero i)) i (by rw [hbl]; exact hil) (dn listed) hdc (fun o' e ho' he hb => by rw [hi] at ho'; cases ho'; exact hp e he hb) j hbit
  have hfuel : ((List.range l.length).filter fun i => !(Array.replicate l.toArray.size false).getD i false).length ≤ l.toArray.size := by
    refine Nat.le_trans (List.length_filter_le _ _) ?_; simp
  have hnot0 : ∀ i, ¬ dn (Array.replicate l.toArray.size false) i := by
    intro i; unfold dn; rw [Array.getD_eq_getD_getElem?, Array.getElem?_replicate]; split <;> simp
  refine wpAny_of_inv hE (DrawI P l hd tl Q n ts e0 C G) ?_ ?_ _ _ _ _ (by simp) hfuel (fun i o e _ _ _ h => absurd h (hnot0 i)) ?_
  · intro listed i o a w hsz hi hnd hdc hp hI
    have hil := (List.getElem?_eq_some_iff.1 hi).1
    by_cases hh : i < hd.length
    · -- a head operation
      have hnall : ¬ ∀ i, i < hd.length → dn listed i := fun h => hnd (h i hh)
      obtain ⟨h, _⟩ | ⟨_, ht0, u, k1, k2, k3⟩ := hI
      · exact absurd h hnall
      have hio : hd[i]? = some o := by rw [← hl] at hi; rwa [List.getElem?_append_left hh] at hi
      refine wpOp_of (by simpa using hi) ?_
      have hs := hstep i o hio a w u k1 k2 (fun k e hk hb => k3 _ (hp e (List.mem_of_getElem? hk) hb))
      have hmono : ∀ (X Y : Act → World → Prop), (∀ a w, X a w → Y a w) → ∀ a w, wpList P l.toArray (nrm X) [o] a w → wpList P l.toArray (nrm Y) [o] a w := by
        intro X Y hXY a w h
        unfold wpList at h ⊢
        split
        · rename_i hw
          rw [if_pos hw] at h
          rcases h with h | ⟨_, a', w', h⟩
          · exact .inl (Oper.wp_mono2 (fun _ _ h => hXY _ _ h) (fun _ _ _ h => h.elim) (fun ⟨_, _, h⟩ => h.elim) h)
          · exact h.elim
        · rename_i hw
          rw [if_neg hw] at h
          exact hXY _ _ h
      refine hmono _ _ ?_ a w hs
      rintro a' w' ⟨hk, v, t, hti, hEnv, hGi⟩
      have hEnv' := hEnv.upd hn hti
      have hC' := hC w w' k2 hk
      have hset : ∀ j, dn (listed.setIfInBounds i true) j ↔ (j = i ∨ dn listed j) := fun j => dn_set (by omega)
      have hG' : ∀ j, dn (listed.setIfInBounds i true) j → G j (updU u i v j) w' := by
        intro j hj
        rcases (hset j).1 hj with rfl | hj'
        · simpa [updU] using hGi
        · have hji : j ≠ i := fun h => by subst h; exact hnd hj'
          simp only [updU, if_neg hji]
          exact hG j _ w w' k2 hk (k3 j hj')
      have htn : ∀ j, hd.length ≤ j → ¬ dn (listed.setIfInBounds i true) j := by
        intro j hj hd'
        rcases (hset j).1 hd' with rfl | hj'
        · omega
        · exact ht0 j hj hj'
      by_cases hall : ∀ j, j < hd.length → dn (listed.setIfInBounds i true) j
      · exact .inl ⟨hall, 0, Nat.zero_le _, fun j hj => by omega, fun j _ _ => htn _ (by omega), htail a' w' _ hEnv' hC' (fun j hj => hG' j (hall j hj))⟩
      · exact .inr ⟨hall, htn, _, hEnv', hC', hG'⟩
    · have hdone := tailDone listed i o hi (by omega) hdc hp
      have hall : ∀ j, j < hd.length → dn listed j := fun j hj => hdone j (by omega)
      obtain ⟨_, k, hk, k1, k2, k3⟩ | ⟨h, _⟩ := hI
      case inr => exact absurd hall h
      have hki : hd.length + k = i := by
        rcases Nat.lt_trichotomy (hd.length + k) i with h | h | h
        · exact absurd (hdone _ h) (k2 k (Nat.le_refl _) (by omega))
        · exact h
        · exact absurd (by have := k1 (i - hd.length) (by omega); rwa [show hd.length + (i - hd.length) = i by omega] at this) hnd
      have hto : tl[k]? = some o := by
        rw [← hl] at hi
        rw [List.getElem?_append_right (by omega)] at hi
        rwa [show i - hd.length = k by omega] at hi
      have hdr : tl.drop k = o :: tl.drop (k + 1) := by
        rw [List.drop_eq_getElem_cons (List.getElem?_eq_some_iff.1 hto).1]
        congr 1
        exact (List.getElem?_eq_some_iff.1 hto).2
      rw [hdr] at k3
      refine wpOp_mono (fun a' w' hl => ?_) (wpOp_list (by simpa using hi) k3)
      have hset : ∀ j, dn (listed.setIfInBounds i true) j ↔ (j = i ∨ dn listed j) := fun j => dn_set (by omega)
      have hall' : ∀ j, j < hd.length → dn (listed.setIfInBounds i true) j := fun j hj => (hset j).2 (.inr (hall j hj))
      refine .inl ⟨hall', k + 1, (List.getElem?_eq_some_iff.1 hto).1, fun j hj => (hset _).2 ?_, fun j hj1 hj2 hd' => ?_, hl⟩
      · rcases Nat.lt_or_ge j k with h | h
        · exact .inr (k1 j h)
        · exact .inl (by omega)
      · rcases (hset _).1 hd' with h | h
        · omega
        · exact k2 j (by omega) hj2 h
  · intro listed a w hsz hall hI
    have hall' : ∀ i, i < hd.length → dn listed i := fun i hi => hall i (by omega)
    obtain ⟨_, k, hk, k1, k2, k3⟩ | ⟨h, _⟩ := hI
    case inr => exact absurd hall' h
    have : k = tl.length := by
      rcases Nat.lt_or_ge k tl.length with h | h
      · exact absurd (hall (hd.length + k) (by omega)) (k2 k (Nat.le_refl _) h)
      · omega
    subst this
    rw [List.drop_length] at k3
    exact k3
  · have hu : ∀ (r : List Nat) (j : Nat) (u : Nat → Value), (∀ k t, r[k]? = some t → u (j + k) = a.tmps.getD t undef) → Env n a (envU r j u e0) := by
      intro r
      induction r with
      | nil => intro j u _; exact h0
      | cons t r ih =>
        intro j u hu
        have h1 := ih (j + 1) u (fun k s hk => by have := hu (k + 1) s (by simpa using hk); rwa [show j + (k + 1) = j + 1 + k by omega] at this)
        refine ⟨h1.sz, h1.df, fun s x hs => ?_⟩
        simp only [envU, List.lookup_cons] at hs
        by_cases hst : s = t
        · subst hst
          simp at hs
          rw [← hs]
          exact (hu 0 s rfl).symm
        · rw [show (s == t) = false by simpa using hst] at hs
          exact h1.get s x hs
    have hEnv : Env n a (envU ts 0 (fun j => a.tmps.getD (ts.getD j 0) undef) e0) := hu ts 0 _ (fun k t hk => by simp [List.getD_eq_getElem?_getD, hk])
    by_cases hall : ∀ i, i < hd.length → dn (Array.replicate l.toArray.size false) i
    · have hnil : hd.length = 0 := by
        rcases Nat.eq_zero_or_pos hd.length with h | h
        · exact h
        · exact absurd (hall 0 h) (hnot0 0)
      exact .inl ⟨hall, 0, Nat.zero_le _, fun j hj => by omega, fun j _ _ => hnot0 _, htail a _ _ hEnv hC0 (fun j hj => by omega)⟩
    · exact .inr ⟨hall, fun j _ => hnot0 j, _, hEnv, hC0, fun j hj => absurd hj (hnot0 j)⟩
end Go.Proofs.YtkcaldgoomphaaaDoor
