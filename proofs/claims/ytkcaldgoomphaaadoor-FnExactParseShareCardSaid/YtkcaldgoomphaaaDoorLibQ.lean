/- The walk library, part Q: literals that are only read, in drawn regions; bytealg.Compare. -/
import Derived.Test.YtkcaldgoomphaaaDoorLibP
namespace Go.Proofs.YtkcaldgoomphaaaDoor
open Go

/-! ### A literal among what a drawn region makes -/
def litP (v : Value) (m : Nat) (vs : List Value) : Item := fun w fp => ∃ b, v = .slice (some ⟨b, 0, none⟩) m m ∧ raw b vs w fp
def mkL (i : Nat) (ds : List Nat) (m : Nat) (f : List Value → List Value) : List Nat × (List Bool → List Value → Item) := (i :: ds, fun bs us => opt (bs.headD false) (litP (us.headD undef) m (f us.tail)))
section
variable {St : Nat → Prop} {w0 w : World} {its pre post : List Item} {mk : Mk} {D : Nat → Bool} {u : Nat → Value} {i k m b : Nat} {ds : List Nat} {v : Value} {vs : List Value} {f : List Value → List Value}
theorem litP_loc {St : Nat → Prop} : Loc St (litP v m vs) := fun w w' fp ⟨b, e, k⟩ hb => ⟨b, e, raw_loc w w' fp k hb⟩
theorem emL : ∀ us, (mkL i ds m f).2 ((mkL i ds m f).1.map fun _ => false) us = Go.Proofs.YtkcaldgoomphaaaDoor.emp := fun _ => by simp [mkL, opt_false]
theorem litE (hD : D i = false) : (mkL i ds m f).2 ((mkL i ds m f).1.map D) ((mkL i ds m f).1.map u) = Go.Proofs.YtkcaldgoomphaaaDoor.emp := by simp [mkL, hD, opt_false]
theorem M.litOff (h : M St w0 w (its ++ qL (mk ++ [mkL i ds m f]) D u)) (hD : D i = false) : M St w0 w (its ++ qL mk D u) := by
  rw [qL_app, litE hD] at h
  have h2 : M St w0 w ((its ++ qL mk D u) ++ Go.Proofs.YtkcaldgoomphaaaDoor.emp :: []) := by simpa [qL] using h
  simpa using h2.pull.drop
theorem M.litOn (h : M St w0 w (its ++ qL mk (updD D k) (updU u k v))) (hD : D i = false) (hk : i ≠ k) : M St w0 w (its ++ qL (mk ++ [mkL i ds m f]) (updD D k) (updU u k v)) := by
  rw [qL_app, litE (by simp [updD, hk, hD])]
  have h2 := M.push (pre := its ++ qL mk (updD D k) (updU u k v)) (post := []) (it := Go.Proofs.YtkcaldgoomphaaaDoor.emp) (by simpa using h.emp)
  simpa [qL] using h2
theorem M.litFill (h : M St w0 w (raw b (f (ds.map u)) :: (its ++ qL (mk ++ [mkL i ds m f]) D u))) (hi : ((mk ++ []).all fun p => p.1.all fun k => k != i) = true) (hD : D i = false) (hd : (ds.all fun k => k != i) = true) :
    M St w0 w (its ++ qL (mk ++ [mkL i ds m f]) (updD D i) (updU u i (.slice (some ⟨b, 0, Option.none⟩) m m))) := by
  have hne : i ∉ ds := fun hm => by have := List.all_eq_true.1 hd i hm; simp at this
  have h' : M St w0 w (litP (.slice (some ⟨b, 0, Option.none⟩) m m) m (f (ds.map u)) :: (its ++ qL (mk ++ [mkL i ds m f]) D u)) := h.pack1 litP_loc fun fp k => ⟨b, rfl, k⟩
  refine M.qPut (mk1 := mk) (mk2 := []) h' hi (litE hD) ?_
  obtain ⟨e1, e2⟩ := map_upd (D := D) (u := u) (v := .slice (some ⟨b, 0, Option.none⟩) m m) hne
  simp only [mkL, List.map_cons, e2]
  simp [updD, updU, opt_true]
theorem M.litOpen (h : M St w0 w (litP v m vs :: its)) : ∃ b, v = .slice (some ⟨b, 0, Option.none⟩) m m ∧ M St w0 w (raw b vs :: its) := by
  obtain ⟨fp, ⟨b, hb, _⟩, _⟩ := h.head
  exact ⟨b, hb, h.pack1 raw_loc fun fp ⟨b', e', k⟩ => by rw [hb] at e'; simp at e'; subst e'; exact k⟩
end

/-! ### Appending to what a drawn region makes -/
def prm (a b : Bool) (x y : Item) : Item := if b = true then y else opt a x
def mkP (j i : Nat) (f g : Value → Item) : List Nat × (List Bool → List Value → Item) := ([j, i], fun bs us => prm (bs.headD false) (bs.getD 1 false) (f (us.headD undef)) (g (us.getD 1 undef)))
section
variable {St : Nat → Prop} {w0 w : World} {its pre post : List Item} {mk1 mk2 : Mk} {D : Nat → Bool} {u : Nat → Value} {i j : Nat} {v : Value} {a b : Bool} {x y : Item} {f g : Value → Item}
theorem emP : ∀ us, (mkP j i f g).2 ((mkP j i f g).1.map fun _ => false) us = Go.Proofs.YtkcaldgoomphaaaDoor.emp := fun _ => by simp [mkP, prm, opt_false]
theorem M.prmA (h : M St w0 w (pre ++ prm a b x y :: post)) (hb : b = false) (ha : a = true) : M St w0 w (pre ++ x :: post) := by
  subst hb; subst ha
  have e : prm true false x y = x := by simp [prm, opt_true]
  rwa [e] at h
theorem M.prmB (h : M St w0 w (pre ++ prm a b x y :: post)) (hb : b = true) : M St w0 w (pre ++ y :: post) := by subst hb; exact h
theorem M.unprmB (h : M St w0 w (pre ++ y :: post)) (hb : b = true) : M St w0 w (pre ++ prm a b x y :: post) := by subst hb; exact h
theorem M.qFillP (h : M St w0 w (f v :: (its ++ qL (mk1 ++ mkP j i f g :: mk2) D u))) (hi : ((mk1 ++ mk2).all fun p => p.1.all fun k => k != j) = true) (hD : D j = false) (hs : D i = false) (hne : i ≠ j) :
    M St w0 w (its ++ qL (mk1 ++ mkP j i f g :: mk2) (updD D j) (updU u j v)) :=
  M.qPut h hi (by simp [mkP, prm, hD, hs, opt_false]) (by simp [mkP, prm, updD, updU, hs, hne, opt_true])
theorem M.qApp (h : M St w0 w (g v :: (its ++ (qL mk1 D u ++ qL mk2 D u)))) (hi : ((mk1 ++ mk2).all fun p => p.1.all fun k => k != i) = true) :
    M St w0 w (its ++ qL (mk1 ++ mkP j i f g :: mk2) (updD D i) (updU u i v)) := by
  have hne' := noti hi
  rw [qL_app, qL_upd (fun p hp => hne' p (List.mem_append_left _ hp)), qL_upd (fun p hp => hne' p (List.mem_append_right _ hp))]
  have e : (mkP j i f g).2 ((mkP j i f g).1.map (updD D i)) ((mkP j i f g).1.map (updU u i v)) = g v := by simp [mkP, prm, updD, updU]
  rw [e]
  have h5 : M St w0 w (g v :: ((its ++ qL mk1 D u) ++ qL mk2 D u)) := by simpa using h
  simpa using M.push h5
end
/-! ### A variable that is made, into which what another operation makes is stored -/
def mkD (i s k : Nat) (z : List Value) (f : Value → List Value) : List Nat × (List Bool → List Value → Item) := ([i, s, k], fun bs us => cellI (bs.headD false) (bs.getD 1 false) (us.headD undef) z (f (us.getD 2 undef)))
section
variable {St : Nat → Prop} {w0 w : World} {its : List Item} {mk1 mk2 : Mk} {D : Nat → Bool} {u : Nat → Value} {i s k b : Nat} {v : Value} {z c c' : List Value} {f : Value → List Value}
theorem emD : ∀ us, (mkD i s k z f).2 ((mkD i s k z f).1.map fun _ => false) us = Go.Proofs.YtkcaldgoomphaaaDoor.emp := fun _ => rfl
theorem M.recell (h : M St w0 w (raw b c :: its)) (e : c = c') : M St w0 w (raw b c' :: its) := e ▸ h
theorem M.dOff (h : M St w0 w (its ++ qL (mk1 ++ mkD i s k z f :: mk2) D u)) (hs : D s = false) : M St w0 w (its ++ qL (mk1 ++ mkC i s z [] :: mk2) D u) := by
  have e : qL (mk1 ++ mkD i s k z f :: mk2) D u = qL (mk1 ++ mkC i s z [] :: mk2) D u := by
    rw [qL_app, qL_app]
    simp [mkD, mkC, cellI, hs]
  rwa [e] at h
theorem M.dOn (h : M St w0 w (its ++ qL (mk1 ++ mkC i s z [] :: mk2) (updD D k) (updU u k v))) (hs : D s = false) (hne : s ≠ k) : M St w0 w (its ++ qL (mk1 ++ mkD i s k z f :: mk2) (updD D k) (updU u k v)) := by
  have e : qL (mk1 ++ mkD i s k z f :: mk2) (updD D k) (updU u k v) = qL (mk1 ++ mkC i s z [] :: mk2) (updD D k) (updU u k v) := by
    rw [qL_app, qL_app]
    simp [mkD, mkC, cellI, updD, hs, hne]
  rwa [e]
theorem M.qAllocD (h : M St w0 w (raw b z :: (its ++ qL (mk1 ++ mkD i s k z f :: mk2) D u))) (hi : ((mk1 ++ mk2).all fun p => p.1.all fun k => k != i) = true) (hD : D i = false) (hs : D s = false) (hne : s ≠ i) :
    M St w0 w (its ++ qL (mk1 ++ mkD i s k z f :: mk2) (updD D i) (updU u i (ptr b 0))) := by
  have h' : M St w0 w (rawP (ptr b 0) z :: (its ++ qL (mk1 ++ mkD i s k z f :: mk2) D u)) := h.pack1 (fun w w' fp ⟨b', e, k⟩ hb => ⟨b', e, raw_loc w w' fp k hb⟩) fun fp k => ⟨b, rfl, k⟩
  refine M.qPut h' hi (by simp [mkD, hD, cellI]) ?_
  simp [mkD, updD, updU, cellI, hne, hs]
theorem M.qStoreD (h : M St w0 w (raw b (f (u k)) :: (its ++ (qL mk1 D u ++ qL mk2 D u)))) (hi : ((mk1 ++ mk2).all fun p => p.1.all fun k => k != s) = true) (hj : D i = true) (hb : u i = ptr b 0) (hne : i ≠ s) (hk : k ≠ s) :
    M St w0 w (its ++ qL (mk1 ++ mkD i s k z f :: mk2) (updD D s) (updU u s v)) := by
  have hne' := noti hi
  rw [qL_app, qL_upd (fun p hp => hne' p (List.mem_append_left _ hp)), qL_upd (fun p hp => hne' p (List.mem_append_right _ hp))]
  have e : (mkD i s k z f).2 ((mkD i s k z f).1.map (updD D s)) ((mkD i s k z f).1.map (updU u s v)) = rawP (ptr b 0) (f (u k)) := by
    simp [mkD, updD, updU, cellI, hne, hj, hb, hk]
  rw [e]
  have h' : M St w0 w (rawP (ptr b 0) (f (u k)) :: (its ++ (qL mk1 D u ++ qL mk2 D u))) := h.pack1 (fun w w' fp ⟨b', e, k⟩ hb => ⟨b', e, raw_loc w w' fp k hb⟩) fun fp k => ⟨b, rfl, k⟩
  have h5 : M St w0 w (rawP (ptr b 0) (f (u k)) :: ((its ++ qL mk1 D u) ++ qL mk2 D u)) := by simpa using h'
  simpa using M.push h5
end
/-- An array of one's own is a slice of one's own. -/
theorem M.rawOsl {α : Type} [Flat α] {St : Nat → Prop} {w0 w : World} {its : List Item} {N b : Nat} {v : Vector α N} (h : M St w0 w (raw b (Flat.enc v) :: its)) : M St w0 w (osl NoB v.toList (.slice (some ⟨b, 0, Option.none⟩) N N) :: its) :=
  h.pack1 (osl_loc noB) fun fp ⟨e, T, hh⟩ => by
    refine ⟨some ⟨b, 0, Option.none⟩, N, by simp, by simp, .inr ⟨b, 0, Flat.enc v, [], rfl, flat_elems.2 ⟨rfl, rfl⟩, At.of_heap hh, e, ⟨_, T, (0, 0), hh, ?_, fun i _ hi => by omega⟩⟩⟩
    have h1 : (Flat.enc v).toArray.size = N * Rep.n α := Flat.len v
    rw [h1]; omega
theorem flq {α : Type} [Flat α] {x y : α} : (Flat.enc x).length = (Flat.enc y).length := (Flat.len x).trans (Flat.len y).symm
theorem zle {a b : Nat} (h : a = b) : 0 + a ≤ b := by omega
theorem bvx {α β : Type} {N : Nat} {v : Vector α N} {i : Int} {f : α → Option β} {r : β} (h : (vidx v i).bind f = some r) : ∃ x, ((0 ≤ i ∧ i < N) ∧ v.toList[i.toNat]? = some x) ∧ f x = some r := by
  obtain ⟨x, e, h⟩ := bind_some h
  exact ⟨x, vidx_some e, h⟩
theorem bix {α β : Type} {l : List α} {i : Int} {f : α → Option β} {r : β} (h : (idx l i).bind f = some r) : ∃ x, ((0 ≤ i ∧ i < l.length) ∧ l[i.toNat]? = some x) ∧ f x = some r := by
  obtain ⟨x, e, h⟩ := bind_some h
  exact ⟨x, idx_some e, h⟩
theorem ois {α : Type} {x y : α} (h : some x = some y) : y = x := (Option.some.inj h).symm
theorem nbl {a b : Nat} (h : Nat.ble a b = true) : a ≤ b := Nat.le_of_ble_eq_true h
theorem ld {d n : Nat} (h : d < n := by decide) : d < n := h
theorem dl {d n : Nat} (h : Nat.ble (d + 1) n = true) : d < n := Nat.le_of_ble_eq_true h
theorem fa_nil {p : Value → Prop} : ∀ v ∈ ([] : List Value), p v := fun _ h => by cases h
theorem fa_cons {p : Value → Prop} {x : Value} {l : List Value} (h : p x) (hs : ∀ v ∈ l, p v) : ∀ v ∈ x :: l, p v := fun v hv => by
  rcases List.mem_cons.1 hv with rfl | hv
  · exact h
  · exact hs v hv

/-! ### bytealg.Compare -/
def cmpB : List UInt8 → List UInt8 → Int
  | [], [] => 0
  | [], _ :: _ => -1
  | _ :: _, [] => 1
  | x :: l, y :: m => if x < y then -1 else if y < x then 1 else cmpB l m
theorem find_range (p : Nat → Bool) (n : Nat) : (List.range (n + 1)).find? p = if p 0 then some 0 else ((List.range n).find? fun i => p (i + 1)).map Nat.succ := by
  rw [List.range_succ_eq_map, List.find?_cons, List.find?_map]
  cases p 0 <;> rfl
theorem cmp_eq : ∀ (a b : List UInt8), Extern.BytealgCompare.cmp ⟨a.toArray⟩ ⟨b.toArray⟩ = cmpB a b := by
  have gen : ∀ (a b : List UInt8), (match (List.range (min a.length b.length)).find? fun i => a[i]! != b[i]! with
      | some i => if a[i]! < b[i]! then (-1 : Int) else 1
      | none => if a.length < b.length then -1 else if a.length > b.length then 1 else 0) = cmpB a b := by
    intro a
    induction a with
    | nil => intro b; cases b <;> simp [cmpB]
    | cons x a ih =>
      intro b
      cases b with
      | nil => simp [cmpB]
      | cons y b =>
        have e : min (x :: a).length (y :: b).length = min a.length b.length + 1 := by simp only [List.length_cons]; omega
        rw [e, find_range]
        by_cases hxy : x = y
        · subst hxy
          have hlt : ¬ x < x := UInt8.lt_irrefl x
          have := ih b
          simp only [List.getElem!_cons_zero, bne_self_eq_false, Bool.false_eq_true, if_false, List.getElem!_cons_succ, cmpB, hlt]
          rw [← this]
          cases (List.range (min a.length b.length)).find? fun i => a[i]! != b[i]! with
          | none => simp
          | some i => simp
        · have hne : (x != y) = true := by simpa using hxy
          simp only [List.getElem!_cons_zero, hne, if_true, cmpB]
          by_cases h1 : x < y
          · simp [h1]
          · have h2 : y < x := by
              rcases UInt8.lt_or_lt_of_ne hxy with h | h
              · exact absurd h h1
              · exact h
            simp [h1, h2]
  intro a b
  rw [← gen a b]
  unfold Extern.BytealgCompare.cmp
  have g1 : ∀ (l : List UInt8) (i : Nat), (⟨l.toArray⟩ : ByteArray)[i]! = l[i]! := fun l i => by
    by_cases h : i < l.length
    · rw [getElem!_pos _ i (by exact h), getElem!_pos l i h]; rfl
    · rw [getElem!_neg _ i (by exact h), getElem!_neg l i h]
  simp only [g1]
  rfl
section
variable {n : Nat} {a : Act} {e : List (Nat × Value)} {w w' : World} {P : Program} {ops : Array Oper} {rest : List Oper} {Q : Exit → Act → World → Prop}
variable {d : Nat} {ty t : TypeId} {pos : String} {af : Array Edge} {g : Option (Nat × Bool)} {x y : Operand} {v u : Value}
theorem run_bytesOf {S : Nat → Prop} {l : List UInt8} {fp : List Nat} (hs : Rep.sat S w l [v] fp) : (Extern.Bytes.bytesOf v).run P w = .ok ⟨l.toArray⟩ w := by
  obtain ⟨p, cap, hv, hc, hp⟩ := hs
  simp only [List.cons.injEq, and_true] at hv
  subst hv
  cases p with
  | none =>
    have : l = [] := List.eq_nil_of_length_eq_zero (by have := hp.1; omega)
    subst this
    rfl
  | some q =>
    obtain ⟨h1, ecs, fpe, h2, h3, _⟩ := hp
    by_cases hl0 : l = []
    · subst hl0; rfl
    have h1 := h1 (by have := List.length_pos_iff.2 hl0; omega)
    obtain ⟨q1, q2, q3⟩ := q
    simp only at h1
    subst h1
    obtain ⟨rfl, rfl⟩ := flat_elems.1 h2
    have hl := Lib.run_loadBytesX (P := P) w (l.map fun b => (b.toNat : Int)) ⟨q1, q2, none⟩ .empty (fun j x hj => by
      have hjl : j < l.length := by simpa using (List.getElem?_eq_some_iff.1 hj).1
      rw [Addr.add_lit]
      have := h3 j (Value.int .u8 (l[j].toNat : Int)) (by rw [enc_nums]; simp [hjl])
      rw [this]
      simp [List.getElem?_eq_getElem hjl] at hj
      subst hj
      rfl)
    rw [List.length_map] at hl
    show (Extern.Bytes.loadBytes ⟨q1, q2, none⟩ l.length .empty).run P w = _
    rw [hl]
    have := bytesOf_nums l
    congr 1
    rw [this]
    apply ByteArray.ext
    show (#[] : Array UInt8) ++ l.toArray = l.toArray
    simp
theorem s_bytesCompare {S S2 : Nat → Prop} {l m : List UInt8} {fp fq : List Nat} {f : Nat} {fn : Func} {ats : Array TypeId} {xs : List Operand} (h : Env n a e) (hw : Goes ops ⟨some d, .call ⟨.value (.func f), xs.toArray, ats⟩, ty, pos, af, g⟩ a) (hd : d < n)
    (hxs : opvs e xs = some [v, u]) (hf : P.funcs[f]? = some fn) (hb : fn.body.isNone = true) (hn : (fn.name == "runtime.NumGoroutine") = false) (hnx : Extern.findNext fn = none) (hfd : Extern.find fn = some Extern.BytealgCompare.compare)
    (hs : Rep.sat S w l [v] fp) (hs2 : Rep.sat S2 w m [u] fq) (k : ∀ a, Env n a ((d, vI (cmpB l m)) :: e) → wpList P ops Q rest a w) : wpList P ops Q (⟨some d, .call ⟨.value (.func f), xs.toArray, ats⟩, ty, pos, af, g⟩ :: rest) a w := by
  refine s_val h hw rfl hd (w' := w) ?_ k
  have hr : (Extern.BytealgCompare.compare #[v, u]).run P w = .ok (vI (cmpB l m)) w := by
    show (do pure (goInt (Extern.BytealgCompare.cmp (← Extern.Bytes.bytesOf v) (← Extern.Bytes.bytesOf u)))).run P w = _
    simp only [Sem.run_bind, run_bytesOf (P := P) hs, run_bytesOf (P := P) hs2, Result.andThen_ok, cmp_eq]
    rfl
  simp only [execOp, resolve, Act.eval]
  simp only [Deferred.ofValue, Sem.run_bind, pure, Sem.run, Result.andThen_ok, invoke]
  have hargs : (xs.toArray.map a.eval) = #[v, u] := by simp [h.evs hxs]
  simp only [hargs, Array.append_empty]
  have := run_callFunc_extern (P := P) hf hn hb hnx hfd #[v, u] w
  simpa [hr] using this
end
end Go.Proofs.YtkcaldgoomphaaaDoor
