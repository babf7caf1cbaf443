/- The walk library: the least of two, recursion, insertions. -/
import Derived.Test.YtkcaldgoomphaaaDoorLibU
set_option linter.unusedVariables false
set_option linter.unusedSimpArgs false
set_option linter.unusedSectionVars false
namespace Go.Proofs.YtkcaldgoomphaaaDoor
open Go
section
variable {n : Nat} {a : Act} {e : List (Nat × Value)} {w w' : World} {P : Program} {ops : Array Oper} {rest : List Oper} {Q : Exit → Act → World → Prop}
variable {d : Nat} {ty t : TypeId} {pos : String} {af : Array Edge} {g : Option (Nat × Bool)} {p q : Operand}
theorem s_min {t' : TypeId} {x y : Int} (h : Env n a e) (hw : Goes ops ⟨some d, .call ⟨.builtin .min, [p, q].toArray, [t, t'].toArray⟩, ty, pos, af, g⟩ a) (hd : d < n) (hp : opv e p = some (vI x)) (hq : opv e q = some (vI y))
    (k : ∀ a, Env n a ((d, vI (if y < x then y else x)) :: e) → wpList P ops Q rest a w) : wpList P ops Q (⟨some d, .call ⟨.builtin .min, [p, q].toArray, [t, t'].toArray⟩, ty, pos, af, g⟩ :: rest) a w := by
  exact s_val h hw rfl hd (by
    simp only [execOp, resolve]
    simp [invoke, builtin, Builtin.min_, Builtin.min2, h.ev hp, h.ev hq]) k
end
theorem enc_ne {α : Type} [Flat α] {x : α} (h : 0 < Flat.n α) : Flat.enc x ≠ [] := fun e => by have := Flat.len x; rw [e] at this; simp at this; omega
/-! ### Drawn regions: what one operation takes over; a store of what is made -/
def mkU (i : Nat) (A : Item) (f : Value → Item) : List Nat × (List Bool → List Value → Item) := ([i], fun bs us => tog (bs.headD false) A (f (us.headD undef)))
def mkW (s k b : Nat) (z : List Value) (f : Value → List Value) : List Nat × (List Bool → List Value → Item) := ([s, k], fun bs us => tog (bs.headD false) (raw b z) (raw b (f (us.getD 1 undef))))
/-- What the last operation of a chain has made (the last one stands first). -/
def chn : List (Bool × Item) → Item
  | [] => Go.Proofs.YtkcaldgoomphaaaDoor.emp
  | (b, x) :: r => if b = true then x else chn r
def chz : List (Nat × (Value → Item)) → List Bool → List Value → List (Bool × Item)
  | p :: l, b :: bs, v :: us => (b, p.2 v) :: chz l bs us
  | _, _, _ => []
def mkN (l : List (Nat × (Value → Item))) : List Nat × (List Bool → List Value → Item) := (l.map (·.1), fun bs us => chn (chz l bs us))
section
variable {St : Nat → Prop} {w0 w : World} {its pre post : List Item} {mk1 mk2 : Mk} {D : Nat → Bool} {u : Nat → Value} {b : Bool} {A B X : Item} {p : List Nat × (List Bool → List Value → Item)} {r : List (Bool × Item)}
theorem M.qUnconst (h : M St w0 w (its ++ qL (mk1 ++ ([], fun _ _ => X) :: mk2) D u)) (e : p.2 (p.1.map D) (p.1.map u) = X) : M St w0 w (its ++ qL (mk1 ++ p :: mk2) D u) := by
  rw [qL_app, e]; rw [qL_app] at h; exact h
theorem M.untogB (h : M St w0 w (pre ++ B :: post)) (hb : b = true) : M St w0 w (pre ++ tog b A B :: post) := by subst hb; exact h
theorem M.chnF (h : M St w0 w (pre ++ chn ((b, X) :: r) :: post)) (hb : b = false) : M St w0 w (pre ++ chn r :: post) := by subst hb; exact h
theorem M.chnT (h : M St w0 w (pre ++ chn ((b, X) :: r) :: post)) (hb : b = true) : M St w0 w (pre ++ X :: post) := by subst hb; exact h
theorem M.unchnT (h : M St w0 w (pre ++ X :: post)) (hb : b = true) : M St w0 w (pre ++ chn ((b, X) :: r) :: post) := by subst hb; exact h
theorem M.chnN (h : M St w0 w (pre ++ chn [] :: post)) : M St w0 w (pre ++ post) := h.pull.drop
theorem mkU_on {i : Nat} {f : Value → Item} {v : Value} : (mkU i A f).2 ((mkU i A f).1.map (updD D i)) ((mkU i A f).1.map (updU u i v)) = f v := by simp [mkU, tog, updD, updU]
theorem mkW_on {s k b : Nat} {z : List Value} {f : Value → List Value} {v : Value} (h : k ≠ s := by decide) : (mkW s k b z f).2 ((mkW s k b z f).1.map (updD D s)) ((mkW s k b z f).1.map (updU u s v)) = raw b (f (u k)) := by simp [mkW, tog, updD, updU, h]
theorem mkW_off {s k b i : Nat} {z : List Value} {f : Value → List Value} {v : Value} (hs : D s = false) (h : s ≠ i := by decide) : (mkW s k b z f).2 ((mkW s k b z f).1.map (updD D i)) ((mkW s k b z f).1.map (updU u i v)) = raw b z := by simp [mkW, tog, updD, hs, h]
theorem mkT_off {s i : Nat} {v : Value} (hs : D s = false) (h : s ≠ i := by decide) : (mkT s A B).2 ((mkT s A B).1.map (updD D i)) ((mkT s A B).1.map (updU u i v)) = A := by simp [mkT, tog, updD, hs, h]
theorem emN {l : List (Nat × (Value → Item))} : ∀ us, (mkN l).2 ((mkN l).1.map fun _ => false) us = Go.Proofs.YtkcaldgoomphaaaDoor.emp := by
  show ∀ us, chn (chz l ((l.map (·.1)).map fun _ => false) us) = _
  induction l with
  | nil => intro us; rfl
  | cons p l ih =>
    intro us
    cases us with
    | nil => rfl
    | cons v us => exact ih us
abbrev Off (D : Nat → Bool) (l : List (Nat × (Value → Item))) : Prop := ∀ p ∈ l, D p.1 = false
theorem offN : Off D [] := fun _ h => by cases h
theorem offC {k : Nat} {f : Value → Item} {l : List (Nat × (Value → Item))} (h : D k = false) (r : Off D l) : Off D ((k, f) :: l) := fun p hp => by
  rcases List.mem_cons.1 hp with rfl | hp
  · exact h
  · exact r p hp
theorem chn_off : ∀ {l : List (Nat × (Value → Item))} {m : List (Nat × (Value → Item))}, Off D l → chn (chz (l ++ m) ((l ++ m).map fun p => D p.1) ((l ++ m).map fun p => u p.1)) = chn (chz m (m.map fun p => D p.1) (m.map fun p => u p.1))
  | [], m, _ => rfl
  | p :: l, m, h => by
    have h1 := h p (by simp)
    simp only [List.cons_append, List.map_cons, chz, chn, h1, Bool.false_eq_true, if_false]
    exact chn_off fun q hq => h q (by simp [hq])
theorem mkN_off {l : List (Nat × (Value → Item))} (h : Off D l) : (mkN l).2 ((mkN l).1.map D) ((mkN l).1.map u) = Go.Proofs.YtkcaldgoomphaaaDoor.emp := by
  have := chn_off (u := u) (m := []) h
  rw [List.append_nil] at this
  simp only [mkN, List.map_map]
  exact this
theorem mkN_on {l m : List (Nat × (Value → Item))} {i : Nat} {f : Value → Item} {v : Value} (h : Off D l) (hi : (l.all fun p => p.1 != i) = true := by rfl) : (mkN (l ++ (i, f) :: m)).2 ((mkN (l ++ (i, f) :: m)).1.map (updD D i)) ((mkN (l ++ (i, f) :: m)).1.map (updU u i v)) = f v := by
  have h' : Off (updD D i) l := fun p hp => by
    have := List.all_eq_true.1 hi p hp
    unfold updD
    rw [if_neg (by simpa using this)]
    exact h p hp
  have := chn_off (D := updD D i) (u := updU u i v) (m := (i, f) :: m) h'
  simp only [mkN, List.map_map]
  refine Eq.trans this ?_
  simp [chz, chn, updD, updU]
end
end Go.Proofs.YtkcaldgoomphaaaDoor
