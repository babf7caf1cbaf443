/- The walk library: what this claim needs of it. -/
import Derived.Test.YtifdeoikcebbjaaK1
set_option linter.unusedVariables false
set_option linter.unusedSectionVars false
namespace Go.Proofs.Ytifdeoikcebbjaa
open Go

def asV (ag : Bool) (cs : List Value) : Value := if ag = true then .agg cs.toArray else cs.headD undef
abbrev EqOk (P : Program) (t : TypeId) (k : Nat) (α : Type) [Flat α] [DecidableEq α] (ag : Bool) : Prop :=
 ∀ (d : Nat) (w : World) (x y : α), (Op.equalIn (d + k) t (asV ag (Flat.enc x)) (asV ag (Flat.enc y))).run P w = .ok (decide (x = y)) w
section
variable {P : Program} {t e : TypeId}
theorem beq_dec {α : Type} [DecidableEq α] (x y : α) : (x == y) = decide (x = y) := rfl
theorem eqok_byte (h : P.underlying t = some (.int .u8)) : EqOk P t 1 UInt8 false := by
 intro d w x y
 have := run_equalIn_int (P := P) w d t .u8 .u8 x.toNat y.toNat h
 show (Op.equalIn (d + 1) t (vB x) (vB y)).run P w = _
 rw [this]
 congr 1
 rw [beq_dec, decide_eq_decide, u8_toNat_inj]
theorem encL_get {α : Type} [Flat α] {l : List α} {i : Nat} {x : α} (h : l[i]? = some x) : ((Yx l).drop (i * Flat.n α)).take (Flat.n α) = Flat.enc x := by
 have hl : i ≤ l.length := Nat.le_of_lt (List.getElem?_eq_some_iff.1 h).1
 rw [encL_split h]
 have e1 : (Yx (l.take i)).length = i * Flat.n α := by rw [W9, List.length_take, Nat.min_eq_left hl]
 rw [← e1, List.drop_left, ← Flat.len x, List.take_left]
theorem run_partV {α : Type} [Flat α] {D : TypeDesc} {by_ : Nat} {z : List Value} (he : Ty P e D (Flat.n α) by_ z) {ag : Bool} (hag : isAggD D = ag) (h1 : ag = false → Flat.n α = 1) {l : List α} {i : Nat} {x : α} (h : l[i]? = some x) (w : World) :
  (part e (Yx l).toArray (i * Flat.n α)).run P w = .ok (asV ag (Flat.enc x)) w := by
 have hg := encL_get h
 unfold part
 simp only [Sem.run_bind, run_isAgg he, Result.andThen_ok, hag]
 cases ag with
 | true =>
  simp only [if_true, Sem.run_bind, YU he, Result.andThen_ok, Sem.run_pure, asV]
  congr 2
  apply Array.ext'
  rw [Array.toList_extract]
  simp only [List.extract_eq_take_drop]
  rw [← hg, show i * Flat.n α + Flat.n α - i * Flat.n α = Flat.n α by omega]
 | false =>
  have h1 := h1 rfl
  have : (Yx l).toArray[i * Flat.n α]? = some (asV false (Flat.enc x)) := by
   rw [List.getElem?_toArray]
   have hlen := Flat.len x
   rw [h1] at hg hlen
   have e2 : (Yx l)[i * 1]? = ((Yx l).drop (i * 1))[0]? := by rw [List.getElem?_drop]; rfl
   rw [h1, e2]
   cases hd : (Yx l).drop (i * 1) with
   | nil => rw [hd] at hg; simp at hg; rw [hg] at hlen; simp at hlen
   | cons a r => rw [hd] at hg; simp at hg; rw [← hg]; rfl
  simp [this]
theorem run_itemsV {α : Type} [Flat α] [DecidableEq α] {D : TypeDesc} {by_ k : Nat} {z : List Value} (he : Ty P e D (Flat.n α) by_ z) {ag : Bool} (hag : isAggD D = ag) (h1 : ag = false → Flat.n α = 1) (hq : EqOk P e k α ag) (d : Nat) (w : World) {l m : List α} :
  ∀ (is : List Nat), (∀ i ∈ is, i < l.length ∧ i < m.length) → (Op.eqItems (d + k) e (Flat.n α) (Yx l).toArray (Yx m).toArray is).run P w = .ok (decide (∀ i ∈ is, l[i]? = m[i]?)) w
 | [], _ => by simp [Op.eqItems]
 | i :: is, h => by
  obtain ⟨hl, hm⟩ := h i (by simp)
  have ih := run_itemsV he hag h1 hq d w is (fun j hj => h j (by simp [hj]))
  simp only [Op.eqItems, Sem.run_bind, run_partV he hag h1 (List.getElem?_eq_getElem hl), run_partV he hag h1 (List.getElem?_eq_getElem hm), Result.andThen_ok, hq d w]
  by_cases hx : l[i] = m[i]
  ·simp only [hx, decide_true, Bool.not_true, Bool.false_eq_true, if_false, ih]
   congr 1
   rw [decide_eq_decide]
   simp [List.getElem?_eq_getElem hl, List.getElem?_eq_getElem hm, hx]
  ·simp only [hx, decide_false, Bool.not_false, if_true, Sem.run_pure]
   congr 1
   symm
   rw [decide_eq_false_iff_not]
   intro hall
   have := hall i (by simp)
   rw [List.getElem?_eq_getElem hl, List.getElem?_eq_getElem hm] at this
   exact hx (by simpa using this)
theorem eqok_arr {α : Type} [Flat α] [DecidableEq α] {n sz by_ k : Nat} {z : List Value} {D : TypeDesc} (ht : P.underlying t = some (.array n e)) (he : Ty P e D sz by_ z) (hn : sz = Flat.n α) (ag : Bool) (hag : isAggD D = ag) (h1 : ag = false → Flat.n α = 1) (hq : EqOk P e k α ag) :
  EqOk P t (k + 1) (Vector α n) true := by
 subst hn
 intro d w x y
 obtain ⟨i, v, hi, hs, _⟩ := he.get
 have hc : P.cellsOf e = Flat.n α := by simp [Program.cellsOf, hi, hs]
 have h2 := run_equalIn_array (P := P) w (d + k) (Flat.enc x).toArray (Flat.enc y).toArray ht hi
 show (Op.equalIn ((d + k) + 1) t (.agg (Flat.enc x).toArray) (.agg (Flat.enc y).toArray)).run P w = _
 rw [h2, hc]
 have h3 := run_itemsV he hag h1 hq d w (l := x.toList) (m := y.toList) (List.range n) (by intro i hi; simpa using hi)
 rw [show Flat.enc x = Yx x.toList from rfl, show Flat.enc y = Yx y.toList from rfl, h3]
 congr 1
 rw [decide_eq_decide]
 constructor
 ·intro h
  apply Vector.ext
  intro i hi
  have := h i (by simpa using hi)
  simpa [hi] using this
 ·rintro rfl i _; rfl
end
section
variable {n : Nat} {a : Act} {e : List (Nat × Value)} {w w' : World} {P : Program} {ops : Array Oper} {rest : List Oper} {Q : Exit → Act → World → Prop}
variable {d : Nat} {ty t : TypeId} {pos : String} {af : Array Edge} {g : Option (Nat × Bool)} {x y : Operand} {v u : Value}
variable {St : Nat → Prop} {w0 : World} {its : List Item}
theorem s_eqA {α : Type} [Flat α] [DecidableEq α] {k0 : Nat} {p q : α} {y' : TypeId} (h : Env n a e) (hw : Goes ops ⟨some d, .binOp .eql t x y y', ty, pos, af, g⟩ a) (hd : d < n) (hx : opv e x = some (.agg (Flat.enc p).toArray)) (hy : opv e y = some (.agg (Flat.enc q).toArray))
  (hq : EqOk P t k0 α true) (hk : k0 ≤ 10000) (hg : P.eqGuardType P.depth t = false)
  (k : ∀ a, Env n a ((d, vT (decide (p = q))) :: e) → wpList P ops Q rest a w) : wpList P ops Q (⟨some d, .binOp .eql t x y y', ty, pos, af, g⟩ :: rest) a w := by
 have he := hq (10000 - k0) w p q
 rw [show 10000 - k0 + k0 = 10000 by omega] at he
 have he' : (Op.equal t (.agg (Flat.enc p).toArray) (.agg (Flat.enc q).toArray)).run P w = .ok (decide (p = q)) w := he
 have hgd : (eqGuard .eql t x y (.agg (Flat.enc p).toArray) (.agg (Flat.enc q).toArray)).run P w = .ok () w := by simp [eqGuard, run_program, hg]
 have hb : (binOp .eql t (.agg (Flat.enc p).toArray) (.agg (Flat.enc q).toArray)).run P w = .ok (vT (decide (p = q))) w := by
  simp only [binOp, Sem.run_bind, he', Result.andThen_ok, Sem.run_pure]
 exact Xe h hw rfl hd (by simp only [execOp, h.ev hx, h.ev hy, Sem.run_bind, hgd, hb, Result.andThen_ok]; rfl) k
theorem s_neA {α : Type} [Flat α] [DecidableEq α] {k0 : Nat} {p q : α} {y' : TypeId} (h : Env n a e) (hw : Goes ops ⟨some d, .binOp .neq t x y y', ty, pos, af, g⟩ a) (hd : d < n) (hx : opv e x = some (.agg (Flat.enc p).toArray)) (hy : opv e y = some (.agg (Flat.enc q).toArray))
  (hq : EqOk P t k0 α true) (hk : k0 ≤ 10000) (hg : P.eqGuardType P.depth t = false)
  (k : ∀ a, Env n a ((d, vT (!decide (p = q))) :: e) → wpList P ops Q rest a w) : wpList P ops Q (⟨some d, .binOp .neq t x y y', ty, pos, af, g⟩ :: rest) a w := by
 have he := hq (10000 - k0) w p q
 rw [show 10000 - k0 + k0 = 10000 by omega] at he
 have he' : (Op.equal t (.agg (Flat.enc p).toArray) (.agg (Flat.enc q).toArray)).run P w = .ok (decide (p = q)) w := he
 have hgd : (eqGuard .neq t x y (.agg (Flat.enc p).toArray) (.agg (Flat.enc q).toArray)).run P w = .ok () w := by simp [eqGuard, run_program, hg]
 have hb : (binOp .neq t (.agg (Flat.enc p).toArray) (.agg (Flat.enc q).toArray)).run P w = .ok (vT (!decide (p = q))) w := by
  simp only [binOp, Sem.run_bind, he', Result.andThen_ok, Sem.run_pure]
 exact Xe h hw rfl hd (by simp only [execOp, h.ev hx, h.ev hy, Sem.run_bind, hgd, hb, Result.andThen_ok]; rfl) k

/-- Two strings, one behind the other. -/
def scat (p q : Str) : Option Str := if p.l.length + q.l.length ≤ 140737488355328 then some ⟨p.l ++ q.l⟩ else none
def sslc (s : Str) (lo hi : Int) : Option Str := if 0 ≤ lo ∧ lo ≤ hi ∧ hi ≤ s.l.length then some ⟨(s.l.take hi.toNat).drop lo.toNat⟩ else none
theorem slc_arr {α : Type} {N : Nat} {v : Vector α N} {lo hi : Int} {r : List α} (h : slc v.toList lo hi = some r) : 0 ≤ lo ∧ lo ≤ hi ∧ hi ≤ N := by
 have := (slc_some h).1
 simpa using this
theorem At.sat {α : Type} [Flat α] {w : World} {b o : Nat} {m : Nat} {l : List α} (h : At w b o (Yx l)) (hl : l.length = m) (h0 : 0 < Flat.n α) : Rep.sat (Old w) w l [.slice (some ⟨b, o, none⟩) m m] [] := by
 subst hl
 refine ⟨some ⟨b, o, none⟩, l.length, rfl, Nat.le_refl _, fun _ => rfl, Yx l, [], Xc.2 ⟨rfl, rfl⟩, h, .inl ⟨fun hne => ?_, rfl⟩⟩
 by_cases hc : Yx l = []
 ·exfalso
  have := W9 l
  rw [hc] at this
  have h1 := List.length_pos_iff.2 hne
  have h2 := Nat.mul_pos h1 h0
  simp only [List.length_nil] at this
  omega
 ·exact h.lt hc
/-- A cut of an array behind a pointer: a view of its cells. -/
theorem Um {N el sz by_ b o : Nat} {z : List Value} {D : TypeDesc} {lo hi : Option Operand} {vlo vhi : Option Value} {i j : Int}
  (h : Env n a e) (hw : Goes ops ⟨some d, .slice t x lo hi none, ty, pos, af, g⟩ a) (hd : d < n) (hx : opv e x = some (ptr b o)) (hlo : opvo e lo = some vlo) (hhi : opvo e hi = some vhi)
  (hi1 : bnd vlo 0 = some i) (hj1 : bnd vhi N = some j) (ht : P.underlying t = some (.array N el)) (he : Ty P el D sz by_ z) (hb : 0 ≤ i ∧ i ≤ j ∧ j ≤ N)
  (k : ∀ a, Env n a ((d, Z9 (.slice (some ⟨b, o, none⟩) N N) i.toNat j.toNat sz) :: e) → wpList P ops Q rest a w) : wpList P ops Q (⟨some d, .slice t x lo hi none, ty, pos, af, g⟩ :: rest) a w := by
 obtain ⟨h0, h1, h2⟩ := hb
 refine Xe h hw rfl hd (w' := w) ?_ k
 simp only [execOp, h.ev hx, h.evo hlo, h.evo hhi]
 have hsize := YU he w
 have hlow : ∀ m : Nat, i ≤ m → (match vlo with | some v => Instr.sliceBound v m .sliceB | none => pure 0 : Sem Nat).run P w = .ok i.toNat w := by
  intro m hm
  cases vlo with
  | none => simp only [bnd, Option.some.injEq] at hi1; subst hi1; rfl
  | some u =>
   cases u <;> simp only [bnd] at hi1 <;> first | cases hi1 | skip
   simp [Instr.sliceBound, asIntOf, h0, hm]
 have hhigh : (match vhi with | some v => Instr.sliceBound v N .sliceAlen | none => pure N : Sem Nat).run P w = .ok j.toNat w := by
  cases vhi with
  | none => simp only [bnd, Option.some.injEq] at hj1; subst hj1; simp
  | some u =>
   cases u <;> simp only [bnd] at hj1 <;> first | cases hj1 | skip
   have : (0 ≤ j ∧ j ≤ (N : Int)) := by omega
   simp [Instr.sliceBound, asIntOf, this]
 have hbounds : (Instr.sliceBounds false N N vlo vhi none).run P w = .ok (i.toNat, j.toNat, N) w := by
  have hl := hlow j.toNat (by omega)
  cases vlo <;> cases vhi <;> simp_all [Instr.sliceBounds]
 have hr : (Instr.sliceAt t (ptr b o) vlo vhi none).run P w = .ok (Z9 (.slice (some ⟨b, o, none⟩) N N) i.toNat j.toNat sz) w := by
  simp only [Instr.sliceAt, Instr.sureAddr, Sem.run_bind, run_underlying ht, Result.andThen_ok, Sem.run_pure, hbounds, hsize, Z9]
  by_cases hN : N = i.toNat <;> simp [hN]
 have hmax : (none : Option Operand).map a.eval = none := rfl
 simp only [hmax, Sem.run_bind, hr, Result.andThen_ok]
 rfl
end
end Go.Proofs.Ytifdeoikcebbjaa
namespace Go.Proofs.Ytifdeoikcebbjaa
open Go

/-- A row after a store into it. -/
theorem At.set {w : World} {b o k : Nat} {row seg : List Value} {c : Array Value} {T : TypeId} {fz : Nat × Nat} (h : At w b o row) (hheap : w.heap[b]? = some (.cells c T fz)) (hk : k + seg.length ≤ row.length) (hrow : o + row.length ≤ c.size) :
  At (w.setCells b (o + k) seg) b o (Ye row k seg) := by
 have hfit : o + k + seg.length ≤ c.size := by omega
 have hh := Xh b T fz seg (o + k) w c hheap hfit
 intro j vv hv
 have hj := (List.getElem?_eq_some_iff.1 hv).1
 rw [Wv hk] at hj
 simp only [World.cell?, hh, Option.isSome_none, Bool.false_eq_true, if_false]
 rw [List.getElem?_toArray]
 have hrw : ∀ j, j < row.length → c.toList[o + j]? = row[j]? := by
  intro j hj
  have := h j _ (List.getElem?_eq_getElem hj)
  simp only [World.cell?, hheap, Option.isSome_none, Bool.false_eq_true, if_false] at this
  rw [List.getElem?_eq_getElem hj]
  simpa using this
 have hcl : c.toList.length = c.size := by simp
 simp only [Ye] at hv ⊢
 by_cases hj1 : j < k
 ·rw [List.getElem?_append_left (by simp; omega), List.getElem?_take, if_pos hj1] at hv
  rw [List.getElem?_append_left (by rw [List.length_take]; omega), List.getElem?_take, if_pos (by omega), hrw j hj]
  exact hv
 ·rw [List.getElem?_append_right (by simp; omega)] at hv
  rw [List.getElem?_append_right (by simp; omega)]
  have e1' : (List.take k row).length = k := by rw [List.length_take]; omega
  have e2' : (List.take (o + k) c.toList).length = o + k := by rw [List.length_take]; omega
  rw [e1'] at hv
  rw [e2', show o + j - (o + k) = j - k by omega]
  by_cases hj2 : j - k < seg.length
  ·rw [List.getElem?_append_left hj2] at hv ⊢; exact hv
  ·rw [List.getElem?_append_right (by omega), List.getElem?_drop] at hv ⊢
   rw [show o + k + seg.length + (j - k - seg.length) = o + j by omega, hrw j hj]
   rw [show k + seg.length + (j - k - seg.length) = j by omega] at hv
   exact hv
theorem Room.set {w : World} {b o m b2 o2 : Nat} {seg : List Value} {c : Array Value} {T : TypeId} {fz : Nat × Nat} (h : Room w b o m) (hheap : w.heap[b]? = some (.cells c T fz)) (h2 : b2 = b) (hfit : o2 + seg.length ≤ c.size) : Room (w.setCells b2 o2 seg) b o m := by
 subst h2
 obtain ⟨c', T', fz', h1, h3, h4⟩ := h
 rw [hheap] at h1
 simp only [Option.some.injEq, Obj.cells.injEq] at h1
 obtain ⟨rfl, rfl, rfl⟩ := h1
 refine ⟨_, T, fz, Xh b2 T fz seg _ w c hheap hfit, ?_, ?_⟩
 ·rw [List.size_toArray, Wv (by simpa using hfit)]; simpa using h3
 ·intro j hj
  rw [List.size_toArray, Wv (by simpa using hfit)] at hj
  exact h4 j (by simpa using hj)

theorem cat_inj {c d e' : List Value} {r s : List (List Value)} {f : List Value} (h : cat (c :: e' :: r) = cat (d :: f :: s)) (hl : c.length = d.length) : c = d ∧ cat (e' :: r) = cat (f :: s) := List.append_inj h hl

theorem opv_off {e : List (Nat × Value)} {x : Operand} {b o o' : Nat} (h : opv e x = some (ptr b o)) (ho : o = o') : opv e x = some (ptr b o') := by rw [h, ho]

theorem toList_eq {c : Array Value} {l : List Value} (h : c.toList = l) : c = l.toArray := by rw [← h]

/-- A slice of one's own without what its element i owns; cs: the element's cells. -/
def hole {α : Type} [Rep α] (S : Nat → Prop) (l : List α) (i : Nat) (v : Value) (cs : List Value) : Item := fun w fp =>
 ∃ b o cap c1 c2 f1 f2, v = .slice (some ⟨b, o, none⟩) l.length cap ∧ l.length ≤ cap ∧ i < l.length ∧ c1.length = i * Rep.n α ∧ cs.length = Rep.n α ∧ ZX S w (l.take i) c1 f1 ∧ ZX S w (l.drop (i + 1)) c2 f2 ∧
  At w b o (c1 ++ (cs ++ c2)) ∧ Room w b o (cap * Rep.n α) ∧ fp = b :: (f1 ++ f2)
section
variable {α : Type} [Rep α] {S St : Nat → Prop} {w w' w0 : World} {l : List α} {v : Value} {i : Nat} {x : α} {cs : List Value} {its : List Item}
theorem hole_loc (hS : ∀ b, S b → St b) : Loc St (hole S l i v cs) := by
 rintro w w' fp ⟨b, o, cap, c1, c2, f1, f2, h1, h2, h3, h4, h5, h6, h7, h8, h9, rfl⟩ hb
 exact ⟨b, o, cap, c1, c2, f1, f2, h1, h2, h3, h4, h5, h6.loc (fun k hk => hb k (by rcases hk with h | h; exact .inl (by simp [h]); exact .inr (hS k h))), h7.loc (fun k hk => hb k (by rcases hk with h | h; exact .inl (by simp [h]); exact .inr (hS k h))),
  h8.loc (hb b (by simp)), h9.loc (hb b (by simp)), rfl⟩
theorem M.open1 (hM : M St w0 w (osl S l v :: its)) (hS : ∀ b, S b → St b) (hi : l[i]? = some x) : ∃ cs, M St w0 w (own S x cs :: hole S l i v cs :: its) ∧ At w (sb v) (so v + i * Rep.n α) cs := by
 obtain ⟨hk, hs, fp, ⟨f, f', rfl, _, ⟨p, cap, rfl, hcap, hO⟩, hr⟩, hnd, hlt⟩ := hM
 have hil := (List.getElem?_eq_some_iff.1 hi).1
 rcases hO with ⟨rfl, _⟩ | ⟨b, o, ecs, fpe, rfl, k1, k2, rfl, k3⟩
 ·omega
 obtain ⟨c1, cc, c2, e1, ee, e2, rfl, rfl, q1, q2, q3, q4⟩ := k1.split hi
 have hcc := Rep.len q3
 refine ⟨cc, ⟨hk, hs, ee ++ ((b :: (e1 ++ e2)) ++ f'), ⟨ee, _, rfl, Xg hS, q3, b :: (e1 ++ e2), f', rfl, hole_loc hS, ⟨b, o, cap, c1, c2, e1, e2, rfl, hcap, hil, q1, hcc, q2, q4, k2, k3, rfl⟩, hr⟩, ?_, fun k hk => hlt k (by simp at hk ⊢; grind)⟩, ?_⟩
 ·refine (List.Perm.nodup_iff ?_).1 hnd
  have : (b :: (e1 ++ (ee ++ e2))) ++ f' = ((b :: e1) ++ ee) ++ (e2 ++ f') := by simp
  rw [this]
  have h2 : ee ++ ((b :: (e1 ++ e2)) ++ f') = (ee ++ (b :: e1)) ++ (e2 ++ f') := by simp
  rw [h2]
  exact List.Perm.append_right _ List.perm_append_comm
 ·have := (At.append.1 (At.append.1 k2).2).1
  rw [q1] at this
  exact this
theorem M.close1 (hM : M St w0 w (own S x cs :: hole S l i v cs :: its)) (hS : ∀ b, S b → St b) : M St w0 w (osl S (l.set i x) v :: its) := by
 obtain ⟨hk, hs, fp, ⟨f, f', rfl, _, h1, g, g', rfl, _, ⟨b, o, cap, c1, c2, f1, f2, rfl, h3, h4, h5, h6, h7, h8, h9, h10, rfl⟩, hr⟩, hnd, hlt⟩ := hM
 have h1 : Rep.sat S w x cs f := h1
 refine ⟨hk, hs, (b :: (f1 ++ (f ++ f2))) ++ g', ⟨b :: (f1 ++ (f ++ f2)), g', rfl, Ug hS, ⟨some ⟨b, o, Option.none⟩, cap, by simp, by simpa using h3, .inr ⟨b, o, _, _, rfl, ZX.join h4 h7 h1 h8, h9, rfl, h10⟩⟩, hr⟩, ?_, fun k hk => hlt k (by simp at hk ⊢; grind)⟩
 refine (List.Perm.nodup_iff ?_).1 hnd
 have : (b :: (f1 ++ (f ++ f2))) ++ g' = ((b :: f1) ++ f) ++ (f2 ++ g') := by simp
 rw [this]
 have h2 : f ++ ((b :: (f1 ++ f2)) ++ g') = (f ++ (b :: f1)) ++ (f2 ++ g') := by simp
 rw [h2]
 exact List.Perm.append_right _ List.perm_append_comm
/-- Items one after the other as one. -/
theorem M.packL {m : List Item} {it : Item} (h : M St w0 w (m ++ its)) (hl : Loc St it) (hp : ∀ fp, Xa St w m fp → it w fp) : M St w0 w (it :: its) := by
 obtain ⟨h1, h2, fp, h3, h4, h5⟩ := h
 obtain ⟨f, g, rfl, k1, k2⟩ := Xa.split h3
 exact ⟨h1, h2, _, ⟨f, g, rfl, hl, hp f k1, k2⟩, h4, h5⟩
/-- One item as several. -/
theorem M.unpackL {m : List Item} {it : Item} (h : M St w0 w (it :: its)) (hp : ∀ fp, it w fp → Xa St w m fp) : M St w0 w (m ++ its) := by
 obtain ⟨h1, h2, fp, ⟨f, g, rfl, _, k1, k2⟩, h4, h5⟩ := h
 exact ⟨h1, h2, _, Xa.append (hp f k1) k2, h4, h5⟩
theorem Xa.one {it : Item} {fp : List Nat} (hl : Loc St it) (h : it w fp) : Xa St w [it] fp := ⟨fp, [], by simp, hl, h, rfl⟩
theorem Xa.cons {it : Item} {m : List Item} {f g : List Nat} (hl : Loc St it) (h : it w f) (k : Xa St w m g) : Xa St w (it :: m) (f ++ g) := ⟨f, g, rfl, hl, h, k⟩
theorem own_osl {fp : List Nat} (hs : Rep.sat NoB w l [v] fp) (hi : i < l.length) : XL NoB w l v fp := by
 obtain ⟨p, cap, hv, hc, hp⟩ := hs
 simp only [List.cons.injEq, and_true] at hv
 refine ⟨p, cap, hv, hc, ?_⟩
 cases p with
 | none => exfalso; have := hp.1; omega
 | some q =>
  obtain ⟨q1, q2, q3⟩ := q
  obtain ⟨h1, ecs, fpe, h2, h3, h4⟩ := hp
  have h1 := h1 (by omega)
  simp only at h1
  subst h1
  rcases h4 with ⟨h4, _⟩ | ⟨rfl, h4⟩
  ·exact (h4 (fun h => by subst h; simp at hi)).elim
  ·exact .inr ⟨q1, q2, ecs, fpe, rfl, h2, h3, rfl, h4⟩
theorem M.toOsl (h : M St w0 w (own NoB l [v] :: its)) (hi : i < l.length) : M St w0 w (osl NoB l v :: its) := h.pack1 (Ug noB) fun _ k => own_osl k hi
theorem M.toOwn (h : M St w0 w (osl S l v :: its)) (hS : ∀ b, S b → St b) : M St w0 w (own S l [v] :: its) := h.pack1 (Xg hS) fun _ k => XL.sat k
end
section
variable {n : Nat} {a : Act} {e : List (Nat × Value)} {w w' : World} {P : Program} {ops : Array Oper} {rest : List Oper} {Q : Exit → Act → World → Prop}
variable {d : Nat} {ty t : TypeId} {pos : String} {af : Array Edge} {g : Option (Nat × Bool)} {x y : Operand} {v u : Value}
variable {St : Nat → Prop} {w0 : World} {its : List Item}
/-- Is a slice nil? The test's answer, and what follows from yes. -/
theorem s_eqNil {α : Type} [Rep α] {S : Nat → Prop} {l : List α} {fp : List Nat} {el y' : TypeId} (h : Env n a e) (hw : Goes ops ⟨some d, .binOp .eql t x y y', ty, pos, af, g⟩ a) (hd : d < n) (hx : opv e x = some v) (hy : opv e y = some (.slice none 0 0)) (ht : P.underlying t = some (.slice el)) (hs : Rep.sat S w l [v] fp)
  (k : ∀ b a, (b = true → l = []) → Env n a ((d, vT b) :: e) → wpList P ops Q rest a w) : wpList P ops Q (⟨some d, .binOp .eql t x y y', ty, pos, af, g⟩ :: rest) a w := by
 obtain ⟨p, cap, hv, hc, hp⟩ := hs
 simp only [List.cons.injEq, and_true] at hv
 subst hv
 have hr := run_equal_slice_nil (P := P) w t el p l.length cap ht
 have hgd : (eqGuard .eql t x y (.slice p l.length cap) (.slice none 0 0)).run P w = .ok () w := by simp [eqGuard]
 have hb : (binOp .eql t (.slice p l.length cap) (.slice none 0 0)).run P w = .ok (vT p.isNone) w := by
  simp only [binOp, Sem.run_bind, hr, Result.andThen_ok, Sem.run_pure]
 refine Xe h hw rfl hd (by simp only [execOp, h.ev hx, h.ev hy, Sem.run_bind, hgd, hb, Result.andThen_ok]; rfl) fun a ha => k p.isNone a ?_ ha
 intro hn
 cases p with
 | none => exact List.eq_nil_of_length_eq_zero (by have := hp.1; omega)
 | some q => simp at hn
end
theorem okWide_array {P : Program} {w : World} {r : Reach} {base : Nat} {t : TypeId} {v : Value} {n : Nat} {e : TypeId} (ht : P.underlying t = some (.array n e)) (h : Value.okWide P w r base t v) : ∃ cs, v = .agg cs ∧ cs.size = P.cellsOf t := by
 simp only [Value.okWide, ht] at h
 obtain ⟨cs, h1, h2, _⟩ := h
 exact ⟨cs, h1, h2⟩
end Go.Proofs.Ytifdeoikcebbjaa
namespace Go.Proofs.Ytifdeoikcebbjaa
open Go

theorem el_nx {σ ρ τ : Type} {s : σ} {f : σ → Option τ} {g : ρ → Option τ} {r : τ} (h : (Fl.nx s : Fl σ ρ).el f g = some r) : f s = some r := h
/-- A part of what a call with several results hands back. -/
def Z2 (v : Value) (i : Nat) : Value := match v with
 | .tuple vs => vs.toList.getD i undef
 | _ => undef
def rawP (v : Value) (cs : List Value) : Item := fun w fp => ∃ b, v = ptr b 0 ∧ raw b cs w fp
/-- A new variable: not yet there; there; stored into. -/
def cellI (there stored : Bool) (v : Value) (z c : List Value) : Item := if there = true then (if stored = true then rawP v c else rawP v z) else Go.Proofs.Ytifdeoikcebbjaa.emp
abbrev Gs := List (List Nat × (List Value → Value → Prop))
abbrev Mk := List (List Nat × (List Bool → List Value → Item))
def qL (mk : Mk) (D : Nat → Bool) (u : Nat → Value) : List Item := mk.map fun p => p.2 (p.1.map D) (p.1.map u)
def mkO (j : Nat) (f : Value → Item) : List Nat × (List Bool → List Value → Item) := ([j], fun bs us => opt (bs.headD false) (f (us.headD undef)))
def mkC (j s : Nat) (z c : List Value) : List Nat × (List Bool → List Value → Item) := ([j, s], fun bs us => cellI (bs.headD false) (bs.getD 1 false) (us.headD undef) z c)
def GOk (gs : Gs) (D : Nat → Bool) (u : Nat → Value) : Prop := ∀ j, D j = true → ∀ g, gs[j]? = some g → (∀ k ∈ g.1, D k = true) ∧ g.2 (g.1.map u) (u j)
theorem map_upd {D : Nat → Bool} {u : Nat → Value} {i : Nat} {v : Value} {l : List Nat} (h : i ∉ l) : l.map (Ur D i) = l.map D ∧ l.map (V7 u i v) = l.map u := by
 constructor <;> apply List.map_congr_left <;> intro k hk <;> have : k ≠ i := (fun e => h (e ▸ hk))
 ·simp [Ur, this]
 ·simp [V7, this]
theorem qL_upd {mk : Mk} {D : Nat → Bool} {u : Nat → Value} {i : Nat} {v : Value} (hi : ∀ p ∈ mk, i ∉ p.1) : qL mk (Ur D i) (V7 u i v) = qL mk D u := by
 unfold qL
 apply List.map_congr_left
 intro p hp
 obtain ⟨h1, h2⟩ := map_upd (D := D) (u := u) (v := v) (hi p hp)
 rw [h1, h2]
theorem GOk.upd {gs : Gs} {D : Nat → Bool} {u : Nat → Value} {i : Nat} {v : Value} (h : GOk gs D u) (hD : D i = false) (hi : ∀ g, gs[i]? = some g → (∀ k ∈ g.1, D k = true) ∧ g.2 (g.1.map u) v) : GOk gs (Ur D i) (V7 u i v) := by
 have tr : ∀ k, D k = true → Ur D i k = true := fun k hk => by
  unfold Ur
  split
  ·rfl
  ·exact hk
 have nm : ∀ l : List Nat, (∀ k ∈ l, D k = true) → i ∉ l := fun l hl hm => by have := hl i hm; rw [hD] at this; cases this
 intro j hj g hg
 by_cases hji : j = i
 ·subst hji
  obtain ⟨h1, h2⟩ := hi g hg
  refine ⟨fun k hk => tr k (h1 k hk), ?_⟩
  rw [(map_upd (D := D) (u := u) (v := v) (nm _ h1)).2]
  simpa [V7] using h2
 ·have hj' : D j = true := by unfold Ur at hj; rwa [if_neg hji] at hj
  obtain ⟨h1, h2⟩ := h j hj' g hg
  refine ⟨fun k hk => tr k (h1 k hk), ?_⟩
  rw [(map_upd (D := D) (u := u) (v := v) (nm _ h1)).2]
  simpa [V7, hji] using h2
theorem GOk.put {gs : Gs} {D : Nat → Bool} {u : Nat → Value} {i : Nat} {v : Value} {ks : List Nat} {pr : List Value → Value → Prop} (h : GOk gs D u) (hD : D i = false) (hi : gs[i]? = some (ks, pr)) (h1 : ∀ k ∈ ks, D k = true) (h2 : pr (ks.map u) v) : GOk gs (Ur D i) (V7 u i v) :=
 h.upd hD fun g hg => by rw [hi] at hg; cases hg; exact ⟨h1, h2⟩
theorem ZE {D : Nat → Bool} : ∀ k ∈ ([] : List Nat), D k = true := fun _ h => by cases h
theorem allC {D : Nat → Bool} {k : Nat} {ks : List Nat} (h : D k = true) (hs : ∀ k ∈ ks, D k = true) : ∀ j ∈ k :: ks, D j = true := fun j hj => by
 rcases List.mem_cons.1 hj with rfl | hj
 ·exact h
 ·exact hs j hj
theorem gok0 {gs : Gs} {u : Nat → Value} : GOk gs (fun _ => false) u := fun _ h => by cases h
def allI (St : Nat → Prop) (l : List Item) : Item := fun w fp => Xa St w l fp
theorem locNO {α : Type} [Rep α] {x : α} {cs : List Value} {r : List Item} (h : LocN r) : LocN (own NoB x cs :: r) := by
 intro it hi
 rcases List.mem_cons.1 hi with rfl | hi
 ·exact Xg fun _ h => h
 ·exact h it hi
theorem Env.dummy {n : Nat} {a : Act} {e : List (Nat × Value)} {t : Nat} (h : Env n a e) (ht : n ≤ t) : Env n a ((t, undef) :: e) := by
 refine ⟨h.sz, h.df, fun s v hs => ?_⟩
 simp only [List.lookup_cons] at hs
 by_cases hst : s = t
 ·subst hst
  simp at hs
  subst hs
  rw [Array.getD_eq_getD_getElem?, Array.getElem?_eq_none (by rw [h.sz]; exact ht)]; rfl
 ·rw [show (s == t) = false by simpa using hst] at hs
  exact h.get s v hs
section
variable {St : Nat → Prop} {w0 w : World} {its pre post : List Item} {mk mk1 mk2 : Mk} {D : Nat → Bool} {u : Nat → Value} {i s b : Nat} {v : Value} {z c : List Value}
theorem noti (h : (mk.all fun p => p.1.all fun k => k != i) = true) : ∀ p ∈ mk, i ∉ p.1 := by
 intro p hp hm
 have := List.all_eq_true.1 (List.all_eq_true.1 h p hp) i hm
 simp at this
theorem M.qKeep (h : M St w0 w (its ++ qL mk D u)) (hi : (mk.all fun p => p.1.all fun k => k != i) = true) : M St w0 w (its ++ qL mk (Ur D i) (V7 u i v)) := by
 rw [qL_upd (noti hi)]; exact h
theorem qL_app {mk1 mk2 : Mk} {p : List Nat × (List Bool → List Value → Item)} : qL (mk1 ++ p :: mk2) D u = qL mk1 D u ++ (p.2 (p.1.map D) (p.1.map u) :: qL mk2 D u) := by simp [qL]
/-- In place of an item that holds nothing. -/
theorem M.qPut {p : List Nat × (List Bool → List Value → Item)} {it : Item} (h : M St w0 w (it :: (its ++ qL (mk1 ++ p :: mk2) D u))) (hi : ((mk1 ++ mk2).all fun p => p.1.all fun k => k != i) = true)
  (h1 : p.2 (p.1.map D) (p.1.map u) = Go.Proofs.Ytifdeoikcebbjaa.emp) (h2 : p.2 (p.1.map (Ur D i)) (p.1.map (V7 u i v)) = it) : M St w0 w (its ++ qL (mk1 ++ p :: mk2) (Ur D i) (V7 u i v)) := by
 have hne := noti hi
 rw [qL_app] at h ⊢
 rw [qL_upd (fun p hp => hne p (List.mem_append_left _ hp)), qL_upd (fun p hp => hne p (List.mem_append_right _ hp)), h2]
 rw [h1] at h
 have h3 : M St w0 w ((it :: (its ++ qL mk1 D u)) ++ Go.Proofs.Ytifdeoikcebbjaa.emp :: qL mk2 D u) := by simpa using h
 have h4 := h3.pull.drop
 have h5 : M St w0 w (it :: ((its ++ qL mk1 D u) ++ qL mk2 D u)) := by simpa using h4
 simpa using M.push h5
theorem M.qFill {f : Value → Item} (h : M St w0 w (f v :: (its ++ qL (mk1 ++ mkO i f :: mk2) D u))) (hi : ((mk1 ++ mk2).all fun p => p.1.all fun k => k != i) = true) (hD : D i = false) :
  M St w0 w (its ++ qL (mk1 ++ mkO i f :: mk2) (Ur D i) (V7 u i v)) :=
 M.qPut h hi (by simp [mkO, hD, opt_false]) (by simp [mkO, Ur, V7, opt_true])
end

/-- A variable from before that one operation of the region stores into. -/
def tog (b : Bool) (A B : Item) : Item := if b = true then B else A
def mkT (s : Nat) (A B : Item) : List Nat × (List Bool → List Value → Item) := ([s], fun bs _ => tog (bs.headD false) A B)
section
variable {St : Nat → Prop} {w0 w : World} {its pre post : List Item} {mk mk1 mk2 : Mk} {D : Nat → Bool} {u : Nat → Value} {s : Nat} {v : Value} {A B : Item}
theorem M.q0 (h : M St w0 w its) (u : Nat → Value) : M St w0 w (its ++ qL [] (fun _ => false) u) := by simpa [qL] using h
theorem M.qE {p : List Nat × (List Bool → List Value → Item)} (h : M St w0 w (its ++ qL mk (fun _ => false) u)) (he : ∀ us, p.2 (p.1.map fun _ => false) us = Go.Proofs.Ytifdeoikcebbjaa.emp) : M St w0 w (its ++ qL (p :: mk) (fun _ => false) u) := by
 have : M St w0 w (Go.Proofs.Ytifdeoikcebbjaa.emp :: (its ++ qL mk (fun _ => false) u)) := h.emp
 rw [← he (p.1.map u)] at this
 exact M.push this
theorem M.qT (h : M St w0 w ((A :: its) ++ qL mk (fun _ => false) u)) : M St w0 w (its ++ qL (mkT s A B :: mk) (fun _ => false) u) := M.push (pre := its) (post := qL mk (fun _ => false) u) h
theorem emO {j : Nat} {f : Value → Item} : ∀ us, (mkO j f).2 ((mkO j f).1.map fun _ => false) us = Go.Proofs.Ytifdeoikcebbjaa.emp := fun _ => by simp [mkO, opt_false]
theorem M.togA {b : Bool} (h : M St w0 w (pre ++ tog b A B :: post)) (hb : b = false) : M St w0 w (pre ++ A :: post) := by subst hb; exact h
theorem M.togB {b : Bool} (h : M St w0 w (pre ++ tog b A B :: post)) (hb : b = true) : M St w0 w (pre ++ B :: post) := by subst hb; exact h
theorem M.qTog (h : M St w0 w (B :: (its ++ (qL mk1 D u ++ qL mk2 D u)))) (hi : ((mk1 ++ mk2).all fun p => p.1.all fun k => k != s) = true) : M St w0 w (its ++ qL (mk1 ++ mkT s A B :: mk2) (Ur D s) (V7 u s v)) := by
 have hne' := noti hi
 rw [qL_app, qL_upd (fun p hp => hne' p (List.mem_append_left _ hp)), qL_upd (fun p hp => hne' p (List.mem_append_right _ hp))]
 have e : (mkT s A B).2 ((mkT s A B).1.map (Ur D s)) ((mkT s A B).1.map (V7 u s v)) = B := by simp [mkT, Ur, tog]
 rw [e]
 have h5 : M St w0 w (B :: ((its ++ qL mk1 D u) ++ qL mk2 D u)) := by simpa using h
 simpa using M.push h5
end

def DrawI3 (P : Program) (l hd tl : List Oper) (Q : Exit → Act → World → Prop) (n : Nat) (ts : List Nat) (e0 : List (Nat × Value)) (I : (Nat → Bool) → (Nat → Value) → World → Prop) (listed : Array Bool) (a : Act) (w : World) : Prop :=
 ((∀ i, i < hd.length → dn listed i) ∧ ∃ k, k ≤ tl.length ∧ (∀ j, j < k → dn listed (hd.length + j)) ∧ (∀ j, k ≤ j → j < tl.length → ¬ dn listed (hd.length + j)) ∧ wpList P l.toArray Q (tl.drop k) a w) ∨
 ((¬ ∀ i, i < hd.length → dn listed i) ∧ (∀ j, hd.length ≤ j → ¬ dn listed j) ∧ ∃ u, Env n a (Uz ts 0 u e0) ∧ I (fun j => listed.getD j false) u w)

theorem WA {P : Program} {id : Nat} {hd tl : List Oper} {Q : Exit → Act → World → Prop} {a : Act} {w : World} {n : Nat} {e0 : List (Nat × Value)}
  (hm : P.follows .mixedOrders = true) (hE : edgesB (hd ++ tl) 0 = true) (hT : tailB (hd ++ tl) hd.length = true)
  (ts : List Nat) (hn : ts.Nodup) (I : (Nat → Bool) → (Nat → Value) → World → Prop)
  (h0 : Env n a e0) (hM0 : ∀ u, I (fun _ => false) u w.drew)
  (hstep : ∀ (i : Nat) (o : Oper), hd[i]? = some o → ∀ a w (u : Nat → Value) (D : Nat → Bool), Env n a (Uz ts 0 u e0) → I D u w → D i = false → (∀ (j : Nat) (p : Oper) (e : Edge), hd[j]? = some p → e ∈ p.after.toList → Region.binds .any e = true → D j = true → D e.on = true) →
   (∀ (k : Nat) (e : Edge), o.after.toList[k]? = some e → Region.binds .any e = true → D e.on = true) →
   wpList P (hd ++ tl).toArray (nrm fun a' w' => ∃ v t, ts[i]? = some t ∧ Env n a' ((t, v) :: Uz ts 0 u e0) ∧ I (Ur D i) (V7 u i v) w') [o] a w)
  (htail : ∀ a w u D, Env n a (Uz ts 0 u e0) → I D u w → (∀ j, j < hd.length → D j = true) → wpList P (hd ++ tl).toArray Q tl a w) :
  (Code.region id (hd ++ tl).toArray true).wp P Q a w := by
 refine wp_region_any hm ?_
 generalize hl : hd ++ tl = l at *
 have hln : l.length = hd.length + tl.length := by rw [← hl]; simp
 have hbl : (bef l []).length = l.length := by
  have : ∀ (r : List Oper) (acc : List Nat), (bef r acc).length = acc.length + r.length := by
   intro r; induction r with
   | nil => intro acc; simp [bef]
   | cons o r ih => intro acc; rw [bef, ih]; simp; omega
  rw [this]; simp
 have tailDone : ∀ listed i o, l[i]? = some o → hd.length ≤ i → DownC l (dn listed) → (∀ e ∈ o.after.toList, Region.binds .any e = true → dn listed e.on) → ∀ j, j < i → dn listed j := by
  intro listed i o hi hle hdc hp j hj
  have hil := (List.getElem?_eq_some_iff.1 hi).1
  have hbit : ((bef l []).getD i 0).testBit j = true := by
   unfold tailB at hT
   simp only [List.all_eq_true] at hT
   have := hT i (by simpa using hil)
   simp only [Bool.or_eq_true, decide_eq_true_eq, List.all_eq_true] at this
   rcases this with h | h
   ·omega
   ·exact h j (by simpa using hj)
  exact bef_spec l l [] 0 rfl (by simp) (fun i hi => absurd hi (Nat.not_lt_zero i)) i (by rw [hbl]; exact hil) (dn listed) hdc (fun o' e ho' he hb => by rw [hi] at ho'; cases ho'; exact hp e he hb) j hbit
 have hfuel : ((List.range l.length).filter fun i => !(Array.replicate l.toArray.size false).getD i false).length ≤ l.toArray.size := by
  refine Nat.le_trans (List.length_filter_le _ _) ?_; simp
 have hnot0 : ∀ i, ¬ dn (Array.replicate l.toArray.size false) i := by
  intro i; unfold dn; rw [Array.getD_eq_getD_getElem?, Array.getElem?_replicate]; split <;> simp
 refine wpAny_of_inv hE (DrawI3 P l hd tl Q n ts e0 I) ?_ ?_ _ _ _ _ (by simp) hfuel (fun i o e _ _ _ h => absurd h (hnot0 i)) ?_
 ·intro listed i o a w hsz hi hnd hdc hp hI
  have hil := (List.getElem?_eq_some_iff.1 hi).1
  by_cases hh : i < hd.length
  ·-- a head operation
   have hnall : ¬ ∀ i, i < hd.length → dn listed i := fun h => hnd (h i hh)
   obtain ⟨h, _⟩ | ⟨_, ht0, u, k1, k2⟩ := hI
   ·exact absurd h hnall
   have hio : hd[i]? = some o := by rw [← hl] at hi; rwa [List.getElem?_append_left hh] at hi
   refine wpOp_of (by simpa using hi) ?_
   have hs := hstep i o hio a w u (fun j => listed.getD j false) k1 k2 (by simpa [dn] using hnd) (fun j p e hj he hb hdj => hdc j p e (by rw [← hl, List.getElem?_append_left (List.getElem?_eq_some_iff.1 hj).1]; exact hj) he hb hdj) (fun k e hk hb => hp e (List.mem_of_getElem? hk) hb)
   have hmono : ∀ (X Y : Act → World → Prop), (∀ a w, X a w → Y a w) → ∀ a w, wpList P l.toArray (nrm X) [o] a w → wpList P l.toArray (nrm Y) [o] a w := by
    intro X Y hXY a w h
    unfold wpList at h ⊢
    split
    ·rename_i hw
     rw [if_pos hw] at h
     rcases h with h | ⟨_, a', w', h⟩
     ·exact .inl (Oper.wp_mono2 (fun _ _ h => hXY _ _ h) (fun _ _ _ h => h.elim) (fun ⟨_, _, h⟩ => h.elim) h)
     ·exact h.elim
    ·rename_i hw
     rw [if_neg hw] at h
     exact hXY _ _ h
   refine hmono _ _ ?_ a w hs
   rintro a' w' ⟨v, t, hti, hEnv, hM'⟩
   have hEnv' := hEnv.upd hn hti
   have hset : ∀ j, dn (listed.setIfInBounds i true) j ↔ (j = i ∨ dn listed j) := fun j => dn_set (by omega)
   have hD : (fun j => (listed.setIfInBounds i true).getD j false) = Ur (fun j => listed.getD j false) i := by
    funext j
    unfold Ur
    by_cases hj : j = i
    ·rw [if_pos hj]; exact (hset j).2 (.inl hj)
    ·rw [if_neg hj]
     rw [Bool.eq_iff_iff]
     exact (hset j).trans ⟨fun h => h.resolve_left hj, .inr⟩
   have htn : ∀ j, hd.length ≤ j → ¬ dn (listed.setIfInBounds i true) j := by
    intro j hj hd'
    rcases (hset j).1 hd' with rfl | hj'
    ·omega
    ·exact ht0 j hj hj'
   rw [← hD] at hM'
   by_cases hall : ∀ j, j < hd.length → dn (listed.setIfInBounds i true) j
   ·exact .inl ⟨hall, 0, Nat.zero_le _, fun j hj => by omega, fun j _ _ => htn _ (by omega), htail a' w' _ _ hEnv' hM' (fun j hj => hall j hj)⟩
   ·exact .inr ⟨hall, htn, _, hEnv', hM'⟩
  ·have hdone := tailDone listed i o hi (by omega) hdc hp
   have hall : ∀ j, j < hd.length → dn listed j := fun j hj => hdone j (by omega)
   obtain ⟨_, k, hk, k1, k2, k3⟩ | ⟨h, _⟩ := hI
   case inr => exact absurd hall h
   have hki : hd.length + k = i := by
    rcases Nat.lt_trichotomy (hd.length + k) i with h | h | h
    ·exact absurd (hdone _ h) (k2 k (Nat.le_refl _) (by omega))
    ·exact h
    ·exact absurd (by have := k1 (i - hd.length) (by omega); rwa [show hd.length + (i - hd.length) = i by omega] at this) hnd
   have hto : tl[k]? = some o := by
    rw [← hl] at hi
    rw [List.getElem?_append_right (by omega)] at hi
    rwa [show i - hd.length = k by omega] at hi
   have hdr : tl.drop k = o :: tl.drop (k + 1) := by
    rw [List.drop_eq_getElem_cons (List.getElem?_eq_some_iff.1 hto).1]
    congr 1
    exact (List.getElem?_eq_some_iff.1 hto).2
   rw [hdr] at k3
   refine wpOp_mono (fun a' w' hl => ?_) (wpOp_list (by simpa using hi) k3)
   have hset : ∀ j, dn (listed.setIfInBounds i true) j ↔ (j = i ∨ dn listed j) := fun j => dn_set (by omega)
   have hall' : ∀ j, j < hd.length → dn (listed.setIfInBounds i true) j := fun j hj => (hset j).2 (.inr (hall j hj))
   refine .inl ⟨hall', k + 1, (List.getElem?_eq_some_iff.1 hto).1, fun j hj => (hset _).2 ?_, fun j hj1 hj2 hd' => ?_, hl⟩
   ·rcases Nat.lt_or_ge j k with h | h
    ·exact .inr (k1 j h)
    ·exact .inl (by omega)
   ·rcases (hset _).1 hd' with h | h
    ·omega
    ·exact k2 j (by omega) hj2 h
 ·intro listed a w hsz hall hI
  have hall' : ∀ i, i < hd.length → dn listed i := fun i hi => hall i (by omega)
  obtain ⟨_, k, hk, k1, k2, k3⟩ | ⟨h, _⟩ := hI
  case inr => exact absurd hall' h
  have : k = tl.length := by
   rcases Nat.lt_or_ge k tl.length with h | h
   ·exact absurd (hall (hd.length + k) (by omega)) (k2 k (Nat.le_refl _) h)
   ·omega
  subst this
  rw [List.drop_length] at k3
  exact k3
 ·have hu : ∀ (r : List Nat) (j : Nat) (u : Nat → Value), (∀ k t, r[k]? = some t → u (j + k) = a.tmps.getD t undef) → Env n a (Uz r j u e0) := by
   intro r
   induction r with
   | nil => intro j u _; exact h0
   | cons t r ih =>
    intro j u hu
    have h1 := ih (j + 1) u (fun k s hk => by have := hu (k + 1) s (by simpa using hk); rwa [show j + (k + 1) = j + 1 + k by omega] at this)
    refine ⟨h1.sz, h1.df, fun s x hs => ?_⟩
    simp only [Uz, List.lookup_cons] at hs
    by_cases hst : s = t
    ·subst hst
     simp at hs
     rw [← hs]
     exact (hu 0 s rfl).symm
    ·rw [show (s == t) = false by simpa using hst] at hs
     exact h1.get s x hs
  have hEnv : Env n a (Uz ts 0 (fun j => a.tmps.getD (ts.getD j 0) undef) e0) := hu ts 0 _ (fun k t hk => by simp [List.getD_eq_getElem?_getD, hk])
  have hDf : (fun j => (Array.replicate l.toArray.size false).getD j false) = fun _ => false := by
   funext j
   have := hnot0 j
   unfold dn at this
   simpa using this
  by_cases hall : ∀ i, i < hd.length → dn (Array.replicate l.toArray.size false) i
  ·have hnil : hd.length = 0 := by
    rcases Nat.eq_zero_or_pos hd.length with h | h
    ·exact h
    ·exact absurd (hall 0 h) (hnot0 0)
   exact .inl ⟨hall, 0, Nat.zero_le _, fun j hj => by omega, fun j _ _ => hnot0 _, htail a _ _ _ hEnv (hM0 _) (fun j hj => by omega)⟩
  ·refine .inr ⟨hall, fun j _ => hnot0 j, _, hEnv, ?_⟩
   rw [hDf]
   exact hM0 _
end Go.Proofs.Ytifdeoikcebbjaa
namespace Go.Proofs.Ytifdeoikcebbjaa
open Go

abbrev FillA (sz : Nat) (z : List Value) (parts : List (Nat × Value)) (cs : List Value) : Prop := Instr.fill (fun i => some (i * sz, sz)) z.toArray parts = some cs.toArray
theorem YM {sz : Nat} {z : List Value} : FillA sz z [] z := rfl
section
variable {n : Nat} {a : Act} {e : List (Nat × Value)} {w w' : World} {P : Program} {ops : Array Oper} {rest : List Oper} {Q : Exit → Act → World → Prop}
variable {d : Nat} {ty t : TypeId} {pos : String} {af : Array Edge} {g : Option (Nat × Bool)} {x y : Operand} {v u : Value}
theorem parts_eval {parts : List (Nat × Operand)} {vs : List (Nat × Value)} (h : Env n a e) (hxs : opvs e (parts.map (·.2)) = some (vs.map (·.2))) (hix : parts.map (·.1) = vs.map (·.1)) :
  (parts.map fun (p : Nat × Operand) => (p.1, a.eval p.2)) = vs := by
 have h1 := h.evs hxs
 rw [List.map_map] at h1
 apply List.ext_getElem?
 intro i
 have e1 : (parts.map (·.1))[i]? = (vs.map (·.1))[i]? := by rw [hix]
 have e2 : (parts.map (a.eval ∘ fun (p : Nat × Operand) => p.2))[i]? = (vs.map (·.2))[i]? := by rw [h1]
 simp only [List.getElem?_map] at e1 e2 ⊢
 cases hp : parts[i]? with
 | none =>
  rw [hp] at e1
  cases hq : vs[i]? with
  | none => rfl
  | some q => rw [hq] at e1; simp at e1
 | some p =>
  rw [hp] at e1 e2
  cases hq : vs[i]? with
  | none => rw [hq] at e1; simp at e1
  | some q =>
   rw [hq] at e1 e2
   simp only [Option.map_some, Option.some.injEq] at e1 e2 ⊢
   exact Prod.ext e1 e2
theorem Xq {el N : Nat} {parts : List (Nat × Operand)} {vs : List (Nat × Value)} {z cs ze : List Value} {sz by_ esz eby : Nat} {D De : TypeDesc} (h : Env n a e) (hw : Goes ops ⟨some d, .build t parts.toArray, ty, pos, af, g⟩ a) (hd : d < n)
  (hxs : opvs e (parts.map (·.2)) = some (vs.map (·.2))) (hix : parts.map (·.1) = vs.map (·.1)) (ht : Ty P t D sz by_ z) (hD : D = .array N el) (he : Ty P el De esz eby ze) (hf : FillA esz z vs cs)
  (k : ∀ a, Env n a ((d, .agg cs.toArray) :: e) → wpList P ops Q rest a w) : wpList P ops Q (⟨some d, .build t parts.toArray, ty, pos, af, g⟩ :: rest) a w := by
 refine Xe h hw rfl hd (w' := w) ?_ k
 have hvals := parts_eval h hxs hix
 have hb : P.built t vs = some cs.toArray := by
  obtain ⟨i, zv, h1, h2, _, h3, h4⟩ := ht.get
  obtain ⟨ie, _, k1, k2, _, _, _⟩ := he.get
  have hu := ht.und
  rw [hD] at hu
  unfold Program.built
  rw [h1, hu]
  simp only [h3, k1, k2]
  have h5 : zv.cells = z.toArray := by rw [← h4]
  simp only [h5]
  exact hf
 simp only [execOp]
 have : (parts.toArray.map fun (p : Nat × Operand) => (p.1, a.eval p.2)) = vs.toArray := by rw [List.map_toArray, hvals]
 simp only [Sem.run_bind]
 rw [show (Instr.build t (parts.toArray.map fun (i, x) => (i, a.eval x))).run P w = .ok (.agg cs.toArray) w from by
  have h2 := run_build (P := P) w t (parts.toArray.map fun (i, x) => (i, a.eval x)) cs.toArray (by
   have : (parts.toArray.map fun (i, x) => (i, a.eval x)).toList = vs := by simpa using hvals
   rw [this]; exact hb)
  exact h2]
 rfl

theorem enc_at {α : Type} [Flat α] {N i : Nat} {v : Vector α N} {x : α} (hi : v.toList[i]? = some x) : ∃ c1 c2, Flat.enc v = c1 ++ (Flat.enc x ++ c2) ∧ c1.length = i * Flat.n α := by
 refine ⟨Yx (v.toList.take i), Yx (v.toList.drop (i + 1)), encL_split hi, ?_⟩
 rw [W9, List.length_take, Nat.min_eq_left (Nat.le_of_lt (List.getElem?_eq_some_iff.1 hi).1)]
theorem s_indexV {α : Type} [Flat α] {N el sz by_ : Nat} {z : List Value} {De : TypeDesc} {K : IntKind} {i : Int} {v : Vector α N} {x0 : α} (h : Env n a e) (hw : Goes ops ⟨some d, .index t x y, ty, pos, af, g⟩ a) (hd : d < n)
  (hx : opv e x = some (.agg (Flat.enc v).toArray)) (hy : opv e y = some (.int K i)) (ht : P.underlying t = some (.array N el)) (he : Ty P el De sz by_ z) (hD : isAggD De = false) (hs : sz = Flat.n α) (hi : (0 ≤ i ∧ i < N) ∧ v.toList[i.toNat]? = some x0) (hu : Flat.enc x0 = [u])
  (k : ∀ a, Env n a ((d, u) :: e) → wpList P ops Q rest a w) : wpList P ops Q (⟨some d, .index t x y, ty, pos, af, g⟩ :: rest) a w := by
 obtain ⟨c1, c2, e1, e2⟩ := enc_at hi.2
 subst hs
 have hg : (Flat.enc v)[i.toNat * Flat.n α]? = some u := by
  rw [e1, hu, ← e2]
  simp
 exact Xe h hw rfl hd (by
  simp only [execOp, h.ev hx, h.ev hy]
  simp [Instr.index, asIntOf, run_underlying ht, hi.1, YU he, part, run_isAgg he, hD, hg]) k
theorem XG {b o : Nat} (h : Env n a e) (hw : Goes ops ⟨some d, .nilCheck x, ty, pos, af, g⟩ a) (hd : d < n) (hx : opv e x = some (ptr b o))
  (k : ∀ a, Env n a ((d, ptr b o) :: e) → wpList P ops Q rest a w) : wpList P ops Q (⟨some d, .nilCheck x, ty, pos, af, g⟩ :: rest) a w :=
 Xe h hw rfl hd (by simp only [execOp, h.ev hx]; rfl) k
end
theorem raw_full {α : Type} [Flat α] {N b : Nat} {w : World} {v : Vector α N} (h : At w b 0 (Flat.enc v)) : Rep.sat (fun c => c = b) w v.toList [.slice (some ⟨b, 0, none⟩) N N] [] := by
 refine ⟨some ⟨b, 0, none⟩, N, by simp, by simp, fun _ => rfl, Flat.enc v, [], ?_, h, .inl ⟨fun _ => rfl, rfl⟩⟩
 show ZX _ w v.toList (Yx v.toList) []
 generalize v.toList = l
 induction l with
 | nil => exact ⟨rfl, rfl⟩
 | cons x l ih => exact ⟨_, _, [], [], rfl, rfl, ⟨rfl, rfl⟩, ih⟩
section
variable {n : Nat} {a : Act} {e : List (Nat × Value)} {w w' : World} {P : Program} {ops : Array Oper} {rest : List Oper} {Q : Exit → Act → World → Prop}
variable {d : Nat} {ty t : TypeId} {pos : String} {af : Array Edge} {g : Option (Nat × Bool)} {x y : Operand} {v u : Value}
theorem s_indexFull {N el sz by_ b : Nat} {z : List Value} {D : TypeDesc} {K : IntKind} {i : Int} (h : Env n a e) (hw : Goes ops ⟨some d, .indexAddr t x y, ty, pos, af, g⟩ a) (hd : d < n)
  (hx : opv e x = some (.slice (some ⟨b, 0, none⟩) N N)) (hy : opv e y = some (.int K i)) (ht : P.underlying t = some (.slice el)) (he : Ty P el D sz by_ z) (hi : 0 ≤ i ∧ i < N)
  (k : ∀ a, Env n a ((d, ptr b (0 + i.toNat * sz)) :: e) → wpList P ops Q rest a w) : wpList P ops Q (⟨some d, .indexAddr t x y, ty, pos, af, g⟩ :: rest) a w :=
 Xe h hw rfl hd (by
  simp only [execOp, h.ev hx, h.ev hy]
  simp [Instr.indexAt, asIntOf, run_underlying ht, Instr.sureAddr, hi, YU he, Addr.add_lit]) k
end
theorem k_ret0 {n : Nat} {a : Act} {e : List (Nat × Value)} {w : World} {P : Program} {fn : Func} {R : Ending → World → Prop} (hE : Env n a e) (hres : fn.results = #[]) (hR : R (.returned (.tuple [].toArray)) w) : bodyPost P fn R .ret a w := by
 refine bodyPost_ret ?_ hE.df hR
 rw [results_eq, hres]
 simp
theorem k_ret0n {n : Nat} {a : Act} {e : List (Nat × Value)} {w : World} {P : Program} {fn : Func} {R : Ending → World → Prop} (hE : Env n a e) (hres : fn.results = #[]) (hR : R (.returned (.tuple [].toArray)) w) : bodyPost P fn R .normal a w := k_ret0 hE hres hR
structure Ref (α : Type) where
 v : α
 deriving DecidableEq, Inhabited
instance {α : Type} [Dat α] : Dat (Ref α) := ⟨fun x => Dat.bd x.v, fun x => Dat.sz x.v + 1⟩
def RefSat {α : Type} [Rep α] (S : Nat → Prop) (w : World) (x : Ref α) (cs : List Value) (fp : List Nat) : Prop :=
 ∃ b ds fpe, cs = [ptr b 0] ∧ Rep.sat S w x.v ds fpe ∧ At w b 0 ds ∧ ((S b ∧ fp = fpe) ∨ (fp = b :: fpe ∧ ∃ T, w.heap[b]? = some (.cells ds.toArray T (0, 0))))
instance {α : Type} [Rep α] : Rep (Ref α) where
 n := 1
 sat := RefSat
 len := by rintro S w x cs fp ⟨b, ds, fpe, rfl, _⟩; rfl
 loc := by
  rintro S w w' x cs fp ⟨b, ds, fpe, rfl, h1, h2, h3⟩ hb
  rcases h3 with ⟨h3, rfl⟩ | ⟨rfl, T, h3⟩
  ·exact ⟨b, ds, fp, rfl, Rep.loc h1 hb, h2.loc (hb _ (.inr h3)), .inl ⟨h3, rfl⟩⟩
  ·exact ⟨b, ds, fpe, rfl, Rep.loc h1 (fun b h => hb b (by simp; grind)), h2.loc (hb _ (by simp)), .inr ⟨rfl, T, by rw [hb _ (by simp)]; exact h3⟩⟩
 ro := by
  rintro S S' w x cs fp ⟨b, ds, fpe, rfl, h1, h2, h3⟩ hb
  rcases h3 with ⟨h3, rfl⟩ | ⟨rfl, T, h3⟩
  ·exact ⟨b, ds, [], rfl, Rep.ro h1 hb, h2, .inl ⟨hb _ (.inr h3), rfl⟩⟩
  ·exact ⟨b, ds, [], rfl, Rep.ro h1 (fun b h => hb b (by simp; grind)), h2, .inl ⟨hb _ (by simp), rfl⟩⟩
 wk := by
  rintro S S' w x cs fp ⟨b, ds, fpe, rfl, h1, h2, h3⟩ hb
  rcases h3 with ⟨h3, rfl⟩ | ⟨rfl, T, h3⟩
  ·exact ⟨b, ds, fp, rfl, Rep.wk h1 hb, h2, .inl ⟨hb _ h3, rfl⟩⟩
  ·exact ⟨b, ds, fpe, rfl, Rep.wk h1 hb, h2, .inr ⟨rfl, T, h3⟩⟩
 lt := by
  rintro S w x cs fp ⟨b, ds, fpe, rfl, h1, h2, h3⟩ c hc
  rcases h3 with ⟨h3, rfl⟩ | ⟨rfl, T, h3⟩
  ·exact Rep.lt h1 c hc
  ·rcases List.mem_cons.1 hc with rfl | hc
   ·rcases Nat.lt_or_ge c w.heap.size with h | h
    ·exact h
    ·rw [Array.getElem?_eq_none h] at h3; cases h3
   ·exact Rep.lt h1 c hc
 cell := by
  rintro S w x cs fp ⟨b, ds, fpe, rfl, _⟩ v hv
  simp at hv; subst hv; rfl
section
variable {α : Type} [Rep α] {S : Nat → Prop} {w w0 : World} {x : Ref α} {fp : List Nat} {u : Value} {St : Nat → Prop} {its : List Item} {b : Nat} {ds : List Value}
theorem ref_cells (h : Rep.sat S w x [u] fp) : u.cells.toList = [u] := by obtain ⟨b, ds, fpe, e, _⟩ := h; obtain rfl := (List.cons.inj e).1; rfl
theorem ref_one {cs : List Value} (h : Rep.sat S w x cs fp) : ∃ v, cs = [v] := by obtain ⟨b, ds, fpe, e, _⟩ := h; exact ⟨_, e⟩
/-- A pointer that is read: its place and what lies there. -/
theorem Ua (h : Rep.sat S w x [u] []) : ∃ b ds, u = ptr b 0 ∧ Rep.sat S w x.v ds [] ∧ At w b 0 ds ∧ S b := by
 obtain ⟨b, ds, fpe, e, h1, h2, h3⟩ := h
 rcases h3 with ⟨h3, rfl⟩ | ⟨h3, _⟩
 ·exact ⟨b, ds, (List.cons.inj e).1, h1, h2, h3⟩
 ·cases h3
/-- A block of one's own, and what its cells lead to, become one pointer. -/
theorem M.toRef {x : α} {S : Nat → Prop} (h : M St w0 w (raw b ds :: own S x ds :: its)) (hS : ∀ b, S b → St b) : M St w0 w (own S (⟨x⟩ : Ref α) [ptr b 0] :: its) :=
 h.pack2 (Xg hS) fun f g h1 h2 => by
  obtain ⟨rfl, T, h3⟩ := h1
  exact ⟨b, ds, g, rfl, h2, At.of_heap h3, .inr ⟨rfl, T, h3⟩⟩
theorem M.toRefF {α : Type} [Flat α] {x : α} (h : M St w0 w (raw b (Flat.enc x) :: its)) : M St w0 w (own NoB (⟨x⟩ : Ref α) [ptr b 0] :: its) :=
 h.pack1 (Xg fun _ h => h.elim) fun f h1 => by
  obtain ⟨rfl, T, h3⟩ := h1
  exact ⟨b, Flat.enc x, [], rfl, ⟨rfl, rfl⟩, At.of_heap h3, .inr ⟨rfl, T, h3⟩⟩
end
end Go.Proofs.Ytifdeoikcebbjaa
namespace Go.Proofs.Ytifdeoikcebbjaa
open Go

section
variable {n : Nat} {a : Act} {e : List (Nat × Value)} {w w' : World} {P : Program} {ops : Array Oper} {rest : List Oper} {Q : Exit → Act → World → Prop}
variable {d : Nat} {ty t : TypeId} {pos : String} {af : Array Edge} {g : Option (Nat × Bool)} {x y : Operand} {v u : Value}
variable {St : Nat → Prop} {w0 : World} {its : List Item}

theorem flat1 : ∀ {vs : List Value}, (∀ v ∈ vs, v.cells.toList = [v]) → (vs.map (·.cells.toList)).flatten = vs
 | [], _ => rfl
 | v :: vs, h => by rw [List.map_cons, List.flatten_cons, h v (by simp), flat1 (fun u hu => h u (by simp [hu]))]; rfl
theorem s_buildLit {xs : List Operand} {vs : List Value} {m el by_ : Nat} {D : TypeDesc} {z : List Value}
  (h : Env n a e) (hM : M St w0 w its) (hw : Goes ops ⟨some d, .buildSlice t m (opsOf 0 xs).toArray, ty, pos, af, g⟩ a) (hd : d < n) (hxs : opvs e xs = some vs) (hm : vs.length = m)
  (ht : P.underlying t = some (.slice el)) (he : Ty P el D 1 by_ z) (hsmall : m ≤ 16777216) (hcell : ∀ v ∈ vs, v.cells.toList = [v])
  (k : ∀ b w a, M St w0 w (raw b vs :: its) → Env n a ((d, .slice (some ⟨b, 0, none⟩) m m) :: e) → wpList P ops Q rest a w) : wpList P ops Q (⟨some d, .buildSlice t m (opsOf 0 xs).toArray, ty, pos, af, g⟩ :: rest) a w := by
 have hsz := YU he
 obtain ⟨zv, hzv, hzc⟩ := run_zeroValue he w
 have hc1 : ∀ v ∈ vs, v.cells.size = 1 := fun v hv => by have := congrArg List.length (hcell v hv); simpa using this
 have hnum := h.numbered xs 0 vs hxs
 have hsub : ∀ cs : Array Value, cs.size = m * 1 → Instr.fill (fun i => some (i * 1, 1)) cs (numbered 0 vs) = some vs.toArray := by
  intro cs hcs
  rw [fill_all 1 _ (fun _ => rfl) vs 0 cs hc1 (by simp [hm, hcs])]
  congr 2
  rw [Nat.zero_mul, flat1 hcell]
  exact Zq (by simp [hcs, hm])
 have hrun : (Instr.buildSlice t m ((opsOf 0 xs).toArray.map fun (i, x) => (i, a.eval x))).run P w = .ok (.slice (some ⟨w.heap.size, 0, none⟩) m m) (w.alloc (.cells vs.toArray el)) := by
  have hparts : ((opsOf 0 xs).toArray.map fun (i, x) => (i, a.eval x)).toList = numbered 0 vs := by simpa using hnum
  have hlim : ¬ (m * 1 > 2 ^ 24) := by omega
  have hfill : ∀ zz : Array Value, Instr.fill (fun i => some (i * 1, 1)) ((Array.range (m * 1)).map (zz[· % zz.size]!)) (numbered 0 vs) = some vs.toArray := fun zz => hsub _ (by simp)
  unfold Instr.buildSlice
  simp only [Sem.run_bind, run_underlying ht, Result.andThen_ok, hsz, if_neg hlim, hparts]
  by_cases h0 : m * 1 = 0
  ·simp only [if_pos h0, pure_bind]
   rw [hfill]
   simp [newRow]
  ·simp only [if_neg h0, pure_bind, Sem.run_bind, hzv, Result.andThen_ok]
   rw [hfill]
   simp [newRow]
 exact Xe h hw rfl hd (v := .slice (some ⟨w.heap.size, 0, none⟩) m m) (w' := w.alloc (.cells vs.toArray el)) (by simp only [execOp]; simp only [Sem.run_bind, hrun]; rfl) fun a ha => k _ _ _ (hM.alloc vs el) ha
/-- The parts of a literal, each read. -/
def LitOk {α : Type} [Rep α] (w : World) : List α → List Value → Prop
 | [], [] => True
 | x :: l, v :: vs => Ro w x [v] ∧ LitOk w l vs
 | _, _ => False
theorem LitOk.elems {α : Type} [Rep α] {w : World} : ∀ {l : List α} {vs : List Value}, LitOk w l vs → ZX (Old w) w l vs []
 | [], [], _ => ⟨rfl, rfl⟩
 | _ :: _, v :: vs, h => ⟨[v], vs, [], [], rfl, rfl, h.1, LitOk.elems h.2⟩
 | [], _ :: _, h => h.elim
 | _ :: _, [], h => h.elim
theorem M.rawLt {b : Nat} {cs : List Value} {pre post : List Item} (h : M St w0 w (pre ++ raw b cs :: post)) : b < w.heap.size := by
 obtain ⟨fp, ⟨rfl, _⟩, h1⟩ := h.get
 exact h1 b (by simp)
theorem ro_lit {α : Type} [Rep α] {l : List α} {vs : List Value} {b m : Nat} (hA : At w b 0 vs) (hb : b < w.heap.size) (h : LitOk w l vs) (hm : l.length = m) : Ro w l [.slice (some ⟨b, 0, none⟩) m m] := by
 subst hm
 exact ⟨some ⟨b, 0, none⟩, l.length, rfl, Nat.le_refl _, fun _ => rfl, vs, [], h.elems, hA, .inl ⟨fun _ => hb, rfl⟩⟩

def toArr {α : Type} (N : Nat) (l : List α) : Option (Vector α N) := if h : N ≤ l.length then some ⟨(l.take N).toArray, by simp [h]⟩ else none
theorem toArr_some {α : Type} {N : Nat} {l : List α} {v : Vector α N} (h : toArr N l = some v) : N ≤ l.length ∧ v.toList = l.take N := by
 unfold toArr at h
 split at h
 ·rename_i h0
  simp only [Option.some.injEq] at h
  subst h
  exact ⟨h0, rfl⟩
 ·cases h
theorem s_toArr {α : Type} [Rep α] {S : Nat → Prop} {l : List α} {fp : List Nat} {N el : Nat} (h : Env n a e) (hw : Goes ops ⟨some d, .sliceToArrayPointer t x, ty, pos, af, g⟩ a) (hd : d < n) (hx : opv e x = some v)
  (ht : P.underlying t = some (.array N el)) (hs : Rep.sat S w l [v] fp) (hN : N ≤ l.length) (h0 : 0 < N)
  (k : ∀ a, Env n a ((d, ptr (sb v) (so v)) :: e) → wpList P ops Q rest a w) : wpList P ops Q (⟨some d, .sliceToArrayPointer t x, ty, pos, af, g⟩ :: rest) a w := by
 obtain ⟨p, cap, hv, hc, hp⟩ := hs
 simp only [List.cons.injEq, and_true] at hv
 subst hv
 refine Xe h hw rfl hd (w' := w) ?_ k
 have hlt : ¬ (l.length < N) := by omega
 cases p with
 | none => have := hp.1; omega
 | some q =>
  obtain ⟨h1, _⟩ := hp
  obtain ⟨q1, q2, q3⟩ := q
  have h1 := h1 (by omega)
  simp only at h1
  subst h1
  simp only [execOp, h.ev hx]
  simp [Instr.arrayAt, run_underlying ht, hlt, sb, so]
theorem encL_take {α : Type} [Flat α] : ∀ (l : List α) (k : Nat), Yx (l.take k) = (Yx l).take (k * Flat.n α)
 | [], k => by simp [Yx]
 | x :: l, 0 => by simp [Yx]
 | x :: l, k + 1 => by
  rw [List.take_succ_cons, Yx, Yx, encL_take l k, Nat.add_mul, Nat.one_mul, Nat.add_comm]
  rw [← Flat.len x, List.take_length_add_append]
theorem sl_arr {α : Type} [Flat α] {S : Nat → Prop} {l : List α} {fp : List Nat} {N : Nat} {X : Vector α N} (hs : Rep.sat S w l [v] fp) (hX : toArr N l = some X) (h0 : 0 < N) : At w (sb v) (so v) (Flat.enc X) := by
 obtain ⟨hN, hl⟩ := toArr_some hX
 obtain ⟨p, cap, hv, hc, hp⟩ := hs
 simp only [List.cons.injEq, and_true] at hv
 subst hv
 cases p with
 | none => have := hp.1; omega
 | some q =>
  obtain ⟨h1, ecs, fpe, h2, h3, _⟩ := hp
  obtain ⟨rfl, _⟩ := Xc.1 h2
  have h1 := h1 (by omega)
  obtain ⟨q1, q2, q3⟩ := q
  simp only at h1
  subst h1
  show At w q1 q2 (Yx X.toList)
  rw [hl, encL_take]
  intro i c hi
  refine h3 i c ?_
  rw [List.getElem?_take] at hi
  split at hi
  ·exact hi
  ·cases hi

theorem ZX.takeF {α : Type} [Rep α] {S : Nat → Prop} {w : World} : ∀ {l : List α} {cs : List Value} {fp : List Nat} (k : Nat), ZX S w l cs fp → ∃ f g, fp = f ++ g ∧ ZX S w (l.take k) (cs.take (k * Rep.n α)) f
 | l, cs, fp, 0, h => ⟨[], fp, rfl, by simp [ZX]⟩
 | [], cs, fp, k + 1, h => by obtain ⟨rfl, rfl⟩ := h; exact ⟨[], [], rfl, by simp [ZX]⟩
 | x :: l, cs, fp, k + 1, h => by
  obtain ⟨c, cs', f, fp', rfl, rfl, h1, h2⟩ := h
  obtain ⟨f1, g1, rfl, h3⟩ := ZX.takeF k h2
  refine ⟨f ++ f1, g1, by simp, ?_⟩
  rw [List.take_succ_cons, Nat.add_mul, Nat.one_mul, Nat.add_comm, show Rep.n α + k * Rep.n α = c.length + k * Rep.n α by rw [Rep.len h1], List.take_length_add_append]
  exact ⟨c, _, f, f1, rfl, rfl, h1, h3⟩
theorem XL.cut {α : Type} [Rep α] {S : Nat → Prop} {l r : List α} {fp : List Nat} {j : Int} (h : XL S w l v fp) (hb : slc l 0 j = some r) : ∃ fp', XL S w r (Z9 v (0 : Int).toNat j.toNat (Rep.n α)) fp' ∧ fp'.Sublist fp := by
 obtain ⟨⟨_, h1, h2⟩, rfl⟩ := slc_some hb
 obtain ⟨p, cap, rfl, hc, h⟩ := h
 have e0 : (0 : Int).toNat = 0 := rfl
 have hlen : ((l.take j.toNat).drop 0).length = j.toNat := by simp; omega
 rw [e0, List.drop_zero] at *
 rcases h with ⟨rfl, rfl, hp⟩ | ⟨b, o, ecs, fpe, rfl, k1, k2, rfl, k3⟩
 ·have : j.toNat = 0 := by omega
  rw [this] at *
  refine ⟨[], ⟨p, 0, by simp [Z9], by simp, .inl ⟨rfl, rfl, hp⟩⟩, List.nil_sublist _⟩
 ·obtain ⟨f, g, rfl, k4⟩ := ZX.takeF j.toNat k1
  have hadd : (if cap = 0 then some (⟨b, o, none⟩ : Addr) else some ((⟨b, o, none⟩ : Addr).add (0 * Rep.n α))) = some ⟨b, o, none⟩ := by
   split
   ·rfl
   ·rw [Addr.add_lit]; simp
  refine ⟨b :: f, ⟨some ⟨b, o, none⟩, cap, ?_, by rw [hlen]; omega, .inr ⟨b, o, _, f, rfl, k4, fun i c hi => k2 i c ?_, rfl, k3⟩⟩, by simp⟩
  ·simp only [Z9, Option.map_some, hlen, Nat.sub_zero, hadd]
  ·rw [List.getElem?_take] at hi
   split at hi
   ·exact hi
   ·cases hi
theorem M.cut {α : Type} [Rep α] {S : Nat → Prop} {l r : List α} {j : Int} (hM : M St w0 w (osl S l v :: its)) (hS : ∀ b, S b → St b) (hb : slc l 0 j = some r) : M St w0 w (osl S r (Z9 v (0 : Int).toNat j.toNat (Rep.n α)) :: its) := by
 refine hM.turn (new := [osl S r _]) rfl rfl rfl (Nat.le_refl _) ?_
 intro fp hfp _ hnd
 obtain ⟨fp', h1, h2⟩ := XL.cut hfp hb
 exact ⟨fun _ _ _ => rfl, fp', ⟨fp', [], by simp, Ug hS, h1, rfl⟩, h2.nodup hnd, fun b hb => .inl (h2.subset hb)⟩

theorem s_capNil {el : TypeId} (h : Env n a e) (hw : Goes ops ⟨some d, .call ⟨.builtin .cap, [x].toArray, [t].toArray⟩, ty, pos, af, g⟩ a) (hd : d < n)
  (hx : opv e x = some (.slice none 0 0)) (ht : P.underlying t = some (.slice el))
  (k : ∀ a, Env n a ((d, vI 0) :: e) → wpList P ops Q rest a w) : wpList P ops Q (⟨some d, .call ⟨.builtin .cap, [x].toArray, [t].toArray⟩, ty, pos, af, g⟩ :: rest) a w :=
 Xe h hw rfl hd (by
  simp only [execOp, resolve]
  simp [invoke, builtin, h.ev hx, Builtin.cap_, run_underlying ht, goInt]) k
theorem s_lenNil {el : TypeId} (h : Env n a e) (hw : Goes ops ⟨some d, .call ⟨.builtin .len, [x].toArray, [t].toArray⟩, ty, pos, af, g⟩ a) (hd : d < n)
  (hx : opv e x = some (.slice none 0 0)) (ht : P.underlying t = some (.slice el))
  (k : ∀ a, Env n a ((d, vI 0) :: e) → wpList P ops Q rest a w) : wpList P ops Q (⟨some d, .call ⟨.builtin .len, [x].toArray, [t].toArray⟩, ty, pos, af, g⟩ :: rest) a w :=
 Z7 (l := ([] : List Int)) h hw hd hx ht (zsat_nil (S := NoB)) k
theorem s_sliceNil {el sz by_ : Nat} {z : List Value} {D : TypeDesc} {hi : Operand} {K : IntKind} (h : Env n a e) (hw : Goes ops ⟨some d, .slice t x none (some hi) none, ty, pos, af, g⟩ a) (hd : d < n)
  (hx : opv e x = some (.slice none 0 0)) (hhi : opv e hi = some (.int K 0)) (ht : P.underlying t = some (.slice el)) (he : Ty P el D sz by_ z)
  (k : ∀ a, Env n a ((d, .slice none 0 0) :: e) → wpList P ops Q rest a w) : wpList P ops Q (⟨some d, .slice t x none (some hi) none, ty, pos, af, g⟩ :: rest) a w :=
 s_slice (l := ([] : List Int)) (r := []) (vlo := none) (vhi := some (.int K 0)) (i := 0) (j := 0) h hw hd hx rfl (opvo_some hhi) rfl rfl ht he (zsat_nil (S := NoB)) rfl k
theorem nth_zeros (z : Array Value) (m : Nat) : (Builtin.zeroCells z m).toList = (List.replicate m z.toList).flatten := by
 have := made_list z.toList m
 rw [← this]
 simp [Builtin.zeroCells, madeCells]
/-- append(nil, make(..)...). -/
theorem s_appendZ {α : Type} [Rep α] {K : IntKind} {c : Int} {tn el : TypeId} {kn : IntKind} {D : TypeDesc} {by_ : Nat} {z : List Value} {zero : α} {l : List α}
  (h : Env n a e) (hM : M St w0 w its) (hw : Goes ops ⟨some d, .call ⟨.builtin .append, [x, y].toArray, [t, tn].toArray⟩, ty, pos, af, g⟩ a) (hd : d < n) (hx : opv e x = some (.slice none 0 0)) (hy : opv e y = some (.int K c))
  (ht : P.underlying t = some (.slice el)) (htn : P.underlying tn = some (.int kn)) (he : Ty P el D (Rep.n α) by_ z) (hzl : z.length = Rep.n α) (h0 : 0 < by_) (hn : 0 < Rep.n α) (hz : ∀ w, Rep.sat NoB w zero z []) (hb : mkS by_ zero c = some l)
  (k : ∀ v' w a, M St w0 w (osl NoB l v' :: its) → Env n a ((d, v') :: e) → wpList P ops Q rest a w) : wpList P ops Q (⟨some d, .call ⟨.builtin .append, [x, y].toArray, [t, tn].toArray⟩, ty, pos, af, g⟩ :: rest) a w := by
 unfold mkS at hb
 split at hb
 case isFalse => cases hb
 rename_i hc
 obtain ⟨hc0, hcb⟩ := hc
 simp only [Option.some.injEq] at hb
 subst hb
 obtain ⟨i, zv, hi, hsz, hby, hzz, hzc⟩ := he.get
 have hcb' : c ≤ 140737488355328 := by
  have : c * 1 ≤ c * by_ := Int.mul_le_mul_of_nonneg_left (by omega) hc0
  omega
 obtain ⟨m, rfl⟩ : ∃ m : Nat, c = m := ⟨c.toNat, by omega⟩
 rw [Int.toNat_natCast] at *
 have hmb : m * by_ ≤ 140737488355328 := by
  have : ((m * by_ : Nat) : Int) ≤ 140737488355328 := by rw [Int.natCast_mul]; exact hcb
  omega
 by_cases hm : m = 0
 ·subst hm
  refine Xe h hw rfl hd (v := .slice none 0 0) (w' := w) ?_ fun a ha => k _ _ _ (M.nilS NoB noB hM) ha
  simp only [execOp, resolve]
  simp [invoke, builtin, h.ev hx, h.ev hy, Builtin.append_, run_underlying ht, run_underlying htn, sizeOf, typeInfo, hi, asInt, asIntOf, IntKind.wrap_i64]
 ·have hr := Lib.run_append_nil_zeros (P := P) w t tn ty el i zv K kn ht htn hi hzz m (by omega) (by rw [hsz]; omega) (by omega) (by rw [hby]; omega)
  have hgc := grownCap_ge w m 0 el
  refine Xe h hw rfl hd (v := .slice (some ⟨w.heap.size, 0, none⟩) m (grownCap w m 0 el)) (w' := w.drew.alloc (.cells (Builtin.zeroCells zv.cells m ++ Builtin.zeroCells zv.cells (grownCap w m 0 el - m)) el)) (by simp only [execOp, resolve]; simp [invoke, builtin, h.ev hx, h.ev hy, hr]) fun a ha => k _ _ _ ?_ ha
  have hcells : Builtin.zeroCells zv.cells m ++ Builtin.zeroCells zv.cells (grownCap w m 0 el - m) = ((List.replicate m z).flatten ++ (List.replicate (grownCap w m 0 el - m) z).flatten).toArray := by
   apply Array.ext'
   rw [Array.toList_append, nth_zeros, nth_zeros, hzc]
  rw [hcells]
  have hnew := VI w.drew (.cells ((List.replicate m z).flatten ++ (List.replicate (grownCap w m 0 el - m) z).flatten).toArray el)
  have hat := At.of_heap hnew
  rw [At.append] at hat
  refine (hM.drew).add (new := [osl NoB (List.replicate m zero) _]) (Kept.alloc _ _) ⟨[w.heap.size], ⟨[w.heap.size], [], rfl, Ug (fun _ h => h), ⟨some ⟨w.heap.size, 0, none⟩, grownCap w m 0 el, by simp, by simpa using hgc, .inr ⟨w.heap.size, 0, _, [], rfl, elems_replicate (hz _) _, hat.1, rfl, ?_⟩⟩, rfl⟩, by simp, fun b hb => by simp at hb; subst hb; exact ⟨Nat.le_refl _, by simp⟩⟩
  refine ⟨_, el, (0, 0), hnew, ?_, by intro j _; simp⟩
  have e1 : ∀ q : Nat, ((List.replicate q z).flatten).length = q * Rep.n α := fun q => by simp [hzl]
  rw [List.size_toArray, List.length_append, e1, e1, ← Nat.add_mul, Nat.zero_add, show m + (grownCap w m 0 el - m) = grownCap w m 0 el by omega]
  exact Nat.le_refl _
end
theorem bU_shr (p q : Int) (h : 0 ≤ q) : shV .shr .u64 p q = some (vU (V9 p q)) := by simp [shV, Int.not_lt.2 h, V9, IntKind.bits]
section
variable {n : Nat} {a : Act} {e : List (Nat × Value)} {w w' : World} {P : Program} {ops : Array Oper} {rest : List Oper} {Q : Exit → Act → World → Prop}
variable {d : Nat} {ty t : TypeId} {pos : String} {af : Array Edge} {g : Option (Nat × Bool)} {x y : Operand} {v u : Value}
variable {St : Nat → Prop} {w0 : World} {its : List Item}
def LitSat {α : Type} [Rep α] (S : Nat → Prop) (w : World) : List α → List Value → Prop
 | [], [] => True
 | x :: l, v :: vs => Rep.sat S w x [v] [] ∧ LitSat S w l vs
 | _, _ => False
end
end Go.Proofs.Ytifdeoikcebbjaa
namespace Go.Proofs.Ytifdeoikcebbjaa
open Go

def litP (v : Value) (m : Nat) (vs : List Value) : Item := fun w fp => ∃ b, v = .slice (some ⟨b, 0, none⟩) m m ∧ raw b vs w fp
def mkL (i : Nat) (ds : List Nat) (m : Nat) (f : List Value → List Value) : List Nat × (List Bool → List Value → Item) := (i :: ds, fun bs us => opt (bs.headD false) (litP (us.headD undef) m (f us.tail)))
section
variable {St : Nat → Prop} {w0 w : World} {its pre post : List Item} {mk : Mk} {D : Nat → Bool} {u : Nat → Value} {i k m b : Nat} {ds : List Nat} {v : Value} {vs : List Value} {f : List Value → List Value}
theorem litP_loc {St : Nat → Prop} : Loc St (litP v m vs) := fun w w' fp ⟨b, e, k⟩ hb => ⟨b, e, Wz w w' fp k hb⟩
theorem emL : ∀ us, (mkL i ds m f).2 ((mkL i ds m f).1.map fun _ => false) us = Go.Proofs.Ytifdeoikcebbjaa.emp := fun _ => by simp [mkL, opt_false]
theorem litE (hD : D i = false) : (mkL i ds m f).2 ((mkL i ds m f).1.map D) ((mkL i ds m f).1.map u) = Go.Proofs.Ytifdeoikcebbjaa.emp := by simp [mkL, hD, opt_false]
theorem M.litFill (h : M St w0 w (raw b (f (ds.map u)) :: (its ++ qL (mk ++ [mkL i ds m f]) D u))) (hi : ((mk ++ []).all fun p => p.1.all fun k => k != i) = true) (hD : D i = false) (hd : (ds.all fun k => k != i) = true) :
  M St w0 w (its ++ qL (mk ++ [mkL i ds m f]) (Ur D i) (V7 u i (.slice (some ⟨b, 0, Option.none⟩) m m))) := by
 have hne : i ∉ ds := fun hm => by have := List.all_eq_true.1 hd i hm; simp at this
 have h' : M St w0 w (litP (.slice (some ⟨b, 0, Option.none⟩) m m) m (f (ds.map u)) :: (its ++ qL (mk ++ [mkL i ds m f]) D u)) := h.pack1 litP_loc fun fp k => ⟨b, rfl, k⟩
 refine M.qPut (mk1 := mk) (mk2 := []) h' hi (litE hD) ?_
 obtain ⟨e1, e2⟩ := map_upd (D := D) (u := u) (v := .slice (some ⟨b, 0, Option.none⟩) m m) hne
 simp only [mkL, List.map_cons, e2]
 simp [Ur, V7, opt_true]
theorem M.litOpen (h : M St w0 w (litP v m vs :: its)) : ∃ b, v = .slice (some ⟨b, 0, Option.none⟩) m m ∧ M St w0 w (raw b vs :: its) := by
 obtain ⟨fp, ⟨b, hb, _⟩, _⟩ := h.head
 exact ⟨b, hb, h.pack1 Wz fun fp ⟨b', e', k⟩ => by rw [hb] at e'; simp at e'; subst e'; exact k⟩
end

def prm (a b : Bool) (x y : Item) : Item := if b = true then y else opt a x
def mkP (j i : Nat) (f g : Value → Item) : List Nat × (List Bool → List Value → Item) := ([j, i], fun bs us => prm (bs.headD false) (bs.getD 1 false) (f (us.headD undef)) (g (us.getD 1 undef)))
section
variable {St : Nat → Prop} {w0 w : World} {its pre post : List Item} {mk1 mk2 : Mk} {D : Nat → Bool} {u : Nat → Value} {i j : Nat} {v : Value} {a b : Bool} {x y : Item} {f g : Value → Item}
end
theorem flq {α : Type} [Flat α] {x y : α} : (Flat.enc x).length = (Flat.enc y).length := (Flat.len x).trans (Flat.len y).symm
theorem zle {a b : Nat} (h : a = b) : 0 + a ≤ b := by omega
theorem dl {d n : Nat} (h : Nat.ble (d + 1) n = true) : d < n := Nat.le_of_ble_eq_true h
theorem fa_nil {p : Value → Prop} : ∀ v ∈ ([] : List Value), p v := fun _ h => by cases h
theorem fa_cons {p : Value → Prop} {x : Value} {l : List Value} (h : p x) (hs : ∀ v ∈ l, p v) : ∀ v ∈ x :: l, p v := fun v hv => by
 rcases List.mem_cons.1 hv with rfl | hv
 ·exact h
 ·exact hs v hv

def V6 : List UInt8 → List UInt8 → Int
 | [], [] => 0
 | [], _ :: _ => -1
 | _ :: _, [] => 1
 | x :: l, y :: m => if x < y then -1 else if y < x then 1 else V6 l m
theorem find_range (p : Nat → Bool) (n : Nat) : (List.range (n + 1)).find? p = if p 0 then some 0 else ((List.range n).find? fun i => p (i + 1)).map Nat.succ := by
 rw [List.range_succ_eq_map, List.find?_cons, List.find?_map]
 cases p 0 <;> rfl
theorem cmp_eq : ∀ (a b : List UInt8), Extern.BytealgCompare.cmp ⟨a.toArray⟩ ⟨b.toArray⟩ = V6 a b := by
 have gen : ∀ (a b : List UInt8), (match (List.range (min a.length b.length)).find? fun i => a[i]! != b[i]! with
   | some i => if a[i]! < b[i]! then (-1 : Int) else 1
   | none => if a.length < b.length then -1 else if a.length > b.length then 1 else 0) = V6 a b := by
  intro a
  induction a with
  | nil => intro b; cases b <;> simp [V6]
  | cons x a ih =>
   intro b
   cases b with
   | nil => simp [V6]
   | cons y b =>
    have e : min (x :: a).length (y :: b).length = min a.length b.length + 1 := by simp only [List.length_cons]; omega
    rw [e, find_range]
    by_cases hxy : x = y
    ·subst hxy
     have hlt : ¬ x < x := UInt8.lt_irrefl x
     have := ih b
     simp only [List.getElem!_cons_zero, bne_self_eq_false, Bool.false_eq_true, if_false, List.getElem!_cons_succ, V6, hlt]
     rw [← this]
     cases (List.range (min a.length b.length)).find? fun i => a[i]! != b[i]! with
     | none => simp
     | some i => simp
    ·have hne : (x != y) = true := by simpa using hxy
     simp only [List.getElem!_cons_zero, hne, if_true, V6]
     by_cases h1 : x < y
     ·simp [h1]
     ·have h2 : y < x := by
       rcases UInt8.lt_or_lt_of_ne hxy with h | h
       ·exact absurd h h1
       ·exact h
      simp [h1, h2]
 intro a b
 rw [← gen a b]
 unfold Extern.BytealgCompare.cmp
 have g1 : ∀ (l : List UInt8) (i : Nat), (⟨l.toArray⟩ : ByteArray)[i]! = l[i]! := fun l i => by
  by_cases h : i < l.length
  ·rw [getElem!_pos _ i (by exact h), getElem!_pos l i h]; rfl
  ·rw [getElem!_neg _ i (by exact h), getElem!_neg l i h]
 simp only [g1]
 rfl
section
variable {n : Nat} {a : Act} {e : List (Nat × Value)} {w w' : World} {P : Program} {ops : Array Oper} {rest : List Oper} {Q : Exit → Act → World → Prop}
variable {d : Nat} {ty t : TypeId} {pos : String} {af : Array Edge} {g : Option (Nat × Bool)} {x y : Operand} {v u : Value}
theorem run_bytesOf {S : Nat → Prop} {l : List UInt8} {fp : List Nat} (hs : Rep.sat S w l [v] fp) : (Extern.Bytes.bytesOf v).run P w = .ok ⟨l.toArray⟩ w := by
 obtain ⟨p, cap, hv, hc, hp⟩ := hs
 simp only [List.cons.injEq, and_true] at hv
 subst hv
 cases p with
 | none =>
  have : l = [] := List.eq_nil_of_length_eq_zero (by have := hp.1; omega)
  subst this
  rfl
 | some q =>
  obtain ⟨h1, ecs, fpe, h2, h3, _⟩ := hp
  by_cases hl0 : l = []
  ·subst hl0; rfl
  have h1 := h1 (by have := List.length_pos_iff.2 hl0; omega)
  obtain ⟨q1, q2, q3⟩ := q
  simp only at h1
  subst h1
  obtain ⟨rfl, rfl⟩ := Xc.1 h2
  have hl := Lib.run_loadBytesX (P := P) w (l.map fun b => (b.toNat : Int)) ⟨q1, q2, none⟩ .empty (fun j x hj => by
   have hjl : j < l.length := by simpa using (List.getElem?_eq_some_iff.1 hj).1
   rw [Addr.add_lit]
   have := h3 j (Value.int .u8 (l[j].toNat : Int)) (by rw [enc_nums]; simp [hjl])
   rw [this]
   simp [List.getElem?_eq_getElem hjl] at hj
   subst hj
   rfl)
  rw [List.length_map] at hl
  show (Extern.Bytes.loadBytes ⟨q1, q2, none⟩ l.length .empty).run P w = _
  rw [hl]
  have := bytesOf_nums l
  congr 1
  rw [this]
  apply ByteArray.ext
  show (#[] : Array UInt8) ++ l.toArray = l.toArray
  simp
theorem s_bytesCompare {S S2 : Nat → Prop} {l m : List UInt8} {fp fq : List Nat} {f : Nat} {fn : Func} {ats : Array TypeId} {xs : List Operand} (h : Env n a e) (hw : Goes ops ⟨some d, .call ⟨.value (.func f), xs.toArray, ats⟩, ty, pos, af, g⟩ a) (hd : d < n)
  (hxs : opvs e xs = some [v, u]) (hf : P.funcs[f]? = some fn) (hb : fn.body.isNone = true) (hn : (fn.name == "runtime.NumGoroutine") = false) (hnx : Extern.findNext fn = none) (hfd : Extern.find fn = some Extern.BytealgCompare.compare)
  (hs : Rep.sat S w l [v] fp) (hs2 : Rep.sat S2 w m [u] fq) (k : ∀ a, Env n a ((d, vI (V6 l m)) :: e) → wpList P ops Q rest a w) : wpList P ops Q (⟨some d, .call ⟨.value (.func f), xs.toArray, ats⟩, ty, pos, af, g⟩ :: rest) a w := by
 refine Xe h hw rfl hd (w' := w) ?_ k
 have hr : (Extern.BytealgCompare.compare #[v, u]).run P w = .ok (vI (V6 l m)) w := by
  show (do pure (goInt (Extern.BytealgCompare.cmp (← Extern.Bytes.bytesOf v) (← Extern.Bytes.bytesOf u)))).run P w = _
  simp only [Sem.run_bind, run_bytesOf (P := P) hs, run_bytesOf (P := P) hs2, Result.andThen_ok, cmp_eq]
  rfl
 simp only [execOp, resolve, Act.eval]
 simp only [Deferred.ofValue, Sem.run_bind, pure, Sem.run, Result.andThen_ok, invoke]
 have hargs : (xs.toArray.map a.eval) = #[v, u] := by simp [h.evs hxs]
 simp only [hargs, Array.append_empty]
 have := run_callFunc_extern (P := P) hf hn hb hnx hfd #[v, u] w
 simpa [hr] using this
end
end Go.Proofs.Ytifdeoikcebbjaa
