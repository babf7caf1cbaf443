/- The walk library, part I: slices cut; elements with memory of their own; bytealg.IndexByte. -/
import Derived.Test.YtkcaldgoomphaaaDoorLibH
import Derived.Lib.BytesEntry
namespace Go.Proofs.YtkcaldgoomphaaaDoor
open Go

/-! ### Cut slices -/
def sliceV (v : Value) (lo hi n : Nat) : Value :=
  match v with
  | .slice a _ cap => .slice (if cap = lo then a else a.map (·.add (lo * n))) (hi - lo) (cap - lo)
  | v => v
def slc {α : Type} (l : List α) (lo hi : Int) : Option (List α) := if 0 ≤ lo ∧ lo ≤ hi ∧ hi ≤ l.length then some ((l.take hi.toNat).drop lo.toNat) else none
theorem slc_some {α : Type} {l r : List α} {lo hi : Int} (h : slc l lo hi = some r) : (0 ≤ lo ∧ lo ≤ hi ∧ hi ≤ l.length) ∧ r = (l.take hi.toNat).drop lo.toNat := by
  unfold slc at h
  split at h
  · rename_i h0; simp only [Option.some.injEq] at h; exact ⟨h0, h.symm⟩
  · cases h
theorem Elems.cut {α : Type} [Rep α] {S : Nat → Prop} {w : World} : ∀ {l : List α} {cs : List Value} {lo : Nat}, Elems S w l cs [] → Elems S w (l.drop lo) (cs.drop (lo * Rep.n α)) []
  | l, cs, 0, h => by simpa using h
  | [], cs, lo + 1, h => by obtain ⟨rfl, _⟩ := h; exact ⟨by simp, rfl⟩
  | x :: l, cs, lo + 1, h => by
    obtain ⟨c, cs', f, fp', rfl, hf, h1, h2⟩ := h
    obtain ⟨rfl, rfl⟩ := List.append_eq_nil_iff.1 hf.symm
    have := Elems.cut (lo := lo) h2
    have hlc := Rep.len h1
    rw [List.drop_succ_cons, Nat.add_mul, Nat.one_mul, Nat.add_comm]
    rw [show Rep.n α + lo * Rep.n α = c.length + lo * Rep.n α by rw [hlc], List.drop_length_add_append]
    exact this
theorem Elems.pre {α : Type} [Rep α] {S : Nat → Prop} {w : World} : ∀ {l : List α} {cs : List Value} {k : Nat}, Elems S w l cs [] → Elems S w (l.take k) (cs.take (k * Rep.n α)) []
  | l, cs, 0, h => by simp only [Nat.zero_mul, List.take_zero]; exact ⟨rfl, rfl⟩
  | [], cs, k + 1, h => by obtain ⟨rfl, _⟩ := h; exact ⟨by simp, rfl⟩
  | x :: l, cs, k + 1, h => by
    obtain ⟨c, cs', f, fp', rfl, hf, h1, h2⟩ := h
    obtain ⟨rfl, rfl⟩ := List.append_eq_nil_iff.1 hf.symm
    have := Elems.pre (k := k) h2
    have hlc := Rep.len h1
    rw [List.take_succ_cons, Nat.add_mul, Nat.one_mul, Nat.add_comm]
    rw [show Rep.n α + k * Rep.n α = c.length + k * Rep.n α by rw [hlc], List.take_length_add_append]
    exact ⟨c, _, [], [], rfl, rfl, h1, this⟩
theorem ro_slice {α : Type} [Rep α] {S : Nat → Prop} {w : World} {l r : List α} {v : Value} {lo hi : Int} (h : Rep.sat S w l [v] []) (hb : slc l lo hi = some r) : Rep.sat S w r [sliceV v lo.toNat hi.toNat (Rep.n α)] [] := by
  obtain ⟨⟨h0, h1, h2⟩, rfl⟩ := slc_some hb
  obtain ⟨p, cap, hv, hc, hp⟩ := h
  simp only [List.cons.injEq, and_true] at hv
  subst hv
  have hlen : (List.drop lo.toNat (List.take hi.toNat l)).length = hi.toNat - lo.toNat := by simp; omega
  refine ⟨(if cap = lo.toNat then p else p.map (·.add (lo.toNat * Rep.n α))), cap - lo.toNat, by simp only [sliceV, hlen], by rw [hlen]; omega, ?_⟩
  cases p with
  | none =>
    obtain ⟨rfl, _⟩ := hp
    simp
  | some q =>
    obtain ⟨hs, ecs, fpe, k1, k2, k3⟩ := hp
    rcases k3 with ⟨k3, k4⟩ | ⟨k3, _⟩
    case inr => cases k3
    subst k4
    by_cases hcl : cap = lo.toNat
    · rw [if_pos hcl]
      have hnil : List.drop lo.toNat (List.take hi.toNat l) = [] := List.eq_nil_of_length_eq_zero (by rw [hlen]; omega)
      rw [hnil]
      refine ⟨fun h => absurd (by omega) h, [], [], ⟨rfl, rfl⟩, At.nil _ _ _, .inl ⟨fun h => absurd (by omega) h, rfl⟩⟩
    · rw [if_neg hcl]
      obtain ⟨q1, q2, q3⟩ := q
      have hs := hs (by omega)
      simp only at hs
      subst hs
      simp only [Option.map_some]
      rw [Addr.add_lit]
      refine ⟨fun _ => rfl, (ecs.take (hi.toNat * Rep.n α)).drop (lo.toNat * Rep.n α), [], (k1.pre).cut, ?_, .inl ⟨fun hne => k3 (by omega), rfl⟩⟩
      · intro i v hv
        rw [List.getElem?_drop, List.getElem?_take] at hv
        split at hv
        · have := k2 _ v hv
          rwa [← Nat.add_assoc] at this
        · cases hv

section
variable {n : Nat} {a : Act} {e : List (Nat × Value)} {w w' : World} {P : Program} {ops : Array Oper} {rest : List Oper} {Q : Exit → Act → World → Prop}
variable {d : Nat} {ty t : TypeId} {pos : String} {af : Array Edge} {g : Option (Nat × Bool)} {x y : Operand} {v u : Value}
variable {St : Nat → Prop} {w0 : World} {its : List Item}

/-- A bound of a cut: given, or left out. -/
def opvo (e : List (Nat × Value)) : Option Operand → Option (Option Value)
  | none => some none
  | some x => (opv e x).map some
theorem opvo_some {x : Operand} (h : opv e x = some v) : opvo e (some x) = some (some v) := by simp [opvo, h]
theorem Env.evo (h : Env n a e) {x : Option Operand} {v : Option Value} (hx : opvo e x = some v) : x.map a.eval = v := by
  cases x with
  | none => simpa [opvo] using hx
  | some y =>
    simp only [opvo, Option.map_eq_some_iff] at hx
    obtain ⟨u, h1, rfl⟩ := hx
    simp [h.ev h1]
/-- What bound is meant. -/
def bnd (o : Option Value) (dflt : Int) : Option Int :=
  match o with
  | none => some dflt
  | some (.int _ i) => some i
  | _ => none
theorem s_slice {α : Type} [Rep α] {S : Nat → Prop} {l r : List α} {fp : List Nat} {el sz by_ : Nat} {z : List Value} {D : TypeDesc} {lo hi : Option Operand} {vlo vhi : Option Value} {i j : Int}
    (h : Env n a e) (hw : Goes ops ⟨some d, .slice t x lo hi none, ty, pos, af, g⟩ a) (hd : d < n) (hx : opv e x = some v) (hlo : opvo e lo = some vlo) (hhi : opvo e hi = some vhi)
    (hi1 : bnd vlo 0 = some i) (hj1 : bnd vhi l.length = some j) (ht : P.underlying t = some (.slice el)) (he : Ty P el D sz by_ z) (hs : Rep.sat S w l [v] fp) (hb : slc l i j = some r)
    (k : ∀ a, Env n a ((d, sliceV v i.toNat j.toNat sz) :: e) → wpList P ops Q rest a w) : wpList P ops Q (⟨some d, .slice t x lo hi none, ty, pos, af, g⟩ :: rest) a w := by
  obtain ⟨⟨h0, h1, h2⟩, rfl⟩ := slc_some hb
  obtain ⟨p, cap, hv, hc, hp⟩ := hs
  simp only [List.cons.injEq, and_true] at hv
  subst hv
  refine s_val h hw rfl hd (w' := w) ?_ k
  simp only [execOp, h.ev hx, h.evo hlo, h.evo hhi]
  have hsize := run_sizeOf he w
  have hlow : ∀ m : Nat, i ≤ m → (match vlo with | some v => Instr.sliceBound v m .sliceB | none => pure 0 : Sem Nat).run P w = .ok i.toNat w := by
    intro m hm
    cases vlo with
    | none => simp only [bnd, Option.some.injEq] at hi1; subst hi1; rfl
    | some u =>
      cases u <;> simp only [bnd] at hi1 <;> first | cases hi1 | skip
      simp [Instr.sliceBound, asIntOf, h0, hm]
  have hhigh : (match vhi with | some v => Instr.sliceBound v cap .sliceAcap | none => pure l.length : Sem Nat).run P w = .ok j.toNat w := by
    cases vhi with
    | none => simp only [bnd, Option.some.injEq] at hj1; subst hj1; simp
    | some u =>
      cases u <;> simp only [bnd] at hj1 <;> first | cases hj1 | skip
      have : (0 ≤ j ∧ j ≤ (cap : Int)) := by omega
      simp [Instr.sliceBound, asIntOf, this]
  have hbounds : (Instr.sliceBounds true l.length cap vlo vhi none).run P w = .ok (i.toNat, j.toNat, cap) w := by
    have hl := hlow j.toNat (by omega)
    cases vlo <;> cases vhi <;> simp_all [Instr.sliceBounds]
  simp [Instr.sliceAt, run_underlying ht, Instr.slice, hbounds, hsize, sliceV]

/-! ### Comparisons of Bools -/
theorem run_eqT {p q : Bool} (ht : P.underlying t = some .bool) : (Op.equal t (.bool p) (.bool q)).run P w = .ok (p == q) w := by
  show (Op.equalIn (9999 + 1) t (.bool p) (.bool q)).run P w = _
  rw [Op.equalIn]
  simp only [Sem.run_bind, run_underlying ht, Result.andThen_ok, Sem.run_pure]
theorem s_eqT {p q : Bool} {y' : TypeId} (h : Env n a e) (hw : Goes ops ⟨some d, .binOp .eql t x y y', ty, pos, af, g⟩ a) (hd : d < n) (hx : opv e x = some (vT p)) (hy : opv e y = some (vT q)) (ht : P.underlying t = some .bool)
    (k : ∀ a, Env n a ((d, vT (p == q)) :: e) → wpList P ops Q rest a w) : wpList P ops Q (⟨some d, .binOp .eql t x y y', ty, pos, af, g⟩ :: rest) a w :=
  s_val h hw rfl hd (by simp only [execOp, h.ev hx, h.ev hy]; simp only [eqGuard, binOp, Sem.run_bind, run_eqT ht, Result.andThen_ok, Sem.run_pure]; simp) k
theorem s_neT {p q : Bool} {y' : TypeId} (h : Env n a e) (hw : Goes ops ⟨some d, .binOp .neq t x y y', ty, pos, af, g⟩ a) (hd : d < n) (hx : opv e x = some (vT p)) (hy : opv e y = some (vT q)) (ht : P.underlying t = some .bool)
    (k : ∀ a, Env n a ((d, vT (p != q)) :: e) → wpList P ops Q rest a w) : wpList P ops Q (⟨some d, .binOp .neq t x y y', ty, pos, af, g⟩ :: rest) a w :=
  s_val h hw rfl hd (by simp only [execOp, h.ev hx, h.ev hy]; simp only [eqGuard, binOp, Sem.run_bind, run_eqT ht, Result.andThen_ok, Sem.run_pure]; simp; cases p <;> cases q <;> rfl) k

/-! ### bytealg.IndexByte -/
theorem enc_nums : ∀ l : List UInt8, encL l = (l.map fun b => Value.int .u8 b.toNat)
  | [] => rfl
  | x :: l => by rw [encL, enc_nums l]; rfl
theorem bytesOf_nums (l : List UInt8) : Lib.bytesOf (l.map fun b => (b.toNat : Int)) = l := by
  unfold Lib.bytesOf
  rw [List.map_map]
  conv => rhs; rw [← List.map_id l]
  apply List.map_congr_left
  intro b _
  simp
abbrev indexByte (l : List UInt8) (c : UInt8) : Int := Lib.indexByte l c
theorem s_indexByte {S : Nat → Prop} {l : List UInt8} {fp : List Nat} {f : Nat} {fn : Func} {c : UInt8} {ats : Array TypeId} {xs : List Operand} (h : Env n a e) (hw : Goes ops ⟨some d, .call ⟨.value (.func f), xs.toArray, ats⟩, ty, pos, af, g⟩ a) (hd : d < n)
    (hxs : opvs e xs = some [v, vB c]) (hf : P.funcs[f]? = some fn) (hb : fn.body.isNone = true) (hn : (fn.name == "runtime.NumGoroutine") = false) (hnx : Extern.findNext fn = none) (hfd : Extern.find fn = some Extern.BytealgIndexByte.indexByte)
    (hs : Rep.sat S w l [v] fp) (k : ∀ a, Env n a ((d, vI (indexByte l c)) :: e) → wpList P ops Q rest a w) : wpList P ops Q (⟨some d, .call ⟨.value (.func f), xs.toArray, ats⟩, ty, pos, af, g⟩ :: rest) a w := by
  refine s_val h hw rfl hd (w' := w) ?_ k
  have hr : (Extern.BytealgIndexByte.indexByte #[v, vB c]).run P w = .ok (vI (Lib.indexByte l c)) w := by
    obtain ⟨p, cap, hv, hc, hp⟩ := hs
    simp only [List.cons.injEq, and_true] at hv
    subst hv
    cases p with
    | none =>
      have : l = [] := List.eq_nil_of_length_eq_zero (by have := hp.1; omega)
      subst this
      exact Lib.run_indexByteNil (P := P) w _ _ _
    | some q =>
      obtain ⟨h1, ecs, fpe, h2, h3, _⟩ := hp
      by_cases hl0 : l = []
      · subst hl0
        exact Lib.run_indexByteString (P := P) .empty (c.toNat : Int) w
      have h1 := h1 (by have := List.length_pos_iff.2 hl0; omega)
      obtain ⟨q1, q2, q3⟩ := q
      simp only at h1
      subst h1
      obtain ⟨rfl, rfl⟩ := flat_elems.1 h2
      have := Lib.run_indexByteSlice (P := P) w q1 q2 l.length cap (l.map fun b => (b.toNat : Int)) (by simp) (fun i hi => by
        have := h3 i (Value.int .u8 (l[i].toNat : Int)) (by rw [enc_nums]; simp [hi])
        rw [this]
        simp [hi]) (c.toNat : Int)
      rw [bytesOf_nums] at this
      have hcc : (c.toNat : Int).toNat.toUInt8 = c := by simp
      rw [hcc] at this
      exact this
  simp only [execOp, resolve, Act.eval]
  simp only [Deferred.ofValue, Sem.run_bind, pure, Sem.run, Result.andThen_ok, invoke]
  have hargs : (xs.toArray.map a.eval) = #[v, vB c] := by simp [h.evs hxs]
  simp only [hargs, Array.append_empty]
  have := run_callFunc_extern (P := P) hf hn hb hnx hfd #[v, vB c] w
  simpa [hr] using this
end

/-! ### Elements with memory of their own -/
section
variable {St : Nat → Prop} {w0 w : World} {its : List Item}
theorem M.pack1 {i1 it : Item} (h : M St w0 w (i1 :: its)) (hl : Loc St it) (hp : ∀ fp, i1 w fp → it w fp) : M St w0 w (it :: its) := by
  obtain ⟨h1, h2, fp, ⟨f, f', rfl, _, k1, k2⟩, h4, h5⟩ := h
  exact ⟨h1, h2, _, ⟨f, f', rfl, hl, hp f k1, k2⟩, h4, h5⟩
theorem M.pack2 {i1 i2 it : Item} (h : M St w0 w (i1 :: i2 :: its)) (hl : Loc St it) (hp : ∀ f g, i1 w f → i2 w g → it w (f ++ g)) : M St w0 w (it :: its) := by
  obtain ⟨h1, h2, fp, ⟨f, f', rfl, _, k1, g, g', rfl, _, k2, k3⟩, h4, h5⟩ := h
  exact ⟨h1, h2, f ++ g ++ g', ⟨f ++ g, g', rfl, hl, hp f g k1 k2, k3⟩, by simpa using h4, by simpa using h5⟩
theorem M.pack3 {i1 i2 i3 it : Item} (h : M St w0 w (i1 :: i2 :: i3 :: its)) (hl : Loc St it) (hp : ∀ f g k, i1 w f → i2 w g → i3 w k → it w (f ++ (g ++ k))) : M St w0 w (it :: its) := by
  obtain ⟨h1, h2, fp, ⟨f, f', rfl, _, k1, g, g', rfl, _, k2, m, m', rfl, _, k3, k4⟩, h4, h5⟩ := h
  exact ⟨h1, h2, f ++ (g ++ m) ++ m', ⟨f ++ (g ++ m), m', rfl, hl, hp f g m k1 k2 k3, k4⟩, by simpa using h4, by simpa using h5⟩
theorem M.addRo {α : Type} [Rep α] {S : Nat → Prop} {x : α} {cs : List Value} (h : M St w0 w its) (hS : ∀ b, S b → St b) (hx : Rep.sat S w x cs []) : M St w0 w (own S x cs :: its) := by
  obtain ⟨h1, h2, fp, h3, h4, h5⟩ := h
  exact ⟨h1, h2, fp, ⟨[], fp, rfl, own_loc hS, hx, h3⟩, h4, h5⟩
end
section
variable {n : Nat} {a : Act} {e : List (Nat × Value)} {w w' : World} {P : Program} {ops : Array Oper} {rest : List Oper} {Q : Exit → Act → World → Prop}
variable {d : Nat} {ty t : TypeId} {pos : String} {af : Array Edge} {g : Option (Nat × Bool)} {x y : Operand} {v u : Value}
variable {St : Nat → Prop} {w0 : World} {its : List Item}
/-- A whole element is stored into a slice of one's own; what it owns goes over. -/
theorem s_storeR {α : Type} [Rep α] {S : Nat → Prop} {l : List α} {D : TypeDesc} {by_ : Nat} {z seg : List Value} {i : Nat} {xn : α} (h : Env n a e) (hM : M St w0 w (own S xn seg :: osl S l v :: its)) (hS : ∀ b, S b → St b)
    (hw : Goes ops ⟨none, .store t x y, ty, pos, af, g⟩ a) (hx : opv e x = some (ptr (sb v) (so v + i * Rep.n α))) (hy : opv e y = some u) (hu : u.cells.toList = seg) (ht : Ty P t D (Rep.n α) by_ z) (hi : i < l.length)
    (k : ∀ w a, M St w0 w (osl S (l.set i xn) v :: its) → Env n a e → wpList P ops Q rest a w) : wpList P ops Q (⟨none, .store t x y, ty, pos, af, g⟩ :: rest) a w := by
  obtain ⟨xo, hxo⟩ : ∃ xo, l[i]? = some xo := ⟨_, List.getElem?_eq_getElem hi⟩
  obtain ⟨hk, hs, fp, ⟨f1, f', rfl, hl1, h1, f2, f3, rfl, hl2, h2, h3⟩, hnd, hlt⟩ := hM
  have hM2 : M St w0 w ((fun w fp => ∃ f1 f2, fp = f1 ++ f2 ∧ Rep.sat S w xn seg f1 ∧ OwnSl S w l v f2) :: its) := by
    refine ⟨hk, hs, (f1 ++ f2) ++ f3, ⟨f1 ++ f2, f3, rfl, ?_, ⟨f1, f2, rfl, h1, h2⟩, h3⟩, by simpa using hnd, by simpa using hlt⟩
    rintro w w' fp ⟨g1, g2, rfl, k1, k2⟩ hb
    exact ⟨g1, g2, rfl, Rep.loc k1 (fun b h => hb b (by rcases h with h | h; exact .inl (by simp [h]); exact .inr (hS b h))), k2.loc (fun b h => hb b (by rcases h with h | h; exact .inl (by simp [h]); exact .inr (hS b h)))⟩
  have hst := hM2.st'
  have hc : ∀ v ∈ seg, v.oneCell' = true := Rep.cell h1
  have hsl : seg.length = Rep.n α := Rep.len h1
  have key : ∀ g1 g2, Rep.sat S w xn seg g1 → OwnSl S w l v g2 → (g1 ++ g2).Nodup → (∀ b ∈ g1 ++ g2, ¬ St b ∧ b < w.heap.size) →
      (storeCells ⟨sb v, so v + i * Rep.n α, none⟩ seg).run P w = .ok () (w.setCells (sb v) (so v + i * Rep.n α) seg) ∧ sb v ∈ g2 ∧
      ∃ g3, OwnSl S (w.setCells (sb v) (so v + i * Rep.n α) seg) (l.set i xn) v g3 ∧ g3.Nodup ∧ ∀ b ∈ g3, b ∈ g1 ++ g2 := by
    rintro g1 g2 j1 ⟨p, cap, rfl, hcap, hO⟩ hnd hlt
    rcases hO with ⟨rfl, _⟩ | ⟨b, o, ecs, fpe, rfl, k1, k2, rfl, k3⟩
    · omega
    obtain ⟨c, T, fz, hheap, hsize, hfz⟩ := k3
    have hsb : sb (.slice (some ⟨b, o, none⟩) l.length cap) = b := rfl
    have hso : so (.slice (some ⟨b, o, none⟩) l.length cap) = o := rfl
    rw [hsb, hso]
    obtain ⟨c1, cc, c2, e1, ee, e2, rfl, rfl, q1, q2, q3, q4⟩ := k1.split hxo
    have hccl := Rep.len q3
    have hfit2 : o + i * Rep.n α + seg.length ≤ c.size := by
      have h1 : (i + 1) * Rep.n α ≤ cap * Rep.n α := Nat.mul_le_mul_right _ (by omega)
      rw [Nat.add_mul] at h1
      omega
    have hst' := run_stores (P := P) (o := o + i * Rep.n α) (vs := seg) hheap hfit2 hfz hc
    obtain ⟨n1, n2, n3⟩ := List.nodup_append.1 hnd
    obtain ⟨n4, n5⟩ := List.nodup_cons.1 n2
    have hh := setCells_heap b T fz seg (o + i * Rep.n α) w c hheap hfit2
    have hkeep : ∀ k, (k ∈ e1 ∨ k ∈ e2 ∨ k ∈ g1 ∨ S k) → (w.setCells b (o + i * Rep.n α) seg).heap[k]? = w.heap[k]? := by
      intro k hk
      refine setCells_other _ _ ?_ _ _ _
      rintro rfl
      rcases hk with h | h | h | h
      · exact n4 (by simp [h])
      · exact n4 (by simp [h])
      · exact n3 _ h _ (List.mem_cons_self ..) rfl
      · exact (hlt _ (List.mem_append_right _ (List.mem_cons_self ..))).1 (hS _ h)
    refine ⟨hst', by simp, b :: (e1 ++ (g1 ++ e2)), ⟨some ⟨b, o, none⟩, cap, by simp, by simpa using hcap, .inr ⟨b, o, c1 ++ (seg ++ c2), e1 ++ (g1 ++ e2), rfl, ?_, ?_, rfl, ?_⟩⟩, ?_, ?_⟩
    · exact Elems.join hi (q2.loc fun k hk => hkeep k (by rcases hk with h | h; exact .inl h; exact .inr (.inr (.inr h)))) (Rep.loc j1 fun k hk => hkeep k (by rcases hk with h | h; exact .inr (.inr (.inl h)); exact .inr (.inr (.inr h))))
        (q4.loc fun k hk => hkeep k (by rcases hk with h | h; exact .inr (.inl h); exact .inr (.inr (.inr h))))
    · -- the cells
      have hrow := k2
      have hclen : o + (c1 ++ (cc ++ c2)).length ≤ c.toList.length := by
        have hl := k1.len
        have h1 : l.length * Rep.n α ≤ cap * Rep.n α := Nat.mul_le_mul_right _ hcap
        rw [hl]; simp; omega
      have hsp : c1 ++ (seg ++ c2) = splice (c1 ++ (cc ++ c2)) (i * Rep.n α) seg := by
        rw [← q1, splice_mid _ _ _ _ (by omega)]
      intro j vv hv
      have hj := (List.getElem?_eq_some_iff.1 hv).1
      simp only [World.cell?, hh, Option.isSome_none, Bool.false_eq_true, if_false]
      rw [List.getElem?_toArray]
      have hrw : ∀ j, j < (c1 ++ (cc ++ c2)).length → c.toList[o + j]? = (c1 ++ (cc ++ c2))[j]? := by
        intro j hj
        have := k2 j _ (List.getElem?_eq_getElem hj)
        simp only [World.cell?, hheap, Option.isSome_none, Bool.false_eq_true, if_false] at this
        rw [List.getElem?_eq_getElem hj]
        simpa using this
      have hlen3 : (c1 ++ (seg ++ c2)).length = (c1 ++ (cc ++ c2)).length := by simp; omega
      have hlen2 : i * Rep.n α + seg.length ≤ (c1 ++ (cc ++ c2)).length := by simp; omega
      rw [hlen3] at hj
      rw [hsp] at hv
      simp only [splice] at hv ⊢
      by_cases hj1 : j < i * Rep.n α
      · rw [List.getElem?_append_left (by simp; omega), List.getElem?_take, if_pos hj1] at hv
        rw [List.getElem?_append_left (by simp at hclen ⊢; omega), List.getElem?_take, if_pos (by omega), hrw j hj]
        exact hv
      · rw [List.getElem?_append_right (by simp; omega)] at hv
        rw [List.getElem?_append_right (by simp; omega)]
        have e1' : (List.take (i * Rep.n α) (c1 ++ (cc ++ c2))).length = i * Rep.n α := by rw [List.length_take]; omega
        have e2' : (List.take (o + i * Rep.n α) c.toList).length = o + i * Rep.n α := by rw [List.length_take]; omega
        rw [e1'] at hv
        rw [e2', show o + j - (o + i * Rep.n α) = j - i * Rep.n α by omega]
        by_cases hj2 : j - i * Rep.n α < seg.length
        · rw [List.getElem?_append_left hj2] at hv ⊢; exact hv
        · rw [List.getElem?_append_right (by omega), List.getElem?_drop] at hv ⊢
          rw [show o + i * Rep.n α + seg.length + (j - i * Rep.n α - seg.length) = o + j by omega, hrw j hj]
          rw [show i * Rep.n α + seg.length + (j - i * Rep.n α - seg.length) = j by omega] at hv
          exact hv
    · refine ⟨_, T, fz, hh, ?_, ?_⟩
      · rw [List.size_toArray, splice_len (by simpa using hfit2)]; simpa using hsize
      · intro j hj
        rw [List.size_toArray, splice_len (by simpa using hfit2)] at hj
        exact hfz j (by simpa using hj)
    · refine List.nodup_cons.2 ⟨fun hb => ?_, ?_⟩
      · simp only [List.mem_append] at hb
        rcases hb with h | h | h
        · exact n4 (by simp [h])
        · exact n3 _ h b (by simp) rfl
        · exact n4 (by simp [h])
      · obtain ⟨m1, m2, m3⟩ := List.nodup_append.1 n5
        obtain ⟨m4, m5, m6⟩ := List.nodup_append.1 m2
        refine List.nodup_append.2 ⟨m1, List.nodup_append.2 ⟨n1, m5, fun x hx y hy hxy => n3 x hx y (by simp [hy]) hxy⟩, fun x hx y hy hxy => ?_⟩
        rcases List.mem_append.1 hy with hy | hy
        · exact n3 y hy x (by simp [hx]) hxy.symm
        · exact m3 x hx y (by simp [hy]) hxy
    · intro k hk
      simp only [List.mem_cons, List.mem_append] at hk ⊢
      grind
  obtain ⟨hr, _, _⟩ := key f1 f2 h1 h2 (by
      have : ((f1 ++ f2) ++ f3).Nodup := by simpa using hnd
      exact (List.nodup_append.1 this).1) (fun b hb => hlt b (by simp at hb ⊢; grind))
  refine s_unit h hw rfl (w' := w.setCells (sb v) (so v + i * Rep.n α) seg) ?_ fun a ha => k _ _ ?_ ha
  · simp only [execOp, h.ev hx, h.ev hy]
    have hsz : u.cells.size = Rep.n α := by rw [← hsl, ← hu]; simp
    simp [Instr.storeAt, Instr.sureAddr, storeVar, run_sizeOf ht, hsz, hu, hr]
  · refine M.turn (new := [osl S (l.set i xn) v]) hM2 (setCells_streams _ _ _ _).1 (setCells_streams _ _ _ _).2.1 (setCells_streams _ _ _ _).2.2 (by rw [setCells_size]; exact Nat.le_refl _) ?_
    rintro fp ⟨g1, g2, rfl, j1, j2⟩ hlt hnd
    obtain ⟨_, hin, g3, hO, hn3, hsub⟩ := key g1 g2 j1 j2 hnd hlt
    refine ⟨fun b hb _ => setCells_other _ _ (fun h => hb (by rw [h]; simp [hin])) _ _ _, g3, ⟨g3, [], by simp, osl_loc hS, hO, rfl⟩, hn3, fun b hb => .inl (hsub b hb)⟩
/-- A literal of one part with memory of its own. -/
theorem s_build1 {α : Type} [Rep α] {S : Nat → Prop} {xs : List Operand} {el : TypeId} {D : TypeDesc} {by_ : Nat} {z seg : List Value} {xn : α}
    (h : Env n a e) (hM : M St w0 w (own S xn seg :: its)) (hS : ∀ b, S b → St b) (hw : Goes ops ⟨some d, .buildSlice t 1 (opsOf 0 xs).toArray, ty, pos, af, g⟩ a) (hd : d < n) (hxs : opvs e xs = some [u]) (hu : u.cells.toList = seg)
    (ht : P.underlying t = some (.slice el)) (he : Ty P el D (Rep.n α) by_ z) (hzl : z.length = Rep.n α) (hsmall : 1 * Rep.n α ≤ 16777216)
    (k : ∀ v' w a, M St w0 w (osl S [xn] v' :: its) → Env n a ((d, v') :: e) → wpList P ops Q rest a w) : wpList P ops Q (⟨some d, .buildSlice t 1 (opsOf 0 xs).toArray, ty, pos, af, g⟩ :: rest) a w := by
  subst hu
  obtain ⟨fp0, hfp0, _⟩ := hM.head
  have hl0 := Rep.len hfp0
  exact s_build (l := [xn]) h hM hS hw hd hxs rfl rfl ht he hzl hsmall (fun fp hfp => by
    have hfp : Rep.sat S w xn u.cells.toList fp := hfp
    exact ⟨u.cells.toList, [], fp, [], by simp, by simp, hfp, rfl, rfl⟩) (fun v hv => by simp at hv; subst hv; simpa using hl0) k
theorem OwnSl.wk {α : Type} [Rep α] {S S' : Nat → Prop} {l : List α} {fp : List Nat} (h : OwnSl S w l v fp) (hS : ∀ b, S b → S' b) : OwnSl S' w l v fp := by
  obtain ⟨p, cap, rfl, hc, h⟩ := h
  refine ⟨p, cap, rfl, hc, ?_⟩
  rcases h with h | ⟨b, o, ecs, fpe, rfl, h1, h2, rfl, h3⟩
  · exact .inl h
  · exact .inr ⟨b, o, ecs, fpe, rfl, h1.wk hS, h2, rfl, h3⟩
theorem M.oslWk {α : Type} [Rep α] {S S' : Nat → Prop} {l : List α} (h : M St w0 w (osl S l v :: its)) (hS : ∀ b, S b → S' b) (hS' : ∀ b, S' b → St b) : M St w0 w (osl S' l v :: its) :=
  h.pack1 (osl_loc hS') fun _ hp => OwnSl.wk hp hS
end
/-- What is known of data that came in: bounds of numbers and of lengths, and the bulk. -/
class Dat (α : Type) where
  bd : α → Prop
  sz : α → Nat

instance : Dat Int := ⟨fun x => -9223372036854775808 ≤ x ∧ x ≤ 9223372036854775807, fun _ => 1⟩
instance : Dat UInt8 := ⟨fun _ => True, fun _ => 1⟩
instance : Dat Bool := ⟨fun _ => True, fun _ => 1⟩
instance : Dat Str := ⟨fun s => s.l.length ≤ 9223372036854775807, fun s => s.l.length + 1⟩
instance {α : Type} [Dat α] : Dat (List α) := ⟨fun l => l.length ≤ 9223372036854775807 ∧ ∀ x ∈ l, Dat.bd x, fun l => (l.map Dat.sz).sum + 1⟩
instance {α : Type} [Dat α] {n : Nat} : Dat (Vector α n) := ⟨fun l => ∀ x ∈ l.toList, Dat.bd x, fun l => (l.toList.map Dat.sz).sum + 1⟩
instance {α β : Type} [Dat α] [Dat β] : Dat (α × β) := ⟨fun x => Dat.bd x.1 ∧ Dat.bd x.2, fun x => Dat.sz x.1 + Dat.sz x.2⟩

end Go.Proofs.YtkcaldgoomphaaaDoor
