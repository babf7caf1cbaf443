/- The walk library, part C: the steps that read and make memory; calls; control. -/
import Derived.Test.YtkcaldgoomphaaaDoorLibB
namespace Go.Proofs.YtkcaldgoomphaaaDoor
open Go

abbrev ptr (b o : Nat) : Value := .pointer (some ⟨b, o, none⟩)
/-- The block and the place at which a slice begins. -/
def sb : Value → Nat
  | .slice (some a) _ _ => a.block
  | _ => 0
def so : Value → Nat
  | .slice (some a) _ _ => a.off
  | _ => 0

def isAggD : TypeDesc → Bool
  | .struct _ | .array _ _ => true
  | _ => false

/-- What is known of a type. -/
structure Ty (P : Program) (t : TypeId) (d : TypeDesc) (sz bytes : Nat) (z : List Value) : Prop where
  und : P.underlying t = some d
  info : (P.info? t).map (fun i => (i.size, i.bytes, i.zero.map (·.cells.toList))) = some (sz, bytes, some z)

section
variable {P : Program} {t : TypeId} {d : TypeDesc} {sz bytes : Nat} {z : List Value}
theorem Ty.get (h : Ty P t d sz bytes z) : ∃ i v, P.info? t = some i ∧ i.size = sz ∧ i.bytes = bytes ∧ i.zero = some v ∧ v.cells.toList = z := by
  have := h.info
  cases hq : P.info? t with
  | none => simp [hq] at this
  | some i =>
    simp [hq] at this
    obtain ⟨h1, h2, v, h3, h4⟩ := this
    exact ⟨i, v, rfl, h1, h2, h3, h4⟩
theorem run_isAgg (h : Ty P t d sz bytes z) (w : World) : (isAgg t).run P w = .ok (isAggD d) w := by
  simp only [isAgg, Sem.run_bind, run_underlying h.und, Result.andThen_ok]
  cases d <;> rfl
theorem run_sizeOf (h : Ty P t d sz bytes z) (w : World) : (sizeOf t).run P w = .ok sz w := by
  obtain ⟨i, v, h1, h2, _⟩ := h.get
  simp [sizeOf, typeInfo, h1, h2]
theorem run_zeroValue (h : Ty P t d sz bytes z) (w : World) : ∃ v, (zeroValue t).run P w = .ok v w ∧ v.cells.toList = z := by
  obtain ⟨i, v, h1, h2, _, h3, h4⟩ := h.get
  exact ⟨v, by simp [zeroValue, typeInfo, h1, h3], h4⟩
end

theorem At.add {w : World} {b o : Nat} {cs : List Value} (h : At w b o cs) : ∀ j v, cs[j]? = some v → w.cell? ((⟨b, o, none⟩ : Addr).add j) = some v := by
  intro j v hv
  rw [Addr.add_lit]; exact h j v hv
/-- A part of a row, the row given by its parts. -/
theorem At.part {w : World} {b o k : Nat} {pre : List (List Value)} {seg : List Value} {post : List (List Value)} (h : At w b o (pre ++ seg :: post).flatten) (hk : pre.flatten.length = k) : At w b (o + k) seg := by
  rw [List.flatten_append, List.flatten_cons] at h
  have := (At.append.1 (At.append.1 h).2).1
  rw [hk] at this; exact this
theorem seg0 : ([] : List (List Value)).flatten.length = 0 := rfl
theorem segC {c : List Value} {r : List (List Value)} {n m : Nat} (h : c.length = n) (k : r.flatten.length = m) : (c :: r).flatten.length = n + m := by
  rw [List.flatten_cons, List.length_append, h, k]

section
variable {n : Nat} {a : Act} {e : List (Nat × Value)} {w w' : World} {P : Program} {ops : Array Oper} {rest : List Oper} {Q : Exit → Act → World → Prop}
variable {d : Nat} {ty t : TypeId} {pos : String} {af : Array Edge} {g : Option (Nat × Bool)} {x y : Operand} {v : Value}
variable {St : Nat → Prop} {w0 : World} {its : List Item}

/-! ### New variables -/
theorem s_box {cs : List Value} (h : Env n a e) (hM : M St w0 w its) (hw : Goes ops ⟨some d, .box t x, ty, pos, af, g⟩ a) (hd : d < n) (hx : opv e x = some v) (hcs : v.cells.toList = cs)
    (k : ∀ b w a, M St w0 w (raw b cs :: its) → Env n a ((d, ptr b 0) :: e) → wpList P ops Q rest a w) : wpList P ops Q (⟨some d, .box t x, ty, pos, af, g⟩ :: rest) a w := by
  subst hcs
  refine s_val h hw rfl hd (v := ptr w.heap.size 0) (w' := w.alloc (.cells v.cells t)) (by simp only [execOp, h.ev hx]; simp [Instr.box, newVar, newRow]) fun a ha => ?_
  have := hM.alloc v.cells.toList t
  exact k _ _ _ (by simpa using this) ha
theorem s_alloc {D : TypeDesc} {sz by_ : Nat} {z : List Value} (h : Env n a e) (hM : M St w0 w its) (hw : Goes ops ⟨some d, .alloc t, ty, pos, af, g⟩ a) (hd : d < n) (ht : Ty P t D sz by_ z)
    (k : ∀ b w a, M St w0 w (raw b z :: its) → Env n a ((d, ptr b 0) :: e) → wpList P ops Q rest a w) : wpList P ops Q (⟨some d, .alloc t, ty, pos, af, g⟩ :: rest) a w := by
  obtain ⟨v, hv, rfl⟩ := run_zeroValue ht w
  refine s_val h hw rfl hd (v := ptr w.heap.size 0) (w' := w.alloc (.cells v.cells t)) (by simp only [execOp]; simp [Instr.alloc, hv, newVar, newRow]) fun a ha => ?_
  have := hM.alloc v.cells.toList t
  exact k _ _ _ (by simpa using this) ha

/-! ### Addresses and loads -/
theorem s_load {D : TypeDesc} {sz by_ : Nat} {z : List Value} {b o : Nat} (h : Env n a e) (hw : Goes ops ⟨some d, .load t x, ty, pos, af, g⟩ a) (hd : d < n) (hx : opv e x = some (ptr b o))
    (ht : Ty P t D sz by_ z) (hD : isAggD D = false) (hA : At w b o [v])
    (k : ∀ a, Env n a ((d, v) :: e) → wpList P ops Q rest a w) : wpList P ops Q (⟨some d, .load t x, ty, pos, af, g⟩ :: rest) a w := by
  have hc : w.cell? ⟨b, o, none⟩ = some v := by simpa using hA 0 v rfl
  exact s_val h hw rfl hd (by simp only [execOp, h.ev hx]; simp [Instr.loadAt, Instr.sureAddr, loadVar, run_isAgg ht, hD, hc]) k
theorem s_loadA {D : TypeDesc} {sz by_ : Nat} {z : List Value} {b o : Nat} {cs : List Value} (h : Env n a e) (hw : Goes ops ⟨some d, .load t x, ty, pos, af, g⟩ a) (hd : d < n) (hx : opv e x = some (ptr b o))
    (ht : Ty P t D sz by_ z) (hD : isAggD D = true) (hA : At w b o cs) (hl : cs.length = sz)
    (k : ∀ a, Env n a ((d, .agg cs.toArray) :: e) → wpList P ops Q rest a w) : wpList P ops Q (⟨some d, .load t x, ty, pos, af, g⟩ :: rest) a w := by
  have hr := run_loadCells_list (P := P) w ⟨b, o, none⟩ cs hA.add
  rw [hl] at hr
  exact s_val h hw rfl hd (by simp only [execOp, h.ev hx]; simp [Instr.loadAt, Instr.sureAddr, loadVar, run_isAgg ht, hD, run_sizeOf ht, hr]) k
/-- What is known of a field. -/
structure Fd (P : Program) (t : TypeId) (f off : Nat) : Prop where
  out : ∃ fs fd i, P.underlying t = some (.struct fs) ∧ fs[f]? = some fd ∧ fd.offset = off ∧ P.info? fd.type = some i ∧ i.size ≠ 0
theorem s_fieldAddr {f off b o : Nat} (h : Env n a e) (hw : Goes ops ⟨some d, .fieldAddr t x f, ty, pos, af, g⟩ a) (hd : d < n) (hx : opv e x = some (ptr b o)) (hf : Fd P t f off)
    (k : ∀ a, Env n a ((d, ptr b (o + off)) :: e) → wpList P ops Q rest a w) : wpList P ops Q (⟨some d, .fieldAddr t x f, ty, pos, af, g⟩ :: rest) a w := by
  obtain ⟨fs, fd, i, h1, h2, h3, h4, h5⟩ := hf.out
  exact s_val h hw rfl hd (by
    simp only [execOp, h.ev hx]
    simp [Instr.fieldAt, run_underlying h1, h2, Instr.sureAddr, fieldPlace, sizeOf, typeInfo, h4, h5, Addr.add_lit, h3]) k
theorem s_indexA {N el sz by_ b o : Nat} {z : List Value} {D : TypeDesc} {K : IntKind} {i : Int} (h : Env n a e) (hw : Goes ops ⟨some d, .indexAddr t x y, ty, pos, af, g⟩ a) (hd : d < n) (hx : opv e x = some (ptr b o)) (hy : opv e y = some (.int K i))
    (ht : P.underlying t = some (.array N el)) (he : Ty P el D sz by_ z) (hi : 0 ≤ i ∧ i < N)
    (k : ∀ a, Env n a ((d, ptr b (o + i.toNat * sz)) :: e) → wpList P ops Q rest a w) : wpList P ops Q (⟨some d, .indexAddr t x y, ty, pos, af, g⟩ :: rest) a w :=
  s_val h hw rfl hd (by
    simp only [execOp, h.ev hx, h.ev hy]
    simp [Instr.indexAt, asIntOf, run_underlying ht, Instr.sureAddr, hi, run_sizeOf he, Addr.add_lit]) k
theorem s_indexS {α : Type} [Rep α] {S : Nat → Prop} {l : List α} {fp : List Nat} {el sz by_ : Nat} {z : List Value} {D : TypeDesc} {K : IntKind} {i : Int} (h : Env n a e) (hw : Goes ops ⟨some d, .indexAddr t x y, ty, pos, af, g⟩ a) (hd : d < n)
    (hx : opv e x = some v) (hy : opv e y = some (.int K i)) (ht : P.underlying t = some (.slice el)) (he : Ty P el D sz by_ z) (hs : Rep.sat S w l [v] fp) (hi : 0 ≤ i ∧ i < l.length)
    (k : ∀ a, Env n a ((d, ptr (sb v) (so v + i.toNat * sz)) :: e) → wpList P ops Q rest a w) : wpList P ops Q (⟨some d, .indexAddr t x y, ty, pos, af, g⟩ :: rest) a w := by
  obtain ⟨p, cap, hv, hc, hp⟩ := hs
  simp only [List.cons.injEq, and_true] at hv
  cases p with
  | none => exfalso; obtain ⟨h1, _⟩ := hp; omega
  | some q =>
    obtain ⟨q1, q2, q3⟩ := q
    obtain ⟨h1, _⟩ := hp
    have h1 := h1 (by omega)
    simp only at h1
    subst h1
    refine s_val h hw rfl hd (v := ptr (sb v) (so v + i.toNat * sz)) (w' := w) ?_ k
    simp only [execOp, h.ev hx, h.ev hy, hv, sb, so]
    simp [Instr.indexAt, asIntOf, run_underlying ht, hi, run_sizeOf he, Addr.add_lit]
/-- An element of a slice, where it lies. -/
theorem sl_at {α : Type} [Rep α] {S : Nat → Prop} {l : List α} {fp : List Nat} {i : Nat} {u : α} (hs : Rep.sat S w l [v] fp) (hi : l[i]? = some u) :
    ∃ cs f, Rep.sat S w u cs f ∧ At w (sb v) (so v + i * Rep.n α) cs ∧ ∀ b ∈ f, b ∈ fp := by
  obtain ⟨p, cap, hv, hc, hp⟩ := hs
  simp only [List.cons.injEq, and_true] at hv
  have hil := (List.getElem?_eq_some_iff.1 hi).1
  cases p with
  | none => exfalso; obtain ⟨h1, _⟩ := hp; omega
  | some q =>
    obtain ⟨q1, q2, q3⟩ := q
    obtain ⟨h1, ecs, fpe, h2, h3, h4⟩ := hp
    have h1 := h1 (by omega)
    simp only at h1
    subst h1
    obtain ⟨c1, c, c2, f1, f, f2, rfl, rfl, k1, _, k2, _⟩ := h2.split hi
    refine ⟨c, f, k2, ?_, fun b hb => ?_⟩
    · have := (At.append.1 (At.append.1 h3).2).1
      rw [k1] at this
      rw [hv]; exact this
    · rcases h4 with ⟨_, rfl⟩ | ⟨rfl, _⟩ <;> simp [hb]
theorem sl_atRo {α : Type} [Rep α] {S : Nat → Prop} {l : List α} {i : Nat} {u : α} (hs : Rep.sat S w l [v] []) (hi : l[i]? = some u) :
    ∃ cs, Rep.sat S w u cs [] ∧ At w (sb v) (so v + i * Rep.n α) cs := by
  obtain ⟨cs, f, h1, h2, h3⟩ := sl_at hs hi
  have : f = [] := List.eq_nil_iff_forall_not_mem.2 fun b hb => by cases h3 b hb
  subst this
  exact ⟨cs, h1, h2⟩
theorem sl_atF {α : Type} [Flat α] {S : Nat → Prop} {l : List α} {fp : List Nat} {i : Nat} {u : α} (hs : Rep.sat S w l [v] fp) (hi : l[i]? = some u) :
    At w (sb v) (so v + i * Rep.n α) (Flat.enc u) := by
  obtain ⟨cs, f, h1, h2, h3⟩ := sl_at hs hi
  obtain ⟨rfl, _⟩ := h1
  exact h2
/-- The length. -/
theorem s_len {α : Type} [Rep α] {S : Nat → Prop} {l : List α} {fp : List Nat} {el : TypeId} (h : Env n a e) (hw : Goes ops ⟨some d, .call ⟨.builtin .len, [x].toArray, [t].toArray⟩, ty, pos, af, g⟩ a) (hd : d < n)
    (hx : opv e x = some v) (ht : P.underlying t = some (.slice el)) (hs : Rep.sat S w l [v] fp)
    (k : ∀ a, Env n a ((d, vI l.length) :: e) → wpList P ops Q rest a w) : wpList P ops Q (⟨some d, .call ⟨.builtin .len, [x].toArray, [t].toArray⟩, ty, pos, af, g⟩ :: rest) a w := by
  obtain ⟨p, cap, hv, hc, hp⟩ := hs
  simp only [List.cons.injEq, and_true] at hv
  exact s_val h hw rfl hd (by
    simp only [execOp, resolve]
    simp [invoke, builtin, Builtin.len_, run_underlying ht, h.ev hx, hv, goInt]) k
theorem s_lenStr {s : Str} (h : Env n a e) (hw : Goes ops ⟨some d, .call ⟨.builtin .len, [x].toArray, [t].toArray⟩, ty, pos, af, g⟩ a) (hd : d < n)
    (hx : opv e x = some (vS s)) (ht : P.underlying t = some .string)
    (k : ∀ a, Env n a ((d, vI s.l.length) :: e) → wpList P ops Q rest a w) : wpList P ops Q (⟨some d, .call ⟨.builtin .len, [x].toArray, [t].toArray⟩, ty, pos, af, g⟩ :: rest) a w := by
  exact s_val h hw rfl hd (by
    simp only [execOp, resolve]
    simp [invoke, builtin, Builtin.len_, run_underlying ht, h.ev hx, goInt]; rfl) k

/-! ### Calls -/
structure Callable (P : Program) (f : Nat) : Prop where
  out : ∃ fn c, P.funcs[f]? = some fn ∧ (fn.name == "runtime.NumGoroutine") = false ∧ fn.body = some c
def opvs (e : List (Nat × Value)) : List Operand → Option (List Value)
  | [] => some []
  | x :: r => match opv e x, opvs e r with
    | some v, some vs => some (v :: vs)
    | _, _ => none
theorem Env.evs (h : Env n a e) : ∀ {xs : List Operand} {vs : List Value}, opvs e xs = some vs → xs.map a.eval = vs
  | [], vs, hx => by simp [opvs] at hx; subst hx; rfl
  | x :: r, vs, hx => by
    simp only [opvs] at hx
    split at hx
    · rename_i v vs' h1 h2
      simp only [Option.some.injEq] at hx
      subst hx
      simp [h.ev h1, h.evs h2]
    · cases hx
theorem s_call {f : Nat} {xs : List Operand} {ats : Array TypeId} {vs : List Value} {R : Value → World → Prop} (h : Env n a e) (hw : Goes ops ⟨some d, .call ⟨.value (.func f), xs.toArray, ats⟩, ty, pos, af, g⟩ a) (hd : d < n)
    (hxs : opvs e xs = some vs) (hf : Callable P f) (hc : Calls P f vs.toArray w fun en w' => ∃ v, en = .returned v ∧ R v w')
    (k : ∀ v w' a, R v w' → Env n a ((d, v) :: e) → wpList P ops Q rest a w') : wpList P ops Q (⟨some d, .call ⟨.value (.func f), xs.toArray, ats⟩, ty, pos, af, g⟩ :: rest) a w := by
  obtain ⟨fn, c, h1, h2', h3⟩ := hf.out
  have h2 : ¬ fn.name = "runtime.NumGoroutine" := by simpa using h2'
  unfold wpList
  rw [if_pos hw]
  refine .inl ?_
  have hr : (execOp a.eval ⟨some d, .call ⟨.value (.func f), xs.toArray, ats⟩, ty, pos, af, g⟩).run P w = .ok (.enter f vs.toArray) w := by
    simp only [execOp, resolve, Act.eval]
    simp [Deferred.ofValue, invoke, callFunc, h1, h2, h3, h.evs hxs]
  unfold Oper.wp
  rw [hr, Oper.upon_enter]
  refine hc.mono ?_
  rintro en w' ⟨v, rfl, hR⟩
  exact k v w' _ hR (h.put hd v)
/-- A call of a function value. -/
theorem s_callv {f : Nat} {fv : Operand} {cap : Array Value} {xs : List Operand} {ats : Array TypeId} {vs : List Value} {R : Value → World → Prop} (h : Env n a e) (hw : Goes ops ⟨some d, .call ⟨.value fv, xs.toArray, ats⟩, ty, pos, af, g⟩ a) (hd : d < n)
    (hfv : opv e fv = some (.func (.func f) #[] cap)) (hxs : opvs e xs = some vs) (hf : Callable P f) (hc : Calls P f (vs.toArray ++ cap) w fun en w' => ∃ v, en = .returned v ∧ R v w')
    (k : ∀ v w' a, R v w' → Env n a ((d, v) :: e) → wpList P ops Q rest a w') : wpList P ops Q (⟨some d, .call ⟨.value fv, xs.toArray, ats⟩, ty, pos, af, g⟩ :: rest) a w := by
  obtain ⟨fn, c, h1, h2', h3⟩ := hf.out
  have h2 : ¬ fn.name = "runtime.NumGoroutine" := by simpa using h2'
  unfold wpList
  rw [if_pos hw]
  refine .inl ?_
  have hr : (execOp a.eval ⟨some d, .call ⟨.value fv, xs.toArray, ats⟩, ty, pos, af, g⟩).run P w = .ok (.enter f (vs.toArray ++ cap)) w := by
    simp only [execOp, resolve, h.ev hfv]
    simp [Deferred.ofValue, invoke, callFunc, h1, h2, h3, h.evs hxs]
  unfold Oper.wp
  rw [hr, Oper.upon_enter]
  refine hc.mono ?_
  rintro en w' ⟨v, rfl, hR⟩
  exact k v w' _ hR (h.put hd v)
theorem s_extract {i : Nat} {vs : List Value} (h : Env n a e) (hw : Goes ops ⟨some d, .extract x i, ty, pos, af, g⟩ a) (hd : d < n) (hx : opv e x = some (.tuple vs.toArray)) (hv : vs[i]? = some v)
    (k : ∀ a, Env n a ((d, v) :: e) → wpList P ops Q rest a w) : wpList P ops Q (⟨some d, .extract x i, ty, pos, af, g⟩ :: rest) a w :=
  s_val h hw rfl hd (by simp only [execOp, h.ev hx]; simp [Instr.extract, hv]) k

/-! ### Control -/
theorem c_region {id : Nat} {l : List Oper} {Y : Code} (h : wpList P l.toArray (Exit.then (Y.wp P Q) Q) l a w) : (Code.seq (.region id l.toArray false) Y).wp P Q a w := wp_seq (wp_region_lit h)
theorem c_fin {Y : Code} (h : Y.wp P Q a w) : wpList P ops (Exit.then (Y.wp P Q) Q) [] a w := h
theorem c_fin0 (h : Q .normal a w) : wpList P ops Q [] a w := h
theorem c_cond {c : Bool} {X Y : Code} (hE : Env n a e) (hx : opv e x = some (vT c)) (ht : c = true → X.wp P Q a w) (hf : c = false → Y.wp P Q a w) : (Code.cond x X Y).wp P Q a w := by
  cases c
  · exact wp_cond_false (hE.ev hx) (hf rfl)
  · exact wp_cond_true (hE.ev hx) (ht rfl)
theorem c_seqcond {c : Bool} {X Y Z : Code} (hE : Env n a e) (hx : opv e x = some (vT c)) (ht : c = true → X.wp P (Exit.then (Z.wp P Q) Q) a w) (hf : c = false → Y.wp P (Exit.then (Z.wp P Q) Q) a w) : (Code.seq (.cond x X Y) Z).wp P Q a w :=
  wp_seq (c_cond hE hx ht hf)
theorem c_seqskip {Y : Code} (h : Y.wp P Q a w) : (Code.skip).wp P (Exit.then (Y.wp P Q) Q) a w := wp_skip h
/-- What is done before comes to an end in Mid; from there it goes on. -/
theorem c_join {X Y : Code} (Mid : Act → World → Prop) (h : X.wp P (Exit.then Mid Q) a w) (k : ∀ a w, Mid a w → Y.wp P Q a w) : (Code.seq X Y).wp P Q a w := by
  refine wp_seq (wp_mono h fun ex a w hq => ?_)
  cases ex <;> first | exact k _ _ hq | exact hq

/-! ### Loops -/
end
/-- One round: on with a state, or out. -/
inductive Fl (S T : Type) where
  | nx (s : S)
  | ex (t : T)
def iterN {S T : Type} (f : S → Option (Fl S T)) : Nat → S → Option T
  | 0, _ => none
  | n + 1, s => match f s with
    | none => none
    | some (.ex t) => some t
    | some (.nx s) => iterN f n s
theorem iterN_mono {S T : Type} {f : S → Option (Fl S T)} : ∀ {n : Nat} {s : S} {t : T}, iterN f n s = some t → ∀ m, n ≤ m → iterN f m s = some t
  | 0, _, _, h, _, _ => by simp [iterN] at h
  | n + 1, s, t, h, 0, hm => by omega
  | n + 1, s, t, h, m + 1, hm => by
    simp only [iterN] at h ⊢
    cases hf : f s with
    | none => simp [hf] at h
    | some o =>
      cases o with
      | ex u => simpa [hf] using h
      | nx s' => simp only [hf] at h; exact iterN_mono h m (by omega)
open Classical in
/-- Round after round, as many as it takes. -/
noncomputable def iter {S T : Type} (f : S → Option (Fl S T)) (s : S) : Option T :=
  if h : ∃ n t, iterN f n s = some t then iterN f h.choose s else none
theorem iter_of {S T : Type} {f : S → Option (Fl S T)} {s : S} {n : Nat} {t : T} (h : iterN f n s = some t) : iter f s = some t := by
  have hx : ∃ n t, iterN f n s = some t := ⟨n, t, h⟩
  unfold iter
  rw [dif_pos hx]
  obtain ⟨u, hu⟩ := hx.choose_spec
  have h1 := iterN_mono h (max n hx.choose) (by omega)
  have h2 := iterN_mono hu (max n hx.choose) (by omega)
  rw [h1] at h2
  rw [hu]; exact h2.symm
theorem iter_some {S T : Type} {f : S → Option (Fl S T)} {s : S} {t : T} (h : iter f s = some t) : ∃ n, iterN f n s = some t := by
  unfold iter at h
  split at h
  · rename_i hx; exact ⟨_, h⟩
  · cases h
theorem iter_eq {S T : Type} (f : S → Option (Fl S T)) (s : S) : iter f s = (match f s with | none => none | some (.ex t) => some t | some (.nx s') => iter f s') := by
  have key : ∀ u, iter f s = some u ↔ (match f s with | none => none | some (.ex t) => some t | some (.nx s') => iter f s') = some u := by
    intro u
    constructor
    · intro h
      obtain ⟨n, hn⟩ := iter_some h
      cases n with
      | zero => simp [iterN] at hn
      | succ n =>
        simp only [iterN] at hn
        cases hf : f s with
        | none => simp [hf] at hn
        | some o =>
          cases o with
          | ex t => simpa [hf] using hn
          | nx s' => simp only [hf] at hn; exact iter_of hn
    · intro h
      cases hf : f s with
      | none => simp [hf] at h
      | some o =>
        cases o with
        | ex t => refine iter_of (n := 1) ?_; simpa [iterN, hf] using h
        | nx s' =>
          simp only [hf] at h
          obtain ⟨n, hn⟩ := iter_some h
          refine iter_of (n := n + 1) ?_
          simpa [iterN, hf] using hn
  cases hi : iter f s with
  | some u => exact ((key u).1 hi).symm
  | none =>
    cases hj : (match f s with | none => none | some (.ex t) => some t | some (.nx s') => iter f s') with
    | none => rfl
    | some u => rw [(key u).2 hj] at hi; cases hi
theorem iter_nx {S T : Type} {f : S → Option (Fl S T)} {s s' : S} (h : f s = some (.nx s')) : iter f s = iter f s' := by rw [iter_eq, h]
theorem iter_ex {S T : Type} {f : S → Option (Fl S T)} {s : S} {t : T} (h : f s = some (.ex t)) : iter f s = some t := by rw [iter_eq, h]

section
variable {P : Program} {Q : Exit → Act → World → Prop} {a : Act} {w : World}
/-- A loop that follows a state of its own. -/
theorem c_loop {S T : Type} {f : S → Option (Fl S T)} {s : S} {t : T} {c : Code} (Rel : S → Act → World → Prop) (hi : iter f s = some t) (h0 : Rel s a w)
    (hr : ∀ s a w, Rel s a w → ∀ o, f s = some o → (∀ t', o = .ex t' → t' = t) → c.wp P (Exit.then (fun a w => ∃ s', o = .nx s' ∧ Rel s' a w) Q) a w) : (Code.loop c).wp P Q a w := by
  obtain ⟨n, hn⟩ := iter_some hi
  refine wp_loop_rounds n ?_
  clear hi
  induction n generalizing s a w with
  | zero => simp [iterN] at hn
  | succ n ih =>
    simp only [iterN] at hn
    cases hf : f s with
    | none => simp [hf] at hn
    | some o =>
      rw [rounds_succ]
      refine wp_mono (hr s a w h0 o hf ?_) fun ex a w hq => ?_
      · rintro t' rfl; simpa [hf] using hn
      · cases ex <;> first | exact hq | skip
        obtain ⟨s', rfl, hrel⟩ := hq
        simp only [hf] at hn
        exact ih hrel hn
end
/-- What is done with the outcome of a loop or of a piece. -/
def Fl.el {S T B : Type} (o : Fl S T) (f : S → B) (g : T → B) : B :=
  match o with
  | .nx s => f s
  | .ex t => g t
def idx {α : Type} (l : List α) (i : Int) : Option α := if 0 ≤ i then l[i.toNat]? else none
theorem idx_some {α : Type} {l : List α} {i : Int} {x : α} (h : idx l i = some x) : (0 ≤ i ∧ i < l.length) ∧ l[i.toNat]? = some x := by
  unfold idx at h
  split at h
  · rename_i h0
    have := (List.getElem?_eq_some_iff.1 h).1
    exact ⟨⟨h0, by omega⟩, h⟩
  · cases h
theorem bind_some {α β : Type} {x : Option α} {f : α → Option β} {r : β} (h : x.bind f = some r) : ∃ v, x = some v ∧ f v = some r := Option.bind_eq_some_iff.1 h
theorem ite_t {α : Type} {c : Bool} {x y : Option α} {r : α} (h : (if c = true then x else y) = some r) (hc : c = true) : x = some r := by rw [if_pos hc] at h; exact h
theorem ite_f {α : Type} {c : Bool} {x y : Option α} {r : α} (h : (if c = true then x else y) = some r) (hc : c = false) : y = some r := by rw [if_neg (by simp [hc])] at h; exact h

/-! ### Entering and leaving a function -/
def frame0 : Nat → List Value → List (Nat × Value)
  | _, [] => []
  | i, v :: r => (i, v) :: frame0 (i + 1) r
theorem frame0_look : ∀ (vs : List Value) (i t : Nat) (v : Value), (frame0 i vs).lookup t = some v → i ≤ t ∧ vs[t - i]? = some v
  | [], _, _, _, h => by simp [frame0] at h
  | u :: r, i, t, v, h => by
    simp only [frame0, List.lookup_cons] at h
    by_cases ht : t = i
    · subst ht; simp at h; subst h; simp
    · rw [show (t == i) = false by simpa using ht] at h
      obtain ⟨h1, h2⟩ := frame0_look r (i + 1) t v h
      refine ⟨by omega, ?_⟩
      rw [show t - i = (t - (i + 1)) + 1 by omega, List.getElem?_cons_succ]; exact h2
section
variable {P : Program} {w : World} {a : Act} {n : Nat} {e : List (Nat × Value)}
theorem c_enter {f : Nat} {fn : Func} {c : Code} {vs : List Value} {R : Ending → World → Prop} (hf : P.funcs[f]? = some fn) (hb : fn.body = some c) (hn : fn.ntmps = n) (hl : vs.length ≤ n) (he : frame0 0 vs = e)
    (k : ∀ a, Env n a e → c.wp P (bodyPost P fn R) a w) : Calls P f vs.toArray w R := by
  refine calls_of_wp hf hb (k _ ⟨?_, rfl, fun t v ht => ?_⟩)
  · simp [hn]; omega
  · rw [← he] at ht
    have := (frame0_look vs 0 t v ht).2
    simp only [Nat.sub_zero] at this
    have hlt := (List.getElem?_eq_some_iff.1 this).1
    rw [Array.getD_eq_getD_getElem?, Array.getElem?_append_left (by simpa using hlt)]
    simp [this]
theorem c_ret {fn : Func} {R : Ending → World → Prop} {Q : Exit → Act → World → Prop} {t : Nat} {v : Value} (hE : Env n a e) (hQ : ∀ a w, bodyPost P fn R .ret a w → Q .ret a w) (hres : fn.results = #[.tmp t]) (hv : e.lookup t = some v)
    (hR : R (.returned v) w) : Code.ret.wp P Q a w :=
  wp_ret (hQ _ _ (bodyPost_ret (results_tmp hres _ _ _) hE.df (by rw [hE.get _ _ hv]; exact hR)))
theorem c_exit {Q : Exit → Act → World → Prop} {id : Nat} {K : Prop} (hQ : K → Q (.exit id) a w) (h : K) : (Code.exit id).wp P Q a w := wp_exit (hQ h)
end
end Go.Proofs.YtkcaldgoomphaaaDoor
