/- The walk library, part B: flat data, the frame of a function, the steps over scalars. -/
import Derived.Test.YtkcaldgoomphaaaDoorLibA
namespace Go.Proofs.YtkcaldgoomphaaaDoor
open Go

/-! ### Flat data -/
/-- A Go string: its bytes. -/
structure Str where
  l : List UInt8
  deriving DecidableEq, Inhabited
abbrev vI (x : Int) : Value := .int .i64 x
abbrev vU (x : Int) : Value := .int .u64 x
abbrev vB (x : UInt8) : Value := .int .u8 x.toNat
abbrev vT (x : Bool) : Value := .bool x
abbrev vS (x : Str) : Value := .string ⟨x.l.toArray⟩
instance : Flat UInt8 := ⟨1, fun x => [vB x], fun _ => rfl, fun _ v h => by simp at h; subst h; rfl⟩
instance : Flat Int := ⟨1, fun x => [vI x], fun _ => rfl, fun _ v h => by simp at h; subst h; rfl⟩
instance : Flat Bool := ⟨1, fun x => [vT x], fun _ => rfl, fun _ v h => by simp at h; subst h; rfl⟩
instance : Flat Str := ⟨1, fun x => [vS x], fun _ => rfl, fun _ v h => by simp at h; subst h; rfl⟩
def encL {α : Type} [Flat α] : List α → List Value
  | [] => []
  | x :: l => Flat.enc x ++ encL l
theorem encL_len {α : Type} [Flat α] : ∀ l : List α, (encL l).length = l.length * Flat.n α
  | [] => by simp [encL]
  | x :: l => by rw [encL, List.length_append, Flat.len, encL_len l, List.length_cons, Nat.add_mul]; omega
theorem encL_cell {α : Type} [Flat α] : ∀ l : List α, ∀ v ∈ encL l, v.oneCell' = true
  | [], v, h => by cases h
  | x :: l, v, h => by
    rcases List.mem_append.1 h with h | h
    · exact Flat.cell x v h
    · exact encL_cell l v h
instance {α : Type} [Flat α] {n : Nat} : Flat (Vector α n) := ⟨n * Flat.n α, fun v => encL v.toList, fun v => by rw [encL_len]; simp, fun v => encL_cell _⟩
abbrev enc {α : Type} [Flat α] (x : α) : List Value := Flat.enc x

abbrev wr (x : Int) : Int := IntKind.i64.wrap x
abbrev wru (x : Int) : Int := IntKind.u64.wrap x

/-! ### The frame -/
structure Env (n : Nat) (a : Act) (e : List (Nat × Value)) : Prop where
  sz : a.tmps.size = n
  df : a.defers = []
  get : ∀ t v, e.lookup t = some v → a.tmps.getD t undef = v

def opv (e : List (Nat × Value)) : Operand → Option Value
  | .tmp t => e.lookup t
  | .const v => some v
  | .global g => some (.pointer (some ⟨g, 0, none⟩))
  | .func f => some (.func (.func f) #[] #[])

section
variable {n : Nat} {a : Act} {e : List (Nat × Value)} {w w' : World} {P : Program} {ops : Array Oper} {rest : List Oper} {Q : Exit → Act → World → Prop}
theorem Env.ev (h : Env n a e) {x : Operand} {v : Value} (hx : opv e x = some v) : a.eval x = v := by
  cases x with
  | tmp t => exact h.get t v hx
  | const u => simp only [opv, Option.some.injEq] at hx; exact hx
  | global g => simpa [opv, Act.eval] using hx
  | func f => simpa [opv, Act.eval] using hx
theorem Env.put (h : Env n a e) {d : Nat} (hd : d < n) (v : Value) : Env n (a.put (some d) v) ((d, v) :: e) := by
  refine ⟨by simp [Act.put, h.sz], h.df, fun t u ht => ?_⟩
  simp only [List.lookup_cons] at ht
  by_cases hdt : t = d
  · subst hdt
    simp at ht
    subst ht
    simp [Act.put, h.sz, hd, Array.getD]
  · have : (t == d) = false := by simpa using hdt
    rw [this] at ht
    have := h.get t u ht
    simp only [Act.put, Array.getD_eq_getD_getElem?, Array.getElem?_setIfInBounds] at this ⊢
    rw [if_neg (by omega)]
    exact this
theorem Env.put_none (h : Env n a e) (v : Value) : Env n (a.put none v) e := h
/-- Skipped: the slot holds nothing of use. -/
def AllLook (e : List (Nat × Value)) : List (Nat × Value) → Prop
  | [] => True
  | p :: r => e.lookup p.1 = some p.2 ∧ AllLook e r
theorem AllLook.look {e : List (Nat × Value)} : ∀ {e' : List (Nat × Value)}, AllLook e e' → ∀ t v, e'.lookup t = some v → e.lookup t = some v
  | [], _, t, v, h => by simp at h
  | (s, u) :: r, h, t, v, hv => by
    simp only [List.lookup_cons] at hv
    by_cases ht : t = s
    · subst ht; simp at hv; subst hv; exact h.1
    · rw [show (t == s) = false by simpa using ht] at hv; exact AllLook.look h.2 t v hv
theorem Env.sub {e' : List (Nat × Value)} (h : Env n a e) (hs : AllLook e e') : Env n a e' := ⟨h.sz, h.df, fun t v ht => h.get t v (hs.look t v ht)⟩

/-- An operation that is to be carried out. -/
abbrev Goes (ops : Array Oper) (o : Oper) (a : Act) : Prop := Region.wanted o (yielded ops a.tmps) = true
theorem goes_none {d : Option Tmp} {x : Op} {t : TypeId} {p : String} {af : Array Edge} : Goes ops ⟨d, x, t, p, af, none⟩ a := rfl
theorem Env.yield (h : Env n a e) {j t : Nat} {b : Bool} (hj : (ops[j]?).bind (·.dst) = some t) (ht : e.lookup t = some (.bool b)) : yielded ops a.tmps j = some b := by
  unfold yielded
  rw [hj]
  have := h.get t _ ht
  rw [Array.getD_eq_getD_getElem?] at this
  cases hq : a.tmps[t]? with
  | none => rw [hq] at this; simp [undef] at this
  | some v => rw [hq] at this; simp only [Option.getD_some] at this; subst this; simp [hq]
theorem goes_yes (h : Env n a e) {j t : Nat} {b : Bool} {d : Option Tmp} {x : Op} {ty : TypeId} {p : String} {af : Array Edge} (hj : (ops[j]?).bind (·.dst) = some t) (ht : e.lookup t = some (.bool b)) :
    Goes ops ⟨d, x, ty, p, af, some (j, b)⟩ a := by
  simp [Goes, Region.wanted, h.yield hj ht]
/-- An operation whose guard says no. -/
theorem s_skip (h : Env n a e) {j t d : Nat} {b b' : Bool} {x : Op} {ty : TypeId} {p : String} {af : Array Edge} (hj : (ops[j]?).bind (·.dst) = some t) (ht : e.lookup t = some (.bool b))
    (hb : b = !b') (hd : d < n) (k : ∀ a, Env n a ((d, undef) :: e) → wpList P ops Q rest a w) : wpList P ops Q (⟨some d, x, ty, p, af, some (j, b')⟩ :: rest) a w := by
  unfold wpList
  rw [if_neg (by simp [Region.wanted, h.yield hj ht, hb])]
  exact k _ (h.put hd _)
theorem s_skip0 (h : Env n a e) {j t : Nat} {b b' : Bool} {x : Op} {ty : TypeId} {p : String} {af : Array Edge} (hj : (ops[j]?).bind (·.dst) = some t) (ht : e.lookup t = some (.bool b))
    (hb : b = !b') (k : wpList P ops Q rest a w) : wpList P ops Q (⟨none, x, ty, p, af, some (j, b')⟩ :: rest) a w := by
  unfold wpList
  rw [if_neg (by simp [Region.wanted, h.yield hj ht, hb])]
  exact k

theorem s_val {o : Oper} {d : Nat} {v : Value} (h : Env n a e) (hw : Goes ops o a) (ho : o.dst = some d) (hd : d < n) (hr : (execOp a.eval o).run P w = .ok (.value v) w')
    (k : ∀ a, Env n a ((d, v) :: e) → wpList P ops Q rest a w') : wpList P ops Q (o :: rest) a w := by
  unfold wpList
  rw [if_pos hw]
  refine .inl ?_
  unfold Oper.wp
  rw [hr, Oper.upon_value, ho]
  exact k _ (h.put hd _)
theorem s_unit {o : Oper} (h : Env n a e) (hw : Goes ops o a) (ho : o.dst = none) (hr : (execOp a.eval o).run P w = .ok .skip w')
    (k : ∀ a, Env n a e → wpList P ops Q rest a w') : wpList P ops Q (o :: rest) a w := by
  unfold wpList
  rw [if_pos hw]
  refine .inl ?_
  unfold Oper.wp
  rw [hr, Oper.upon_skip, ho]
  exact k _ h

variable {d : Nat} {ty ty' : TypeId} {pos : String} {af : Array Edge} {g : Option (Nat × Bool)} {x y z : Operand} {v : Value}

theorem s_move (h : Env n a e) (hw : Goes ops ⟨some d, .move x, ty, pos, af, g⟩ a) (hd : d < n) (hx : opv e x = some v)
    (k : ∀ a, Env n a ((d, v) :: e) → wpList P ops Q rest a w) : wpList P ops Q (⟨some d, .move x, ty, pos, af, g⟩ :: rest) a w :=
  s_val h hw rfl hd (by simp only [execOp, h.ev hx]; rfl) k
theorem s_assign (h : Env n a e) (hw : Goes ops ⟨some d, .assign x, ty, pos, af, g⟩ a) (hd : d < n) (hx : opv e x = some v)
    (k : ∀ a, Env n a ((d, v) :: e) → wpList P ops Q rest a w) : wpList P ops Q (⟨some d, .assign x, ty, pos, af, g⟩ :: rest) a w :=
  s_val h hw rfl hd (by simp only [execOp, h.ev hx]; rfl) k
theorem s_pick {c : Bool} {u : Value} (h : Env n a e) (hw : Goes ops ⟨some d, .pick x y z, ty, pos, af, g⟩ a) (hd : d < n) (hx : opv e x = some (vT c)) (hy : c = true → opv e y = some v) (hz : c = false → opv e z = some u)
    (k : ∀ a, Env n a ((d, if c then v else u) :: e) → wpList P ops Q rest a w) : wpList P ops Q (⟨some d, .pick x y z, ty, pos, af, g⟩ :: rest) a w :=
  s_val h hw rfl hd (by
    simp only [execOp, h.ev hx]
    cases c
    · simp [asBool, h.ev (hz rfl)]
    · simp [asBool, h.ev (hy rfl)]) k
/-- The two sides of a choice, the test known. -/
theorem s_pickT (h : Env n a e) (hw : Goes ops ⟨some d, .pick x y z, ty, pos, af, g⟩ a) (hd : d < n) (hx : opv e x = some (vT true)) (hy : opv e y = some v)
    (k : ∀ a, Env n a ((d, v) :: e) → wpList P ops Q rest a w) : wpList P ops Q (⟨some d, .pick x y z, ty, pos, af, g⟩ :: rest) a w :=
  s_val h hw rfl hd (by simp only [execOp, h.ev hx]; simp [asBool, h.ev hy]) k
theorem s_pickF (h : Env n a e) (hw : Goes ops ⟨some d, .pick x y z, ty, pos, af, g⟩ a) (hd : d < n) (hx : opv e x = some (vT false)) (hz : opv e z = some v)
    (k : ∀ a, Env n a ((d, v) :: e) → wpList P ops Q rest a w) : wpList P ops Q (⟨some d, .pick x y z, ty, pos, af, g⟩ :: rest) a w :=
  s_val h hw rfl hd (by simp only [execOp, h.ev hx]; simp [asBool, h.ev hz]) k

/-! ### Operators -/
def shV (op : BinOp) (k : IntKind) (a b : Int) : Option Value :=
  if b < 0 then none else
  match op with
  | .shl => some (.int k (k.wrap (a * 2 ^ (min b.toNat k.bits))))
  | .shr => some (.int k (a.fdiv (2 ^ (min b.toNat k.bits))))
  | _ => none
def intV (op : BinOp) (k : IntKind) (a b : Int) : Option Value :=
  match op with
  | .add => some (.int k (k.wrap (a + b)))
  | .sub => some (.int k (k.wrap (a - b)))
  | .mul => some (.int k (k.wrap (a * b)))
  | .quo => if b = 0 then none else some (.int k (k.wrap (a.tdiv b)))
  | .rem => if b = 0 then none else some (.int k (a.tmod b))
  | .and => some (.int k (k.wrap (BitVec.ofInt k.bits a &&& BitVec.ofInt k.bits b).toNat))
  | .or => some (.int k (k.wrap (BitVec.ofInt k.bits a ||| BitVec.ofInt k.bits b).toNat))
  | .xor => some (.int k (k.wrap (BitVec.ofInt k.bits a ^^^ BitVec.ofInt k.bits b).toNat))
  | .andNot => some (.int k (k.wrap (BitVec.ofInt k.bits a &&& ~~~ (BitVec.ofInt k.bits b)).toNat))
  | .eql => some (.bool (a == b))
  | .neq => some (.bool (a != b))
  | .lss => some (.bool (decide (a < b)))
  | .leq => some (.bool (decide (a ≤ b)))
  | .gtr => some (.bool (decide (a > b)))
  | .geq => some (.bool (decide (a ≥ b)))
  | _ => none
theorem run_int {op : BinOp} {t : TypeId} {k : IntKind} {a b : Int} {v : Value} (h : intV op k a b = some v) : (binOp op t (.int k a) (.int k b)).run P w = .ok v w := by
  cases op <;> simp only [intV] at h <;> (try split at h) <;> (try (simp at h; done)) <;> simp only [Option.some.injEq] at h <;> subst h <;>
    simp [binOp, Op.intArith, Op.intDiv, Op.intBits, Op.intCmp, *]
theorem run_sh {op : BinOp} {t : TypeId} {k j : IntKind} {a b : Int} {v : Value} (h : shV op k a b = some v) : (binOp op t (.int k a) (.int j b)).run P w = .ok v w := by
  unfold shV at h
  split at h
  · simp at h
  · rename_i hb
    cases op <;> simp only [] at h <;> (try (simp at h; done)) <;> simp only [Option.some.injEq] at h <;> subst h <;> simp [binOp, Op.shift, hb]
theorem eqGuard_int {op : BinOp} {t : TypeId} {x y : Operand} {k j : IntKind} {a b : Int} : (eqGuard op t x y (.int k a) (.int j b)).run P w = .ok () w := by
  cases op <;> simp [eqGuard]
theorem s_int {op : BinOp} {t2 : TypeId} {K : IntKind} {p q : Int} (h : Env n a e) (hw : Goes ops ⟨some d, .binOp op ty' x y t2, ty, pos, af, g⟩ a) (hd : d < n) (hx : opv e x = some (.int K p)) (hy : opv e y = some (.int K q))
    (hv : intV op K p q = some v) (k : ∀ a, Env n a ((d, v) :: e) → wpList P ops Q rest a w) : wpList P ops Q (⟨some d, .binOp op ty' x y t2, ty, pos, af, g⟩ :: rest) a w :=
  s_val h hw rfl hd (by simp only [execOp, h.ev hx, h.ev hy]; simp [eqGuard_int, run_int hv]) k
theorem s_sh {op : BinOp} {t2 : TypeId} {K J : IntKind} {p q : Int} (h : Env n a e) (hw : Goes ops ⟨some d, .binOp op ty' x y t2, ty, pos, af, g⟩ a) (hd : d < n) (hx : opv e x = some (.int K p)) (hy : opv e y = some (.int J q))
    (hv : shV op K p q = some v) (k : ∀ a, Env n a ((d, v) :: e) → wpList P ops Q rest a w) : wpList P ops Q (⟨some d, .binOp op ty' x y t2, ty, pos, af, g⟩ :: rest) a w :=
  s_val h hw rfl hd (by simp only [execOp, h.ev hx, h.ev hy]; simp [eqGuard_int, run_sh hv]) k
theorem s_not {p : Bool} (h : Env n a e) (hw : Goes ops ⟨some d, .unOp .not ty' x, ty, pos, af, g⟩ a) (hd : d < n) (hx : opv e x = some (vT p))
    (k : ∀ a, Env n a ((d, vT (!p)) :: e) → wpList P ops Q rest a w) : wpList P ops Q (⟨some d, .unOp .not ty' x, ty, pos, af, g⟩ :: rest) a w :=
  s_val h hw rfl hd (by simp only [execOp, h.ev hx]; simp [Op.unary]) k
theorem s_neg {K : IntKind} {p : Int} (h : Env n a e) (hw : Goes ops ⟨some d, .unOp .neg ty' x, ty, pos, af, g⟩ a) (hd : d < n) (hx : opv e x = some (.int K p))
    (k : ∀ a, Env n a ((d, .int K (K.wrap (0 - p))) :: e) → wpList P ops Q rest a w) : wpList P ops Q (⟨some d, .unOp .neg ty' x, ty, pos, af, g⟩ :: rest) a w :=
  s_val h hw rfl hd (by simp only [execOp, h.ev hx]; simp [Op.unary, Op.intArith]) k
/-- A conversion between integer kinds. -/
theorem s_conv {src dst : TypeId} {J K : IntKind} {p : Int} {D : TypeDesc} (h : Env n a e) (hw : Goes ops ⟨some d, .convert src dst x, ty, pos, af, g⟩ a) (hd : d < n) (hx : opv e x = some (.int J p))
    (hs : P.underlying src = some D) (ht : P.underlying dst = some (.int K))
    (k : ∀ a, Env n a ((d, .int K (K.wrap p)) :: e) → wpList P ops Q rest a w) : wpList P ops Q (⟨some d, .convert src dst x, ty, pos, af, g⟩ :: rest) a w :=
  s_val h hw rfl hd (by simp only [execOp, h.ev hx]; simp [convert, underlying, program, Sem.run, hs, ht, Conv.intToInt]) k
end

/-! ### The operators over bytes -/
theorem u8_wrap (n : Nat) : IntKind.u8.wrap (n : Int) = ((n % 256 : Nat) : Int) := by
  simp [IntKind.wrap, IntKind.bits, IntKind.signed]
theorem u8_ofInt (x : UInt8) : BitVec.ofInt 8 (x.toNat : Int) = x.toBitVec := by
  apply BitVec.eq_of_toNat_eq
  simp
theorem bB_add (p q : UInt8) : intV .add .u8 p.toNat q.toNat = some (vB (p + q)) := by
  simp [intV, ← Int.natCast_add, u8_wrap]
theorem bB_xor (p q : UInt8) : intV .xor .u8 p.toNat q.toNat = some (vB (p ^^^ q)) := by
  simp only [intV, IntKind.bits, u8_ofInt, u8_wrap]
  congr 3
  rw [Nat.mod_eq_of_lt (BitVec.isLt _)]; rfl
theorem bB_and (p q : UInt8) : intV .and .u8 p.toNat q.toNat = some (vB (p &&& q)) := by
  simp only [intV, IntKind.bits, u8_ofInt, u8_wrap]
  congr 3
  rw [Nat.mod_eq_of_lt (BitVec.isLt _)]; rfl
theorem bB_or (p q : UInt8) : intV .or .u8 p.toNat q.toNat = some (vB (p ||| q)) := by
  simp only [intV, IntKind.bits, u8_ofInt, u8_wrap]
  congr 3
  rw [Nat.mod_eq_of_lt (BitVec.isLt _)]; rfl
theorem u8_toNat_inj (p q : UInt8) : ((p.toNat : Int) = q.toNat) ↔ p = q := by
  rw [Int.natCast_inj, UInt8.toNat_inj]
theorem bB_eql (p q : UInt8) : intV .eql .u8 p.toNat q.toNat = some (vT (p == q)) := by
  simp only [intV]; congr 2; rw [Bool.eq_iff_iff]; simp [u8_toNat_inj]
theorem bB_neq (p q : UInt8) : intV .neq .u8 p.toNat q.toNat = some (vT (p != q)) := by
  simp only [intV]; congr 2; rw [Bool.eq_iff_iff]; simp [u8_toNat_inj]
theorem bB_lss (p q : UInt8) : intV .lss .u8 p.toNat q.toNat = some (vT (decide (p < q))) := by
  simp only [intV]; congr 2; rw [decide_eq_decide]; rw [UInt8.lt_iff_toNat_lt]; omega
theorem bB_leq (p q : UInt8) : intV .leq .u8 p.toNat q.toNat = some (vT (decide (p ≤ q))) := by
  simp only [intV]; congr 2; rw [decide_eq_decide]; rw [UInt8.le_iff_toNat_le]; omega
theorem bB_gtr (p q : UInt8) : intV .gtr .u8 p.toNat q.toNat = some (vT (decide (p > q))) := by
  simp only [intV]; congr 2; rw [decide_eq_decide]; show (p.toNat : Int) > q.toNat ↔ q < p; rw [UInt8.lt_iff_toNat_lt]; omega
theorem bB_geq (p q : UInt8) : intV .geq .u8 p.toNat q.toNat = some (vT (decide (p ≥ q))) := by
  simp only [intV]; congr 2; rw [decide_eq_decide]; show (p.toNat : Int) ≥ q.toNat ↔ q ≤ p; rw [UInt8.le_iff_toNat_le]; omega
theorem bB_sub (p q : UInt8) : intV .sub .u8 p.toNat q.toNat = some (vB (p - q)) := by
  simp only [intV]
  congr 2
  simp only [IntKind.wrap, IntKind.bits, IntKind.signed]
  have := p.toNat_lt; have := q.toNat_lt
  simp [UInt8.toNat_sub]
  omega
theorem bB_quo (p q : UInt8) (hq : q ≠ 0) : intV .quo .u8 p.toNat q.toNat = some (vB (p / q)) := by
  have h0 : (q.toNat : Int) ≠ 0 := by intro h; apply hq; apply UInt8.toNat_inj.1; simpa using h
  have := p.toNat_lt
  have hd : p.toNat / q.toNat < 256 := Nat.lt_of_le_of_lt (Nat.div_le_self _ _) this
  simp only [intV, if_neg h0]
  congr 2
  rw [Int.tdiv_eq_ediv_of_nonneg (by omega), ← Int.natCast_ediv, u8_wrap, Nat.mod_eq_of_lt hd]; simp
theorem bB_rem (p q : UInt8) (hq : q ≠ 0) : intV .rem .u8 p.toNat q.toNat = some (vB (p % q)) := by
  have h0 : (q.toNat : Int) ≠ 0 := by intro h; apply hq; apply UInt8.toNat_inj.1; simpa using h
  simp only [intV, if_neg h0]
  congr 2
theorem bB_mul (p q : UInt8) : intV .mul .u8 p.toNat q.toNat = some (vB (p * q)) := by
  simp [intV, ← Int.natCast_mul, u8_wrap]
/-- A byte out of an integer. -/
def byteI (x : Int) : UInt8 := UInt8.ofNat (x % 256).toNat
theorem byteI_val (x : Int) : Value.int .u8 (IntKind.u8.wrap x) = vB (byteI x) := by
  simp only [vB, byteI, IntKind.wrap, IntKind.bits, IntKind.signed]
  congr 1
  have h1 : 0 ≤ x % 256 := Int.emod_nonneg _ (by omega)
  have h2 : x % 256 < 256 := Int.emod_lt_of_pos _ (by omega)
  simp only [Bool.false_and, Bool.false_eq_true, if_false]
  show x % 256 = _
  have : (UInt8.ofNat (x % 256).toNat).toNat = (x % 256).toNat := by simp; omega
  rw [this]; omega
theorem byte_wide (x : UInt8) : IntKind.i64.wrap (x.toNat : Int) = x.toNat := by
  have := x.toNat_lt
  simp only [IntKind.wrap, IntKind.bits, IntKind.signed]
  simp
  omega
theorem byte_wideU (x : UInt8) : IntKind.u64.wrap (x.toNat : Int) = x.toNat := by
  have := x.toNat_lt
  simp only [IntKind.wrap, IntKind.bits, IntKind.signed]
  simp
  omega
theorem wr_id {x : Int} (h : -9223372036854775808 ≤ x ∧ x ≤ 9223372036854775807) : wr x = x := by
  simp only [wr, IntKind.wrap, IntKind.bits, IntKind.signed]
  simp
  omega
/-- The value of a byte as an integer. -/
abbrev bI (x : UInt8) : Int := x.toNat

/-- A shift of a byte. -/
def shlB (p : UInt8) (q : Int) : UInt8 := byteI ((p.toNat : Int) * 2 ^ (min q.toNat 8))
def shrB (p : UInt8) (q : Int) : UInt8 := byteI ((p.toNat : Int).fdiv (2 ^ (min q.toNat 8)))
theorem bB_shl (p : UInt8) (q : Int) (h : 0 ≤ q) : shV .shl .u8 p.toNat q = some (vB (shlB p q)) := by
  simp only [shV, if_neg (Int.not_lt.2 h), IntKind.bits, shlB]
  rw [byteI_val]
theorem bB_shr (p : UInt8) (q : Int) (h : 0 ≤ q) : shV .shr .u8 p.toNat q = some (vB (shrB p q)) := by
  simp only [shV, if_neg (Int.not_lt.2 h), IntKind.bits, shrB]
  rw [← byteI_val]
  congr 2
  have h1 := p.toNat_lt
  have h2 : (p.toNat : Int).fdiv (2 ^ (min q.toNat 8)) = ((p.toNat / 2 ^ (min q.toNat 8) : Nat) : Int) := by
    rw [Int.fdiv_eq_ediv_of_nonneg _ (by exact_mod_cast Nat.zero_le _)]; simp
  rw [h2, u8_wrap, Nat.mod_eq_of_lt]
  exact Nat.lt_of_le_of_lt (Nat.div_le_self _ _) h1
/-- Shifts, 64 bits. -/
def shlI (p q : Int) : Int := wr (p * 2 ^ (min q.toNat 64))
def shrI (p q : Int) : Int := p.fdiv (2 ^ (min q.toNat 64))
theorem bI_shl (p q : Int) (h : 0 ≤ q) : shV .shl .i64 p q = some (vI (shlI p q)) := by simp [shV, Int.not_lt.2 h, shlI, IntKind.bits]
theorem bI_shr (p q : Int) (h : 0 ≤ q) : shV .shr .i64 p q = some (vI (shrI p q)) := by simp [shV, Int.not_lt.2 h, shrI, IntKind.bits]
def andI (p q : Int) : Int := wr (BitVec.ofInt 64 p &&& BitVec.ofInt 64 q).toNat
def orI (p q : Int) : Int := wr (BitVec.ofInt 64 p ||| BitVec.ofInt 64 q).toNat
def xorI (p q : Int) : Int := wr (BitVec.ofInt 64 p ^^^ BitVec.ofInt 64 q).toNat
theorem bI_quo (p q : Int) (h : q ≠ 0) : intV .quo .i64 p q = some (vI (wr (p.tdiv q))) := by simp [intV, h]
theorem bI_rem (p q : Int) (h : q ≠ 0) : intV .rem .i64 p q = some (vI (p.tmod q)) := by simp [intV, h]
end Go.Proofs.YtkcaldgoomphaaaDoor
