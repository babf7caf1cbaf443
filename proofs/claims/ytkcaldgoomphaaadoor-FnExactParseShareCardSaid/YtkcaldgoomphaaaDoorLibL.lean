/- The walk library, part L: strings; comparisons of arrays. -/
import Derived.Test.YtkcaldgoomphaaaDoorLibK
import Derived.ChangeKeysEq
namespace Go.Proofs.YtkcaldgoomphaaaDoor
open Go

/-! ### Comparisons of flat data -/
def asV (ag : Bool) (cs : List Value) : Value := if ag = true then .agg cs.toArray else cs.headD undef
abbrev EqOk (P : Program) (t : TypeId) (k : Nat) (α : Type) [Flat α] [DecidableEq α] (ag : Bool) : Prop :=
  ∀ (d : Nat) (w : World) (x y : α), (Op.equalIn (d + k) t (asV ag (Flat.enc x)) (asV ag (Flat.enc y))).run P w = .ok (decide (x = y)) w
section
variable {P : Program} {t e : TypeId}
theorem beq_dec {α : Type} [DecidableEq α] (x y : α) : (x == y) = decide (x = y) := rfl
theorem eqok_byte (h : P.underlying t = some (.int .u8)) : EqOk P t 1 UInt8 false := by
  intro d w x y
  have := run_equalIn_int (P := P) w d t .u8 .u8 x.toNat y.toNat h
  show (Op.equalIn (d + 1) t (vB x) (vB y)).run P w = _
  rw [this]
  congr 1
  rw [beq_dec, decide_eq_decide, u8_toNat_inj]
theorem eqok_int (h : P.underlying t = some (.int .i64)) : EqOk P t 1 Int false := by
  intro d w x y
  exact run_equalIn_int (P := P) w d t .i64 .i64 x y h
theorem eqok_bool (h : P.underlying t = some .bool) : EqOk P t 1 Bool false := by
  intro d w x y
  have := run_equalIn_bool' (P := P) w d t x y h
  show (Op.equalIn (d + 1) t (vT x) (vT y)).run P w = _
  rw [this]; cases x <;> cases y <;> rfl
theorem encL_get {α : Type} [Flat α] {l : List α} {i : Nat} {x : α} (h : l[i]? = some x) : ((encL l).drop (i * Flat.n α)).take (Flat.n α) = Flat.enc x := by
  have hl : i ≤ l.length := Nat.le_of_lt (List.getElem?_eq_some_iff.1 h).1
  rw [encL_split h]
  have e1 : (encL (l.take i)).length = i * Flat.n α := by rw [encL_len, List.length_take, Nat.min_eq_left hl]
  rw [← e1, List.drop_left, ← Flat.len x, List.take_left]
theorem run_partV {α : Type} [Flat α] {D : TypeDesc} {by_ : Nat} {z : List Value} (he : Ty P e D (Flat.n α) by_ z) {ag : Bool} (hag : isAggD D = ag) (h1 : ag = false → Flat.n α = 1) {l : List α} {i : Nat} {x : α} (h : l[i]? = some x) (w : World) :
    (part e (encL l).toArray (i * Flat.n α)).run P w = .ok (asV ag (Flat.enc x)) w := by
  have hg := encL_get h
  unfold part
  simp only [Sem.run_bind, run_isAgg he, Result.andThen_ok, hag]
  cases ag with
  | true =>
    simp only [if_true, Sem.run_bind, run_sizeOf he, Result.andThen_ok, Sem.run_pure, asV]
    congr 2
    apply Array.ext'
    rw [Array.toList_extract]
    simp only [List.extract_eq_take_drop]
    rw [← hg, show i * Flat.n α + Flat.n α - i * Flat.n α = Flat.n α by omega]
  | false =>
    have h1 := h1 rfl
    have : (encL l).toArray[i * Flat.n α]? = some (asV false (Flat.enc x)) := by
      rw [List.getElem?_toArray]
      have hlen := Flat.len x
      rw [h1] at hg hlen
      have e2 : (encL l)[i * 1]? = ((encL l).drop (i * 1))[0]? := by rw [List.getElem?_drop]; rfl
      rw [h1, e2]
      cases hd : (encL l).drop (i * 1) with
      | nil => rw [hd] at hg; simp at hg; rw [hg] at hlen; simp at hlen
      | cons a r => rw [hd] at hg; simp at hg; rw [← hg]; rfl
    simp [this]
theorem run_itemsV {α : Type} [Flat α] [DecidableEq α] {D : TypeDesc} {by_ k : Nat} {z : List Value} (he : Ty P e D (Flat.n α) by_ z) {ag : Bool} (hag : isAggD D = ag) (h1 : ag = false → Flat.n α = 1) (hq : EqOk P e k α ag) (d : Nat) (w : World) {l m : List α} :
    ∀ (is : List Nat), (∀ i ∈ is, i < l.length ∧ i < m.length) → (Op.eqItems (d + k) e (Flat.n α) (encL l).toArray (encL m).toArray is).run P w = .ok (decide (∀ i ∈ is, l[i]? = m[i]?)) w
  | [], _ => by simp [Op.eqItems]
  | i :: is, h => by
    obtain ⟨hl, hm⟩ := h i (by simp)
    have ih := run_itemsV he hag h1 hq d w is (fun j hj => h j (by simp [hj]))
    simp only [Op.eqItems, Sem.run_bind, run_partV he hag h1 (List.getElem?_eq_getElem hl), run_partV he hag h1 (List.getElem?_eq_getElem hm), Result.andThen_ok, hq d w]
    by_cases hx : l[i] = m[i]
    · simp only [hx, decide_true, Bool.not_true, Bool.false_eq_true, if_false, ih]
      congr 1
      rw [decide_eq_decide]
      simp [List.getElem?_eq_getElem hl, List.getElem?_eq_getElem hm, hx]
    · simp only [hx, decide_false, Bool.not_false, if_true, Sem.run_pure]
      congr 1
      symm
      rw [decide_eq_false_iff_not]
      intro hall
      have := hall i (by simp)
      rw [List.getElem?_eq_getElem hl, List.getElem?_eq_getElem hm] at this
      exact hx (by simpa using this)
theorem eqok_arr {α : Type} [Flat α] [DecidableEq α] {n sz by_ k : Nat} {z : List Value} {D : TypeDesc} (ht : P.underlying t = some (.array n e)) (he : Ty P e D sz by_ z) (hn : sz = Flat.n α) (ag : Bool) (hag : isAggD D = ag) (h1 : ag = false → Flat.n α = 1) (hq : EqOk P e k α ag) :
    EqOk P t (k + 1) (Vector α n) true := by
  subst hn
  intro d w x y
  obtain ⟨i, v, hi, hs, _⟩ := he.get
  have hc : P.cellsOf e = Flat.n α := by simp [Program.cellsOf, hi, hs]
  have h2 := run_equalIn_array (P := P) w (d + k) (Flat.enc x).toArray (Flat.enc y).toArray ht hi
  show (Op.equalIn ((d + k) + 1) t (.agg (Flat.enc x).toArray) (.agg (Flat.enc y).toArray)).run P w = _
  rw [h2, hc]
  have h3 := run_itemsV he hag h1 hq d w (l := x.toList) (m := y.toList) (List.range n) (by intro i hi; simpa using hi)
  rw [show Flat.enc x = encL x.toList from rfl, show Flat.enc y = encL y.toList from rfl, h3]
  congr 1
  rw [decide_eq_decide]
  constructor
  · intro h
    apply Vector.ext
    intro i hi
    have := h i (by simpa using hi)
    simpa [hi] using this
  · rintro rfl i _; rfl
end
section
variable {n : Nat} {a : Act} {e : List (Nat × Value)} {w w' : World} {P : Program} {ops : Array Oper} {rest : List Oper} {Q : Exit → Act → World → Prop}
variable {d : Nat} {ty t : TypeId} {pos : String} {af : Array Edge} {g : Option (Nat × Bool)} {x y : Operand} {v u : Value}
variable {St : Nat → Prop} {w0 : World} {its : List Item}
theorem s_eqA {α : Type} [Flat α] [DecidableEq α] {k0 : Nat} {p q : α} {y' : TypeId} (h : Env n a e) (hw : Goes ops ⟨some d, .binOp .eql t x y y', ty, pos, af, g⟩ a) (hd : d < n) (hx : opv e x = some (.agg (Flat.enc p).toArray)) (hy : opv e y = some (.agg (Flat.enc q).toArray))
    (hq : EqOk P t k0 α true) (hk : k0 ≤ 10000) (hg : P.eqGuardType P.depth t = false)
    (k : ∀ a, Env n a ((d, vT (decide (p = q))) :: e) → wpList P ops Q rest a w) : wpList P ops Q (⟨some d, .binOp .eql t x y y', ty, pos, af, g⟩ :: rest) a w := by
  have he := hq (10000 - k0) w p q
  rw [show 10000 - k0 + k0 = 10000 by omega] at he
  have he' : (Op.equal t (.agg (Flat.enc p).toArray) (.agg (Flat.enc q).toArray)).run P w = .ok (decide (p = q)) w := he
  have hgd : (eqGuard .eql t x y (.agg (Flat.enc p).toArray) (.agg (Flat.enc q).toArray)).run P w = .ok () w := by simp [eqGuard, run_program, hg]
  have hb : (binOp .eql t (.agg (Flat.enc p).toArray) (.agg (Flat.enc q).toArray)).run P w = .ok (vT (decide (p = q))) w := by
    simp only [binOp, Sem.run_bind, he', Result.andThen_ok, Sem.run_pure]
  exact s_val h hw rfl hd (by simp only [execOp, h.ev hx, h.ev hy, Sem.run_bind, hgd, hb, Result.andThen_ok]; rfl) k
theorem s_neA {α : Type} [Flat α] [DecidableEq α] {k0 : Nat} {p q : α} {y' : TypeId} (h : Env n a e) (hw : Goes ops ⟨some d, .binOp .neq t x y y', ty, pos, af, g⟩ a) (hd : d < n) (hx : opv e x = some (.agg (Flat.enc p).toArray)) (hy : opv e y = some (.agg (Flat.enc q).toArray))
    (hq : EqOk P t k0 α true) (hk : k0 ≤ 10000) (hg : P.eqGuardType P.depth t = false)
    (k : ∀ a, Env n a ((d, vT (!decide (p = q))) :: e) → wpList P ops Q rest a w) : wpList P ops Q (⟨some d, .binOp .neq t x y y', ty, pos, af, g⟩ :: rest) a w := by
  have he := hq (10000 - k0) w p q
  rw [show 10000 - k0 + k0 = 10000 by omega] at he
  have he' : (Op.equal t (.agg (Flat.enc p).toArray) (.agg (Flat.enc q).toArray)).run P w = .ok (decide (p = q)) w := he
  have hgd : (eqGuard .neq t x y (.agg (Flat.enc p).toArray) (.agg (Flat.enc q).toArray)).run P w = .ok () w := by simp [eqGuard, run_program, hg]
  have hb : (binOp .neq t (.agg (Flat.enc p).toArray) (.agg (Flat.enc q).toArray)).run P w = .ok (vT (!decide (p = q))) w := by
    simp only [binOp, Sem.run_bind, he', Result.andThen_ok, Sem.run_pure]
  exact s_val h hw rfl hd (by simp only [execOp, h.ev hx, h.ev hy, Sem.run_bind, hgd, hb, Result.andThen_ok]; rfl) k

/-! ### Strings -/
theorem s_bytesStr {S : Nat → Prop} {l : List UInt8} {fp : List Nat} {src dst el : TypeId} (h : Env n a e) (hw : Goes ops ⟨some d, .convert src dst x, ty, pos, af, g⟩ a) (hd : d < n) (hx : opv e x = some v)
    (hs : P.underlying src = some (.slice el)) (he : P.underlying el = some (.int .u8)) (ht : P.underlying dst = some .string) (hsat : Rep.sat S w l [v] fp)
    (k : ∀ a, Env n a ((d, vS ⟨l⟩) :: e) → wpList P ops Q rest a w) : wpList P ops Q (⟨some d, .convert src dst x, ty, pos, af, g⟩ :: rest) a w := by
  refine s_val h hw rfl hd (w' := w) ?_ k
  obtain ⟨p, cap, hv, hc, hp⟩ := hsat
  simp only [List.cons.injEq, and_true] at hv
  subst hv
  simp only [execOp, h.ev hx]
  cases p with
  | none =>
    have : l = [] := List.eq_nil_of_length_eq_zero (by have := hp.1; omega)
    subst this
    simp only [Sem.run_bind, run_convert_bytes_string w src dst el none _ _ hs he ht]
    rfl
  | some q =>
    obtain ⟨h1, ecs, fpe, h2, h3, _⟩ := hp
    obtain ⟨rfl, rfl⟩ := flat_elems.1 h2
    have hcells : ∀ j (hj : j < l.length), w.cell? (q.add j) = some (.int .u8 (l[j].toNat : Int)) := by
      intro j hj
      have hq := h1 (by omega)
      obtain ⟨q1, q2, q3⟩ := q
      simp only at hq
      subst hq
      rw [Addr.add_lit]
      exact h3 j _ (by rw [enc_nums]; simp [hj])
    simp only [Sem.run_bind, run_convert_bytes_back w src dst el q cap l hs he ht hcells]
    rfl
theorem s_strBytes {s : Str} {src dst el : TypeId} (h : Env n a e) (hM : M St w0 w its) (hw : Goes ops ⟨some d, .convert src dst x, ty, pos, af, g⟩ a) (hd : d < n) (hx : opv e x = some (vS s))
    (hs : P.underlying src = some .string) (ht : P.underlying dst = some (.slice el)) (he : P.underlying el = some (.int .u8))
    (k : ∀ v w a, M St w0 w (osl NoB s.l v :: its) → Env n a ((d, v) :: e) → wpList P ops Q rest a w) : wpList P ops Q (⟨some d, .convert src dst x, ty, pos, af, g⟩ :: rest) a w := by
  have hr := run_bytes_of_string (P := P) w src dst el ⟨s.l.toArray⟩ hs ht he
  have hsz : (⟨s.l.toArray⟩ : ByteArray).size = s.l.length := by simp [ByteArray.size]
  rw [hsz] at hr
  refine s_val h hw rfl hd (v := _) (w' := _) (by simp only [execOp, h.ev hx]; simp only [Sem.run_bind, hr]; rfl) fun a ha => k _ _ _ ?_ ha
  have hst := hM.st'
  have hg := grownCap_ge w s.l.length 0 el
  generalize grownCap w s.l.length 0 el = cap at hg ⊢
  have hMd : M St w0 w.drew its := by
    obtain ⟨h1, h2, h3⟩ := hM
    exact ⟨h1.drew, h2, by obtain ⟨fp, k1, k2, k3⟩ := h3; exact ⟨fp, k1.loc (fun _ _ => rfl), k2, k3⟩⟩
  have hrow : (bytesRow ⟨s.l.toArray⟩ cap).toList = encL s.l ++ List.replicate (cap - s.l.length) (.int .u8 0) := by
    simp [bytesRow, enc_nums, hsz]
  have hrl : (bytesRow ⟨s.l.toArray⟩ cap).size = cap := by
    have := congrArg List.length hrow
    rw [List.length_append, encL_len, List.length_replicate] at this
    have h1 : Flat.n UInt8 = 1 := rfl
    simp only [Array.length_toList, h1] at this
    omega
  have hnew := heap_alloc_new w.drew (.cells (bytesRow ⟨s.l.toArray⟩ cap) el ((bytesRow ⟨s.l.toArray⟩ cap).size, (bytesRow ⟨s.l.toArray⟩ cap).size + 1))
  have hadd := hMd.addS (new := [osl NoB s.l (.slice (some ⟨w.heap.size, 0, none⟩) s.l.length cap)]) (Kept.alloc w.drew (.cells (bytesRow ⟨s.l.toArray⟩ cap) el ((bytesRow ⟨s.l.toArray⟩ cap).size, (bytesRow ⟨s.l.toArray⟩ cap).size + 1)))
    ⟨[w.heap.size], ⟨[w.heap.size], [], rfl, osl_loc noB, ⟨some ⟨w.heap.size, 0, none⟩, cap, rfl, hg, .inr ⟨w.heap.size, 0, encL s.l, [], rfl, flat_elems.2 ⟨rfl, rfl⟩, ?_, rfl, ?_⟩⟩, rfl⟩, by simp, fun b hb => by
      simp at hb; subst hb
      exact ⟨Nat.le_refl _, by show w.heap.size < (w.heap.push _).size; simp⟩⟩
  · exact hadd
  · intro i v hv
    have : (bytesRow ⟨s.l.toArray⟩ cap).toList[i]? = some v := by rw [hrow, List.getElem?_append_left (List.getElem?_eq_some_iff.1 hv).1]; exact hv
    simp only [World.cell?]
    rw [show w.heap.size = w.drew.heap.size from rfl, hnew]
    simpa using this
  · refine ⟨_, el, _, hnew, ?_, ?_⟩
    · have h1 : Rep.n UInt8 = 1 := rfl
      rw [h1, hrl]; omega
    · intro i hi hc
      rw [hrl] at hi
      simp only [hrl] at hc
      omega
theorem str_toList (s : Str) : (⟨s.l.toArray⟩ : ByteArray).toList = s.l := by rw [ByteArray.toList_eq]
theorem s_strop {op : BinOp} {p q : Str} {y' : TypeId} (h : Env n a e) (hw : Goes ops ⟨some d, .binOp op t x y y', ty, pos, af, g⟩ a) (hd : d < n) (hx : opv e x = some (vS p)) (hy : opv e y = some (vS q)) {r : Value}
    (hr : ∀ w, (Op.stringOp op ⟨p.l.toArray⟩ ⟨q.l.toArray⟩).run P w = .ok r w)
    (k : ∀ a, Env n a ((d, r) :: e) → wpList P ops Q rest a w) : wpList P ops Q (⟨some d, .binOp op t x y y', ty, pos, af, g⟩ :: rest) a w :=
  s_val h hw rfl hd (by
    simp only [execOp, h.ev hx, h.ev hy]
    have hg : (eqGuard op t x y (vS p) (vS q)).run P w = .ok () w := by cases op <;> simp [eqGuard]
    have hb : (binOp op t (vS p) (vS q)).run P w = .ok r w := by
      have : binOp op t (vS p) (vS q) = Op.stringOp op ⟨p.l.toArray⟩ ⟨q.l.toArray⟩ := by cases op <;> rfl
      rw [this]; exact hr w
    simp only [Sem.run_bind, hg, hb, Result.andThen_ok]; rfl) k
theorem strEq {p q : Str} : (⟨p.l.toArray⟩ : ByteArray).toList == (⟨q.l.toArray⟩ : ByteArray).toList ↔ p = q := by
  rw [str_toList, str_toList]
  obtain ⟨p⟩ := p; obtain ⟨q⟩ := q
  simp
theorem s_eqS {p q : Str} {y' : TypeId} (h : Env n a e) (hw : Goes ops ⟨some d, .binOp .eql t x y y', ty, pos, af, g⟩ a) (hd : d < n) (hx : opv e x = some (vS p)) (hy : opv e y = some (vS q))
    (k : ∀ a, Env n a ((d, vT (decide (p = q))) :: e) → wpList P ops Q rest a w) : wpList P ops Q (⟨some d, .binOp .eql t x y y', ty, pos, af, g⟩ :: rest) a w :=
  s_strop h hw hd hx hy (fun w => by
    simp only [Op.stringOp, Sem.run_pure]
    congr 2
    rw [Bool.eq_iff_iff]; simp only [decide_eq_true_eq]; exact strEq) k
theorem s_neS {p q : Str} {y' : TypeId} (h : Env n a e) (hw : Goes ops ⟨some d, .binOp .neq t x y y', ty, pos, af, g⟩ a) (hd : d < n) (hx : opv e x = some (vS p)) (hy : opv e y = some (vS q))
    (k : ∀ a, Env n a ((d, vT (!decide (p = q))) :: e) → wpList P ops Q rest a w) : wpList P ops Q (⟨some d, .binOp .neq t x y y', ty, pos, af, g⟩ :: rest) a w :=
  s_strop h hw hd hx hy (fun w => by
    simp only [Op.stringOp, Sem.run_pure]
    congr 3
    rw [Bool.eq_iff_iff]; simp only [decide_eq_true_eq]; exact strEq) k
/-- Two strings, one behind the other. -/
def scat (p q : Str) : Option Str := if p.l.length + q.l.length ≤ 140737488355328 then some ⟨p.l ++ q.l⟩ else none
theorem scat_some {p q r : Str} (h : scat p q = some r) : p.l.length + q.l.length ≤ 140737488355328 ∧ r = ⟨p.l ++ q.l⟩ := by
  unfold scat at h
  split at h
  · rename_i h0; simp only [Option.some.injEq] at h; exact ⟨h0, h.symm⟩
  · cases h
theorem s_scat {p q r : Str} {y' : TypeId} (h : Env n a e) (hw : Goes ops ⟨some d, .binOp .add t x y y', ty, pos, af, g⟩ a) (hd : d < n) (hx : opv e x = some (vS p)) (hy : opv e y = some (vS q)) (hr : scat p q = some r)
    (k : ∀ a, Env n a ((d, vS r) :: e) → wpList P ops Q rest a w) : wpList P ops Q (⟨some d, .binOp .add t x y y', ty, pos, af, g⟩ :: rest) a w := by
  obtain ⟨h1, rfl⟩ := scat_some hr
  exact s_strop h hw hd hx hy (fun w => by
    have := run_string_add_sum (P := P) w ⟨p.l.toArray⟩ ⟨q.l.toArray⟩ (by simp [ByteArray.size]; omega)
    rw [this, ByteArray.mk_append_mk]) k
theorem s_indexStr {s : Str} {K : IntKind} {i : Int} {c : UInt8} (h : Env n a e) (hw : Goes ops ⟨some d, .index t x y, ty, pos, af, g⟩ a) (hd : d < n) (hx : opv e x = some (vS s)) (hy : opv e y = some (.int K i)) (ht : P.underlying t = some .string) (hi : idx s.l i = some c)
    (k : ∀ a, Env n a ((d, vB c) :: e) → wpList P ops Q rest a w) : wpList P ops Q (⟨some d, .index t x y, ty, pos, af, g⟩ :: rest) a w := by
  obtain ⟨⟨h0, h1⟩, h2⟩ := idx_some hi
  refine s_val h hw rfl hd (w' := w) ?_ k
  have hb : (⟨s.l.toArray⟩ : ByteArray)[i.toNat]? = some c := by
    have hlt : i.toNat < (⟨s.l.toArray⟩ : ByteArray).size := by simp [ByteArray.size]; omega
    rw [ByteArray.getElem?_lt' _ _ hlt]
    have hl : i.toNat < s.l.length := by omega
    rw [List.getElem?_eq_getElem hl] at h2
    rw [← h2]
    show some (s.l.toArray[i.toNat]'(by simpa using hl)) = _
    simp
  simp only [execOp, h.ev hx, h.ev hy]
  simp [Instr.index, asIntOf, run_underlying ht, h0, hb]
def sslc (s : Str) (lo hi : Int) : Option Str := if 0 ≤ lo ∧ lo ≤ hi ∧ hi ≤ s.l.length then some ⟨(s.l.take hi.toNat).drop lo.toNat⟩ else none
theorem sslc_some {s r : Str} {lo hi : Int} (h : sslc s lo hi = some r) : (0 ≤ lo ∧ lo ≤ hi ∧ hi ≤ s.l.length) ∧ r = ⟨(s.l.take hi.toNat).drop lo.toNat⟩ := by
  unfold sslc at h
  split at h
  · rename_i h0; simp only [Option.some.injEq] at h; exact ⟨h0, h.symm⟩
  · cases h
theorem s_sliceStr {s r : Str} {lo hi : Option Operand} {vlo vhi : Option Value} {i j : Int}
    (h : Env n a e) (hw : Goes ops ⟨some d, .slice t x lo hi none, ty, pos, af, g⟩ a) (hd : d < n) (hx : opv e x = some (vS s)) (hlo : opvo e lo = some vlo) (hhi : opvo e hi = some vhi)
    (hi1 : bnd vlo 0 = some i) (hj1 : bnd vhi s.l.length = some j) (ht : P.underlying t = some .string) (hb : sslc s i j = some r)
    (k : ∀ a, Env n a ((d, vS r) :: e) → wpList P ops Q rest a w) : wpList P ops Q (⟨some d, .slice t x lo hi none, ty, pos, af, g⟩ :: rest) a w := by
  obtain ⟨⟨h0, h1, h2⟩, rfl⟩ := sslc_some hb
  refine s_val h hw rfl hd (w' := w) ?_ k
  simp only [execOp, h.ev hx, h.evo hlo, h.evo hhi]
  have hsz : (⟨s.l.toArray⟩ : ByteArray).size = s.l.length := by simp [ByteArray.size]
  have hlow : ∀ m : Nat, i ≤ m → (match vlo with | some v => Instr.sliceBound v m .sliceB | none => pure 0 : Sem Nat).run P w = .ok i.toNat w := by
    intro m hm
    cases vlo with
    | none => simp only [bnd, Option.some.injEq] at hi1; subst hi1; rfl
    | some u =>
      cases u <;> simp only [bnd] at hi1 <;> first | cases hi1 | skip
      simp [Instr.sliceBound, asIntOf, h0, hm]
  have hhigh : (match vhi with | some v => Instr.sliceBound v s.l.length .sliceAlen | none => pure s.l.length : Sem Nat).run P w = .ok j.toNat w := by
    cases vhi with
    | none => simp only [bnd, Option.some.injEq] at hj1; subst hj1; simp
    | some u =>
      cases u <;> simp only [bnd] at hj1 <;> first | cases hj1 | skip
      have : (0 ≤ j ∧ j ≤ (s.l.length : Int)) := by omega
      simp [Instr.sliceBound, asIntOf, this]
  have hbounds : (Instr.sliceBounds false s.l.length s.l.length vlo vhi none).run P w = .ok (i.toNat, j.toNat, s.l.length) w := by
    have hl := hlow j.toNat (by omega)
    cases vlo <;> cases vhi <;> simp_all [Instr.sliceBounds]
  have hx2 : (⟨s.l.toArray⟩ : ByteArray).extract i.toNat j.toNat = ⟨((s.l.take j.toNat).drop i.toNat).toArray⟩ := by
    rw [ByteArray.extract_mk]
    congr 2
    rw [List.drop_take]
  simp [Instr.sliceAt, run_underlying ht, Instr.slice, hsz, hbounds, hx2]
/-! ### Views of arrays -/
theorem slc_arr {α : Type} {N : Nat} {v : Vector α N} {lo hi : Int} {r : List α} (h : slc v.toList lo hi = some r) : 0 ≤ lo ∧ lo ≤ hi ∧ hi ≤ N := by
  have := (slc_some h).1
  simpa using this
theorem At.sat {α : Type} [Flat α] {w : World} {b o : Nat} {m : Nat} {l : List α} (h : At w b o (encL l)) (hl : l.length = m) (h0 : 0 < Flat.n α) : Rep.sat (Old w) w l [.slice (some ⟨b, o, none⟩) m m] [] := by
  subst hl
  refine ⟨some ⟨b, o, none⟩, l.length, rfl, Nat.le_refl _, fun _ => rfl, encL l, [], flat_elems.2 ⟨rfl, rfl⟩, h, .inl ⟨fun hne => ?_, rfl⟩⟩
  by_cases hc : encL l = []
  · exfalso
    have := encL_len l
    rw [hc] at this
    have h1 : 0 < l.length := by omega
    have h2 := Nat.mul_pos h1 h0
    simp only [List.length_nil] at this
    omega
  · exact h.lt hc
theorem Env.yieldU (h : Env n a e) {j t : Nat} (hj : (ops[j]?).bind (·.dst) = some t) (ht : e.lookup t = some undef) : yielded ops a.tmps j = none := by
  unfold yielded
  rw [hj]
  have := h.get t _ ht
  rw [Array.getD_eq_getD_getElem?] at this
  cases hq : a.tmps[t]? with
  | none => simp [hq]
  | some v => rw [hq] at this; simp only [Option.getD_some] at this; subst this; simp [hq, undef]
/-- An operation whose guard was passed over itself. -/
theorem s_skipU (h : Env n a e) {j t d : Nat} {b' : Bool} {x : Op} {ty : TypeId} {p : String} {af : Array Edge} (hj : (ops[j]?).bind (·.dst) = some t) (ht : e.lookup t = some undef)
    (hd : d < n) (k : ∀ a, Env n a ((d, undef) :: e) → wpList P ops Q rest a w) : wpList P ops Q (⟨some d, x, ty, p, af, some (j, b')⟩ :: rest) a w := by
  unfold wpList
  rw [if_neg (by simp [Region.wanted, h.yieldU hj ht])]
  exact k _ (h.put hd _)
theorem s_skipU0 (h : Env n a e) {j t : Nat} {b' : Bool} {x : Op} {ty : TypeId} {p : String} {af : Array Edge} (hj : (ops[j]?).bind (·.dst) = some t) (ht : e.lookup t = some undef)
    (k : wpList P ops Q rest a w) : wpList P ops Q (⟨none, x, ty, p, af, some (j, b')⟩ :: rest) a w := by
  unfold wpList
  rw [if_neg (by simp [Region.wanted, h.yieldU hj ht])]
  exact k
/-- A cut of an array behind a pointer: a view of its cells. -/
theorem s_sliceArr {N el sz by_ b o : Nat} {z : List Value} {D : TypeDesc} {lo hi : Option Operand} {vlo vhi : Option Value} {i j : Int}
    (h : Env n a e) (hw : Goes ops ⟨some d, .slice t x lo hi none, ty, pos, af, g⟩ a) (hd : d < n) (hx : opv e x = some (ptr b o)) (hlo : opvo e lo = some vlo) (hhi : opvo e hi = some vhi)
    (hi1 : bnd vlo 0 = some i) (hj1 : bnd vhi N = some j) (ht : P.underlying t = some (.array N el)) (he : Ty P el D sz by_ z) (hb : 0 ≤ i ∧ i ≤ j ∧ j ≤ N)
    (k : ∀ a, Env n a ((d, sliceV (.slice (some ⟨b, o, none⟩) N N) i.toNat j.toNat sz) :: e) → wpList P ops Q rest a w) : wpList P ops Q (⟨some d, .slice t x lo hi none, ty, pos, af, g⟩ :: rest) a w := by
  obtain ⟨h0, h1, h2⟩ := hb
  refine s_val h hw rfl hd (w' := w) ?_ k
  simp only [execOp, h.ev hx, h.evo hlo, h.evo hhi]
  have hsize := run_sizeOf he w
  have hlow : ∀ m : Nat, i ≤ m → (match vlo with | some v => Instr.sliceBound v m .sliceB | none => pure 0 : Sem Nat).run P w = .ok i.toNat w := by
    intro m hm
    cases vlo with
    | none => simp only [bnd, Option.some.injEq] at hi1; subst hi1; rfl
    | some u =>
      cases u <;> simp only [bnd] at hi1 <;> first | cases hi1 | skip
      simp [Instr.sliceBound, asIntOf, h0, hm]
  have hhigh : (match vhi with | some v => Instr.sliceBound v N .sliceAlen | none => pure N : Sem Nat).run P w = .ok j.toNat w := by
    cases vhi with
    | none => simp only [bnd, Option.some.injEq] at hj1; subst hj1; simp
    | some u =>
      cases u <;> simp only [bnd] at hj1 <;> first | cases hj1 | skip
      have : (0 ≤ j ∧ j ≤ (N : Int)) := by omega
      simp [Instr.sliceBound, asIntOf, this]
  have hbounds : (Instr.sliceBounds false N N vlo vhi none).run P w = .ok (i.toNat, j.toNat, N) w := by
    have hl := hlow j.toNat (by omega)
    cases vlo <;> cases vhi <;> simp_all [Instr.sliceBounds]
  have hr : (Instr.sliceAt t (ptr b o) vlo vhi none).run P w = .ok (sliceV (.slice (some ⟨b, o, none⟩) N N) i.toNat j.toNat sz) w := by
    simp only [Instr.sliceAt, Instr.sureAddr, Sem.run_bind, run_underlying ht, Result.andThen_ok, Sem.run_pure, hbounds, hsize, sliceV]
    by_cases hN : N = i.toNat <;> simp [hN]
  have hmax : (none : Option Operand).map a.eval = none := rfl
  simp only [hmax, Sem.run_bind, hr, Result.andThen_ok]
  rfl
end
end Go.Proofs.YtkcaldgoomphaaaDoor
