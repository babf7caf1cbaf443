/- The walk library, part J: from what a row reads to data of one's own; what a law leaves. -/
import Derived.Test.YtkcaldgoomphaaaDoorLibI
import Derived.Test.YtkcaldgoomphaaaDoorRows
import Derived.ProofKit
import Derived.OpenShut
namespace Go.Proofs.YtkcaldgoomphaaaDoor
open Go Go.ChangeShapes Go.WideShapes Go.ChangeAt Go.RowKit

/-- Whatever can be read at type t is one of α. -/
def Opens (P : Program) (t : TypeId) (α : Type) [Rep α] [Dat α] : Prop :=
  ∀ (H : Type) (en : TypeId × Value → H) (w : World) (base : Nat) (held : Bool) (fuel : Nat) (cs : List Value) (x : DataW H × List MemPlace),
    DataW.trod en P w base (fun _ => true) held fuel t cs = some x → ∃ y : α, Ro w y cs ∧ Dat.bd y ∧ Dat.sz y ≤ Rows.uptoBulk x.1

section
variable {P : Program} {t e : TypeId}
theorem opens_int (ht : P.underlying t = some (.int .i64)) : Opens P t Int := by
  intro H en w base held fuel cs x h
  obtain ⟨n, rfl, rfl, hw⟩ := DataW.trod_int ht h
  refine ⟨n, ⟨rfl, rfl⟩, ?_, Nat.le_refl _⟩
  simpa [Lit.wf, IntKind.min, IntKind.max, IntKind.signed, IntKind.bits, Dat.bd] using hw
theorem opens_byte (ht : P.underlying t = some (.int .u8)) : Opens P t UInt8 := by
  intro H en w base held fuel cs x h
  obtain ⟨n, rfl, rfl, hw⟩ := DataW.trod_int ht h
  have hn : 0 ≤ n ∧ n ≤ 255 := by simpa [Lit.wf, IntKind.min, IntKind.max, IntKind.signed, IntKind.bits, Dat.bd] using hw
  refine ⟨UInt8.ofNat n.toNat, ⟨?_, rfl⟩, trivial, Nat.le_refl _⟩
  have : ((UInt8.ofNat n.toNat).toNat : Int) = n := by
    rw [UInt8.toNat_ofNat']; omega
  show [Value.int .u8 n] = [Value.int .u8 ((UInt8.ofNat n.toNat).toNat : Int)]
  rw [this]
theorem opens_bool (ht : P.underlying t = some .bool) : Opens P t Bool := by
  intro H en w base held fuel cs x h
  obtain ⟨n, rfl, rfl⟩ := DataW.trod_bool ht h
  exact ⟨n, ⟨rfl, rfl⟩, trivial, Nat.le_refl _⟩
theorem opens_str (ht : P.underlying t = some .string) : Opens P t Str := by
  intro H en w base held fuel cs x h
  obtain ⟨n, rfl, rfl, hw⟩ := DataW.trod_string ht h
  exact ⟨⟨n.data.toList⟩, ⟨rfl, rfl⟩, hw, Nat.le_refl _⟩

theorem bulkAll_eq {H : Type} : ∀ l : List (DataW H), Rows.uptoBulkAll l = (l.map Rows.uptoBulk).sum
  | [] => rfl
  | d :: r => by rw [Rows.uptoBulkAll, bulkAll_eq r]; rfl

/-- Data behind a list of readings. -/
theorem opens_list {α : Type} [Rep α] [Dat α] (he : Opens P e α) {H : Type} {en : TypeId × Value → H} {w : World} {base : Nat} {held : Bool} {fuel : Nat} :
    ∀ (css : List (List Value)) (xs : List (DataW H × List MemPlace)), css.length = xs.length → (∀ (i : Nat) (c : List Value), css[i]? = some c → DataW.trod en P w base (fun _ => true) held fuel e c = xs[i]?) →
      ∃ l : List α, l.length = css.length ∧ Elems (Old w) w l css.flatten [] ∧ (∀ y ∈ l, Dat.bd y) ∧ (l.map Dat.sz).sum ≤ Rows.uptoBulkAll (xs.map (·.1))
  | [], [], _, _ => ⟨[], rfl, ⟨rfl, rfl⟩, (fun _ h => by cases h), Nat.le_refl _⟩
  | [], _ :: _, h, _ => by simp at h
  | _ :: _, [], h, _ => by simp at h
  | c :: css, x :: xs, h, hx => by
    obtain ⟨y, h1, h2, h3⟩ := he H en w base held fuel c x (hx 0 c rfl)
    obtain ⟨l, k0, k1, k2, k3⟩ := opens_list he css xs (by simpa using h) (fun i d hd => hx (i + 1) d hd)
    refine ⟨y :: l, by simp [k0], ⟨c, css.flatten, [], [], by simp, rfl, h1, k1⟩, ?_, ?_⟩
    · intro z hz
      rcases List.mem_cons.1 hz with rfl | hz
      · exact h2
      · exact k2 z hz
    · simp only [List.map_cons, List.sum_cons, Rows.uptoBulkAll]
      omega

theorem cells?_get {w : World} {base : Nat} {a : Addr} {n : Nat} {cs : List Value} (h : w.cells? base a n = some cs) : cs.length = n ∧ ∀ i, i < n → w.cell? (a.add i) = cs[i]? := by
  unfold World.cells? at h
  split at h
  · refine ⟨by simpa using mapM_some_length h, fun i hi => ?_⟩
    exact mapM_some_get h i i (by simp [hi])
  · cases h
theorem cell?_spot {w : World} {a : Addr} {v : Value} (h : w.cell? a = some v) : a.spot = none ∧ Old w a.block := by
  unfold World.cell? at h
  split at h
  · rename_i hh
    split at h
    · cases h
    · rename_i hsp
      refine ⟨by simpa using hsp, ?_⟩
      rcases Nat.lt_or_ge a.block w.heap.size with hb | hb
      · exact hb
      · simp [Array.getElem?_eq_none hb] at hh
  · cases h

theorem flat_at {n : Nat} : ∀ (css : List (List Value)), (∀ d ∈ css, d.length = n) → ∀ {i j : Nat} {c : List Value}, css[i]? = some c → j < n → css.flatten[i * n + j]? = c[j]?
  | [], _, i, j, c, h, _ => by simp at h
  | d :: css, hd, 0, j, c, h, hj => by
    simp only [List.getElem?_cons_zero, Option.some.injEq] at h
    subst h
    have := hd d (by simp)
    rw [List.flatten_cons, Nat.zero_mul, Nat.zero_add, List.getElem?_append_left (by omega)]
  | d :: css, hd, i + 1, j, c, h, hj => by
    have hdl := hd d (by simp)
    have := flat_at css (fun x hx => hd x (by simp [hx])) (i := i) (c := c) (by simpa using h) hj
    rw [List.flatten_cons, Nat.add_mul, Nat.one_mul, List.getElem?_append_right (by omega), ← this]
    congr 1
    omega
theorem opens_slice {α : Type} [Rep α] [Dat α] (ht : P.underlying t = some (.slice e)) (he : Opens P e α) (hn : P.cellsOf e = Rep.n α) (h0 : 0 < Rep.n α) : Opens P t (List α) := by
  intro H en w base held fuel cs x h
  rcases DataW.trod_slice ht h with ⟨rfl, rfl⟩ | ⟨a, len, cap, elems, rest, n, _, rfl, rfl, hb, hl, hm, hlen, hel, hsp, hns⟩
  · exact ⟨[], ⟨none, 0, rfl, Nat.le_refl _, rfl, rfl⟩, ⟨by simp, fun _ h => by cases h⟩, Nat.le_refl _⟩
  have hcell : ∀ i, i < len → ∃ c, w.cells? base (a.add (i * Rep.n α)) (Rep.n α) = some c ∧ DataW.trod en P w base (fun _ => true) held n e c = elems[i]? := by
    intro i hi
    have := hel i hi
    rw [hn, List.getElem?_eq_getElem (by omega)] at this
    obtain ⟨c, h1, h2⟩ := Option.bind_eq_some_iff.1 this
    exact ⟨c, h1, by rw [h2, List.getElem?_eq_getElem (by omega)]⟩
  obtain ⟨css, hcl, hcs⟩ : ∃ css : List (List Value), css.length = len ∧ ∀ (i : Nat) (c : List Value), css[i]? = some c → w.cells? base (a.add (i * Rep.n α)) (Rep.n α) = some c ∧ DataW.trod en P w base (fun _ => true) held n e c = elems[i]? := by
    refine ⟨(List.range len).map fun i => if hi : i < len then (hcell i hi).choose else [], by simp, fun i c hc => ?_⟩
    have hi : i < len := by have := (List.getElem?_eq_some_iff.1 hc).1; simpa using this
    simp [hi] at hc
    subst hc
    exact (hcell i hi).choose_spec
  obtain ⟨l, hll, hE, hbd, hsz⟩ := opens_list he css elems (by omega) fun i c hc => (hcs i c hc).2
  have hla : l.length = len := by omega
  -- where the array lies
  have hspot2 : cap ≠ 0 → a.spot = none ∧ Old w a.block := by
    intro hc
    by_cases hl0 : 0 < len
    · obtain ⟨c, h1, _⟩ := hcell 0 hl0
      obtain ⟨k1, k2⟩ := cells?_get h1
      have := k2 0 h0
      rw [List.getElem?_eq_getElem (by omega)] at this
      have := cell?_spot this
      cases a
      simpa [Addr.add] using this
    · have hl0 : len = 0 := by omega
      have := (hsp rfl).2 0 (by omega)
      rw [hn, List.getElem?_eq_getElem (by have := (hsp rfl).1; omega)] at this
      obtain ⟨c, h1, _⟩ := Option.bind_eq_some_iff.1 this
      obtain ⟨k1, k2⟩ := cells?_get h1
      have := k2 0 h0
      rw [List.getElem?_eq_getElem (by omega)] at this
      have := cell?_spot this
      cases a
      simpa [Addr.add, hl0] using this
  have hspot := fun h => (hspot2 h).1
  refine ⟨l, ⟨some a, cap, by rw [hla], by omega, hspot, css.flatten, [], hE, ?_, .inl ⟨?_, rfl⟩⟩, ⟨by unfold maxLen at hm; omega, hbd⟩, ?_⟩
  · intro i v hv
    have hil : i < css.flatten.length := (List.getElem?_eq_some_iff.1 hv).1
    have hfl : css.flatten.length = len * Rep.n α := by rw [hE.len, hla]
    have hi : i / Rep.n α < len := Nat.div_lt_of_lt_mul (by rw [Nat.mul_comm]; rwa [hfl] at hil)
    obtain ⟨c, hc⟩ : ∃ c, css[i / Rep.n α]? = some c := ⟨css[i / Rep.n α]'(by omega), by simp⟩
    obtain ⟨k1, k2⟩ := cells?_get (hcs _ c hc).1
    have hm' := k2 (i % Rep.n α) (Nat.mod_lt _ h0)
    have hsp0 : a.spot = none := hspot (by have := Nat.lt_of_le_of_lt (Nat.zero_le _) hi; omega)
    have hdm := Nat.div_add_mod i (Rep.n α)
    have hval : css.flatten[i]? = c[i % Rep.n α]? := by
      have := flat_at (n := Rep.n α) css (fun d hd => by
        obtain ⟨j, hj⟩ := List.mem_iff_getElem?.1 hd
        exact (cells?_get (hcs j d hj).1).1) hc (Nat.mod_lt i h0)
      rw [← this]
      congr 1
      rw [Nat.mul_comm]; omega
    rw [hval] at hv
    rw [hv] at hm'
    obtain ⟨b, o, s⟩ := a
    simp only at hsp0
    subst hsp0
    rw [← hm']
    simp only [Addr.add_lit]
    congr 2
    rw [Nat.add_assoc]
    congr 1
    rw [Nat.mul_comm]; omega
  · exact fun h => (hspot2 h).2
  · simp only [Dat.sz, Rows.uptoBulk]
    have : (l.map Dat.sz).sum ≤ Rows.uptoBulkAll (elems.map (·.1)) := hsz
    omega

theorem trod_array {H : Type} {en : TypeId × Value → H} {w : World} {base : Nat} {sp : Nat → Bool} {held : Bool} {fuel n : Nat} {cs : List Value} {x : DataW H × List MemPlace} (ht : P.underlying t = some (.array n e)) (h : DataW.trod en P w base sp held fuel t cs = some x) :
    ∃ (xs : List (DataW H × List MemPlace)) (f : Nat), x = (.agg (xs.map (·.1)), xs.flatMap (·.2)) ∧ cs.length = P.cellsOf t ∧ xs.length = n ∧
      ∀ (i : Nat), i < n → DataW.trod en P w base sp held f e ((cs.drop (i * P.cellsOf e)).take (P.cellsOf e)) = xs[i]? := by
  cases fuel with
  | zero => simp [DataW.trod] at h
  | succ f =>
    unfold DataW.trod at h
    rw [ht] at h
    split at h <;> simp_all
    obtain ⟨hl, xs, hp, hd⟩ := h
    exact ⟨xs, hd.symm, by simpa using mapM_some_length hp, f, fun i hi => mapM_some_get hp i i (List.getElem?_range hi)⟩

theorem elems_cuts {n : Nat} : ∀ (m : Nat) (cs : List Value), cs.length = m * n → ((List.range m).map fun i => (cs.drop (i * n)).take n).flatten = cs
  | 0, cs, h => by
    have : cs = [] := List.eq_nil_of_length_eq_zero (by omega)
    subst this; rfl
  | m + 1, cs, h => by
    rw [List.range_succ_eq_map, List.map_cons, List.map_map, List.flatten_cons]
    have := elems_cuts (n := n) m (cs.drop n) (by rw [List.length_drop, h, Nat.add_mul]; omega)
    have e : ((fun i => List.take n (List.drop (i * n) cs)) ∘ Nat.succ) = fun i => List.take n (List.drop (i * n) (cs.drop n)) := by
      funext i
      show List.take n (List.drop ((i + 1) * n) cs) = _
      rw [List.drop_drop, Nat.add_mul, Nat.one_mul, Nat.add_comm (i * n) n]
    rw [e, this]
    simp

theorem opens_array {α : Type} [Flat α] [Dat α] {n : Nat} (ht : P.underlying t = some (.array n e)) (he : Opens P e α) (hn : P.cellsOf e = Flat.n α) (hc : P.cellsOf t = n * Flat.n α) : Opens P t (Vector α n) := by
  intro H en w base held fuel cs x h
  obtain ⟨xs, f, rfl, hl, hxl, hx⟩ := trod_array ht h
  obtain ⟨l, k0, k1, k2, k3⟩ := opens_list he ((List.range n).map fun i => (cs.drop (i * Flat.n α)).take (Flat.n α)) xs (by simp [hxl]) (en := en) (w := w) (base := base) (held := held) (fuel := f) (by
    intro i c hc'
    have hi : i < n := by have := (List.getElem?_eq_some_iff.1 hc').1; simpa using this
    simp [hi] at hc'
    subst hc'
    have := hx i hi
    rwa [hn] at this)
  rw [elems_cuts n cs (by rw [hl, hc])] at k1
  obtain ⟨rfl, _⟩ := flat_elems.1 k1
  have hll : l.length = n := by simpa using k0
  refine ⟨⟨l.toArray, by simpa using hll⟩, ⟨rfl, rfl⟩, ?_, ?_⟩
  · intro y hy
    exact k2 y (by simpa using hy)
  · simpa [Dat.sz, Rows.uptoBulk] using k3

/-- The fields of a struct from one on. -/
def OpensF (P : Program) (fs : List Field) (o : Nat) (α : Type) [Rep α] [Dat α] : Prop :=
  ∀ (H : Type) (en : TypeId × Value → H) (w : World) (base : Nat) (held : Bool) (fuel : Nat) (cs : List Value) (xs : List (DataW H × List MemPlace)), cs.length = o + Rep.n α → xs.length = fs.length →
    (∀ (i : Nat) (f : Field), fs[i]? = some f → DataW.trod en P w base (fun _ => true) held fuel f.type ((cs.drop f.offset).take (P.cellsOf f.type)) = xs[i]?) →
      ∃ y : α, Ro w y (cs.drop o) ∧ Dat.bd y ∧ Dat.sz y ≤ Rows.uptoBulkAll (xs.map (·.1))
theorem opensF_one {α : Type} [Rep α] [Dat α] {f : Field} {o : Nat} (ho : f.offset = o) (hn : P.cellsOf f.type = Rep.n α) (hf : Opens P f.type α) : OpensF P [f] o α := by
  intro H en w base held fuel cs xs hc hl hx
  match xs, hl with
  | [x], _ =>
    have := hx 0 f rfl
    rw [ho, hn, List.take_of_length_le (by rw [List.length_drop]; omega)] at this
    obtain ⟨y, h1, h2, h3⟩ := hf H en w base held fuel _ x this
    refine ⟨y, h1, h2, ?_⟩
    simp only [List.map_cons, List.map_nil, Rows.uptoBulkAll]
    omega
theorem opensF_cons {α β : Type} [Rep α] [Dat α] [Rep β] [Dat β] {f : Field} {fs : List Field} {o : Nat} (ho : f.offset = o) (hn : P.cellsOf f.type = Rep.n α) (hf : Opens P f.type α) (hr : OpensF P fs (o + Rep.n α) β) : OpensF P (f :: fs) o (α × β) := by
  intro H en w base held fuel cs xs hc hl hx
  match xs, hl with
  | x :: xs, hl =>
    have hc' : cs.length = o + (Rep.n α + Rep.n β) := hc
    have := hx 0 f rfl
    rw [ho, hn] at this
    obtain ⟨y, h1, h2, h3⟩ := hf H en w base held fuel _ x this
    obtain ⟨z, k1, k2, k3⟩ := hr H en w base held fuel cs xs (by omega) (by simpa using hl) (fun i g hg => hx (i + 1) g hg)
    refine ⟨(y, z), ?_, ⟨h2, k2⟩, ?_⟩
    · refine ⟨_, _, [], [], ?_, rfl, h1, k1⟩
      rw [← List.drop_drop, List.take_append_drop]
    · simp only [List.map_cons, Rows.uptoBulkAll, Dat.sz]
      have : Dat.sz y ≤ Rows.uptoBulk x.1 := h3
      have : Dat.sz z ≤ Rows.uptoBulkAll (xs.map (·.1)) := k3
      show Dat.sz y + Dat.sz z ≤ _
      omega
/-- A struct, as the tuple of its fields. -/
theorem opens_struct {α : Type} [Rep α] [Dat α] {fs : Array Field} (ht : P.underlying t = some (.struct fs)) (hc : P.cellsOf t = Rep.n α) (hf : OpensF P fs.toList 0 α) {H : Type} {en : TypeId × Value → H} {w : World} {base : Nat} {held : Bool} {fuel : Nat} {cs : List Value} {x : DataW H × List MemPlace}
    (h : DataW.trod en P w base (fun _ => true) held fuel t cs = some x) : ∃ y : α, Ro w y cs ∧ Dat.bd y ∧ Dat.sz y + 1 ≤ Rows.uptoBulk x.1 := by
  obtain ⟨xs, n, _, rfl, hl, hxl, hx⟩ := DataW.trod_struct ht h
  obtain ⟨y, h1, h2, h3⟩ := hf H en w base held n cs xs (by rw [hl, hc]; omega) (by simpa using hxl) (fun i f hf => hx i f (by simpa using hf))
  refine ⟨y, by simpa using h1, h2, ?_⟩
  simp only [Rows.uptoBulk]
  omega

/-! ### An argument -/
theorem arg_one {H : Type} {en : TypeId × Value → H} {w : World} {α : Type} [Rep α] [Dat α] (ho : Opens P t α) {v : Value} {d : DataW H} {ps : List MemPlace} (hv : v.cells.toList = [v]) (h : DataW.Trod en P w 0 (fun _ => true) true t v d ps) :
    ∃ y : α, Ro w y [v] ∧ Dat.bd y ∧ Dat.sz y ≤ Rows.uptoBulk d := by
  obtain ⟨fuel, h⟩ := h
  rw [hv] at h
  exact ho H en w 0 true fuel _ _ h
theorem arg_agg {H : Type} {en : TypeId × Value → H} {w : World} {α : Type} [Rep α] [Dat α] (ho : Opens P t α) {cs : Array Value} {d : DataW H} {ps : List MemPlace} (h : DataW.Trod en P w 0 (fun _ => true) true t (.agg cs) d ps) :
    ∃ y : α, Ro w y cs.toList ∧ Dat.bd y ∧ Dat.sz y ≤ Rows.uptoBulk d := by
  obtain ⟨fuel, h⟩ := h
  exact ho H en w 0 true fuel _ _ h
end

/-! ### What a law leaves -/
theorem Kept.below {w w' : World} (h : Kept (Old w) w w') : Below w.heap.size w w' := ⟨h.os, h.tape, h.output, h.size, fun k hk => h.block k hk⟩
theorem trodAll_below {P : Program} {H : Type} {en : TypeId × Value → H} {W W' : World} (hl : laidOutB P = true) (hB : Below W.heap.size W W') : ∀ {ts : List TypeId} {vs : List Value} {ds : List (DataW H)} {ps : List MemPlace},
    (∀ t ∈ ts, P.readableRec t = true ∧ t < P.types.size) → (∀ x ∈ ps, x.block < W.heap.size) → DataW.TrodAll en P W 0 (fun _ => true) true ts vs ds ps → DataW.TrodAll en P W' 0 (fun b => decide (b < W.heap.size)) true ts vs ds ps
  | [], _, _, _, _, _, h => by
    obtain ⟨rfl, rfl, rfl⟩ := trodAll_nil h
    rfl
  | t :: ts, _, _, _, ht, hp, h => by
    obtain ⟨v, vs, d, ds, p, q, rfl, rfl, rfl, h1, h2⟩ := trodAll_cons h
    obtain ⟨k1, k2⟩ := ht t (by simp)
    exact ⟨p, q, Below.trod hl k1 k2 h1 hB (fun x hx => hp x (by simp [hx])), trodAll_below hl hB (fun t h => ht t (by simp [h])) (fun x hx => hp x (by simp [hx])) h2, rfl⟩

theorem law_post {P : Program} {H : Type} {en : TypeId × Value → H} {f : Func} {s : ChangeSpec} {tb : TypeId} {W W' : World} {args : Array Value} {ds : List (DataW H)} {before : List MemPlace} (hs : s.vars = []) (hW : DataW.Whole en P f.params.toList s.vars false W args.toList ds [] before)
    (hr : f.resultTypes = #[tb]) (htb : P.underlying tb = some .bool) (hfn : s.fn H (ds ++ []) = { results := [.lit (.bool true)], args := ds }) (hl : laidOutB P = true) (hts : ∀ t ∈ f.params.toList, P.readableRec t = true ∧ t < P.types.size) (hK : Kept (Old W) W W') :
    s.post en P f false true false false W args (.bool true) W' := by
  have hlt := hW.lt
  have hW0 := hW
  obtain ⟨p, q, hA, hV, rfl, _, _⟩ := hW0
  rw [hs] at hV
  obtain ⟨_, rfl⟩ := trodVars_none hV
  refine ⟨ds, [], _, [], p, [], hW, ?_, ?_, ?_, hK.below.frame _, fun h => by cases h⟩
  · rw [hfn, hr]
    exact trodAll_mk1 (shut_bool htb true)
  · rw [hfn]
    exact trodAll_below hl hK.below hts (fun x hx => hlt x (by simpa using hx)) hA
  · rw [hfn, hs]
    rfl
/-! ### Five and six arguments -/
theorem trodAll_five {H : Type} {en : TypeId × Value → H} {P : Program} {w : World} {base : Nat} {spare : Nat → Bool} {held : Bool} {t0 t1 t2 t3 t4 : TypeId} {args : Array Value} {ds : List (DataW H)} {ps : List MemPlace} (h : DataW.TrodAll en P w base spare held [t0, t1, t2, t3, t4] args.toList ds ps) :
    ∃ v0 v1 v2 v3 v4 d0 d1 d2 d3 d4 p0 p1 p2 p3 p4, args = #[v0, v1, v2, v3, v4] ∧ ds = [d0, d1, d2, d3, d4] ∧ ps = p0 ++ p1 ++ p2 ++ p3 ++ p4 ∧ DataW.Trod en P w base spare held t0 v0 d0 p0 ∧ DataW.Trod en P w base spare held t1 v1 d1 p1 ∧ DataW.Trod en P w base spare held t2 v2 d2 p2 ∧ DataW.Trod en P w base spare held t3 v3 d3 p3 ∧ DataW.Trod en P w base spare held t4 v4 d4 p4 := by
  obtain ⟨v0, vs0, d0, ds0, p0, q0, e0, rfl, rfl, hd0, k0⟩ := trodAll_cons h
  obtain ⟨v1, vs1, d1, ds1, p1, q1, e1, rfl, rfl, hd1, k1⟩ := trodAll_cons k0
  obtain ⟨v2, vs2, d2, ds2, p2, q2, e2, rfl, rfl, hd2, k2⟩ := trodAll_cons k1
  obtain ⟨v3, vs3, d3, ds3, p3, q3, e3, rfl, rfl, hd3, k3⟩ := trodAll_cons k2
  obtain ⟨v4, vs4, d4, ds4, p4, q4, e4, rfl, rfl, hd4, k4⟩ := trodAll_cons k3
  obtain ⟨e5, rfl, rfl⟩ := trodAll_nil k4
  subst e5
  subst e4
  subst e3
  subst e2
  subst e1
  exact ⟨v0, v1, v2, v3, v4, d0, d1, d2, d3, d4, p0, p1, p2, p3, p4, by cases args; simp_all, rfl, by simp, hd0, hd1, hd2, hd3, hd4⟩
theorem trodAll_six {H : Type} {en : TypeId × Value → H} {P : Program} {w : World} {base : Nat} {spare : Nat → Bool} {held : Bool} {t0 t1 t2 t3 t4 t5 : TypeId} {args : Array Value} {ds : List (DataW H)} {ps : List MemPlace} (h : DataW.TrodAll en P w base spare held [t0, t1, t2, t3, t4, t5] args.toList ds ps) :
    ∃ v0 v1 v2 v3 v4 v5 d0 d1 d2 d3 d4 d5 p0 p1 p2 p3 p4 p5, args = #[v0, v1, v2, v3, v4, v5] ∧ ds = [d0, d1, d2, d3, d4, d5] ∧ ps = p0 ++ p1 ++ p2 ++ p3 ++ p4 ++ p5 ∧ DataW.Trod en P w base spare held t0 v0 d0 p0 ∧ DataW.Trod en P w base spare held t1 v1 d1 p1 ∧ DataW.Trod en P w base spare held t2 v2 d2 p2 ∧ DataW.Trod en P w base spare held t3 v3 d3 p3 ∧ DataW.Trod en P w base spare held t4 v4 d4 p4 ∧ DataW.Trod en P w base spare held t5 v5 d5 p5 := by
  obtain ⟨v0, vs0, d0, ds0, p0, q0, e0, rfl, rfl, hd0, k0⟩ := trodAll_cons h
  obtain ⟨v1, vs1, d1, ds1, p1, q1, e1, rfl, rfl, hd1, k1⟩ := trodAll_cons k0
  obtain ⟨v2, vs2, d2, ds2, p2, q2, e2, rfl, rfl, hd2, k2⟩ := trodAll_cons k1
  obtain ⟨v3, vs3, d3, ds3, p3, q3, e3, rfl, rfl, hd3, k3⟩ := trodAll_cons k2
  obtain ⟨v4, vs4, d4, ds4, p4, q4, e4, rfl, rfl, hd4, k4⟩ := trodAll_cons k3
  obtain ⟨v5, vs5, d5, ds5, p5, q5, e5, rfl, rfl, hd5, k5⟩ := trodAll_cons k4
  obtain ⟨e6, rfl, rfl⟩ := trodAll_nil k5
  subst e6
  subst e5
  subst e4
  subst e3
  subst e2
  subst e1
  exact ⟨v0, v1, v2, v3, v4, v5, d0, d1, d2, d3, d4, d5, p0, p1, p2, p3, p4, p5, by cases args; simp_all, rfl, by simp, hd0, hd1, hd2, hd3, hd4, hd5⟩
end Go.Proofs.YtkcaldgoomphaaaDoor
