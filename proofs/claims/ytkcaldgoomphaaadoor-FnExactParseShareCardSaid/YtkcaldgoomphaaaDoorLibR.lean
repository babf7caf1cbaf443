/- The walk library, part R: maps of one's own. -/
import Derived.Test.YtkcaldgoomphaaaDoorLibQ
namespace Go.Proofs.YtkcaldgoomphaaaDoor
open Go

/-! ### Maps as lists of entries -/
theorem zv_of {P : Program} {t : TypeId} {v : Value} (h : (P.info? t).bind (·.zero) = some v) (w : World) : (zeroValue t).run P w = .ok v w := by
  obtain ⟨i, h1, h2⟩ := Option.bind_eq_some_iff.1 h
  simp [zeroValue, typeInfo, h1, h2]
def mget {κ α : Type} [DecidableEq κ] : List (κ × α) → κ → Option α
  | [], _ => none
  | p :: m, k => if p.1 = k then some p.2 else mget m k
def mset {κ α : Type} [DecidableEq κ] : List (κ × α) → κ → α → List (κ × α)
  | [], k, x => [(k, x)]
  | p :: m, k, x => if p.1 = k then (k, x) :: m else p :: mset m k x
/-- Where a key is found, and what the entry holds. -/
def mfind {κ : Type} [DecidableEq κ] : List κ → List MapEntry → Nat → κ → Option (Nat × Value)
  | x :: ks, e :: es, i, k => if x = k then some (i, e.val) else mfind ks es (i + 1) k
  | _, _, _, _ => none
/-- Keys of a type, as the model sees them. -/
structure KeyOk (P : Program) (t : TypeId) {κ : Type} [DecidableEq κ] (kv : κ → Value) : Prop where
  check : ∀ (e : Bool) (w : World) (k : κ), (Instr.checkKey e 10000 t (kv k)).run P w = .ok () w
  find : ∀ (w : World) (k : κ) (ks : List κ) (es : List MapEntry), es.map (·.key) = ks.map kv → (Instr.findKey t (kv k) es).run P w = .ok (mfind ks es 0 k) w
  same : ∀ k, Instr.sameBits 10000 (kv k) (kv k) = true
theorem findNow_int {K : IntKind} : ∀ (ks : List Int) (es : List MapEntry) (i : Nat) (k : Int), es.map (·.key) = ks.map (Value.int K) → Instr.findNow (.int K) (.int K k) es i = some (mfind ks es i k)
  | [], [], _, _, _ => rfl
  | [], _ :: _, _, _, h => by simp at h
  | _ :: _, [], _, _, h => by simp at h
  | x :: ks, e :: es, i, k, h => by
    simp only [List.map_cons, List.cons.injEq] at h
    unfold Instr.findNow
    rw [h.1]
    simp only [Instr.sameNow, if_true, mfind]
    by_cases hx : x = k
    · subst hx; simp
    · have : (k == x) = false := by simpa using fun h => hx h.symm
      rw [this, if_neg hx]
      exact findNow_int ks es (i + 1) k h.2
theorem keyok_int {P : Program} {t : TypeId} {K : IntKind} (h : P.underlying t = some (.int K)) : KeyOk P t (Value.int K) where
  check := fun e w k => MapKept.run_checkKey h (by first | trivial | rfl | simp [MapKept.IsKey]) e 9999
  find := fun w k ks es he => by simp [Instr.findKey, run_underlying h, findNow_int ks es 0 k he]
  same := fun k => by show (K == K && k == k) = true; simp

theorem findAsk_vec {P : Program} {t k0 : Nat} {κ : Type} [Flat κ] [DecidableEq κ] (hq : EqOk P t k0 κ true) (hk : k0 ≤ 10000) (w : World) : ∀ (ks : List κ) (es : List MapEntry) (i : Nat) (k : κ), es.map (·.key) = ks.map (fun x => Value.agg (Flat.enc x).toArray) →
    (Instr.findAsking t (.agg (Flat.enc k).toArray) es i).run P w = .ok (mfind ks es i k) w
  | [], [], _, _, _ => by simp [Instr.findAsking, mfind]
  | [], _ :: _, _, _, h => by simp at h
  | _ :: _, [], _, _, h => by simp at h
  | x :: ks, e :: es, i, k, h => by
    simp only [List.map_cons, List.cons.injEq] at h
    have he := hq (10000 - k0) w k x
    rw [show 10000 - k0 + k0 = 10000 by omega] at he
    have he' : (Op.equal t (.agg (Flat.enc k).toArray) (.agg (Flat.enc x).toArray)).run P w = .ok (decide (k = x)) w := he
    unfold Instr.findAsking
    rw [h.1]
    simp only [Sem.run_bind, he', Result.andThen_ok, mfind]
    by_cases hx : x = k
    · subst hx; simp
    · have h2 : ¬ k = x := fun h => hx h.symm
      rw [if_neg hx]
      simp only [h2, decide_false, Bool.false_eq_true, if_false]
      exact findAsk_vec hq hk w ks es (i + 1) k h.2
theorem keyok_bytes {P : Program} {t e by_ k0 n : Nat} {D : TypeDesc} {z : List Value} (ht : P.underlying t = some (.array n e)) (hu : P.underlying e = some (.int .u8)) (he : Ty P e D 1 by_ z) (hD : isAggD D = false) (hq : EqOk P t k0 (Vector UInt8 n) true) (hk : k0 ≤ 10000) :
    KeyOk P t (fun x : Vector UInt8 n => Value.agg (Flat.enc x).toArray) where
  check := fun em w k => by
    show (Instr.checkKey em (9999 + 1) t (.agg (Flat.enc k).toArray)).run P w = _
    rw [Instr.checkKey]
    simp only [Sem.run_bind, run_underlying ht, Result.andThen_ok, Std.Legacy.Range.forIn_eq_forIn_range', Std.Legacy.Range.size, Nat.sub_zero, Nat.add_one_sub_one, Nat.div_one]
    have each : ∀ j ∈ List.range' 0 n, ∃ b : UInt8, (part e (Flat.enc k).toArray (j * 1)).run P w = .ok (vB b) w := by
      intro j hj
      have hj' : j < n := by simpa using hj
      have hg : k.toList[j]? = some k[j] := by simp [hj']
      exact ⟨k[j], run_partV (α := UInt8) he (ag := false) hD (fun _ => rfl) hg w⟩
    generalize List.range' 0 n = is at each
    induction is with
    | nil => simp
    | cons j is ih =>
      obtain ⟨b, p1⟩ := each j (by simp)
      have p2 : (Instr.checkKey em 9999 e (vB b)).run P w = .ok () w := MapKept.run_checkKey hu (by first | trivial | rfl | simp [MapKept.IsKey]) em 9998
      simp only [List.forIn_cons, Sem.run_bind, run_sizeOf he, Result.andThen_ok, p1, p2, Sem.run_pure]
      exact ih (fun y hy => each y (by simp [hy]))
  find := fun w k ks es h => by
    unfold Instr.findKey
    simp only [Sem.run_bind, run_underlying ht, Result.andThen_ok]
    cases es with
    | nil =>
      have : ks = [] := by simpa using h.symm
      subst this
      simp [Instr.findNow, mfind]
    | cons e0 es =>
      cases ks with
      | nil => simp at h
      | cons x ks =>
        have h1 : e0.key = Value.agg (Flat.enc x).toArray := (List.cons.inj h).1
        have hn : Instr.findNow (.array n e) (.agg (Flat.enc k).toArray) (e0 :: es) 0 = none := by
          unfold Instr.findNow
          rw [h1]
          rfl
        simp only [hn]
        exact findAsk_vec hq hk w (x :: ks) (e0 :: es) 0 k h
  same := fun k => by
    show Instr.sameBits (9999 + 1) (.agg (Flat.enc k).toArray) (.agg (Flat.enc k).toArray) = true
    rw [Instr.sameBits]
    simp only [BEq.rfl, Bool.true_and, List.all_eq_true]
    rintro ⟨x, y⟩ hm
    have hxy : x = y ∧ x ∈ Flat.enc k := by
      obtain ⟨i, hi, he⟩ := List.mem_iff_getElem.1 hm
      simp only [List.getElem_zip, Prod.mk.injEq] at he
      obtain ⟨rfl, rfl⟩ := he
      exact ⟨rfl, by simp⟩
    obtain ⟨rfl, hx⟩ := hxy
    have : ∃ b : UInt8, x = vB b := by
      have key : ∀ (l : List UInt8), x ∈ encL l → ∃ b : UInt8, x = vB b := by
        intro l
        induction l with
        | nil => intro h; cases h
        | cons b l ih =>
          intro h
          rcases List.mem_append.1 h with h | h
          · exact ⟨b, by simpa [Flat.enc] using h⟩
          · exact ih h
      exact key k.toList hx
    obtain ⟨b, rfl⟩ := this
    show (IntKind.u8 == IntKind.u8 && (b.toNat : Int) == (b.toNat : Int)) = true
    simp
/-- The elements of a map: what the model holds of one, and its own blocks. -/
structure ElOk {α : Type} (S : Nat → Prop) (E : World → α → Value → List Nat → Prop) : Prop where
  loc : ∀ {w w' : World} {x : α} {u : Value} {f : List Nat}, E w x u f → (∀ b, (b ∈ f ∨ S b) → w'.heap[b]? = w.heap[b]?) → E w' x u f
  lt : ∀ {w : World} {x : α} {u : Value} {f : List Nat}, E w x u f → ∀ b ∈ f, b < w.heap.size
def satE {α : Type} [Rep α] (S : Nat → Prop) : World → α → Value → List Nat → Prop := fun w x u f => Rep.sat S w x [u] f
theorem satE_ok {α : Type} [Rep α] {S : Nat → Prop} : ElOk (α := α) S (satE S) := ⟨fun h hb => Rep.loc h hb, fun h => Rep.lt h⟩
def oslE {α : Type} [Rep α] (S : Nat → Prop) : World → List α → Value → List Nat → Prop := fun w l u f => OwnSl S w l u f
theorem oslE_ok {α : Type} [Rep α] {S : Nat → Prop} : ElOk (α := List α) S (oslE S) := ⟨fun h hb => OwnSl.loc h hb, fun h => Rep.lt (OwnSl.sat h)⟩
/-- The entries: keys, and elements of one cell. -/
def MEnts {κ α : Type} (kv : κ → Value) (E : World → α → Value → List Nat → Prop) (w : World) : List (κ × α) → List MapEntry → List Nat → Prop
  | [], es, fp => es = [] ∧ fp = []
  | p :: m, es, fp => ∃ e es' f fp', es = e :: es' ∧ fp = f ++ fp' ∧ e.key = kv p.1 ∧ E w p.2 e.val f ∧ MEnts kv E w m es' fp'
/-- The stamps of the entries. -/
def Stamps (es : List MapEntry) (clock : Nat) : Prop := es.Pairwise (fun a b => a.born < b.born) ∧ ∀ e ∈ es, e.born < clock
def mapI {κ α : Type} (kv : κ → Value) (E : World → α → Value → List Nat → Prop) (m : List (κ × α)) (b : Nat) : Item := fun w fp =>
  ∃ es clock fpe, w.heap[b]? = some (.map es clock) ∧ MEnts kv E w m es.toList fpe ∧ Stamps es.toList clock ∧ fp = b :: fpe
/-- A map of which the element at a key is out. -/
def mapH {κ α : Type} [DecidableEq κ] (kv : κ → Value) (E : World → α → Value → List Nat → Prop) (m : List (κ × α)) (k : κ) (u : Value) (b st : Nat) : Item := fun w fp =>
  ∃ es clock m1 m2 es1 e es2 f1 f2, w.heap[b]? = some (.map es clock) ∧ es.toList = es1 ++ e :: es2 ∧ MEnts kv E w m1 es1 f1 ∧ MEnts kv E w m2 es2 f2 ∧ e.key = kv k ∧ e.born = st ∧ e.val = u ∧ Stamps es.toList clock ∧
    (∀ x, mset m k x = m1 ++ (k, x) :: m2) ∧ fp = b :: (f1 ++ f2)
section
variable {κ α : Type} {kv : κ → Value} {S St : Nat → Prop} {E : World → α → Value → List Nat → Prop} {w w' w0 : World}
theorem MEnts.keys : ∀ {m : List (κ × α)} {es : List MapEntry} {fp : List Nat}, MEnts kv E w m es fp → es.map (·.key) = (m.map (·.1)).map kv
  | [], _, _, h => by rw [h.1]; rfl
  | p :: m, _, _, h => by
    obtain ⟨e, es', f, fp', rfl, _, h1, _, h2⟩ := h
    simp [h1, MEnts.keys h2]
theorem MEnts.loc (hE : ElOk S E) : ∀ {m : List (κ × α)} {es : List MapEntry} {fp : List Nat}, MEnts kv E w m es fp → (∀ b, (b ∈ fp ∨ S b) → w'.heap[b]? = w.heap[b]?) → MEnts kv E w' m es fp
  | [], _, _, h, _ => h
  | p :: m, _, _, h, hb => by
    obtain ⟨e, es', f, fp', rfl, rfl, h1, h2, h3⟩ := h
    exact ⟨e, es', f, fp', rfl, rfl, h1, hE.loc h2 (fun b h => hb b (by simp; grind)), MEnts.loc hE h3 (fun b h => hb b (by simp; grind))⟩
theorem mapI_loc (hE : ElOk S E) {m : List (κ × α)} {b : Nat} (hS : ∀ b, S b → St b) : Loc St (mapI kv E m b) := by
  rintro w w' fp ⟨es, c, fpe, h1, h2, h3, rfl⟩ hb
  exact ⟨es, c, fpe, by rw [hb b (by simp)]; exact h1, h2.loc hE (fun k hk => hb k (by rcases hk with h | h; exact .inl (by simp [h]); exact .inr (hS k h))), h3, rfl⟩
theorem mapH_loc [DecidableEq κ] (hE : ElOk S E) {m : List (κ × α)} {b st : Nat} {k : κ} {u : Value} (hS : ∀ b, S b → St b) : Loc St (mapH kv E m k u b st) := by
  rintro w w' fp ⟨es, c, m1, m2, es1, e, es2, f1, f2, h1, h2, h3, h4, h5, h6, h7, h8, h9, rfl⟩ hb
  exact ⟨es, c, m1, m2, es1, e, es2, f1, f2, by rw [hb b (by simp)]; exact h1, h2, h3.loc hE (fun k hk => hb k (by rcases hk with h | h; exact .inl (by simp [h]); exact .inr (hS k h))), h4.loc hE (fun k hk => hb k (by rcases hk with h | h; exact .inl (by simp [h]); exact .inr (hS k h))), h5, h6, h7, h8, h9, rfl⟩
end
section
variable {κ α : Type} [DecidableEq κ] {kv : κ → Value} {S St : Nat → Prop} {E : World → α → Value → List Nat → Prop} {w w' w0 : World} {its : List Item}
theorem mfind_shift : ∀ (ks : List κ) (es : List MapEntry) (i : Nat) (k : κ), mfind ks es (i + 1) k = (mfind ks es i k).map fun p => (p.1 + 1, p.2)
  | [], _, _, _ => by simp [mfind]
  | _ :: _, [], _, _ => by simp [mfind]
  | x :: ks, e :: es, i, k => by
    unfold mfind
    by_cases h : x = k
    · simp [h]
    · simp [h, mfind_shift ks es (i + 1) k]
/-- Where a key is: not at all, or at one place. -/
theorem ents_split (k : κ) : ∀ {m : List (κ × α)} {es : List MapEntry} {fp : List Nat}, MEnts kv E w m es fp →
    (mget m k = none ∧ mfind (m.map (·.1)) es 0 k = none ∧ ∀ x, mset m k x = m ++ [(k, x)]) ∨
    ∃ m1 x0 m2 es1 e es2 f1 f f2, mget m k = some x0 ∧ mfind (m.map (·.1)) es 0 k = some (es1.length, e.val) ∧ es = es1 ++ e :: es2 ∧ fp = f1 ++ (f ++ f2) ∧ MEnts kv E w m1 es1 f1 ∧ e.key = kv k ∧ E w x0 e.val f ∧ MEnts kv E w m2 es2 f2 ∧
      (∀ x, mset m k x = m1 ++ (k, x) :: m2) ∧ m = m1 ++ (k, x0) :: m2
  | [], _, _, h => by obtain ⟨rfl, rfl⟩ := h; exact .inl ⟨rfl, rfl, fun _ => rfl⟩
  | p :: m, _, _, h => by
    obtain ⟨e, es', f, fp', rfl, rfl, h1, h2, h3⟩ := h
    by_cases hk : p.1 = k
    · refine .inr ⟨[], p.2, m, [], e, es', [], f, fp', by simp [mget, hk], by simp [mfind, hk], rfl, rfl, ⟨rfl, rfl⟩, by rw [h1, hk], h2, h3, fun x => by simp [mset, hk], by rw [← hk]; rfl⟩
    · have hf : mfind ((p :: m).map (·.1)) (e :: es') 0 k = (mfind (m.map (·.1)) es' 0 k).map fun q => (q.1 + 1, q.2) := by
        rw [← mfind_shift]; simp [mfind, hk]
      rcases ents_split k h3 with ⟨g1, g2, g3⟩ | ⟨m1, x0, m2, es1, e', es2, f1, f', f2, g1, g2, rfl, rfl, g3, g4, g5, g6, g7, g8⟩
      · exact .inl ⟨by simp [mget, hk, g1], by rw [hf, g2]; rfl, fun x => by simp [mset, hk, g3]⟩
      · exact .inr ⟨p :: m1, x0, m2, e :: es1, e', es2, f ++ f1, f', f2, by simp [mget, hk, g1], by rw [hf, g2]; simp, rfl, by simp, ⟨e, es1, f, f1, rfl, rfl, h1, h2, g3⟩, g4, g5, g6, fun x => by simp [mset, hk, g7], by rw [g8]; rfl⟩
omit [DecidableEq κ] in
theorem MEnts.app : ∀ {m1 m2 : List (κ × α)} {es1 es2 : List MapEntry} {f1 f2 : List Nat}, MEnts kv E w m1 es1 f1 → MEnts kv E w m2 es2 f2 → MEnts kv E w (m1 ++ m2) (es1 ++ es2) (f1 ++ f2)
  | [], _, _, _, _, _, h, k => by obtain ⟨rfl, rfl⟩ := h; exact k
  | p :: m, _, _, _, _, _, h, k => by
    obtain ⟨e, es', f, fp', rfl, rfl, h1, h2, h3⟩ := h
    exact ⟨e, es' ++ _, f, fp' ++ _, by simp, by simp, h1, h2, MEnts.app h3 k⟩
theorem Stamps.push {es : List MapEntry} {clock : Nat} (h : Stamps es clock) (k u : Value) : Stamps (es ++ [{ key := k, val := u, born := clock }]) (clock + 1) := by
  refine ⟨List.pairwise_append.2 ⟨h.1, by simp, fun a ha b hb => ?_⟩, fun e he => ?_⟩
  · simp at hb; subst hb; exact h.2 a ha
  · rcases List.mem_append.1 he with he | he
    · have := h.2 e he; omega
    · simp at he; subst he; exact Nat.lt_succ_self _
theorem Stamps.put {es1 es2 : List MapEntry} {e e' : MapEntry} {clock : Nat} (h : Stamps (es1 ++ e :: es2) clock) (hb : e'.born = e.born) : Stamps (es1 ++ e' :: es2) clock := by
  obtain ⟨h1, h2⟩ := h
  rw [List.pairwise_append, List.pairwise_cons] at h1
  obtain ⟨a1, ⟨a2, a3⟩, a4⟩ := h1
  refine ⟨List.pairwise_append.2 ⟨a1, List.pairwise_cons.2 ⟨fun b hb' => by rw [hb]; exact a2 b hb', a3⟩, fun a ha b hb' => ?_⟩, fun q hq => ?_⟩
  · rcases List.mem_cons.1 hb' with rfl | hb'
    · rw [hb]; exact a4 a ha e (by simp)
    · exact a4 a ha b (by simp [hb'])
  · rcases List.mem_append.1 hq with hq | hq
    · exact h2 q (by simp [hq])
    · rcases List.mem_cons.1 hq with rfl | hq
      · rw [hb]; exact h2 e (by simp)
      · exact h2 q (by simp [hq])
theorem modify_at {es : Array MapEntry} {es1 es2 : List MapEntry} {e : MapEntry} (g : MapEntry → MapEntry) (h : es.toList = es1 ++ e :: es2) : (es.modify es1.length g).toList = es1 ++ g e :: es2 := by
  rw [Array.toList_modify, h]
  clear h
  induction es1 with
  | nil => rfl
  | cons x es1 ih => simpa using ih
theorem get_at {es : Array MapEntry} {es1 es2 : List MapEntry} {e : MapEntry} (h : es.toList = es1 ++ e :: es2) : es[es1.length]? = some e := by
  rw [← Array.getElem?_toList, h, List.getElem?_append_right (Nat.le_refl _)]; simp
omit [DecidableEq κ] in
theorem M.mapNew (hE : ElOk S E) (hM : M St w0 w its) (hS : ∀ b, S b → St b) : M St w0 (w.alloc (.map #[] 0)) (mapI kv E ([] : List (κ × α)) w.heap.size :: its) :=
  hM.addS (new := [_]) (Kept.alloc _ _) ⟨[w.heap.size], ⟨[w.heap.size], [], rfl, mapI_loc hE hS, ⟨#[], 0, [], heap_alloc_new _ _, ⟨rfl, rfl⟩, ⟨by simp, by simp⟩, rfl⟩, rfl⟩, by simp, fun b hb => by simp at hb; subst hb; simp⟩
/-- The map's block is written: what comes of it and of what lies beside it. -/
theorem M.mapTurn {it : Item} {new : List Item} {b : Nat} {o : Obj} (hM : M St w0 w (it :: its)) (hin : ∀ fp, it w fp → b ∈ fp)
    (hn : ∀ fp, it w fp → fp.Nodup → (∀ q ∈ fp, ¬ St q ∧ q < w.heap.size) → ∃ fp', SepR St { w with heap := w.heap.setIfInBounds b o } new fp' ∧ fp'.Nodup ∧ ∀ q ∈ fp', q ∈ fp) : M St w0 { w with heap := w.heap.setIfInBounds b o } (new ++ its) :=
  hM.turn (new := new) rfl rfl rfl (by simp) fun fp h1 h2 h3 => by
    obtain ⟨fp', k1, k2, k3⟩ := hn fp h1 h3 h2
    exact ⟨fun q hq _ => by simp [show ¬ b = q from fun e => hq (e ▸ hin fp h1)], fp', k1, k2, fun q hq => .inl (k3 q hq)⟩
theorem heap_set (w : World) (b : Nat) (o : Obj) (h : b < w.heap.size) : ({ w with heap := w.heap.setIfInBounds b o } : World).heap[b]? = some o := by simp [h]
theorem heap_set_ne (w : World) {b q : Nat} (o : Obj) (h : q ≠ b) : ({ w with heap := w.heap.setIfInBounds b o } : World).heap[q]? = w.heap[q]? := by simp [Ne.symm h]
end
section
variable {n : Nat} {a : Act} {e : List (Nat × Value)} {w w' : World} {P : Program} {ops : Array Oper} {rest : List Oper} {Q : Exit → Act → World → Prop}
variable {d : Nat} {ty t kt el : TypeId} {pos : String} {af : Array Edge} {g : Option (Nat × Bool)} {x y z : Operand} {v u : Value}
variable {St S : Nat → Prop} {w0 : World} {its pre post : List Item} {κ α : Type} {kv : κ → Value} {m : List (κ × α)} {b : Nat} {E : World → α → Value → List Nat → Prop}
theorem s_makeMap (kv : κ → Value) (hE : ElOk S E) (h : Env n a e) (hM : M St w0 w its) (hS : ∀ b, S b → St b) (hw : Goes ops ⟨some d, .makeMap t none, ty, pos, af, g⟩ a) (hd : d < n)
    (k : ∀ b w a, M St w0 w (mapI kv E ([] : List (κ × α)) b :: its) → Env n a ((d, .map (some b)) :: e) → wpList P ops Q rest a w) : wpList P ops Q (⟨some d, .makeMap t none, ty, pos, af, g⟩ :: rest) a w :=
  s_val h hw rfl hd (v := .map (some w.heap.size)) (w' := w.alloc (.map #[] 0)) (by simp only [execOp, Option.map_none]; simp only [Sem.run_bind, show (Instr.makeMap t none).run P w = .ok (.map (some w.heap.size)) (w.alloc (.map #[] 0)) from rfl]; rfl) fun a ha => k _ _ _ (hM.mapNew hE hS) ha
variable [DecidableEq κ]
theorem run_look (hk : KeyOk P kt kv) (ht : P.underlying t = some (.map kt el)) (hM : M St w0 w (pre ++ mapI kv E m b :: post)) (k : κ) (zv : Value) (hz : (zeroValue el).run P w = .ok zv w) (ok : Bool) :
    ∃ v, (Instr.lookup t (.map (some b)) (kv k) ok).run P w = .ok (if ok then .tuple #[v, .bool (mget m k).isSome] else v) w ∧
      ((mget m k = none ∧ v = zv) ∨ ∃ x fp, mget m k = some x ∧ E w x v fp ∧ ∀ c ∈ fp, c < w.heap.size) := by
  obtain ⟨fp, ⟨es, clock, fpe, h1, h2, h3, rfl⟩, hlt⟩ := hM.get
  have hf := hk.find w k (m.map (·.1)) es.toList h2.keys
  have hc := hk.check es.isEmpty w k
  rcases ents_split k h2 with ⟨g1, g2, _⟩ | ⟨m1, x0, m2, es1, e, es2, f1, f, f2, g1, g2, g3, rfl, g4, g5, g6, _, _, _⟩
  · refine ⟨zv, ?_, .inl ⟨g1, rfl⟩⟩
    rw [g2] at hf
    cases ok <;> simp [Instr.lookup, run_underlying ht, MapKept.run_getObj_map h1, hc, hf, hz, g1]
  · refine ⟨e.val, ?_, .inr ⟨x0, f, g1, g6, fun c hc => hlt c (by simp [hc])⟩⟩
    rw [g2] at hf
    cases ok <;> simp [Instr.lookup, run_underlying ht, MapKept.run_getObj_map h1, hc, hf, g1]
/-- A look-up with its answer, elements of one cell that lie flat. -/
theorem s_lookupOk {α : Type} [Flat α] {m : List (κ × α)} {vv : α → Value} {zero : α} {k : κ} (hk : KeyOk P kt kv) (h : Env n a e) (hM : M St w0 w (pre ++ mapI kv (satE NoB) m b :: post)) (hw : Goes ops ⟨some d, .lookup t x y true, ty, pos, af, g⟩ a) (hd : d < n)
    (hx : opv e x = some (.map (some b))) (hy : opv e y = some (kv k)) (ht : P.underlying t = some (.map kt el)) (hv : ∀ x : α, Flat.enc x = [vv x]) (hz : (zeroValue el).run P w = .ok (vv zero) w)
    (K : ∀ a, Env n a ((d, .tuple [vv ((mget m k).getD zero), vT (mget m k).isSome].toArray) :: e) → wpList P ops Q rest a w) : wpList P ops Q (⟨some d, .lookup t x y true, ty, pos, af, g⟩ :: rest) a w := by
  obtain ⟨v, hr, hv2⟩ := run_look hk ht hM k _ hz true
  have e1 : v = vv ((mget m k).getD zero) := by
    rcases hv2 with ⟨g1, rfl⟩ | ⟨x, fp, g1, g2, _⟩
    · rw [g1]; rfl
    · obtain ⟨g2, _⟩ := sat_flat.1 g2
      rw [hv] at g2
      rw [g1]
      simpa using g2
  subst e1
  exact s_val h hw rfl hd (by simp only [execOp, h.ev hx, h.ev hy]; simp [hr]) K
/-- What a look-up finds. -/
def Looked {α : Type} (m : List (κ × α)) (k : κ) (b : Nat) (v : Value) (w : World) : Prop := ∃ es clock, w.heap[b]? = some (.map es clock) ∧ v = ((mfind (m.map (·.1)) es.toList 0 k).map (·.2)).getD (.slice none 0 0)
/-- A map of which it is known what lies at a key. -/
def mapV {α : Type} (kv : κ → Value) (E : World → List α → Value → List Nat → Prop) (m : List (κ × List α)) (l : List α) (v : Value) (b : Nat) : Item := fun w fp => mapI kv E m b w fp ∧ ∃ k, Looked m k b v w ∧ l = (mget m k).getD []
theorem Looked.keep {m : List (κ × α)} {k : κ} (h : Looked m k b v w) (hk : Kept (Old w) w w') : Looked m k b v w' := by
  obtain ⟨es, c, h1, h2⟩ := h
  exact ⟨es, c, (hk.block b (Array.getElem?_eq_some_iff.1 h1).1).trans h1, h2⟩
theorem gupK {C : World → Prop} {m : List (κ × α)} {k : κ} {r : List (Value → World → Prop)} (h : GUp C r) : GUp C ((fun v w => Looked m k b v w) :: r) := by
  intro g hg
  rcases List.mem_cons.1 hg with rfl | hg
  · intro v w w' _ hk hv; exact hv.keep hk
  · exact h g hg
theorem M.lookRo {α : Type} [Rep α] {m : List (κ × List α)} {k : κ} (hM : M St w0 w (pre ++ mapI kv (oslE NoB) m b :: post)) (hl : Looked m k b v w) : Ro w ((mget m k).getD []) [v] := by
  obtain ⟨fp, ⟨es, clock, fpe, h1, h2, h3, rfl⟩, hlt⟩ := hM.get
  obtain ⟨es', c', h4, rfl⟩ := hl
  rw [h1] at h4
  simp only [Option.some.injEq, Obj.map.injEq] at h4
  obtain ⟨rfl, rfl⟩ := h4
  rcases ents_split k h2 with ⟨g1, g2, _⟩ | ⟨m1, x0, m2, es1, e, es2, f1, f, f2, g1, g2, g3, rfl, g4, g5, g6, _, _, _⟩
  · rw [g1, g2]; exact ro_nil
  · rw [g1, g2]; exact Rep.ro (OwnSl.sat g6) fun c hc => hc.elim (fun h => hlt c (by simp [h])) (fun h => h.elim)
theorem M.see {α : Type} {E : World → List α → Value → List Nat → Prop} (hE : ElOk S E) (hS : ∀ b, S b → St b) {m : List (κ × List α)} {k : κ} (hM : M St w0 w (pre ++ mapI kv E m b :: post)) (hl : Looked m k b v w) : M St w0 w (mapV kv E m ((mget m k).getD []) v b :: (pre ++ post)) := by
  refine hM.pull.pack1 (fun w w' fp h hb => ⟨mapI_loc hE hS _ _ _ h.1 hb, ?_⟩) fun fp h => ⟨h, k, hl, rfl⟩
  obtain ⟨k', ⟨es, c, h1, h2⟩, h3⟩ := h.2
  obtain ⟨_, _, fpe, _, _, _, rfl⟩ := h.1
  exact ⟨k', ⟨es, c, by rw [hb b (by simp)]; exact h1, h2⟩, h3⟩
theorem M.unsee {α : Type} {E : World → List α → Value → List Nat → Prop} (hE : ElOk S E) (hS : ∀ b, S b → St b) {m : List (κ × List α)} {l : List α} (hM : M St w0 w (mapV kv E m l v b :: its)) : M St w0 w (mapI kv E m b :: its) := hM.pack1 (mapI_loc hE hS) fun _ h => h.1
theorem M.seeRo {α : Type} [Rep α] {m : List (κ × List α)} {l : List α} (hM : M St w0 w (pre ++ mapV kv (oslE NoB) m l v b :: post)) : Ro w l [v] := by
  obtain ⟨fp, h, _⟩ := hM.get
  obtain ⟨k, h2, rfl⟩ := h.2
  exact M.lookRo (pre := []) (kv := kv) ((hM.pull).unsee oslE_ok noB) h2
/-- A look-up of a slice that is only read. -/
theorem s_lookupS {α : Type} [Rep α] {m : List (κ × List α)} {k : κ} (hk : KeyOk P kt kv) (h : Env n a e) (hM : M St w0 w (pre ++ mapI kv (oslE NoB) m b :: post)) (hw : Goes ops ⟨some d, .lookup t x y false, ty, pos, af, g⟩ a) (hd : d < n)
    (hx : opv e x = some (.map (some b))) (hy : opv e y = some (kv k)) (ht : P.underlying t = some (.map kt el)) (hz : (zeroValue el).run P w = .ok (.slice none 0 0) w)
    (K : ∀ v a, Looked m k b v w → Env n a ((d, v) :: e) → wpList P ops Q rest a w) : wpList P ops Q (⟨some d, .lookup t x y false, ty, pos, af, g⟩ :: rest) a w := by
  obtain ⟨fp, ⟨es, clock, fpe, h1, h2, h3, rfl⟩, hlt⟩ := hM.get
  have hf := hk.find w k (m.map (·.1)) es.toList h2.keys
  have hc := hk.check es.isEmpty w k
  have hr : (Instr.lookup t (.map (some b)) (kv k) false).run P w = .ok (((mfind (m.map (·.1)) es.toList 0 k).map (·.2)).getD (.slice none 0 0)) w := by
    cases hq : mfind (m.map (·.1)) es.toList 0 k with
    | none => rw [hq] at hf; simp [Instr.lookup, run_underlying ht, MapKept.run_getObj_map h1, hc, hf, hz]
    | some p => rw [hq] at hf; simp [Instr.lookup, run_underlying ht, MapKept.run_getObj_map h1, hc, hf]
  exact s_val h hw rfl hd (by simp only [execOp, h.ev hx, h.ev hy]; simp [hr]) fun a ha => K _ a ⟨es, clock, h1, rfl⟩ ha
theorem M.mapSet [Rep α] {x : α} {k : κ} (hM : M St w0 w (own S x [u] :: mapI kv (satE S) m b :: its)) (hS : ∀ b, S b → St b) (hk : KeyOk P kt kv) (ht : P.underlying t = some (.map kt el)) :
    ∃ w', (Instr.mapUpdate t (.map (some b)) (kv k) u).run P w = .ok () w' ∧ M St w0 w' (mapI kv (satE S) (mset m k x) b :: its) := by
  have hE : ElOk (α := α) S (satE S) := satE_ok
  obtain ⟨fq, ⟨es, clock, fpe, h2, h3, hst, _⟩, _⟩ := (show M St w0 w ([own S x [u]] ++ mapI kv (satE S) m b :: its) from hM).get
  have hbl : b < w.heap.size := (Array.getElem?_eq_some_iff.1 h2).1
  have hf := hk.find w k (m.map (·.1)) es.toList h3.keys
  have hc := hk.check false w k
  have hM2 : M St w0 w ((fun w fp => ∃ f1 f2, fp = f1 ++ f2 ∧ Rep.sat S w x [u] f1 ∧ mapI kv (satE S) m b w f2) :: its) := hM.packL (m := [_, _]) (fun w w' fp ⟨f1, f2, e, k1, k2⟩ hb => ⟨f1, f2, e, Rep.loc k1 (fun b h => hb b (by subst e; rcases h with h | h; exact .inl (by simp [h]); exact .inr (hS b h))), mapI_loc hE hS _ _ _ k2 (fun b h => hb b (by subst e; rcases h with h | h; exact .inl (by simp [h]); exact .inr h))⟩)
    (fun fp ⟨f1, _, e, _, k1, f2, _, e2, _, k2, e3⟩ => ⟨f1, f2, by rw [e, e2, e3]; simp, k1, k2⟩)
  have fin : ∀ (es' : Array MapEntry) (c : Nat), Stamps es'.toList c → (∀ (f1 f2 : List Nat), Rep.sat S w x [u] f1 → MEnts kv (satE S) w m es.toList f2 → (f1 ++ f2).Nodup → ∃ f3, MEnts kv (satE S) w (mset m k x) es'.toList f3 ∧ f3.Nodup ∧ ∀ q ∈ f3, q ∈ f1 ∨ q ∈ f2) →
      M St w0 { w with heap := w.heap.setIfInBounds b (.map es' c) } (mapI kv (satE S) (mset m k x) b :: its) := by
    intro es' c hst' hm
    refine hM2.mapTurn (new := [_]) (fun fp ⟨f1, f2, e, _, es0, c0, f0, _, _, _, e0⟩ => by rw [e, e0]; simp) ?_
    rintro fp ⟨f1, f2, rfl, k1, es0, c0, f0, k2, k3, k4, rfl⟩ hnd hlt
    rw [h2] at k2
    simp only [Option.some.injEq, Obj.map.injEq] at k2
    obtain ⟨rfl, rfl⟩ := k2
    obtain ⟨n1, n2, n3⟩ := List.nodup_append.1 hnd
    obtain ⟨n4, n5⟩ := List.nodup_cons.1 n2
    obtain ⟨f3, j1, j2, j3⟩ := hm f1 f0 k1 k3 (List.nodup_append.2 ⟨n1, n5, fun p hp q hq => n3 p hp q (by simp [hq])⟩)
    have hb0 : b ∉ f3 := fun h => by
      rcases j3 b h with h | h
      · exact n3 b h b (by simp) rfl
      · exact n4 h
    refine ⟨b :: f3, ⟨b :: f3, [], by simp, mapI_loc hE hS, ⟨es', c, f3, heap_set w b _ hbl, j1.loc hE fun q hq => heap_set_ne w _ ?_, hst', rfl⟩, rfl⟩, List.nodup_cons.2 ⟨hb0, j2⟩, fun q hq => ?_⟩
    · rcases hq with h | h
      · exact fun e => hb0 (e ▸ h)
      · exact fun e => (hlt b (by simp)).1 (e ▸ hS q h)
    · rcases List.mem_cons.1 hq with rfl | hq
      · simp
      · rcases j3 q hq with h | h <;> simp [h]
  rcases ents_split k h3 with ⟨g1, g2, g3⟩ | ⟨m1, x0, m2, es1, e, es2, f1, f, f2, g1, g2, g3, rfl, g4, g5, g6, g7, g8, g9⟩
  · rw [g2] at hf
    have hset := MapKept.run_setObj_map (P := P) (.map (es.push { key := kv k, val := u, born := clock }) (clock + 1)) h2
    refine ⟨_, by simp [Instr.mapUpdate, run_underlying ht, MapKept.run_getObj_map h2, hc, hf, hset], fin (es.push { key := kv k, val := u, born := clock }) (clock + 1) (by simpa using hst.push (kv k) u) ?_⟩
    intro f1 f2 k1 k2 hnd
    refine ⟨f2 ++ f1, ?_, (List.perm_append_comm.nodup_iff).1 hnd, fun q hq => (List.mem_append.1 hq).symm⟩
    rw [g3]
    simpa using k2.app (m2 := [(k, x)]) ⟨{ key := kv k, val := u, born := clock }, [], f1, [], rfl, by simp, rfl, k1, rfl, rfl⟩
  · rw [g2] at hf
    have hget := get_at g3
    have hset := MapKept.run_setObj_map (P := P) (.map (es.modify es1.length fun e => { e with key := kv k, val := u }) clock) h2
    have hstay : (Instr.keyThatStays (kv k) (kv k)).run P w = .ok (kv k) w := by simp [Instr.keyThatStays, hk.same k]
    have hmod := modify_at (fun e => { e with key := kv k, val := u }) g3
    refine ⟨_, by simp [Instr.mapUpdate, run_underlying ht, MapKept.run_getObj_map h2, hc, hf, hget, g5, hstay, hset], fin (es.modify es1.length fun e => { e with key := kv k, val := u }) clock (by rw [hmod]; rw [g3] at hst; exact hst.put rfl) ?_⟩
    intro p1 p2 k1 k2 hnd
    rcases ents_split k k2 with ⟨q1, _, _⟩ | ⟨m1', x0', m2', es1', e', es2', f1', f', f2', q1, q2, q3, rfl, q4, q5, q6, q7, q8, q9⟩
    · rw [g1] at q1; cases q1
    · have hlen : es1.length = es1'.length := by rw [g2] at q2; simpa using (congrArg (Option.map Prod.fst) q2)
      obtain ⟨rfl, hee⟩ := List.append_inj (g3.symm.trans q3) hlen
      simp only [List.cons.injEq] at hee
      obtain ⟨rfl, rfl⟩ := hee
      obtain ⟨n1, n2, n3⟩ := List.nodup_append.1 hnd
      obtain ⟨n4, n5, n6⟩ := List.nodup_append.1 n2
      obtain ⟨n7, n8, n9⟩ := List.nodup_append.1 n5
      refine ⟨f1' ++ (p1 ++ f2'), ?_, ?_, ?_⟩
      · rw [hmod, q8]
        exact q4.app (m2 := (k, x) :: m2') ⟨_, es2, p1, f2', rfl, rfl, rfl, k1, q7⟩
      · refine List.nodup_append.2 ⟨n4, List.nodup_append.2 ⟨n1, n8, fun p hp q hq => n3 p hp q (by simp [hq])⟩, fun p hp q hq => ?_⟩
        rcases List.mem_append.1 hq with h | h
        · exact fun e => n3 q h p (by simp [hp]) e.symm
        · exact n6 p hp q (by simp [h])
      · intro q hq
        simp only [List.mem_append] at hq ⊢
        rcases hq with h | h | h
        · exact .inr (.inl h)
        · exact .inl h
        · exact .inr (.inr (.inr h))
/-- A store into a map, elements of one cell that lie flat. -/
theorem s_mapUpdateF {α : Type} [Flat α] {m : List (κ × α)} {vv : α → Value} {c : α} {k : κ} (hk : KeyOk P kt kv) (h : Env n a e) (hM : M St w0 w (mapI kv (satE NoB) m b :: its)) (hw : Goes ops ⟨none, .mapUpdate t x y z, ty, pos, af, g⟩ a)
    (hx : opv e x = some (.map (some b))) (hy : opv e y = some (kv k)) (hzv : opv e z = some (vv c)) (ht : P.underlying t = some (.map kt el)) (hv : ∀ x : α, Flat.enc x = [vv x])
    (K : ∀ w a, M St w0 w (mapI kv (satE NoB) (mset m k c) b :: its) → Env n a e → wpList P ops Q rest a w) : wpList P ops Q (⟨none, .mapUpdate t x y z, ty, pos, af, g⟩ :: rest) a w := by
  have hM2 : M St w0 w (own NoB c [vv c] :: mapI kv (satE NoB) m b :: its) := hM.addRo noB (sat_flat.2 ⟨(hv c).symm, rfl⟩)
  obtain ⟨w', hr, hM'⟩ := hM2.mapSet (k := k) noB hk ht
  exact s_unit h hw rfl (w' := w') (by simp only [execOp, h.ev hx, h.ev hy, h.ev hzv]; simp [hr]) fun a ha => K _ _ hM' ha
/-- An entry is laid open: its slice is one's own, the map without it. -/
theorem s_mapEntry {α : Type} [Rep α] {m : List (κ × List α)} {k : κ} (hk : KeyOk P kt kv) (h : Env n a e) (hM : M St w0 w (mapI kv (oslE NoB) m b :: its)) (hw : Goes ops ⟨some d, .mapEntry t x y, ty, pos, af, g⟩ a) (hd : d < n)
    (hx : opv e x = some (.map (some b))) (hy : opv e y = some (kv k)) (ht : P.underlying t = some (.map kt el)) (hz : ∀ w, (zeroValue el).run P w = .ok (.slice none 0 0) w)
    (K : ∀ v (st : Nat) w a, M St w0 w (osl NoB ((mget m k).getD []) v :: mapH kv (oslE NoB) m k v b st :: its) → Env n a ((d, .tuple [v, vI st].toArray) :: e) → wpList P ops Q rest a w) : wpList P ops Q (⟨some d, .mapEntry t x y, ty, pos, af, g⟩ :: rest) a w := by
  have hE : ElOk (α := List α) NoB (oslE NoB) := oslE_ok
  obtain ⟨fq, ⟨es, clock, fpe, h2, h3, hst, _⟩, _⟩ := hM.head
  have hbl : b < w.heap.size := (Array.getElem?_eq_some_iff.1 h2).1
  have hf := hk.find w k (m.map (·.1)) es.toList h3.keys
  have hc := hk.check false w k
  rcases ents_split k h3 with ⟨g1, g2, g3⟩ | ⟨m1, x0, m2, es1, e0, es2, f1, f, f2, g1, g2, g3, rfl, g4, g5, g6, g7, g8, g9⟩
  · rw [g2] at hf
    have hset := MapKept.run_setObj_map (P := P) (.map (es.push { key := kv k, val := .slice none 0 0, born := clock }) (clock + 1)) h2
    refine s_val h hw rfl hd (v := .tuple [.slice none 0 0, vI clock].toArray) (w' := { w with heap := w.heap.setIfInBounds b (.map (es.push { key := kv k, val := .slice none 0 0, born := clock }) (clock + 1)) }) (by simp only [execOp, h.ev hx, h.ev hy]; simp [Instr.mapEntry, run_underlying ht, MapKept.run_getObj_map h2, hc, hf, hz, hset, goInt]) fun a ha => K _ clock _ _ ?_ ha
    rw [g1]
    refine hM.mapTurn (new := [_, _]) (fun fp ⟨es0, c0, f0, _, _, _, e0⟩ => by rw [e0]; simp) ?_
    rintro fp ⟨es0, c0, f0, k2, k3, k4, rfl⟩ hnd hlt
    rw [h2] at k2
    simp only [Option.some.injEq, Obj.map.injEq] at k2
    obtain ⟨rfl, rfl⟩ := k2
    obtain ⟨n4, n5⟩ := List.nodup_cons.1 hnd
    refine ⟨b :: f0, ⟨[], b :: f0, rfl, osl_loc noB, ⟨none, 0, rfl, Nat.le_refl _, .inl ⟨rfl, rfl, trivial⟩⟩, b :: f0, [], by simp, mapH_loc hE noB, ⟨_, _, m, [], es.toList, { key := kv k, val := .slice none 0 0, born := clock }, [], f0, [], heap_set w b _ hbl, by simp, k3.loc hE fun q hq => heap_set_ne w _ ?_, ⟨rfl, rfl⟩, rfl, rfl, rfl, by simpa using k4.push (kv k) (.slice none 0 0), g3, by simp⟩, rfl⟩, hnd, fun q hq => hq⟩
    rcases hq with h | h
    · exact fun e => n4 (e ▸ h)
    · exact h.elim
  · rw [g2] at hf
    have hget := get_at g3
    have hset := MapKept.run_setObj_map (P := P) (.map (es.modify es1.length fun e => { e with key := kv k }) clock) h2
    have hstay : (Instr.keyThatStays (kv k) (kv k)).run P w = .ok (kv k) w := by simp [Instr.keyThatStays, hk.same k]
    have hmod := modify_at (fun e => { e with key := kv k }) g3
    refine s_val h hw rfl hd (v := .tuple [e0.val, vI e0.born].toArray) (w' := { w with heap := w.heap.setIfInBounds b (.map (es.modify es1.length fun e => { e with key := kv k }) clock) }) (by simp only [execOp, h.ev hx, h.ev hy]; simp [Instr.mapEntry, run_underlying ht, MapKept.run_getObj_map h2, hc, hf, hget, g5, hstay, hset, goInt]) fun a ha => K _ e0.born _ _ ?_ ha
    rw [g1]
    refine hM.mapTurn (new := [_, _]) (fun fp ⟨es0, c0, f0, _, _, _, e0⟩ => by rw [e0]; simp) ?_
    rintro fp ⟨es0, c0, f0, k2, k3, k4, rfl⟩ hnd hlt
    rw [h2] at k2
    simp only [Option.some.injEq, Obj.map.injEq] at k2
    obtain ⟨rfl, rfl⟩ := k2
    obtain ⟨n4, n5⟩ := List.nodup_cons.1 hnd
    rcases ents_split k k3 with ⟨q1, _, _⟩ | ⟨m1', x0', m2', es1', e', es2', f1', f', f2', q1, q2, q3, rfl, q4, q5, q6, q7, q8, q9⟩
    · rw [g1] at q1; cases q1
    · have hlen : es1.length = es1'.length := by rw [g2] at q2; simpa using (congrArg (Option.map Prod.fst) q2)
      obtain ⟨rfl, hee⟩ := List.append_inj (g3.symm.trans q3) hlen
      simp only [List.cons.injEq] at hee
      obtain ⟨rfl, rfl⟩ := hee
      rw [g1] at q1
      simp only [Option.some.injEq] at q1
      subst q1
      have hne : ∀ q, (q ∈ f1' ∨ q ∈ f' ∨ q ∈ f2') → q ≠ b := fun q hq e => n4 (by subst e; simp; grind)
      have hst2 := k4
      rw [q3] at hst2
      refine ⟨f' ++ (b :: (f1' ++ f2')), ⟨f', _, rfl, osl_loc noB, OwnSl.loc q6 fun q hq => heap_set_ne w _ (hne q (by rcases hq with h | h; exact .inr (.inl h); exact h.elim)), b :: (f1' ++ f2'), [], by simp, mapH_loc hE noB, ⟨_, clock, m1', m2', es1, { e0 with key := kv k }, es2, f1', f2', heap_set w b _ hbl, hmod, q4.loc hE fun q hq => heap_set_ne w _ (hne q (by rcases hq with h | h; exact .inl h; exact h.elim)), q7.loc hE fun q hq => heap_set_ne w _ (hne q (by rcases hq with h | h; exact .inr (.inr h); exact h.elim)), rfl, rfl, rfl, by rw [hmod]; exact hst2.put rfl, q8, rfl⟩, rfl⟩, ?_, fun q hq => by simp at hq ⊢; grind⟩
      refine (List.Perm.nodup_iff ?_).1 hnd
      have e1 : b :: (f1' ++ (f' ++ f2')) = ((b :: f1') ++ f') ++ f2' := by simp
      have e2 : f' ++ (b :: (f1' ++ f2')) = (f' ++ (b :: f1')) ++ f2' := by simp
      rw [e1, e2]
      exact List.Perm.append_right _ List.perm_append_comm
/-- .. and is put back. -/
theorem s_entryStore {α : Type} [Rep α] {m : List (κ × List α)} {l : List α} {k : κ} {st : Nat} (h : Env n a e) (hM : M St w0 w (osl NoB l u :: mapH kv (oslE NoB) m k v b st :: its)) (hw : Goes ops ⟨none, .entryStore t x y z, ty, pos, af, g⟩ a)
    (hx : opv e x = some (.map (some b))) (hy : opv e y = some (vI st)) (hzv : opv e z = some u)
    (K : ∀ w a, M St w0 w (mapI kv (oslE NoB) (mset m k l) b :: its) → Env n a e → wpList P ops Q rest a w) : wpList P ops Q (⟨none, .entryStore t x y z, ty, pos, af, g⟩ :: rest) a w := by
  have hE : ElOk (α := List α) NoB (oslE NoB) := oslE_ok
  obtain ⟨fq, ⟨es, clock, m1, m2, es1, e0, es2, f1, f2, h2, h3, h4, h5, h6, h7, h8, h9, h10, _⟩, _⟩ := (show M St w0 w ([osl NoB l u] ++ mapH kv (oslE NoB) m k v b st :: its) from hM).get
  have hbl : b < w.heap.size := (Array.getElem?_eq_some_iff.1 h2).1
  have hfi : es.findIdx? (fun e => (e.born : Int) == (st : Int)) = some es1.length := by
    have e0' : es.findIdx? (fun e => (e.born : Int) == (st : Int)) = es.toList.findIdx? (fun e => (e.born : Int) == (st : Int)) := by cases es; simp
    rw [e0', h3, List.findIdx?_append]
    have hp := h9.1
    rw [h3, List.pairwise_append] at hp
    have hno : es1.findIdx? (fun e => (e.born : Int) == (st : Int)) = none := by
      rw [List.findIdx?_eq_none_iff]
      intro q hq
      have := hp.2.2 q hq e0 (by simp)
      simp only [beq_eq_false_iff_ne, ne_eq]
      omega
    rw [hno, List.findIdx?_cons]
    simp [h7]
  have hset := MapKept.run_setObj_map (P := P) (.map (es.modify es1.length fun e => { e with val := u }) clock) h2
  have hmod := modify_at (fun e => { e with val := u }) h3
  have hint : (asInt (vI st)).run P w = .ok (st : Int) w := by simp [asInt, asIntOf]
  refine s_unit h hw rfl (w' := { w with heap := w.heap.setIfInBounds b (.map (es.modify es1.length fun e => { e with val := u }) clock) }) (by simp only [execOp, h.ev hx, h.ev hy, h.ev hzv]; simp [Instr.entryStore, MapKept.run_getObj_map h2, hint, hfi, hset]) fun a ha => K _ _ ?_ ha
  have hM2 : M St w0 w ((fun w fp => ∃ f1 f2, fp = f1 ++ f2 ∧ OwnSl NoB w l u f1 ∧ mapH kv (oslE NoB) m k v b st w f2) :: its) := hM.packL (m := [_, _]) (fun w w' fp ⟨f1, f2, e, k1, k2⟩ hb => ⟨f1, f2, e, OwnSl.loc k1 (fun b h => hb b (by subst e; rcases h with h | h; exact .inl (by simp [h]); exact h.elim)), mapH_loc hE noB _ _ _ k2 (fun b h => hb b (by subst e; rcases h with h | h; exact .inl (by simp [h]); exact .inr h))⟩)
    (fun fp ⟨f1, _, e, _, k1, f2, _, e2, _, k2, e3⟩ => ⟨f1, f2, by rw [e, e2, e3]; simp, k1, k2⟩)
  refine hM2.mapTurn (new := [_]) (fun fp ⟨f1, f2, e, _, es', c', m1', m2', es1', e', es2', g1, g2, _, _, _, _, _, _, _, _, _, e0⟩ => by rw [e, e0]; simp) ?_
  rintro fp ⟨p1, p2, rfl, k1, es', c', m1', m2', es1', e', es2', g1, g2, j1, j2, j3, j4, j5, j6, j7, j8, j9, rfl⟩ hnd hlt
  rw [h2] at j1
  simp only [Option.some.injEq, Obj.map.injEq] at j1
  obtain ⟨rfl, rfl⟩ := j1
  obtain ⟨n1, n2, n3⟩ := List.nodup_append.1 hnd
  obtain ⟨n4, n5⟩ := List.nodup_cons.1 n2
  obtain ⟨n6, n7, n8⟩ := List.nodup_append.1 n5
  have hlen : es1.length = es1'.length := by
    have hfi' : es.findIdx? (fun e => (e.born : Int) == (st : Int)) = some es1'.length := by
      have e0' : es.findIdx? (fun e => (e.born : Int) == (st : Int)) = es.toList.findIdx? (fun e => (e.born : Int) == (st : Int)) := by cases es; simp
      rw [e0', j2, List.findIdx?_append]
      have hp := j8.1
      rw [j2, List.pairwise_append] at hp
      have hno : es1'.findIdx? (fun e => (e.born : Int) == (st : Int)) = none := by
        rw [List.findIdx?_eq_none_iff]
        intro q hq
        have := hp.2.2 q hq e' (by simp)
        simp only [beq_eq_false_iff_ne, ne_eq]
        omega
      rw [hno, List.findIdx?_cons]
      simp [j6]
    rw [hfi] at hfi'
    simpa using hfi'
  obtain ⟨rfl, hee⟩ := List.append_inj (h3.symm.trans j2) hlen
  simp only [List.cons.injEq] at hee
  obtain ⟨rfl, rfl⟩ := hee
  have hne : ∀ q, (q ∈ p1 ∨ q ∈ g1 ∨ q ∈ g2) → q ≠ b := by
    rintro q (h | h | h) rfl
    · exact n3 q h q (by simp) rfl
    · exact n4 (by simp [h])
    · exact n4 (by simp [h])
  refine ⟨b :: (g1 ++ (p1 ++ g2)), ⟨_, [], by simp, mapI_loc hE noB, ⟨_, clock, g1 ++ (p1 ++ g2), heap_set w b _ hbl, ?_, by rw [hmod]; rw [h3] at h9; exact h9.put rfl, rfl⟩, rfl⟩, ?_, fun q hq => by simp at hq ⊢; grind⟩
  · rw [hmod, j9]
    refine (j3.loc hE fun q hq => heap_set_ne w _ (hne q (by rcases hq with h | h; exact .inr (.inl h); exact h.elim))).app (m2 := (k, l) :: m2') ⟨_, es2, p1, g2, rfl, rfl, j5, OwnSl.loc k1 fun q hq => heap_set_ne w _ (hne q (by rcases hq with h | h; exact .inl h; exact h.elim)), j4.loc hE fun q hq => heap_set_ne w _ (hne q (by rcases hq with h | h; exact .inr (.inr h); exact h.elim))⟩
  · refine List.nodup_cons.2 ⟨fun h => ?_, List.nodup_append.2 ⟨n6, List.nodup_append.2 ⟨n1, n7, fun p hp q hq => n3 p hp q (by simp [hq])⟩, fun p hp q hq => ?_⟩⟩
    · simp only [List.mem_append] at h
      rcases h with h | h | h
      · exact hne b (.inr (.inl h)) rfl
      · exact hne b (.inl h) rfl
      · exact hne b (.inr (.inr h)) rfl
    · rcases List.mem_append.1 hq with h | h
      · exact fun e => n3 q h p (by simp [hp]) e.symm
      · exact n8 p hp q h
end
end Go.Proofs.YtkcaldgoomphaaaDoor
