/- The walk library, part G: structs, leaving pieces of code, results. -/
import Derived.Test.YtkcaldgoomphaaaDoorLibF
namespace Go.Proofs.YtkcaldgoomphaaaDoor
open Go

/-! ### Several fields -/
instance {α β : Type} [Rep α] [Rep β] : Rep (α × β) where
  n := Rep.n α + Rep.n β
  sat S w x cs fp := ∃ c1 c2 f1 f2, cs = c1 ++ c2 ∧ fp = f1 ++ f2 ∧ Rep.sat S w x.1 c1 f1 ∧ Rep.sat S w x.2 c2 f2
  len := by rintro S w x cs fp ⟨c1, c2, f1, f2, rfl, rfl, h1, h2⟩; rw [List.length_append, Rep.len h1, Rep.len h2]
  loc := by
    rintro S w w' x cs fp ⟨c1, c2, f1, f2, rfl, rfl, h1, h2⟩ hb
    exact ⟨c1, c2, f1, f2, rfl, rfl, Rep.loc h1 (fun b h => hb b (by simp; grind)), Rep.loc h2 (fun b h => hb b (by simp; grind))⟩
  ro := by
    rintro S S' w x cs fp ⟨c1, c2, f1, f2, rfl, rfl, h1, h2⟩ hb
    exact ⟨c1, c2, [], [], rfl, rfl, Rep.ro h1 (fun b h => hb b (by simp; grind)), Rep.ro h2 (fun b h => hb b (by simp; grind))⟩
  wk := by
    rintro S S' w x cs fp ⟨c1, c2, f1, f2, rfl, rfl, h1, h2⟩ hb
    exact ⟨c1, c2, f1, f2, rfl, rfl, Rep.wk h1 hb, Rep.wk h2 hb⟩
  lt := by
    rintro S w x cs fp ⟨c1, c2, f1, f2, rfl, rfl, h1, h2⟩ b hb
    rcases List.mem_append.1 hb with hb | hb
    · exact Rep.lt h1 b hb
    · exact Rep.lt h2 b hb
  cell := by
    rintro S w x cs fp ⟨c1, c2, f1, f2, rfl, rfl, h1, h2⟩ v hv
    rcases List.mem_append.1 hv with hv | hv
    · exact Rep.cell h1 v hv
    · exact Rep.cell h2 v hv
/-- A struct by the tuple of its fields. -/
@[reducible] def repIso {σ α : Type} [Rep α] (f : σ → α) : Rep σ where
  n := Rep.n α
  sat S w x cs fp := Rep.sat S w (f x) cs fp
  len h := Rep.len h
  loc h := Rep.loc h
  ro h := Rep.ro h
  wk h := Rep.wk h
  lt h := Rep.lt h
  cell h := Rep.cell h

def cat : List (List Value) → List Value
  | [] => []
  | [c] => c
  | c :: d :: r => c ++ cat (d :: r)
theorem cat_flatten : ∀ l : List (List Value), cat l = l.flatten
  | [] => rfl
  | [c] => by simp [cat]
  | c :: d :: r => by rw [cat, cat_flatten (d :: r)]; simp
def clen : List (List Value) → Nat
  | [] => 0
  | c :: r => c.length + clen r
theorem clen_flatten : ∀ l : List (List Value), l.flatten.length = clen l
  | [] => rfl
  | c :: r => by simp [clen, clen_flatten r]
theorem cl0 : clen [] = 0 := rfl
theorem cl1 {c : List Value} {r : List (List Value)} {n m : Nat} (h : c.length = n) (k : clen r = m) : clen (c :: r) = n + m := by rw [clen, h, k]
theorem At.cat {w : World} {b o k : Nat} {pre : List (List Value)} {seg : List Value} {post : List (List Value)} (h : At w b o (cat (pre ++ seg :: post))) (hk : clen pre = k) : At w b (o + k) seg := by
  rw [cat_flatten] at h
  exact h.part (by rw [clen_flatten, hk])
/-- The first of several parts. -/
theorem splice_cat {pre : List (List Value)} {seg seg' : List Value} {post : List (List Value)} {o : Nat} (hk : clen pre = o) (hl : seg'.length = seg.length) :
    splice (cat (pre ++ seg :: post)) o seg' = cat (pre ++ seg' :: post) := by
  subst hk
  rw [cat_flatten, cat_flatten, List.flatten_append, List.flatten_append, List.flatten_cons, List.flatten_cons, ← clen_flatten]
  exact splice_mid _ _ _ _ hl
theorem cat_len {l : List (List Value)} {n : Nat} (h : clen l = n) : (cat l).length = n := by rw [cat_flatten, clen_flatten, h]
theorem cc0 : ∀ c ∈ ([] : List (List Value)), ∀ v ∈ c, v.oneCell' = true := fun _ h => by cases h
theorem cc1 {c : List Value} {r : List (List Value)} (h : ∀ v ∈ c, v.oneCell' = true) (k : ∀ c ∈ r, ∀ v ∈ c, v.oneCell' = true) : ∀ d ∈ c :: r, ∀ v ∈ d, v.oneCell' = true := by
  intro d hd
  rcases List.mem_cons.1 hd with rfl | hd
  · exact h
  · exact k d hd
theorem cat_cell {l : List (List Value)} (h : ∀ c ∈ l, ∀ v ∈ c, v.oneCell' = true) : ∀ v ∈ cat l, v.oneCell' = true := by
  intro v hv
  rw [cat_flatten, List.mem_flatten] at hv
  obtain ⟨c, hc, hv⟩ := hv
  exact h c hc v hv

section
variable {n : Nat} {a : Act} {e : List (Nat × Value)} {w w' : World} {P : Program} {ops : Array Oper} {rest : List Oper} {Q : Exit → Act → World → Prop}
variable {St : Nat → Prop} {w0 : World} {its : List Item}
theorem M.fst {l r : List Item} (h : M St w0 w (l ++ r)) : M St w0 w l := by
  obtain ⟨h1, h2, fp, h3, h4, h5⟩ := h
  obtain ⟨f, g, rfl, k1, k2⟩ := h3.split
  exact ⟨h1, h2, f, k1, (List.nodup_append.1 h4).1, fun b hb => h5 b (by simp [hb])⟩
theorem M.none (h : M St w0 w its) : M St w0 w [] := M.fst (l := []) h
theorem M.drew (h : M St w0 w its) : M St w0 w.drew its := h.keep ⟨rfl, rfl, rfl, Nat.le_refl _, fun _ _ => rfl⟩
/-- What has been made, handed back. -/
theorem M.out (h : M (Old w0) w0 w its) : FrS (Old w0) w0 w its := by
  obtain ⟨h1, h2, fp, h3, h4, h5⟩ := h
  exact ⟨fp, h3, h4, fun b hb => ⟨Nat.le_of_not_lt (h5 b hb).1, (h5 b hb).2⟩⟩
theorem M.out0 (_ : M (Old w0) w0 w []) : Fr w0 w [] := Fr.nil _ _
def LocN (its : List Item) : Prop := ∀ it ∈ its, Loc NoB it
theorem SepR.reloc {w : World} : ∀ {l : List Item} {fp : List Nat}, SepR St w l fp → LocN l → SepR NoB w l fp
  | [], _, h, _ => h
  | it :: r, _, h, hl => by
    obtain ⟨f, f', rfl, _, h1, h2⟩ := h
    exact ⟨f, f', rfl, hl it (by simp), h1, SepR.reloc h2 (fun x hx => hl x (by simp [hx]))⟩
theorem M.outF (h : M (Old w0) w0 w its) (hl : LocN its) : Fr w0 w its := by
  obtain ⟨h1, h2, fp, h3, h4, h5⟩ := h
  exact ⟨fp, h3.reloc hl, h4, fun b hb => ⟨Nat.le_of_not_lt (h5 b hb).1, (h5 b hb).2⟩⟩
theorem locN0 : LocN [] := fun _ h => by cases h
theorem locN1 {α : Type} [Rep α] {l : List α} {v : Value} {r : List Item} (h : LocN r) : LocN (osl NoB l v :: r) := by
  intro it hit
  rcases List.mem_cons.1 hit with rfl | hit
  · exact osl_loc (fun _ h => h)
  · exact h it hit

/-! ### Leaving pieces -/
theorem c_nx {Z : Code} (h : Z.wp P Q a w) : Exit.then (Z.wp P Q) Q .normal a w := h
theorem c_nb {id : Nat} (h : Q .normal a w) : Exit.inBlock id Q .normal a w := h
theorem c_mid {K : Act → World → Prop} (h : K a w) : Exit.then K Q .normal a w := h
theorem e_then {K : Act → World → Prop} {id : Nat} (h : Q (.exit id) a w) : Exit.then K Q (.exit id) a w := h
theorem e_eq {id : Nat} (h : Q .normal a w) : Exit.inBlock id Q (.exit id) a w := by simp [Exit.inBlock, h]
theorem e_ne {id id' : Nat} (hn : id ≠ id') (h : Q (.exit id) a w) : Exit.inBlock id' Q (.exit id) a w := by simp [Exit.inBlock, hn, h]
theorem r_then {K : Act → World → Prop} (h : Q .ret a w) : Exit.then K Q .ret a w := h
theorem r_inb {id : Nat} (h : Q .ret a w) : Exit.inBlock id Q .ret a w := h
theorem lk {o : Option Value} {u v : Value} (h : o = some u) (k : u = v) : o = some v := by rw [h, k]
theorem lkb {o : Option Value} {b c : Bool} (h : o = some (vT b)) (k : b = c) : o = some (vT c) := by rw [h, k]
theorem c_condT {X Y : Code} {x : Operand} (hE : Env n a e) (hx : opv e x = some (vT true)) (ht : X.wp P Q a w) : (Code.cond x X Y).wp P Q a w := wp_cond_true (hE.ev hx) ht
theorem c_condF {X Y : Code} {x : Operand} (hE : Env n a e) (hx : opv e x = some (vT false)) (ht : Y.wp P Q a w) : (Code.cond x X Y).wp P Q a w := wp_cond_false (hE.ev hx) ht

/-! ### Results -/
/-- One result, read at the end. -/
def ResIs (P : Program) (w : World) (a : Act) (rv : ResultVar) (v : Value) : Prop :=
  match rv with
  | .tmp t => a.tmps.getD t undef = v
  | .cell t ty => (do loadVar ty (← asAddr (a.tmps.getD t undef)) : Sem Value).run P w = .ok v w
theorem res_tmp {t : Nat} {v : Value} (hE : Env n a e) (h : e.lookup t = some v) : ResIs P w a (.tmp t) v := hE.get _ _ h
theorem res_cell {t ty b : Nat} {v : Value} {cs : List Value} {D : TypeDesc} {sz by_ : Nat} {z : List Value} (hE : Env n a e) (h : e.lookup t = some (ptr b 0)) (ht : Ty P ty D sz by_ z) (hD : isAggD D = true) (hA : At w b 0 cs) (hl : cs.length = sz)
    (hv : v = .agg cs.toArray) : ResIs P w a (.cell t ty) v := by
  subst hv
  have hr := run_loadCells_list (P := P) w ⟨b, 0, none⟩ cs hA.add
  rw [hl] at hr
  have hg := hE.get _ _ h
  show (do loadVar ty (← asAddr (a.tmps.getD t undef)) : Sem Value).run P w = _
  rw [hg]
  simp [asAddr, loadVar, run_isAgg ht, hD, run_sizeOf ht, hr]
theorem res_cell1 {t ty b : Nat} {v : Value} {D : TypeDesc} {sz by_ : Nat} {z : List Value} (hE : Env n a e) (h : e.lookup t = some (ptr b 0)) (ht : Ty P ty D sz by_ z) (hD : isAggD D = false) (hA : At w b 0 [v]) : ResIs P w a (.cell t ty) v := by
  have hg := hE.get _ _ h
  show (do loadVar ty (← asAddr (a.tmps.getD t undef)) : Sem Value).run P w = _
  rw [hg]
  have hc : w.cell? ⟨b, 0, none⟩ = some v := by simpa using hA 0 v rfl
  simp [asAddr, loadVar, run_isAgg ht, hD, hc]
def rvSem (tmps : Array Value) : ResultVar → Sem Value
  | .tmp t => pure (tmps.getD t undef)
  | .cell a t => do loadVar t (← asAddr (tmps.getD a undef))
theorem resIs_run {rv : ResultVar} {v : Value} (h : ResIs P w a rv v) : (rvSem a.tmps rv).run P w = .ok v w := by
  cases rv with
  | tmp t => simp only [ResIs] at h; simp [rvSem, h]
  | cell t ty => exact h
theorem results_eq (fn : Func) (tmps : Array Value) : results fn tmps = (do let vs ← fn.results.mapM (rvSem tmps); pure (if h : vs.size = 1 then vs[0] else .tuple vs)) := by
  unfold results
  congr 1
theorem k_ret1 {fn : Func} {R : Ending → World → Prop} {r1 : ResultVar} {v1 : Value} (hE : Env n a e) (hres : fn.results = #[r1]) (h1 : ResIs P w a r1 v1) (hR : R (.returned v1) w) : bodyPost P fn R .ret a w := by
  refine bodyPost_ret ?_ hE.df hR
  rw [results_eq, hres]
  simp [resIs_run h1]
theorem k_ret2 {fn : Func} {R : Ending → World → Prop} {r1 r2 : ResultVar} {v1 v2 : Value} (hE : Env n a e) (hres : fn.results = #[r1, r2]) (h1 : ResIs P w a r1 v1) (h2 : ResIs P w a r2 v2)
    (hR : R (.returned (.tuple [v1, v2].toArray)) w) : bodyPost P fn R .ret a w := by
  refine bodyPost_ret ?_ hE.df hR
  rw [results_eq, hres]
  simp [resIs_run h1, resIs_run h2]
theorem k_ret3 {fn : Func} {R : Ending → World → Prop} {r1 r2 r3 : ResultVar} {v1 v2 v3 : Value} (hE : Env n a e) (hres : fn.results = #[r1, r2, r3]) (h1 : ResIs P w a r1 v1) (h2 : ResIs P w a r2 v2) (h3 : ResIs P w a r3 v3)
    (hR : R (.returned (.tuple [v1, v2, v3].toArray)) w) : bodyPost P fn R .ret a w := by
  refine bodyPost_ret ?_ hE.df hR
  rw [results_eq, hres]
  simp [resIs_run h1, resIs_run h2, resIs_run h3]
end

theorem fd_mk {P : Program} {t f off sz by_ : Nat} {fs : Array Field} {fd : Field} {D : TypeDesc} {z : List Value} (hu : P.underlying t = some (.struct fs)) (hf : fs[f]? = some fd) (ho : fd.offset = off) (ht : Ty P fd.type D sz by_ z) (hs : sz ≠ 0) : Fd P t f off := by
  obtain ⟨i, v, h1, h2, _⟩ := ht.get
  exact ⟨fs, fd, i, hu, hf, ho, h1, by rw [h2]; exact hs⟩
theorem sl_one {α : Type} [Rep α] {S : Nat → Prop} {w : World} {l : List α} {cs : List Value} {fp : List Nat} (h : Rep.sat S w l cs fp) : ∃ v, cs = [v] := by
  obtain ⟨p, cap, rfl, _⟩ := h; exact ⟨_, rfl⟩
section
variable {w w' w0 : World} {St : Nat → Prop} {its : List Item}
/-- What reads at a later world within St read so when the function began. -/
theorem M.bk {β : Type} [Rep β] {x : β} {cs : List Value} (h : M St w0 w its) (hx : Rep.sat St w x cs []) : Rep.sat St w0 x cs [] :=
  Rep.loc hx fun b hb => (h.kept.block b (hb.elim (fun h => by cases h) id)).symm
theorem M.atk {b o : Nat} {cs : List Value} (h : M St w0 w its) (hA : At w0 b o cs) (hb : St b) : At w b o cs := hA.loc (h.kept.block b hb)
end
/-- A part of an array. -/
def vidx {α : Type} {n : Nat} (v : Vector α n) (i : Int) : Option α := if 0 ≤ i then v[i.toNat]? else none
theorem vidx_some {α : Type} {n : Nat} {v : Vector α n} {i : Int} {x : α} (h : vidx v i = some x) : (0 ≤ i ∧ i < n) ∧ v.toList[i.toNat]? = some x := by
  unfold vidx at h
  split at h
  · rename_i h0
    rw [Vector.getElem?_eq_some_iff] at h
    obtain ⟨h1, h2⟩ := h
    refine ⟨⟨h0, by omega⟩, ?_⟩
    rw [← h2]
    simp [h1]
  · cases h
theorem At.vec {α : Type} [Flat α] {n : Nat} {w : World} {b o i : Nat} {v : Vector α n} {x : α} (h : At w b o (Flat.enc v)) (hi : v.toList[i]? = some x) : At w b (o + i * Flat.n α) (Flat.enc x) := by
  have hl : (Flat.enc v) = encL v.toList := rfl
  rw [hl, encL_split hi] at h
  have := (At.append.1 (At.append.1 h).2).1
  rw [encL_len, List.length_take, Nat.min_eq_left (Nat.le_of_lt (List.getElem?_eq_some_iff.1 hi).1)] at this
  exact this
def vset {α : Type} {n : Nat} (v : Vector α n) (i : Int) (x : α) : Option (Vector α n) := if 0 ≤ i ∧ i < n then some (v.setIfInBounds i.toNat x) else none
theorem vset_some {α : Type} {n : Nat} {v v' : Vector α n} {i : Int} {x : α} (h : vset v i x = some v') : (0 ≤ i ∧ i < n) ∧ v' = v.setIfInBounds i.toNat x := by
  unfold vset at h
  split at h
  · rename_i h0; simp only [Option.some.injEq] at h; exact ⟨h0, h.symm⟩
  · cases h
/-- A store into an element of an array. -/
theorem splice_vec {α : Type} [Flat α] {n : Nat} {v v' : Vector α n} {i : Int} {x : α} (h : vset v i x = some v') : splice (Flat.enc v) (i.toNat * Flat.n α) (Flat.enc x) = Flat.enc v' := by
  obtain ⟨h1, rfl⟩ := vset_some h
  have hi : i.toNat < v.toList.length := by simp; omega
  have hx := List.getElem?_eq_getElem hi
  have e1 : Flat.enc v = encL v.toList := rfl
  have e2 : Flat.enc (v.setIfInBounds i.toNat x) = encL (v.toList.set i.toNat x) := by
    show encL (v.setIfInBounds i.toNat x).toList = _
    rw [Vector.toList_setIfInBounds]
  rw [e1, e2, encL_split hx, encL_set hx]
  have hl : (encL (v.toList.take i.toNat)).length = i.toNat * Flat.n α := by rw [encL_len, List.length_take, Nat.min_eq_left (Nat.le_of_lt hi)]
  rw [← hl]
  exact splice_mid _ _ _ _ (by rw [Flat.len, Flat.len])
def app {α : Type} (bytes : Nat) (l m : List α) : Option (List α) := if (l.length + m.length) * bytes ≤ 140737488355328 then some (l ++ m) else none
theorem app_some {α : Type} {bytes : Nat} {l m r : List α} (h : app bytes l m = some r) : (l.length + m.length) * bytes ≤ 140737488355328 ∧ r = l ++ m := by
  unfold app at h
  split at h
  · rename_i h0; simp only [Option.some.injEq] at h; exact ⟨h0, h.symm⟩
  · cases h
end Go.Proofs.YtkcaldgoomphaaaDoor
