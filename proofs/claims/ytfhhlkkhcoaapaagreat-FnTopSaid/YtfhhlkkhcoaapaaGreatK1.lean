/- The walk library: what this claim needs of it. -/
import Derived.ProofKit
import Derived.WalkKit
import Derived.Lib.BytesEntry
import Derived.Test.YtfhhlkkhcoaapaaGreatRows
import Derived.OpenShut
import Derived.Laws.Tables
import Derived.ChangeKeysEq
import Derived.Laws.Cover3
import Derived.Lib.AppendZeros
import Derived.RangeFuncNested
import Derived.RangeFuncBound
import Derived.RangeFuncCalls
import Derived.RangeFuncLeaves
import Derived.RangeFuncBox
import Derived.Shelf.Abstract
import Derived.Shelf.RegionOpen
import Derived.OwnWalkIn
import Derived.TacticsInMore
import Derived.LoopNIn
import Derived.LoopIn
import Derived.Lib.SliceRun
import Derived.Laws.StructEq
import Derived.Lib.AppendZerosOnto
import Derived.Lib.Overlaps
import Derived.Laws.IdiomRangeMap
import Derived.Sort.Grow
import Derived.Lib.SlicesCompact
set_option linter.unusedVariables false
set_option linter.unusedSimpArgs false
set_option linter.unusedSectionVars false
namespace Go.Proofs.YtfhhlkkhcoaapaaGreat
section
open Go

structure Kept (St : Nat → Prop) (w w' : World) : Prop where
 os : w'.os = w.os
 tape : w'.tape = w.tape
 output : w'.output = w.output
 size : w.heap.size ≤ w'.heap.size
 block : ∀ b,St b → w'.heap[b]? = w.heap[b]?

theorem Kept.refl (St : Nat → Prop) (w : World) : Kept St w w:=⟨rfl,rfl,rfl,Nat.le_refl _,λ_ _=>rfl⟩
theorem Kept.trans {St : Nat → Prop} {a b c : World} (h : Kept St a b) (k : Kept St b c) : Kept St a c :=
 ⟨k.os.trans h.os,k.tape.trans h.tape,k.output.trans h.output,Nat.le_trans h.size k.size,λi hi=>(k.block i hi).trans (h.block i hi)⟩
theorem Kept.mono {St St' : Nat → Prop} {a b : World} (h : Kept St a b) (hs : ∀ b,St' b → St b) : Kept St' a b :=
 ⟨h.os,h.tape,h.output,h.size,λi hi=>h.block i (hs i hi)⟩

def Old (w : World) (b : Nat) : Prop:=b < w.heap.size
def NoB (_ : Nat) : Prop:=False

theorem Kept.drew {St : Nat → Prop} {a w : World} (h : Kept St a w) : Kept St a w.drew:=⟨h.os,h.tape,h.output,h.size,h.block⟩

theorem Kw (w : World) (o : Obj) (k : Nat) (h : k < w.heap.size) : (w.alloc o).heap[k]? = w.heap[k]?:=by
 show (w.heap.push o)[k]? = _
 rw [Array.getElem?_push,if_neg (by omega)]
theorem heap_alloc_new (w : World) (o : Obj) : (w.alloc o).heap[w.heap.size]? = some o:=by
 show (w.heap.push o)[w.heap.size]? = _
 rw [Array.getElem?_push,if_pos rfl]
theorem Kept.alloc (w : World) (o : Obj) : Kept (Old w) w (w.alloc o) :=
 ⟨rfl,rfl,rfl,by simp,λb hb=>Kw w o b hb⟩

def At (w : World) (b o : Nat) (cs : List Value) : Prop:=∀ i v,cs[i]? = some v → w.cell? ⟨b,o + i,none⟩ = some v

def qN (w : World) (b o m : Nat) : Prop:=∃ c T fz,w.heap[b]? = some (.cells c T fz) ∧ o + m ≤ c.size ∧ ∀ i,i < c.size → ¬ (fz.1 ≤ i ∧ i < fz.2)

theorem cell?_of_heap {w w' : World} {b : Nat} (h : w'.heap[b]? = w.heap[b]?) (o : Nat) : w'.cell? ⟨b,o,none⟩ = w.cell? ⟨b,o,none⟩:=by
 simp [World.cell?,h]
theorem At.loc {w w' : World} {b o : Nat} {cs : List Value} (h : At w b o cs) (hb : w'.heap[b]? = w.heap[b]?) : At w' b o cs :=
 λi v hv=>by rw [cell?_of_heap hb]; exact h i v hv
theorem At.nil (w : World) (b o : Nat) : At w b o []:=λi v h=>by simp at h
theorem At.append {w : World} {b o : Nat} {c d : List Value} : At w b o (c ++ d) ↔ At w b o c ∧ At w b (o + c.length) d:=by
 constructor
 ·intro h
  refine ⟨λi v hv=>h i v ?_,λi v hv=>?_⟩
  ·rw [List.getElem?_append_left (by have:=(List.getElem?_eq_some_iff.1 hv).1; exact this)]; exact hv
  have:=h (c.length + i) v (by rw [List.getElem?_append_right (by omega)]; simpa using hv)
  rw [← Nat.add_assoc] at this; exact this
 rintro ⟨h1,h2⟩ i v hv
 by_cases hi : i < c.length
 ·exact h1 i v (by rw [List.getElem?_append_left hi] at hv; exact hv)
 have:=h2 (i - c.length) v (by rw [List.getElem?_append_right (by omega)] at hv; exact hv)
 rw [show o + c.length + (i - c.length) = o + i by omega] at this; exact this
theorem At.lt {w : World} {b o : Nat} {cs : List Value} (h : At w b o cs) (hc : cs ≠ []) : b < w.heap.size:=by
 cases cs with
 | nil=>exact absurd rfl hc
 | cons v r =>
  have:=h 0 v rfl
  simp only [World.cell?] at this
  rcases Nat.lt_or_ge b w.heap.size with hb | hb
  ·exact hb
  ·simp [Array.getElem?_eq_none hb] at this
theorem qN.loc {w w' : World} {b o m : Nat} (h : qN w b o m) (hb : w'.heap[b]? = w.heap[b]?) : qN w' b o m:=by
 obtain ⟨c,T,fz,h1,h2⟩:=h; exact ⟨c,T,fz,by rw [hb]; exact h1,h2⟩
theorem qN.lt {w : World} {b o m : Nat} (h : qN w b o m) : b < w.heap.size:=by
 obtain ⟨c,T,fz,h1,h2⟩:=h
 rcases Nat.lt_or_ge b w.heap.size with hb | hb
 ·exact hb
 simp [Array.getElem?_eq_none hb] at h1
theorem At.of_heap {w : World} {b : Nat} {cs : List Value} {T : TypeId} {fz : Nat × Nat} (h : w.heap[b]? = some (.cells cs.toArray T fz)) : At w b 0 cs:=by
 intro i v hv
 simp [World.cell?,h,hv]


class Flat (α : Type) where
 n : Nat
 enc : α → List Value
 len : ∀ x,(enc x).length = n
 cell : ∀ x,∀ v ∈ enc x,v.oneCell' = true

class Rep (α : Type) where
 n : Nat
 sat : (Nat → Prop) → World → α → List Value → List Nat → Prop
 len : ∀ {S w x cs fp},sat S w x cs fp → cs.length = n
 loc : ∀ {S w w' x cs fp},sat S w x cs fp → (∀ b,(b ∈ fp ∨ S b) → w'.heap[b]? = w.heap[b]?) → sat S w' x cs fp
 ro : ∀ {S S' : Nat → Prop} {w x cs fp},sat S w x cs fp → (∀ b,(b ∈ fp ∨ S b) → S' b) → sat S' w x cs []
 wk : ∀ {S S' : Nat → Prop} {w x cs fp},sat S w x cs fp → (∀ b,S b → S' b) → sat S' w x cs fp
 lt : ∀ {S w x cs fp},sat S w x cs fp → ∀ b ∈ fp,b < w.heap.size
 cell : ∀ {S w x cs fp},sat S w x cs fp → ∀ v ∈ cs,v.oneCell' = true

instance (priority:=low) ofFlat {α : Type} [Flat α] : Rep α where
 n:=Flat.n α
 sat:=λ_ _ x cs fp=>cs = Flat.enc x ∧ fp = []
 len:=λh=>by rw [h.1]; exact Flat.len _
 loc:=λh _=>h
 ro:=λh _=>⟨h.1,rfl⟩
 wk:=λh _=>h
 lt:=λh b hb=>by rw [h.2] at hb; cases hb
 cell:=λh=>by rw [h.1]; exact Flat.cell _

theorem H6 {α : Type} [Flat α] {S : Nat → Prop} {w : World} {x : α} {cs : List Value} {fp : List Nat} : Rep.sat S w x cs fp ↔ cs = Flat.enc x ∧ fp = []:=Iff.rfl

def YA {α : Type} [Rep α] (S : Nat → Prop) (w : World) : List α → List Value → List Nat → Prop
 | [],cs,fp=>cs = [] ∧ fp = []
 | x :: l,cs,fp=>∃ c cs' f fp',cs = c ++ cs' ∧ fp = f ++ fp' ∧ Rep.sat S w x c f ∧ YA S w l cs' fp'

section
variable {α : Type} [Rep α] {S S' : Nat → Prop} {w w' : World}
theorem YA.len : ∀ {l : List α} {cs : List Value} {fp : List Nat},YA S w l cs fp → cs.length = l.length * Rep.n α
 | [],_,_,h=>by obtain ⟨rfl,_⟩:=h; simp
 | x :: l,_,_,h=>by
  obtain ⟨c,cs',f,fp',rfl,_,h1,h2⟩:=h
  rw [List.length_append,Rep.len h1,YA.len h2,List.length_cons,Nat.add_mul]; omega
theorem YA.loc : ∀ {l : List α} {cs : List Value} {fp : List Nat},YA S w l cs fp → (∀ b,(b ∈ fp ∨ S b) → w'.heap[b]? = w.heap[b]?) → YA S w' l cs fp
 | [],_,_,h,_=>h
 | x :: l,_,_,h,hb=>by
  obtain ⟨c,cs',f,fp',rfl,rfl,h1,h2⟩:=h
  exact ⟨c,cs',f,fp',rfl,rfl,Rep.loc h1 (λb h=>hb b (by simp; grind)),YA.loc h2 (λb h=>hb b (by simp; grind))⟩
theorem YA.ro : ∀ {l : List α} {cs : List Value} {fp : List Nat},YA S w l cs fp → (∀ b,(b ∈ fp ∨ S b) → S' b) → YA S' w l cs []
 | [],_,_,h,_=>⟨h.1,rfl⟩
 | x :: l,_,_,h,hb=>by
  obtain ⟨c,cs',f,fp',rfl,rfl,h1,h2⟩:=h
  exact ⟨c,cs',[],[],rfl,rfl,Rep.ro h1 (λb h=>hb b (by simp; grind)),YA.ro h2 (λb h=>hb b (by simp; grind))⟩
theorem YA.wk : ∀ {l : List α} {cs : List Value} {fp : List Nat},YA S w l cs fp → (∀ b,S b → S' b) → YA S' w l cs fp
 | [],_,_,h,_=>h
 | x :: l,_,_,h,hb=>by
  obtain ⟨c,cs',f,fp',rfl,rfl,h1,h2⟩:=h
  exact ⟨c,cs',f,fp',rfl,rfl,Rep.wk h1 hb,YA.wk h2 hb⟩
theorem YA.lt : ∀ {l : List α} {cs : List Value} {fp : List Nat},YA S w l cs fp → ∀ b ∈ fp,b < w.heap.size
 | [],_,_,h,b,hb=>by rw [h.2] at hb; cases hb
 | x :: l,_,_,h,b,hb=>by
  obtain ⟨c,cs',f,fp',rfl,rfl,h1,h2⟩:=h
  rcases List.mem_append.1 hb with hb | hb
  ·exact Rep.lt h1 b hb
  ·exact YA.lt h2 b hb
theorem YA.cell : ∀ {l : List α} {cs : List Value} {fp : List Nat},YA S w l cs fp → ∀ v ∈ cs,v.oneCell' = true
 | [],_,_,h,v,hv=>by rw [h.1] at hv; cases hv
 | x :: l,_,_,h,v,hv=>by
  obtain ⟨c,cs',f,fp',rfl,rfl,h1,h2⟩:=h
  rcases List.mem_append.1 hv with hv | hv
  ·exact Rep.cell h1 v hv
  ·exact YA.cell h2 v hv
theorem YA.append : ∀ {l m : List α} {cs ds : List Value} {fp gp : List Nat},YA S w l cs fp → YA S w m ds gp → YA S w (l ++ m) (cs ++ ds) (fp ++ gp)
 | [],_,_,_,_,_,h,k=>by obtain ⟨rfl,rfl⟩:=h; exact k
 | x :: l,_,_,_,_,_,h,k=>by
  obtain ⟨c,cs',f,fp',rfl,rfl,h1,h2⟩:=h
  exact ⟨c,cs' ++ _,f,fp' ++ _,by simp,by simp,h1,YA.append h2 k⟩
theorem YA.split : ∀ {l : List α} {cs : List Value} {fp : List Nat} {i : Nat} {x : α},YA S w l cs fp → l[i]? = some x →
  ∃ c1 c c2 f1 f f2,cs = c1 ++ (c ++ c2) ∧ fp = f1 ++ (f ++ f2) ∧ c1.length = i * Rep.n α ∧ YA S w (l.take i) c1 f1 ∧ Rep.sat S w x c f ∧ YA S w (l.drop (i + 1)) c2 f2
 | [],_,_,_,_,_,hi=>by simp at hi
 | y :: l,_,_,0,x,h,hi=>by
  obtain ⟨c,cs',f,fp',rfl,rfl,h1,h2⟩:=h
  simp only [List.getElem?_cons_zero,Option.some.injEq] at hi
  subst hi
  exact ⟨[],c,cs',[],f,fp',rfl,rfl,by simp,⟨rfl,rfl⟩,h1,h2⟩
 | y :: l,_,_,i + 1,x,h,hi=>by
  obtain ⟨c,cs',f,fp',rfl,rfl,h1,h2⟩:=h
  obtain ⟨c1,d,c2,f1,g,f2,rfl,rfl,e1,k1,k2,k3⟩:=YA.split h2 (by simpa using hi)
  refine ⟨c ++ c1,d,c2,f ++ f1,g,f2,by simp,by simp,?_,⟨c,c1,f,f1,rfl,rfl,h1,k1⟩,k2,k3⟩
  rw [List.length_append,Rep.len h1,e1,Nat.add_mul]; omega
theorem YA.join : ∀ {l : List α} {i : Nat} {x : α} {c1 c c2 : List Value} {f1 f f2 : List Nat},i < l.length → YA S w (l.take i) c1 f1 → Rep.sat S w x c f → YA S w (l.drop (i + 1)) c2 f2 →
  YA S w (l.set i x) (c1 ++ (c ++ c2)) (f1 ++ (f ++ f2))
 | [],_,_,_,_,_,_,_,_,hi,_,_,_=>by simp at hi
 | y :: l,0,x,c1,c,c2,f1,f,f2,_,h1,h2,h3=>by
  obtain ⟨rfl,rfl⟩:=h1
  exact ⟨c,c2,f,f2,rfl,rfl,h2,h3⟩
 | y :: l,i + 1,x,c1,c,c2,f1,f,f2,hi,h1,h2,h3=>by
  obtain ⟨d,cs',g,fp',rfl,rfl,k1,k2⟩:=h1
  refine ⟨d,cs' ++ (c ++ c2),g,fp' ++ (f ++ f2),by simp,by simp,k1,YA.join (by simpa using hi) k2 h2 h3⟩

def Zel (w : World) (q : Addr) (m : Nat) : Prop:=qN w q.block q.off m ∧ q.spot = none
theorem Zel.loc {w w' : World} {q : Addr} {m : Nat} (h : Zel w q m) (hb : w'.heap[q.block]? = w.heap[q.block]?) : Zel w' q m:=⟨h.1.loc hb,h.2⟩
theorem Zel.lt {w : World} {q : Addr} {m : Nat} (h : Zel w q m) : Old w q.block:=h.1.lt
def SlSat (S : Nat → Prop) (w : World) (l : List α) (cs : List Value) (fp : List Nat) : Prop :=
 ∃ p cap,cs = [.slice p l.length cap] ∧ l.length ≤ cap ∧
  match p with
  | none=>cap = 0 ∧ fp = []
  | some q=>(cap ≠ 0 → q.spot = none) ∧ ∃ ecs fpe,YA S w l ecs fpe ∧ At w q.block q.off ecs ∧
    (((cap ≠ 0 → S q.block) ∧ fp = fpe) ∨ (fp = q.block :: fpe ∧ Zel w q (cap * Rep.n α)))

instance : Rep (List α) where
 n:=1
 sat:=SlSat
 len:=by rintro S w x cs fp ⟨p,cap,rfl,_⟩; rfl
 loc:=by
  rintro S w w' x cs fp ⟨p,cap,rfl,hc,h⟩ hb
  refine ⟨p,cap,rfl,hc,?_⟩
  cases p with
  | none=>exact h
  | some q =>
   obtain ⟨hs,ecs,fpe,h1,h2,h3⟩:=h
   rcases h3 with ⟨h3,rfl⟩ | ⟨rfl,h3⟩
   ·refine ⟨hs,ecs,fp,YA.loc h1 hb,?_,.inl ⟨h3,rfl⟩⟩
    by_cases hx : x = []
    ·subst hx; obtain ⟨rfl,_⟩:=h1; exact At.nil _ _ _
    ·exact h2.loc (hb _ (.inr (h3 (by have:=List.length_pos_iff.2 hx; omega))))
   ·exact ⟨hs,ecs,fpe,YA.loc h1 (λb h=>hb b (by simp; grind)),h2.loc (hb _ (by simp)),.inr ⟨rfl,h3.loc (hb _ (by simp))⟩⟩
 ro:=by
  rintro S S' w x cs fp ⟨p,cap,rfl,hc,h⟩ hb
  refine ⟨p,cap,rfl,hc,?_⟩
  cases p with
  | none=>exact ⟨h.1,rfl⟩
  | some q =>
   obtain ⟨hs,ecs,fpe,h1,h2,h3⟩:=h
   rcases h3 with ⟨h3,rfl⟩ | ⟨rfl,h3⟩
   ·exact ⟨hs,ecs,[],YA.ro h1 hb,h2,.inl ⟨λh=>hb _ (.inr (h3 h)),rfl⟩⟩
   ·exact ⟨hs,ecs,[],YA.ro h1 (λb h=>hb b (by simp; grind)),h2,.inl ⟨λ_=>hb _ (by simp),rfl⟩⟩
 wk:=by
  rintro S S' w x cs fp ⟨p,cap,rfl,hc,h⟩ hb
  refine ⟨p,cap,rfl,hc,?_⟩
  cases p with
  | none=>exact h
  | some q =>
   obtain ⟨hs,ecs,fpe,h1,h2,h3⟩:=h
   rcases h3 with ⟨h3,rfl⟩ | ⟨rfl,h3⟩
   ·exact ⟨hs,ecs,fp,YA.wk h1 hb,h2,.inl ⟨λh=>hb _ (h3 h),rfl⟩⟩
   ·exact ⟨hs,ecs,fpe,YA.wk h1 hb,h2,.inr ⟨rfl,h3⟩⟩
 lt:=by
  rintro S w x cs fp ⟨p,cap,rfl,hc,h⟩ b hb
  cases p with
  | none=>rw [h.2] at hb; cases hb
  | some q =>
   obtain ⟨hs,ecs,fpe,h1,h2,h3⟩:=h
   rcases h3 with ⟨h3,rfl⟩ | ⟨rfl,h3⟩
   ·exact YA.lt h1 b hb
   ·rcases List.mem_cons.1 hb with rfl | hb
    ·exact h3.lt
    ·exact YA.lt h1 b hb
 cell:=by
  rintro S w x cs fp ⟨p,cap,rfl,_⟩ v hv
  simp at hv; subst hv; rfl
end

abbrev RoS {α : Type} [Rep α] (S : Nat → Prop) (w : World) (x : α) (cs : List Value) : Prop:=Rep.sat S w x cs []
abbrev Ro {α : Type} [Rep α] (w : World) (x : α) (cs : List Value) : Prop:=Rep.sat (Old w) w x cs []


abbrev Item:=World → List Nat → Prop
def Loc (St : Nat → Prop) (it : Item) : Prop:=∀ w w' fp,it w fp → (∀ b,(b ∈ fp ∨ St b) → w'.heap[b]? = w.heap[b]?) → it w' fp
theorem Loc.mono {St St' : Nat → Prop} {it : Item} (h : Loc St it) (hs : ∀ b,St b → St' b) : Loc St' it :=
 λw w' fp hi hb=>h w w' fp hi λb h=>hb b (h.imp id (hs b))

def own {α : Type} [Rep α] (S : Nat → Prop) (x : α) (cs : List Value) : Item:=λw fp=>Rep.sat S w x cs fp
def raw (b : Nat) (cs : List Value) : Item:=λw fp=>fp = [b] ∧ ∃ T,w.heap[b]? = some (.cells cs.toArray T (0,0))
def emp : Item:=λ_ fp=>fp = []

theorem Xl {α : Type} [Rep α] {S St : Nat → Prop} {x : α} {cs : List Value} (hs : ∀ b,S b → St b) : Loc St (own S x cs) :=
 λ_ _ _ h hb=>Rep.loc h λb h=>hb b (h.imp id (hs b))
theorem XR {St : Nat → Prop} {b : Nat} {cs : List Value} : Loc St (raw b cs) :=
 λw w' fp h hb=>by obtain ⟨rfl,T,h⟩:=h; exact ⟨rfl,T,by rw [hb b (by simp)]; exact h⟩
theorem Zsc {St : Nat → Prop} : Loc St emp:=λ_ _ _ h _=>h

def XN (St : Nat → Prop) (w : World) : List Item → List Nat → Prop
 | [],fp=>fp = []
 | it :: r,fp=>∃ f f',fp = f ++ f' ∧ Loc St it ∧ it w f ∧ XN St w r f'

section
variable {St St' : Nat → Prop} {w w' : World}
theorem XN.loc : ∀ {l : List Item} {fp : List Nat},XN St w l fp → (∀ b,(b ∈ fp ∨ St b) → w'.heap[b]? = w.heap[b]?) → XN St w' l fp
 | [],_,h,_=>h
 | it :: r,_,h,hb=>by
  obtain ⟨f,f',rfl,hl,h1,h2⟩:=h
  exact ⟨f,f',rfl,hl,hl _ _ _ h1 (λb h=>hb b (by simp; grind)),XN.loc h2 (λb h=>hb b (by simp; grind))⟩
theorem XN.mono : ∀ {l : List Item} {fp : List Nat},XN St w l fp → (∀ b,St b → St' b) → XN St' w l fp
 | [],_,h,_=>h
 | it :: r,_,h,hb=>by
  obtain ⟨f,f',rfl,hl,h1,h2⟩:=h
  exact ⟨f,f',rfl,hl.mono hb,h1,XN.mono h2 hb⟩
theorem XN.append : ∀ {l m : List Item} {fp gp : List Nat},XN St w l fp → XN St w m gp → XN St w (l ++ m) (fp ++ gp)
 | [],_,_,_,h,k=>by cases h; exact k
 | it :: r,_,_,_,h,k=>by
  obtain ⟨f,f',rfl,hl,h1,h2⟩:=h
  exact ⟨f,f' ++ _,by simp,hl,h1,XN.append h2 k⟩
theorem XN.split : ∀ {l m : List Item} {fp : List Nat},XN St w (l ++ m) fp → ∃ f g,fp = f ++ g ∧ XN St w l f ∧ XN St w m g
 | [],_,fp,h=>⟨[],fp,rfl,rfl,h⟩
 | it :: r,_,_,h=>by
  obtain ⟨f,f',rfl,hl,h1,h2⟩:=h
  obtain ⟨g,g',rfl,k1,k2⟩:=XN.split h2
  exact ⟨f ++ g,g',by simp,⟨f,g,rfl,hl,h1,k1⟩,k2⟩
end

structure M (St : Nat → Prop) (w0 w : World) (items : List Item) : Prop where
 kept : Kept St w0 w
 st : ∀ b,St b → b < w0.heap.size
 sep : ∃ fp,XN St w items fp ∧ fp.Nodup ∧ ∀ b ∈ fp,¬ St b ∧ b < w.heap.size

def Fr (w w' : World) (items : List Item) : Prop :=
 ∃ fp,XN NoB w' items fp ∧ fp.Nodup ∧ ∀ b ∈ fp,w.heap.size ≤ b ∧ b < w'.heap.size
def FrS (S : Nat → Prop) (w w' : World) (items : List Item) : Prop :=
 ∃ fp,XN S w' items fp ∧ fp.Nodup ∧ ∀ b ∈ fp,w.heap.size ≤ b ∧ b < w'.heap.size

section
variable {St : Nat → Prop} {w0 w w' : World} {its : List Item} {it : Item}
theorem M.start (w : World) : M (Old w) w w []:=⟨.refl _ _,λ_ h=>h,[],rfl,List.nodup_nil,λ_ h=>by cases h⟩
theorem M.st' (h : M St w0 w its) : ∀ b,St b → b < w.heap.size:=λb hb=>Nat.lt_of_lt_of_le (h.st b hb) h.kept.size
theorem M.pl {pre post : List Item} (h : M St w0 w (pre ++ it :: post)) : M St w0 w (it :: (pre ++ post)):=by
 obtain ⟨hk,hs,fp,h1,h2,h3⟩:=h
 obtain ⟨f,g,rfl,k1,k2⟩:=XN.split h1
 obtain ⟨g1,g2,rfl,l1,l2,l3⟩:=k2
 refine ⟨hk,hs,g1 ++ (f ++ g2),⟨g1,f ++ g2,rfl,l1,l2,XN.append k1 l3⟩,?_,λb hb=>h3 b (by simp at hb ⊢; grind)⟩
 refine (List.Perm.nodup_iff ?_).1 h2
 rw [← List.append_assoc,← List.append_assoc]
 exact List.Perm.append_right _ List.perm_append_comm
theorem M.drop (h : M St w0 w (it :: its)) : M St w0 w its:=by
 obtain ⟨hk,hs,fp,⟨f,g,rfl,_,_,h1⟩,h2,h3⟩:=h
 exact ⟨hk,hs,g,h1,(List.nodup_append.1 h2).2.1,λb hb=>h3 b (by simp; grind)⟩
theorem M.keep (h : M St w0 w its) (hk : Kept (Old w) w w') : M St w0 w' its:=by
 obtain ⟨h0,hs,fp,h1,h2,h3⟩:=h
 have hs' : ∀ b,St b → Old w b:=λb hb=>Nat.lt_of_lt_of_le (hs b hb) h0.size
 refine ⟨h0.trans (hk.mono hs'),hs,fp,XN.loc h1 (λb hb=>hk.block b ?_),h2,λb hb=>⟨(h3 b hb).1,Nat.lt_of_lt_of_le (h3 b hb).2 hk.size⟩⟩
 exact hb.elim (λh=>(h3 b h).2) (hs' b)
theorem M.addS {new : List Item} (h : M St w0 w its) (hk : Kept (Old w) w w') (hf : FrS St w w' new) : M St w0 w' (new ++ its):=by
 have hst:=h.st'
 obtain ⟨h0,hs,fp,h1,h2,h3⟩:=h
 obtain ⟨gp,k1,k2,k3⟩:=hf
 refine ⟨h0.trans (hk.mono hst),hs,gp ++ fp,XN.append k1 (XN.loc h1 λb hb=>hk.block b (hb.elim (λh=>(h3 b h).2) (hst b))),?_,?_⟩
 ·refine List.nodup_append.2 ⟨k2,h2,λa ha b hb e=>?_⟩
  subst e
  have:=(k3 a ha).1; have:=(h3 a hb).2; omega
 intro b hb
 rcases List.mem_append.1 hb with hb | hb
 ·exact ⟨λhb'=>absurd (hst b hb') (by have:=(k3 b hb).1; omega),(k3 b hb).2⟩
 exact ⟨(h3 b hb).1,Nat.lt_of_lt_of_le (h3 b hb).2 hk.size⟩
theorem Fr.toS {S : Nat → Prop} {new : List Item} (h : Fr w w' new) : FrS S w w' new:=by
 obtain ⟨fp,h1,h2,h3⟩:=h; exact ⟨fp,h1.mono (λ_ h=>h.elim),h2,h3⟩
theorem M.add {new : List Item} (h : M St w0 w its) (hk : Kept (Old w) w w') (hf : Fr w w' new) : M St w0 w' (new ++ its):=h.addS hk hf.toS
theorem M.alloc (h : M St w0 w its) (cs : List Value) (T : TypeId) : M St w0 (w.alloc (.cells cs.toArray T)) (raw w.heap.size cs :: its) :=
 h.addS (new:=[_]) (Kept.alloc _ _) ⟨[w.heap.size],⟨[w.heap.size],[],rfl,XR,⟨rfl,T,heap_alloc_new _ _⟩,rfl⟩,by simp,λb hb=>by simp at hb; subst hb; simp⟩
theorem M.head (h : M St w0 w (it :: its)) : ∃ fp,it w fp ∧ ∀ b ∈ fp,b < w.heap.size:=by
 obtain ⟨_,_,fp,⟨f,g,rfl,_,h1,_⟩,_,h3⟩:=h
 exact ⟨f,h1,λb hb=>(h3 b (by simp; grind)).2⟩
theorem M.get {pre post : List Item} (h : M St w0 w (pre ++ it :: post)) : ∃ fp,it w fp ∧ ∀ b ∈ fp,b < w.heap.size:=h.pl.head
theorem M.ro {α : Type} [Rep α] {S : Nat → Prop} {x : α} {cs : List Value} {pre post : List Item} (h : M St w0 w (pre ++ own S x cs :: post)) (hS : ∀ b,S b → Old w b) : Ro w x cs:=by
 obtain ⟨fp,h1,h2⟩:=h.get
 exact Rep.ro h1 λb hb=>hb.elim (h2 b) (hS b)
theorem M.ra {b : Nat} {cs : List Value} {pre post : List Item} (h : M St w0 w (pre ++ raw b cs :: post)) : At w b 0 cs:=by
 obtain ⟨fp,⟨rfl,T,h1⟩,_⟩:=h.get
 exact At.of_heap h1
theorem M.turn {new : List Item} (h : M St w0 w (it :: its)) (hos : w'.os = w.os) (htape : w'.tape = w.tape) (hout : w'.output = w.output) (hsize : w.heap.size ≤ w'.heap.size)
  (ht : ∀ fp,it w fp → (∀ b ∈ fp,¬ St b ∧ b < w.heap.size) → fp.Nodup → (∀ b,b ∉ fp → b < w.heap.size → w'.heap[b]? = w.heap[b]?) ∧
   ∃ fp',XN St w' new fp' ∧ fp'.Nodup ∧ ∀ b ∈ fp',b ∈ fp ∨ (w.heap.size ≤ b ∧ b < w'.heap.size)) : M St w0 w' (new ++ its):=by
 have hst:=h.st'
 obtain ⟨h0,hs,fp,⟨f,g,rfl,hl,h1,h2⟩,h3,h4⟩:=h
 obtain ⟨n1,n2,n3⟩:=List.nodup_append.1 h3
 obtain ⟨k1,fp',k2,k3,k4⟩:=ht f h1 (λb hb=>h4 b (by simp; grind)) n1
 have keepg : ∀ b,(b ∈ g ∨ St b) → w'.heap[b]? = w.heap[b]?:=by
  intro b hb
  refine k1 b (λhf=>?_) ?_
  ·rcases hb with hb | hb
   ·exact n3 b hf b hb rfl
   ·exact (h4 b (by simp; grind)).1 hb
  ·rcases hb with hb | hb
   ·exact (h4 b (by simp; grind)).2
   ·exact hst b hb
 refine ⟨h0.trans ⟨hos,htape,hout,hsize,λb hb=>keepg b (.inr hb)⟩,hs,fp' ++ g,XN.append k2 (XN.loc h2 keepg),?_,?_⟩
 ·refine List.nodup_append.2 ⟨k3,n2,λa ha b hb e=>?_⟩
  subst e
  rcases k4 a ha with hf | ⟨hf,_⟩
  ·exact n3 a hf a hb rfl
  have:=(h4 a (by simp; grind)).2; omega
 intro b hb
 rcases List.mem_append.1 hb with hb | hb
 ·rcases k4 b hb with hf | ⟨hf,hf'⟩
  ·exact ⟨(h4 b (by simp; grind)).1,Nat.lt_of_lt_of_le (h4 b (by simp; grind)).2 hsize⟩
  exact ⟨λhb'=>absurd (hst b hb') (by omega),hf'⟩
 exact ⟨(h4 b (by simp; grind)).1,Nat.lt_of_lt_of_le (h4 b (by simp; grind)).2 hsize⟩
end
end
section
open Go

structure Str where
 l : List UInt8
 deriving DecidableEq,Inhabited
abbrev vI (x : Int) : Value:=.int .i64 x
abbrev vU (x : Int) : Value:=.int .u64 x
abbrev vB (x : UInt8) : Value:=.int .u8 x.toNat
abbrev vT (x : Bool) : Value:=.bool x
abbrev vS (x : Str) : Value:=.string ⟨x.l.toArray⟩
instance : Flat UInt8:=⟨1,λx=>[vB x],λ_=>rfl,λ_ v h=>by simp at h; subst h; rfl⟩
instance : Flat Int:=⟨1,λx=>[vI x],λ_=>rfl,λ_ v h=>by simp at h; subst h; rfl⟩
instance : Flat Bool:=⟨1,λx=>[vT x],λ_=>rfl,λ_ v h=>by simp at h; subst h; rfl⟩
instance : Flat Str:=⟨1,λx=>[vS x],λ_=>rfl,λ_ v h=>by simp at h; subst h; rfl⟩
def XA {α : Type} [Flat α] : List α → List Value
 | []=>[]
 | x :: l=>Flat.enc x ++ XA l
theorem Tw {α : Type} [Flat α] : ∀ l : List α,(XA l).length = l.length * Flat.n α
 | []=>by simp [XA]
 | x :: l=>by rw [XA,List.length_append,Flat.len,Tw l,List.length_cons,Nat.add_mul]; omega
theorem Zd5 {α : Type} [Flat α] : ∀ l : List α,∀ v ∈ XA l,v.oneCell' = true
 | [],v,h=>by cases h
 | x :: l,v,h=>by
  rcases List.mem_append.1 h with h | h
  ·exact Flat.cell x v h
  ·exact Zd5 l v h
instance {α : Type} [Flat α] {n : Nat} : Flat (Vector α n):=⟨n * Flat.n α,λv=>XA v.toList,λv=>by rw [Tw]; simp,λv=>Zd5 _⟩
abbrev enc {α : Type} [Flat α] (x : α) : List Value:=Flat.enc x

abbrev wr (x : Int) : Int:=IntKind.i64.wrap x
abbrev wru (x : Int) : Int:=IntKind.u64.wrap x

structure Env (n : Nat) (a : Act) (e : List (Nat × Value)) : Prop where
 sz : a.tmps.size = n
 df : a.defers = []
 get : ∀ t v,e.lookup t = some v → a.tmps.getD t undef = v

def opv (e : List (Nat × Value)) : Operand → Option Value
 | .tmp t=>e.lookup t
 | .const v=>some v
 | .global g=>some (.pointer (some ⟨g,0,none⟩))
 | .func f=>some (.func (.func f) #[] #[])

section
variable {n : Nat} {a : Act} {e : List (Nat × Value)} {w w' : World} {P : Program} {ops : Array Oper} {rest : List Oper} {Q : Exit → Act → World → Prop}
theorem Env.ev (h : Env n a e) {x : Operand} {v : Value} (hx : opv e x = some v) : a.eval x = v:=by
 cases x with
 | tmp t=>exact h.get t v hx
 | const u=>simp only [opv,Option.some.injEq] at hx; exact hx
 | global g=>simpa [opv,Act.eval] using hx
 | func f=>simpa [opv,Act.eval] using hx
theorem Env.put (h : Env n a e) {d : Nat} (hd : d < n) (v : Value) : Env n (a.put (some d) v) ((d,v) :: e):=by
 refine ⟨by simp [Act.put,h.sz],h.df,λt u ht=>?_⟩
 simp only [List.lookup_cons] at ht
 by_cases hdt : t = d
 ·subst hdt
  simp at ht
  subst ht
  simp [Act.put,h.sz,hd,Array.getD]
 have : (t == d) = false:=by simpa using hdt
 rw [this] at ht
 have:=h.get t u ht
 simp only [Act.put,Array.getD_eq_getD_getElem?,Array.getElem?_setIfInBounds] at this ⊢
 rw [if_neg (by omega)]
 exact this
def yN (e : List (Nat × Value)) : List (Nat × Value) → Prop
 | []=>True
 | p :: r=>e.lookup p.1 = some p.2 ∧ yN e r
theorem yN.look {e : List (Nat × Value)} : ∀ {e' : List (Nat × Value)},yN e e' → ∀ t v,e'.lookup t = some v → e.lookup t = some v
 | [],_,t,v,h=>by simp at h
 | (s,u) :: r,h,t,v,hv=>by
  simp only [List.lookup_cons] at hv
  by_cases ht : t = s
  ·subst ht; simp at hv; subst hv; exact h.1
  ·rw [show (t == s) = false by simpa using ht] at hv; exact yN.look h.2 t v hv
theorem Env.sub {e' : List (Nat × Value)} (h : Env n a e) (hs : yN e e') : Env n a e':=⟨h.sz,h.df,λt v ht=>h.get t v (hs.look t v ht)⟩

abbrev Goes (ops : Array Oper) (o : Oper) (a : Act) : Prop:=Region.wanted o (yielded ops a.tmps) = true
theorem Za {d : Option Tmp} {x : Op} {t : TypeId} {p : String} {af : Array Edge} : Goes ops ⟨d,x,t,p,af,none⟩ a:=rfl
theorem Env.yield (h : Env n a e) {j t : Nat} {b : Bool} (hj : (ops[j]?).bind (·.dst) = some t) (ht : e.lookup t = some (.bool b)) : yielded ops a.tmps j = some b:=by
 unfold yielded
 rw [hj]
 have:=h.get t _ ht
 rw [Array.getD_eq_getD_getElem?] at this
 cases hq : a.tmps[t]? with
 | none=>rw [hq] at this; simp [undef] at this
 | some v=>rw [hq] at this; simp only [Option.getD_some] at this; subst this; simp [hq]
theorem Zh (h : Env n a e) {j t : Nat} {b : Bool} {d : Option Tmp} {x : Op} {ty : TypeId} {p : String} {af : Array Edge} (hj : (ops[j]?).bind (·.dst) = some t) (ht : e.lookup t = some (.bool b)) :
  Goes ops ⟨d,x,ty,p,af,some (j,b)⟩ a:=by
 simp [Goes,Region.wanted,h.yield hj ht]
theorem Zj (h : Env n a e) {j t d : Nat} {b b' : Bool} {x : Op} {ty : TypeId} {p : String} {af : Array Edge} (hj : (ops[j]?).bind (·.dst) = some t) (ht : e.lookup t = some (.bool b))
  (hb : b = !b') (hd : d < n) (k : ∀ a,Env n a ((d,undef) :: e) → wpList P ops Q rest a w) : wpList P ops Q (⟨some d,x,ty,p,af,some (j,b')⟩ :: rest) a w:=by
 unfold wpList
 rw [if_neg (by simp [Region.wanted,h.yield hj ht,hb])]
 exact k _ (h.put hd _)
theorem XV {o : Oper} {d : Nat} {v : Value} (h : Env n a e) (hw : Goes ops o a) (ho : o.dst = some d) (hd : d < n) (hr : (execOp a.eval o).run P w = .ok (.value v) w')
  (k : ∀ a,Env n a ((d,v) :: e) → wpList P ops Q rest a w') : wpList P ops Q (o :: rest) a w:=by
 unfold wpList
 rw [if_pos hw]
 refine .inl ?_
 unfold Oper.wp
 rw [hr,Oper.upon_value,ho]
 exact k _ (h.put hd _)
theorem Zev {o : Oper} (h : Env n a e) (hw : Goes ops o a) (ho : o.dst = none) (hr : (execOp a.eval o).run P w = .ok .skip w')
  (k : ∀ a,Env n a e → wpList P ops Q rest a w') : wpList P ops Q (o :: rest) a w:=by
 unfold wpList
 rw [if_pos hw]
 refine .inl ?_
 unfold Oper.wp
 rw [hr,Oper.upon_skip,ho]
 exact k _ h

variable {d : Nat} {ty ty' : TypeId} {pos : String} {af : Array Edge} {g : Option (Nat × Bool)} {x y z : Operand} {v : Value}

theorem Zl (h : Env n a e) (hw : Goes ops ⟨some d,.move x,ty,pos,af,g⟩ a) (hd : d < n) (hx : opv e x = some v)
  (k : ∀ a,Env n a ((d,v) :: e) → wpList P ops Q rest a w) : wpList P ops Q (⟨some d,.move x,ty,pos,af,g⟩ :: rest) a w :=
 XV h hw rfl hd (by simp only [execOp,h.ev hx]; rfl) k
theorem K3 (h : Env n a e) (hw : Goes ops ⟨some d,.assign x,ty,pos,af,g⟩ a) (hd : d < n) (hx : opv e x = some v)
  (k : ∀ a,Env n a ((d,v) :: e) → wpList P ops Q rest a w) : wpList P ops Q (⟨some d,.assign x,ty,pos,af,g⟩ :: rest) a w :=
 XV h hw rfl hd (by simp only [execOp,h.ev hx]; rfl) k
theorem Ji (h : Env n a e) (hw : Goes ops ⟨some d,.pick x y z,ty,pos,af,g⟩ a) (hd : d < n) (hx : opv e x = some (vT true)) (hy : opv e y = some v)
  (k : ∀ a,Env n a ((d,v) :: e) → wpList P ops Q rest a w) : wpList P ops Q (⟨some d,.pick x y z,ty,pos,af,g⟩ :: rest) a w :=
 XV h hw rfl hd (by simp only [execOp,h.ev hx]; simp [asBool,h.ev hy]) k
theorem KB (h : Env n a e) (hw : Goes ops ⟨some d,.pick x y z,ty,pos,af,g⟩ a) (hd : d < n) (hx : opv e x = some (vT false)) (hz : opv e z = some v)
  (k : ∀ a,Env n a ((d,v) :: e) → wpList P ops Q rest a w) : wpList P ops Q (⟨some d,.pick x y z,ty,pos,af,g⟩ :: rest) a w :=
 XV h hw rfl hd (by simp only [execOp,h.ev hx]; simp [asBool,h.ev hz]) k

def shV (op : BinOp) (k : IntKind) (a b : Int) : Option Value :=
 if b < 0 then none else
 match op with
 | .shl=>some (.int k (k.wrap (a * 2 ^ (min b.toNat k.bits))))
 | .shr=>some (.int k (a.fdiv (2 ^ (min b.toNat k.bits))))
 | _=>none
def Bk (op : BinOp) (k : IntKind) (a b : Int) : Option Value :=
 match op with
 | .add=>some (.int k (k.wrap (a + b)))
 | .sub=>some (.int k (k.wrap (a - b)))
 | .mul=>some (.int k (k.wrap (a * b)))
 | .quo=>if b = 0 then none else some (.int k (k.wrap (a.tdiv b)))
 | .rem=>if b = 0 then none else some (.int k (a.tmod b))
 | .and=>some (.int k (k.wrap (BitVec.ofInt k.bits a &&& BitVec.ofInt k.bits b).toNat))
 | .or=>some (.int k (k.wrap (BitVec.ofInt k.bits a ||| BitVec.ofInt k.bits b).toNat))
 | .xor=>some (.int k (k.wrap (BitVec.ofInt k.bits a ^^^ BitVec.ofInt k.bits b).toNat))
 | .andNot=>some (.int k (k.wrap (BitVec.ofInt k.bits a &&& ~~~ (BitVec.ofInt k.bits b)).toNat))
 | .eql=>some (.bool (a == b))
 | .neq=>some (.bool (a != b))
 | .lss=>some (.bool (decide (a < b)))
 | .leq=>some (.bool (decide (a ≤ b)))
 | .gtr=>some (.bool (decide (a > b)))
 | .geq=>some (.bool (decide (a ≥ b)))
 | _=>none
theorem Zr3 {op : BinOp} {t : TypeId} {k : IntKind} {a b : Int} {v : Value} (h : Bk op k a b = some v) : (binOp op t (.int k a) (.int k b)).run P w = .ok v w:=by
 cases op <;> simp only [Bk] at h <;> (try split at h) <;> (try (simp at h; done)) <;> simp only [Option.some.injEq] at h <;> subst h <;>
  simp [binOp,Op.intArith,Op.intDiv,Op.intBits,Op.intCmp, *]
theorem run_sh {op : BinOp} {t : TypeId} {k j : IntKind} {a b : Int} {v : Value} (h : shV op k a b = some v) : (binOp op t (.int k a) (.int j b)).run P w = .ok v w:=by
 unfold shV at h
 split at h
 ·simp at h
 rename_i hb
 cases op <;> simp only [] at h <;> (try (simp at h; done)) <;> simp only [Option.some.injEq] at h <;> subst h <;> simp [binOp,Op.shift,hb]
theorem qd {op : BinOp} {t : TypeId} {x y : Operand} {k j : IntKind} {a b : Int} : (eqGuard op t x y (.int k a) (.int j b)).run P w = .ok () w:=by
 cases op <;> simp [eqGuard]
theorem Ye {op : BinOp} {t2 : TypeId} {K : IntKind} {p q : Int} (h : Env n a e) (hw : Goes ops ⟨some d,.binOp op ty' x y t2,ty,pos,af,g⟩ a) (hd : d < n) (hx : opv e x = some (.int K p)) (hy : opv e y = some (.int K q))
  (hv : Bk op K p q = some v) (k : ∀ a,Env n a ((d,v) :: e) → wpList P ops Q rest a w) : wpList P ops Q (⟨some d,.binOp op ty' x y t2,ty,pos,af,g⟩ :: rest) a w :=
 XV h hw rfl hd (by simp only [execOp,h.ev hx,h.ev hy]; simp [qd,Zr3 hv]) k
theorem yd {op : BinOp} {t2 : TypeId} {K J : IntKind} {p q : Int} (h : Env n a e) (hw : Goes ops ⟨some d,.binOp op ty' x y t2,ty,pos,af,g⟩ a) (hd : d < n) (hx : opv e x = some (.int K p)) (hy : opv e y = some (.int J q))
  (hv : shV op K p q = some v) (k : ∀ a,Env n a ((d,v) :: e) → wpList P ops Q rest a w) : wpList P ops Q (⟨some d,.binOp op ty' x y t2,ty,pos,af,g⟩ :: rest) a w :=
 XV h hw rfl hd (by simp only [execOp,h.ev hx,h.ev hy]; simp [qd,run_sh hv]) k
theorem QH {p : Bool} (h : Env n a e) (hw : Goes ops ⟨some d,.unOp .not ty' x,ty,pos,af,g⟩ a) (hd : d < n) (hx : opv e x = some (vT p))
  (k : ∀ a,Env n a ((d,vT (!p)) :: e) → wpList P ops Q rest a w) : wpList P ops Q (⟨some d,.unOp .not ty' x,ty,pos,af,g⟩ :: rest) a w :=
 XV h hw rfl hd (by simp only [execOp,h.ev hx]; simp [Op.unary]) k
theorem BD {src dst : TypeId} {J K : IntKind} {p : Int} {D : TypeDesc} (h : Env n a e) (hw : Goes ops ⟨some d,.convert src dst x,ty,pos,af,g⟩ a) (hd : d < n) (hx : opv e x = some (.int J p))
  (hs : P.underlying src = some D) (ht : P.underlying dst = some (.int K))
  (k : ∀ a,Env n a ((d,.int K (K.wrap p)) :: e) → wpList P ops Q rest a w) : wpList P ops Q (⟨some d,.convert src dst x,ty,pos,af,g⟩ :: rest) a w :=
 XV h hw rfl hd (by simp only [execOp,h.ev hx]; simp [convert,underlying,program,Sem.run,hs,ht,Conv.intToInt]) k
end

theorem qQ (n : Nat) : IntKind.u8.wrap (n : Int) = ((n % 256 : Nat) : Int):=by
 simp [IntKind.wrap,IntKind.bits,IntKind.signed]
theorem Zce (x : UInt8) : BitVec.ofInt 8 (x.toNat : Int) = x.toBitVec:=by
 apply BitVec.eq_of_toNat_eq
 simp
theorem VH (p q : UInt8) : Bk .xor .u8 p.toNat q.toNat = some (vB (p ^^^ q)):=by
 simp only [Bk,IntKind.bits,Zce,qQ]
 congr 3
 rw [Nat.mod_eq_of_lt (BitVec.isLt _)]; rfl
theorem bB_and (p q : UInt8) : Bk .and .u8 p.toNat q.toNat = some (vB (p &&& q)):=by
 simp only [Bk,IntKind.bits,Zce,qQ]
 congr 3
 rw [Nat.mod_eq_of_lt (BitVec.isLt _)]; rfl
theorem bB_or (p q : UInt8) : Bk .or .u8 p.toNat q.toNat = some (vB (p ||| q)):=by
 simp only [Bk,IntKind.bits,Zce,qQ]
 congr 3
 rw [Nat.mod_eq_of_lt (BitVec.isLt _)]; rfl
theorem As (p q : UInt8) : ((p.toNat : Int) = q.toNat) ↔ p = q:=by
 rw [Int.natCast_inj,UInt8.toNat_inj]
theorem Zfd (p q : UInt8) : Bk .eql .u8 p.toNat q.toNat = some (vT (p == q)):=by
 simp only [Bk]; congr 2; rw [Bool.eq_iff_iff]; simp [As]
theorem Za2 (p q : UInt8) : Bk .neq .u8 p.toNat q.toNat = some (vT (p != q)):=by
 simp only [Bk]; congr 2; rw [Bool.eq_iff_iff]; simp [As]
theorem bB_gtr (p q : UInt8) : Bk .gtr .u8 p.toNat q.toNat = some (vT (decide (p > q))):=by
 simp only [Bk]; congr 2; rw [decide_eq_decide]; show (p.toNat : Int) > q.toNat ↔ q < p; rw [UInt8.lt_iff_toNat_lt]; omega
theorem bB_geq (p q : UInt8) : Bk .geq .u8 p.toNat q.toNat = some (vT (decide (p ≥ q))):=by
 simp only [Bk]; congr 2; rw [decide_eq_decide]; show (p.toNat : Int) ≥ q.toNat ↔ q ≤ p; rw [UInt8.le_iff_toNat_le]; omega
def Zz (x : Int) : UInt8:=UInt8.ofNat (x % 256).toNat
theorem ki (x : Int) : Value.int .u8 (IntKind.u8.wrap x) = vB (Zz x):=by
 simp only [vB,Zz,IntKind.wrap,IntKind.bits,IntKind.signed]
 congr 1
 have h1 : 0 ≤ x % 256:=Int.emod_nonneg _ (by omega)
 have h2 : x % 256 < 256:=Int.emod_lt_of_pos _ (by omega)
 simp only [Bool.false_and,Bool.false_eq_true,if_false]
 show x % 256 = _
 have : (UInt8.ofNat (x % 256).toNat).toNat = (x % 256).toNat:=by simp; omega
 rw [this]; omega
theorem Znh (x : UInt8) : IntKind.i64.wrap (x.toNat : Int) = x.toNat:=by
 have:=x.toNat_lt
 simp only [IntKind.wrap,IntKind.bits,IntKind.signed]
 simp
 omega
theorem Zjp (x : UInt8) : IntKind.u64.wrap (x.toNat : Int) = x.toNat:=by
 have:=x.toNat_lt
 simp only [IntKind.wrap,IntKind.bits,IntKind.signed]
 simp
 omega
theorem YY {x : Int} (h : -9223372036854775808 ≤ x ∧ x ≤ 9223372036854775807) : wr x = x:=by
 simp only [wr,IntKind.wrap,IntKind.bits,IntKind.signed]
 simp
 omega
abbrev bI (x : UInt8) : Int:=x.toNat

def shlB (p : UInt8) (q : Int) : UInt8:=Zz ((p.toNat : Int) * 2 ^ (min q.toNat 8))
def qn (p : UInt8) (q : Int) : UInt8:=Zz ((p.toNat : Int).fdiv (2 ^ (min q.toNat 8)))
theorem bB_shl (p : UInt8) (q : Int) (h : 0 ≤ q) : shV .shl .u8 p.toNat q = some (vB (shlB p q)):=by
 simp only [shV,if_neg (Int.not_lt.2 h),IntKind.bits,shlB]
 rw [ki]
theorem Znn (p : UInt8) (q : Int) (h : 0 ≤ q) : shV .shr .u8 p.toNat q = some (vB (qn p q)):=by
 simp only [shV,if_neg (Int.not_lt.2 h),IntKind.bits,qn]
 rw [← ki]
 congr 2
 have h1:=p.toNat_lt
 have h2 : (p.toNat : Int).fdiv (2 ^ (min q.toNat 8)) = ((p.toNat / 2 ^ (min q.toNat 8) : Nat) : Int):=by
  rw [Int.fdiv_eq_ediv_of_nonneg _ (by exact_mod_cast Nat.zero_le _)]; simp
 rw [h2,qQ,Nat.mod_eq_of_lt]
 exact Nat.lt_of_le_of_lt (Nat.div_le_self _ _) h1
def BJ (p q : Int) : Int:=wr (p * 2 ^ (min q.toNat 64))
def Qp (p q : Int) : Int:=p.fdiv (2 ^ (min q.toNat 64))
theorem kK (p q : Int) (h : 0 ≤ q) : shV .shl .i64 p q = some (vI (BJ p q)):=by simp [shV,Int.not_lt.2 h,BJ,IntKind.bits]
theorem Ze4 (p q : Int) (h : 0 ≤ q) : shV .shr .i64 p q = some (vI (Qp p q)):=by simp [shV,Int.not_lt.2 h,Qp,IntKind.bits]
def Zin (p q : Int) : Int:=wr (BitVec.ofInt 64 p &&& BitVec.ofInt 64 q).toNat
def orI (p q : Int) : Int:=wr (BitVec.ofInt 64 p ||| BitVec.ofInt 64 q).toNat
def BY (p q : Int) : Int:=wr (BitVec.ofInt 64 p ^^^ BitVec.ofInt 64 q).toNat
theorem Zc4 (p q : Int) (h : q ≠ 0) : Bk .quo .i64 p q = some (vI (wr (p.tdiv q))):=by simp [Bk,h]
theorem J2 (p q : Int) (h : q ≠ 0) : Bk .rem .i64 p q = some (vI (p.tmod q)):=by simp [Bk,h]
end
section
open Go

abbrev ptr (b o : Nat) : Value:=.pointer (some ⟨b,o,none⟩)
def sb : Value → Nat
 | .slice (some a) _ _=>a.block
 | _=>0
def so : Value → Nat
 | .slice (some a) _ _=>a.off
 | _=>0

def BC : TypeDesc → Bool
 | .struct _ | .array _ _=>true
 | _=>false

structure Ty (P : Program) (t : TypeId) (d : TypeDesc) (sz bytes : Nat) (z : List Value) : Prop where
 und : P.underlying t = some d
 info : (P.info? t).map (λi=>(i.size,i.bytes,i.zero.map (·.cells.toList))) = some (sz,bytes,some z)

section
variable {P : Program} {t : TypeId} {d : TypeDesc} {sz bytes : Nat} {z : List Value}
theorem Ty.get (h : Ty P t d sz bytes z) : ∃ i v,P.info? t = some i ∧ i.size = sz ∧ i.bytes = bytes ∧ i.zero = some v ∧ v.cells.toList = z:=by
 have:=h.info
 cases hq : P.info? t with
 | none=>simp [hq] at this
 | some i =>
  simp [hq] at this
  obtain ⟨h1,h2,v,h3,h4⟩:=this
  exact ⟨i,v,rfl,h1,h2,h3,h4⟩
theorem BU (h : Ty P t d sz bytes z) (w : World) : (isAgg t).run P w = .ok (BC d) w:=by
 simp only [isAgg,Sem.run_bind,run_underlying h.und,Result.andThen_ok]
 cases d <;> rfl
theorem WC (h : Ty P t d sz bytes z) (w : World) : (sizeOf t).run P w = .ok sz w:=by
 obtain ⟨i,v,h1,h2,_⟩:=h.get
 simp [sizeOf,typeInfo,h1,h2]
theorem BI (h : Ty P t d sz bytes z) (w : World) : ∃ v,(zeroValue t).run P w = .ok v w ∧ v.cells.toList = z:=by
 obtain ⟨i,v,h1,h2,_,h3,h4⟩:=h.get
 exact ⟨v,by simp [zeroValue,typeInfo,h1,h3],h4⟩
end

theorem At.add {w : World} {b o : Nat} {cs : List Value} (h : At w b o cs) : ∀ j v,cs[j]? = some v → w.cell? ((⟨b,o,none⟩ : Addr).add j) = some v:=by
 intro j v hv
 rw [Addr.add_lit]; exact h j v hv
theorem At.part {w : World} {b o k : Nat} {pre : List (List Value)} {seg : List Value} {post : List (List Value)} (h : At w b o (pre ++ seg :: post).flatten) (hk : pre.flatten.length = k) : At w b (o + k) seg:=by
 rw [List.flatten_append,List.flatten_cons] at h
 have:=(At.append.1 (At.append.1 h).2).1
 rw [hk] at this; exact this
section
variable {n : Nat} {a : Act} {e : List (Nat × Value)} {w w' : World} {P : Program} {ops : Array Oper} {rest : List Oper} {Q : Exit → Act → World → Prop}
variable {d : Nat} {ty t : TypeId} {pos : String} {af : Array Edge} {g : Option (Nat × Bool)} {x y : Operand} {v : Value}
variable {St : Nat → Prop} {w0 : World} {its : List Item}

theorem ZY {cs : List Value} (h : Env n a e) (hM : M St w0 w its) (hw : Goes ops ⟨some d,.box t x,ty,pos,af,g⟩ a) (hd : d < n) (hx : opv e x = some v) (hcs : v.cells.toList = cs)
  (k : ∀ b w a,M St w0 w (raw b cs :: its) → Env n a ((d,ptr b 0) :: e) → wpList P ops Q rest a w) : wpList P ops Q (⟨some d,.box t x,ty,pos,af,g⟩ :: rest) a w:=by
 subst hcs
 refine XV h hw rfl hd (v:=ptr w.heap.size 0) (w':=w.alloc (.cells v.cells t)) (by simp only [execOp,h.ev hx]; simp [Instr.box,newVar,newRow]) λa ha=>?_
 have:=hM.alloc v.cells.toList t
 exact k _ _ _ (by simpa using this) ha
theorem Zrk {D : TypeDesc} {sz by_ : Nat} {z : List Value} (h : Env n a e) (hM : M St w0 w its) (hw : Goes ops ⟨some d,.alloc t,ty,pos,af,g⟩ a) (hd : d < n) (ht : Ty P t D sz by_ z)
  (k : ∀ b w a,M St w0 w (raw b z :: its) → Env n a ((d,ptr b 0) :: e) → wpList P ops Q rest a w) : wpList P ops Q (⟨some d,.alloc t,ty,pos,af,g⟩ :: rest) a w:=by
 obtain ⟨v,hv,rfl⟩:=BI ht w
 refine XV h hw rfl hd (v:=ptr w.heap.size 0) (w':=w.alloc (.cells v.cells t)) (by simp only [execOp]; simp [Instr.alloc,hv,newVar,newRow]) λa ha=>?_
 have:=hM.alloc v.cells.toList t
 exact k _ _ _ (by simpa using this) ha

theorem ZL {D : TypeDesc} {sz by_ : Nat} {z : List Value} {b o : Nat} (h : Env n a e) (hw : Goes ops ⟨some d,.load t x,ty,pos,af,g⟩ a) (hd : d < n) (hx : opv e x = some (ptr b o))
  (ht : Ty P t D sz by_ z) (hD : BC D = false) (hA : At w b o [v])
  (k : ∀ a,Env n a ((d,v) :: e) → wpList P ops Q rest a w) : wpList P ops Q (⟨some d,.load t x,ty,pos,af,g⟩ :: rest) a w:=by
 have hc : w.cell? ⟨b,o,none⟩ = some v:=by simpa using hA 0 v rfl
 exact XV h hw rfl hd (by simp only [execOp,h.ev hx]; simp [Instr.loadAt,Instr.sureAddr,loadVar,BU ht,hD,hc]) k
theorem ZB {D : TypeDesc} {sz by_ : Nat} {z : List Value} {b o : Nat} {cs : List Value} (h : Env n a e) (hw : Goes ops ⟨some d,.load t x,ty,pos,af,g⟩ a) (hd : d < n) (hx : opv e x = some (ptr b o))
  (ht : Ty P t D sz by_ z) (hD : BC D = true) (hA : At w b o cs) (hl : cs.length = sz)
  (k : ∀ a,Env n a ((d,.agg cs.toArray) :: e) → wpList P ops Q rest a w) : wpList P ops Q (⟨some d,.load t x,ty,pos,af,g⟩ :: rest) a w:=by
 have hr:=run_loadCells_list (P:=P) w ⟨b,o,none⟩ cs hA.add
 rw [hl] at hr
 exact XV h hw rfl hd (by simp only [execOp,h.ev hx]; simp [Instr.loadAt,Instr.sureAddr,loadVar,BU ht,hD,WC ht,hr]) k
structure Fd (P : Program) (t : TypeId) (f off : Nat) : Prop where
 out : ∃ fs fd i,P.underlying t = some (.struct fs) ∧ fs[f]? = some fd ∧ fd.offset = off ∧ P.info? fd.type = some i ∧ i.size ≠ 0
theorem Zo {f off b o : Nat} (h : Env n a e) (hw : Goes ops ⟨some d,.fieldAddr t x f,ty,pos,af,g⟩ a) (hd : d < n) (hx : opv e x = some (ptr b o)) (hf : Fd P t f off)
  (k : ∀ a,Env n a ((d,ptr b (o + off)) :: e) → wpList P ops Q rest a w) : wpList P ops Q (⟨some d,.fieldAddr t x f,ty,pos,af,g⟩ :: rest) a w:=by
 obtain ⟨fs,fd,i,h1,h2,h3,h4,h5⟩:=hf.out
 exact XV h hw rfl hd (by
  simp only [execOp,h.ev hx]
  simp [Instr.fieldAt,run_underlying h1,h2,Instr.sureAddr,fieldPlace,sizeOf,typeInfo,h4,h5,Addr.add_lit,h3]) k
theorem ZI {N el sz by_ b o : Nat} {z : List Value} {D : TypeDesc} {K : IntKind} {i : Int} (h : Env n a e) (hw : Goes ops ⟨some d,.indexAddr t x y,ty,pos,af,g⟩ a) (hd : d < n) (hx : opv e x = some (ptr b o)) (hy : opv e y = some (.int K i))
  (ht : P.underlying t = some (.array N el)) (he : Ty P el D sz by_ z) (hi : 0 ≤ i ∧ i < N)
  (k : ∀ a,Env n a ((d,ptr b (o + i.toNat * sz)) :: e) → wpList P ops Q rest a w) : wpList P ops Q (⟨some d,.indexAddr t x y,ty,pos,af,g⟩ :: rest) a w :=
 XV h hw rfl hd (by
  simp only [execOp,h.ev hx,h.ev hy]
  simp [Instr.indexAt,asIntOf,run_underlying ht,Instr.sureAddr,hi,WC he,Addr.add_lit]) k
theorem XD {α : Type} [Rep α] {S : Nat → Prop} {l : List α} {fp : List Nat} {el sz by_ : Nat} {z : List Value} {D : TypeDesc} {K : IntKind} {i : Int} (h : Env n a e) (hw : Goes ops ⟨some d,.indexAddr t x y,ty,pos,af,g⟩ a) (hd : d < n)
  (hx : opv e x = some v) (hy : opv e y = some (.int K i)) (ht : P.underlying t = some (.slice el)) (he : Ty P el D sz by_ z) (hs : Rep.sat S w l [v] fp) (hi : 0 ≤ i ∧ i < l.length)
  (k : ∀ a,Env n a ((d,ptr (sb v) (so v + i.toNat * sz)) :: e) → wpList P ops Q rest a w) : wpList P ops Q (⟨some d,.indexAddr t x y,ty,pos,af,g⟩ :: rest) a w:=by
 obtain ⟨p,cap,hv,hc,hp⟩:=hs
 simp only [List.cons.injEq,and_true] at hv
 cases p with
 | none=>exfalso; obtain ⟨h1,_⟩:=hp; omega
 | some q =>
  obtain ⟨q1,q2,q3⟩:=q
  obtain ⟨h1,_⟩:=hp
  have h1:=h1 (by omega)
  simp only at h1
  subst h1
  refine XV h hw rfl hd (v:=ptr (sb v) (so v + i.toNat * sz)) (w':=w) ?_ k
  simp only [execOp,h.ev hx,h.ev hy,hv,sb,so]
  simp [Instr.indexAt,asIntOf,run_underlying ht,hi,WC he,Addr.add_lit]
theorem sl_at {α : Type} [Rep α] {S : Nat → Prop} {l : List α} {fp : List Nat} {i : Nat} {u : α} (hs : Rep.sat S w l [v] fp) (hi : l[i]? = some u) :
  ∃ cs f,Rep.sat S w u cs f ∧ At w (sb v) (so v + i * Rep.n α) cs ∧ ∀ b ∈ f,b ∈ fp:=by
 obtain ⟨p,cap,hv,hc,hp⟩:=hs
 simp only [List.cons.injEq,and_true] at hv
 have hil:=(List.getElem?_eq_some_iff.1 hi).1
 cases p with
 | none=>exfalso; obtain ⟨h1,_⟩:=hp; omega
 | some q =>
  obtain ⟨q1,q2,q3⟩:=q
  obtain ⟨h1,ecs,fpe,h2,h3,h4⟩:=hp
  have h1:=h1 (by omega)
  simp only at h1
  subst h1
  obtain ⟨c1,c,c2,f1,f,f2,rfl,rfl,k1,_,k2,_⟩:=h2.split hi
  refine ⟨c,f,k2,?_,λb hb=>?_⟩
  ·have:=(At.append.1 (At.append.1 h3).2).1
   rw [k1] at this
   rw [hv]; exact this
  ·rcases h4 with ⟨_,rfl⟩ | ⟨rfl,_⟩ <;> simp [hb]
theorem V2 {α : Type} [Rep α] {S : Nat → Prop} {l : List α} {i : Nat} {u : α} (hs : Rep.sat S w l [v] []) (hi : l[i]? = some u) :
  ∃ cs,Rep.sat S w u cs [] ∧ At w (sb v) (so v + i * Rep.n α) cs:=by
 obtain ⟨cs,f,h1,h2,h3⟩:=sl_at hs hi
 have : f = []:=List.eq_nil_iff_forall_not_mem.2 λb hb=>by cases h3 b hb
 subst this
 exact ⟨cs,h1,h2⟩
theorem Xx {α : Type} [Flat α] {S : Nat → Prop} {l : List α} {fp : List Nat} {i : Nat} {u : α} (hs : Rep.sat S w l [v] fp) (hi : l[i]? = some u) :
  At w (sb v) (so v + i * Rep.n α) (Flat.enc u):=by
 obtain ⟨cs,f,h1,h2,h3⟩:=sl_at hs hi
 obtain ⟨rfl,_⟩:=h1
 exact h2
theorem Q7 {α : Type} [Rep α] {S : Nat → Prop} {l : List α} {fp : List Nat} {el : TypeId} (h : Env n a e) (hw : Goes ops ⟨some d,.call ⟨.builtin .len,[x].toArray,[t].toArray⟩,ty,pos,af,g⟩ a) (hd : d < n)
  (hx : opv e x = some v) (ht : P.underlying t = some (.slice el)) (hs : Rep.sat S w l [v] fp)
  (k : ∀ a,Env n a ((d,vI l.length) :: e) → wpList P ops Q rest a w) : wpList P ops Q (⟨some d,.call ⟨.builtin .len,[x].toArray,[t].toArray⟩,ty,pos,af,g⟩ :: rest) a w:=by
 obtain ⟨p,cap,hv,hc,hp⟩:=hs
 simp only [List.cons.injEq,and_true] at hv
 exact XV h hw rfl hd (by
  simp only [execOp,resolve]
  simp [invoke,builtin,Builtin.len_,run_underlying ht,h.ev hx,hv,goInt]) k
structure Callable (P : Program) (f : Nat) : Prop where
 out : ∃ fn c, P.funcs[f]? = some fn ∧ (fn.name == "runtime.NumGoroutine") = false ∧ fn.body = some c
def J1 (e : List (Nat × Value)) : List Operand → Option (List Value)
 | []=>some []
 | x :: r=>match opv e x,J1 e r with
  | some v,some vs=>some (v :: vs)
  | _,_=>none
theorem Env.evs (h : Env n a e) : ∀ {xs : List Operand} {vs : List Value},J1 e xs = some vs → xs.map a.eval = vs
 | [],vs,hx=>by simp [J1] at hx; subst hx; rfl
 | x :: r,vs,hx=>by
  simp only [J1] at hx
  split at hx
  ·rename_i v vs' h1 h2
   simp only [Option.some.injEq] at hx
   subst hx
   simp [h.ev h1,h.evs h2]
  ·cases hx
theorem ZW {f : Nat} {xs : List Operand} {ats : Array TypeId} {vs : List Value} {R : Value → World → Prop} (h : Env n a e) (hw : Goes ops ⟨some d,.call ⟨.value (.func f),xs.toArray,ats⟩,ty,pos,af,g⟩ a) (hd : d < n)
  (hxs : J1 e xs = some vs) (hf : Callable P f) (hc : Calls P f vs.toArray w λen w'=>∃ v,en = .returned v ∧ R v w')
  (k : ∀ v w' a,R v w' → Env n a ((d,v) :: e) → wpList P ops Q rest a w') : wpList P ops Q (⟨some d,.call ⟨.value (.func f),xs.toArray,ats⟩,ty,pos,af,g⟩ :: rest) a w:=by
 obtain ⟨fn,c,h1,h2',h3⟩:=hf.out
 have h2 : ¬ fn.name = "runtime.NumGoroutine" := by simpa using h2'
 unfold wpList
 rw [if_pos hw]
 refine .inl ?_
 have hr : (execOp a.eval ⟨some d,.call ⟨.value (.func f),xs.toArray,ats⟩,ty,pos,af,g⟩).run P w = .ok (.enter f vs.toArray) w:=by
  simp only [execOp,resolve,Act.eval]
  simp [Deferred.ofValue,invoke,callFunc,h1,h2,h3,h.evs hxs]
 unfold Oper.wp
 rw [hr,Oper.upon_enter]
 refine hc.mono ?_
 rintro en w' ⟨v,rfl,hR⟩
 exact k v w' _ hR (h.put hd v)
theorem Zsg {f : Nat} {fv : Operand} {cap : Array Value} {xs : List Operand} {ats : Array TypeId} {vs : List Value} {R : Value → World → Prop} (h : Env n a e) (hw : Goes ops ⟨some d,.call ⟨.value fv,xs.toArray,ats⟩,ty,pos,af,g⟩ a) (hd : d < n)
  (hfv : opv e fv = some (.func (.func f) #[] cap)) (hxs : J1 e xs = some vs) (hf : Callable P f) (hc : Calls P f (vs.toArray ++ cap) w λen w'=>∃ v,en = .returned v ∧ R v w')
  (k : ∀ v w' a,R v w' → Env n a ((d,v) :: e) → wpList P ops Q rest a w') : wpList P ops Q (⟨some d,.call ⟨.value fv,xs.toArray,ats⟩,ty,pos,af,g⟩ :: rest) a w:=by
 obtain ⟨fn,c,h1,h2',h3⟩:=hf.out
 have h2 : ¬ fn.name = "runtime.NumGoroutine" := by simpa using h2'
 unfold wpList
 rw [if_pos hw]
 refine .inl ?_
 have hr : (execOp a.eval ⟨some d,.call ⟨.value fv,xs.toArray,ats⟩,ty,pos,af,g⟩).run P w = .ok (.enter f (vs.toArray ++ cap)) w:=by
  simp only [execOp,resolve,h.ev hfv]
  simp [Deferred.ofValue,invoke,callFunc,h1,h2,h3,h.evs hxs]
 unfold Oper.wp
 rw [hr,Oper.upon_enter]
 refine hc.mono ?_
 rintro en w' ⟨v,rfl,hR⟩
 exact k v w' _ hR (h.put hd v)
theorem ZM {i : Nat} {vs : List Value} (h : Env n a e) (hw : Goes ops ⟨some d,.extract x i,ty,pos,af,g⟩ a) (hd : d < n) (hx : opv e x = some (.tuple vs.toArray)) (hv : vs[i]? = some v)
  (k : ∀ a,Env n a ((d,v) :: e) → wpList P ops Q rest a w) : wpList P ops Q (⟨some d,.extract x i,ty,pos,af,g⟩ :: rest) a w :=
 XV h hw rfl hd (by simp only [execOp,h.ev hx]; simp [Instr.extract,hv]) k

theorem Zb {id : Nat} {l : List Oper} {Y : Code} (h : wpList P l.toArray (Exit.then (Y.wp P Q) Q) l a w) : (Code.seq (.region id l.toArray false) Y).wp P Q a w:=wp_seq (wp_region_lit h)
theorem Ze {Y : Code} (h : Y.wp P Q a w) : wpList P ops (Exit.then (Y.wp P Q) Q) [] a w:=h
theorem Zf (h : Q .normal a w) : wpList P ops Q [] a w:=h
theorem Zq {c : Bool} {X Y : Code} (hE : Env n a e) (hx : opv e x = some (vT c)) (ht : c = true → X.wp P Q a w) (hf : c = false → Y.wp P Q a w) : (Code.cond x X Y).wp P Q a w:=by
 cases c
 ·exact wp_cond_false (hE.ev hx) (hf rfl)
 exact wp_cond_true (hE.ev hx) (ht rfl)
theorem ZG {X Y : Code} (Mid : Act → World → Prop) (h : X.wp P (Exit.then Mid Q) a w) (k : ∀ a w,Mid a w → Y.wp P Q a w) : (Code.seq X Y).wp P Q a w:=by
 refine wp_seq (wp_mono h λex a w hq=>?_)
 cases ex <;> first | exact k _ _ hq | exact hq

end
inductive Fl (S T : Type) where
 | nx (s : S)
 | ex (t : T)
def Hu {S T : Type} (f : S → Option (Fl S T)) : Nat → S → Option T
 | 0,_=>none
 | n + 1,s=>match f s with
  | none=>none
  | some (.ex t)=>some t
  | some (.nx s)=>Hu f n s
theorem yE {S T : Type} {f : S → Option (Fl S T)} : ∀ {n : Nat} {s : S} {t : T},Hu f n s = some t → ∀ m,n ≤ m → Hu f m s = some t
 | 0,_,_,h,_,_=>by simp [Hu] at h
 | n + 1,s,t,h,0,hm=>by omega
 | n + 1,s,t,h,m + 1,hm=>by
  simp only [Hu] at h ⊢
  cases hf : f s with
  | none=>simp [hf] at h
  | some o =>
   cases o with
   | ex u=>simpa [hf] using h
   | nx s'=>simp only [hf] at h; exact yE h m (by omega)
open Classical in
noncomputable def ZK {S T : Type} (f : S → Option (Fl S T)) (s : S) : Option T :=
 if h : ∃ n t,Hu f n s = some t then Hu f h.choose s else none
theorem Ze5 {S T : Type} {f : S → Option (Fl S T)} {s : S} {n : Nat} {t : T} (h : Hu f n s = some t) : ZK f s = some t:=by
 have hx : ∃ n t,Hu f n s = some t:=⟨n,t,h⟩
 unfold ZK
 rw [dif_pos hx]
 obtain ⟨u,hu⟩:=hx.choose_spec
 have h1:=yE h (max n hx.choose) (by omega)
 have h2:=yE hu (max n hx.choose) (by omega)
 rw [h1] at h2
 rw [hu]; exact h2.symm
theorem kA {S T : Type} {f : S → Option (Fl S T)} {s : S} {t : T} (h : ZK f s = some t) : ∃ n,Hu f n s = some t:=by
 unfold ZK at h
 split at h
 ·rename_i hx; exact ⟨_,h⟩
 cases h
theorem Zkh {S T : Type} (f : S → Option (Fl S T)) (s : S) : ZK f s = (match f s with | none=>none | some (.ex t)=>some t | some (.nx s')=>ZK f s'):=by
 have key : ∀ u,ZK f s = some u ↔ (match f s with | none=>none | some (.ex t)=>some t | some (.nx s')=>ZK f s') = some u:=by
  intro u
  constructor
  ·intro h
   obtain ⟨n,hn⟩:=kA h
   cases n with
   | zero=>simp [Hu] at hn
   | succ n =>
    simp only [Hu] at hn
    cases hf : f s with
    | none=>simp [hf] at hn
    | some o =>
     cases o with
     | ex t=>simpa [hf] using hn
     | nx s'=>simp only [hf] at hn; exact Ze5 hn
  ·intro h
   cases hf : f s with
   | none=>simp [hf] at h
   | some o =>
    cases o with
    | ex t=>refine Ze5 (n:=1) ?_; simpa [Hu,hf] using h
    | nx s' =>
     simp only [hf] at h
     obtain ⟨n,hn⟩:=kA h
     refine Ze5 (n:=n + 1) ?_
     simpa [Hu,hf] using hn
 cases hi : ZK f s with
 | some u=>exact ((key u).1 hi).symm
 | none =>
  cases hj : (match f s with | none=>none | some (.ex t)=>some t | some (.nx s')=>ZK f s') with
  | none=>rfl
  | some u=>rw [(key u).2 hj] at hi; cases hi
theorem WM {S T : Type} {f : S → Option (Fl S T)} {s s' : S} (h : f s = some (.nx s')) : ZK f s = ZK f s':=by rw [Zkh,h]
theorem We {S T : Type} {f : S → Option (Fl S T)} {s : S} {t : T} (h : f s = some (.ex t)) : ZK f s = some t:=by rw [Zkh,h]

section
variable {P : Program} {Q : Exit → Act → World → Prop} {a : Act} {w : World}
theorem ZN {S T : Type} {f : S → Option (Fl S T)} {s : S} {t : T} {c : Code} (Rel : S → Act → World → Prop) (hi : ZK f s = some t) (h0 : Rel s a w)
  (hr : ∀ s a w,Rel s a w → ∀ o,f s = some o → (∀ t',o = .ex t' → t' = t) → c.wp P (Exit.then (λa w=>∃ s',o = .nx s' ∧ Rel s' a w) Q) a w) : (Code.loop c).wp P Q a w:=by
 obtain ⟨n,hn⟩:=kA hi
 refine wp_loop_rounds n ?_
 clear hi
 induction n generalizing s a w with
 | zero=>simp [Hu] at hn
 | succ n ih =>
  simp only [Hu] at hn
  cases hf : f s with
  | none=>simp [hf] at hn
  | some o =>
   rw [rounds_succ]
   refine wp_mono (hr s a w h0 o hf ?_) λex a w hq=>?_
   ·rintro t' rfl; simpa [hf] using hn
   ·cases ex <;> first | exact hq | skip
    obtain ⟨s',rfl,hrel⟩:=hq
    simp only [hf] at hn
    exact ih hrel hn
end
def Fl.el {S T B : Type} (o : Fl S T) (f : S → B) (g : T → B) : B :=
 match o with
 | .nx s=>f s
 | .ex t=>g t
def idx {α : Type} (l : List α) (i : Int) : Option α:=if 0 ≤ i then l[i.toNat]? else none
theorem Zpm {α : Type} {l : List α} {i : Int} {x : α} (h : idx l i = some x) : (0 ≤ i ∧ i < l.length) ∧ l[i.toNat]? = some x:=by
 unfold idx at h
 split at h
 ·rename_i h0
  have:=(List.getElem?_eq_some_iff.1 h).1
  exact ⟨⟨h0,by omega⟩,h⟩
 cases h
theorem bind_some {α β : Type} {x : Option α} {f : α → Option β} {r : β} (h : x.bind f = some r) : ∃ v,x = some v ∧ f v = some r:=Option.bind_eq_some_iff.1 h
theorem Zt {α : Type} {c : Bool} {x y : Option α} {r : α} (h : (if c = true then x else y) = some r) (hc : c = true) : x = some r:=by rw [if_pos hc] at h; exact h
theorem Zs {α : Type} {c : Bool} {x y : Option α} {r : α} (h : (if c = true then x else y) = some r) (hc : c = false) : y = some r:=by rw [if_neg (by simp [hc])] at h; exact h

def kk : Nat → List Value → List (Nat × Value)
 | _,[]=>[]
 | i,v :: r=>(i,v) :: kk (i + 1) r
theorem kN : ∀ (vs : List Value) (i t : Nat) (v : Value),(kk i vs).lookup t = some v → i ≤ t ∧ vs[t - i]? = some v
 | [],_,_,_,h=>by simp [kk] at h
 | u :: r,i,t,v,h=>by
  simp only [kk,List.lookup_cons] at h
  by_cases ht : t = i
  ·subst ht; simp at h; subst h; simp
  ·rw [show (t == i) = false by simpa using ht] at h
   obtain ⟨h1,h2⟩:=kN r (i + 1) t v h
   refine ⟨by omega,?_⟩
   rw [show t - i = (t - (i + 1)) + 1 by omega,List.getElem?_cons_succ]; exact h2
section
variable {P : Program} {w : World} {a : Act} {n : Nat} {e : List (Nat × Value)}
theorem Zrh {f : Nat} {fn : Func} {c : Code} {vs : List Value} {R : Ending → World → Prop} (hf : P.funcs[f]? = some fn) (hb : fn.body = some c) (hn : fn.ntmps = n) (hl : vs.length ≤ n) (he : kk 0 vs = e)
  (k : ∀ a,Env n a e → c.wp P (bodyPost P fn R) a w) : Calls P f vs.toArray w R:=by
 refine calls_of_wp hf hb (k _ ⟨?_,rfl,λt v ht=>?_⟩)
 ·simp [hn]; omega
 rw [← he] at ht
 have:=(kN vs 0 t v ht).2
 simp only [Nat.sub_zero] at this
 have hlt:=(List.getElem?_eq_some_iff.1 this).1
 rw [Array.getD_eq_getD_getElem?,Array.getElem?_append_left (by simpa using hlt)]
 simp [this]
end
end
section
open Go

def nrm (K : Act → World → Prop) : Exit → Act → World → Prop
 | .normal,a,w=>K a w
 | _,_,_=>False

section
variable {P : Program} {ops : Array Oper} {Q Q' : Exit → Act → World → Prop} {a : Act} {w : World}
theorem Oper.wp_mono2 {o : Oper} {K K' : Act → World → Prop} (h : ∀ a w,K a w → K' a w) (hq : ∀ c a w,Q (.panic c) a w → Q' (.panic c) a w) (hl : LetsOut Q → LetsOut Q')
  (hh : o.wp P a w K Q) : o.wp P a w K' Q':=by
 unfold Oper.wp at *
 generalize (execOp a.eval o).run P w = r at *
 cases r with
 | ok n w' =>
  cases n <;> simp only [Oper.upon] at hh ⊢ <;>
   first
    | exact h _ _ hh
    | exact Calls.mono hh (λe w'' he=>by cases e <;> first | exact h _ _ he | exact hq _ _ _ he | exact hl he)
    | exact Rows.mono hh (λ_ _ he=>h _ _ he)
 | halt x w'=>cases x <;> simp only [Oper.upon] at hh ⊢ <;> first | exact hh | exact hq _ _ _ hh
theorem Zkf {o : Oper} {i : Nat} {K : Act → World → Prop} (hi : ops[i]? = some o) (h : wpList P ops (nrm K) [o] a w) : wpOp P ops Q i K a w:=by
 unfold wpOp
 rw [hi]
 unfold wpList at h
 simp only []
 split
 ·rename_i hw
  rw [if_pos hw] at h
  rcases h with h | ⟨_,a',w',h⟩
  ·exact .inl (Oper.wp_mono2 (λ_ _ h=>h) (λ_ _ _ h=>h.elim) (λ⟨_,_,h⟩=>h.elim) h)
  exact h.elim
 rename_i hw
 rw [if_neg hw] at h
 exact h
theorem Zec {o : Oper} {i : Nat} {rest : List Oper} (hi : ops[i]? = some o) (h : wpList P ops Q (o :: rest) a w) : wpOp P ops Q i (wpList P ops Q rest) a w:=by
 unfold wpOp
 rw [hi]
 unfold wpList at h
 exact h
end

def KD : List Nat → Nat → (Nat → Value) → List (Nat × Value) → List (Nat × Value)
 | [],_,_,e=>e
 | t :: r,j,u,e=>(t,u j) :: KD r (j + 1) u e
def V0 (u : Nat → Value) (i : Nat) (v : Value) : Nat → Value:=λj=>if j = i then v else u j

theorem ja : ∀ (ts : List Nat) (j k t : Nat) (u : Nat → Value) (e : List (Nat × Value)),ts.Nodup → ts[k]? = some t → (KD ts j u e).lookup t = some (u (j + k))
 | [],_,_,_,_,_,_,h=>by simp at h
 | s :: r,j,0,t,u,e,_,h=>by
  simp at h; subst h; simp [KD]
 | s :: r,j,k + 1,t,u,e,hn,h=>by
  have h' : r[k]? = some t:=by simpa using h
  have hne : t ≠ s:=λhts=>by subst hts; exact (List.nodup_cons.1 hn).1 (List.mem_of_getElem? h')
  simp only [KD,List.lookup_cons,show (t == s) = false by simpa using hne]
  rw [ja r (j + 1) k t u e (List.nodup_cons.1 hn).2 h']
  congr 2; omega
theorem Zcv : ∀ (ts : List Nat) (j t : Nat) (u : Nat → Value) (e : List (Nat × Value)),t ∉ ts → (KD ts j u e).lookup t = e.lookup t
 | [],_,_,_,_,_=>rfl
 | s :: r,j,t,u,e,h=>by
  simp only [List.mem_cons,not_or] at h
  simp only [KD,List.lookup_cons,show (t == s) = false by simpa using h.1]
  exact Zcv r (j + 1) t u e h.2
theorem Env.upd {n : Nat} {a : Act} {ts : List Nat} {u : Nat → Value} {e : List (Nat × Value)} {i t : Nat} {v : Value} (hn : ts.Nodup) (hi : ts[i]? = some t) (h : Env n a ((t,v) :: KD ts 0 u e)) : Env n a (KD ts 0 (V0 u i v) e):=by
 refine ⟨h.sz,h.df,λs x hs=>h.get s x ?_⟩
 simp only [List.lookup_cons]
 by_cases hst : s = t
 ·subst hst
  rw [ja ts 0 i s _ e hn hi] at hs
  simpa [V0] using hs
 rw [show (s == t) = false by simpa using hst]
 simp only
 by_cases hm : s ∈ ts
 ·obtain ⟨k,hk⟩:=List.mem_iff_getElem?.1 hm
  rw [ja ts 0 k s _ e hn hk] at hs ⊢
  have : k ≠ i:=λhki=>by subst hki; rw [hk] at hi; exact hst (by simpa using hi)
  simpa [V0,this] using hs
 rw [Zcv ts 0 s _ e hm] at hs ⊢; exact hs

def bef : List Oper → List Nat → List Nat
 | [],acc=>acc
 | o :: r,acc=>bef r (acc ++ [o.after.toList.foldl (λs e=>if Region.binds .any e then s ||| 2 ^ e.on ||| acc.getD e.on 0 else s) 0])
def Aa : List Oper → Nat → Bool
 | [],_=>true
 | o :: r,i=>o.after.toList.all (λe=>!Region.binds .any e || decide (e.on < i)) && Aa r (i + 1)
def Zd2 (l : List Oper) (h : Nat) : Bool :=
 let b:=bef l []
 (List.range l.length).all λi=>decide (i < h) || (List.range i).all λj=>(b.getD i 0).testBit j

def Zdu (l : List Oper) (D : Nat → Prop) : Prop:=∀ i o e,l[i]? = some o → e ∈ o.after.toList → Region.binds .any e = true → D i → D e.on

theorem kM : ∀ (l : List Oper) (k : Nat),Aa l k = true → ∀ i o e,l[i]? = some o → e ∈ o.after.toList → Region.binds .any e = true → e.on < k + i
 | [],_,_,_,_,_,h,_,_=>by simp at h
 | p :: r,k,hb,0,o,e,h,he,hbi=>by
  simp at h; subst h
  simp only [Aa,Bool.and_eq_true,List.all_eq_true] at hb
  have:=hb.1 e he
  simp [hbi] at this
  omega
 | p :: r,k,hb,i + 1,o,e,h,he,hbi=>by
  simp only [Aa,Bool.and_eq_true] at hb
  have:=kM r (k + 1) hb.2 i o e (by simpa using h) he hbi
  omega

theorem Zdt (acc : List Nat) (j : Nat) : ∀ (es : List Edge) (s : Nat),(es.foldl (λs e=>if Region.binds .any e then s ||| 2 ^ e.on ||| acc.getD e.on 0 else s) s).testBit j = true →
  s.testBit j = true ∨ ∃ e ∈ es,Region.binds .any e = true ∧ (e.on = j ∨ (acc.getD e.on 0).testBit j = true)
 | [],s,h=>.inl h
 | e :: r,s,h=>by
  rw [List.foldl_cons] at h
  rcases Zdt acc j r _ h with h | ⟨e',h1,h2⟩
  ·split at h
   ·rename_i hb
    rw [Nat.testBit_or,Nat.testBit_or,Bool.or_eq_true,Bool.or_eq_true,Nat.testBit_two_pow] at h
    rcases h with (h | h) | h
    ·exact .inl h
    ·exact .inr ⟨e,by simp,hb,.inl (by simpa using h)⟩
    ·exact .inr ⟨e,by simp,hb,.inr h⟩
   ·exact .inl h
  ·exact .inr ⟨e',by simp [h1],h2⟩

theorem Za3 (full : List Oper) : ∀ (l : List Oper) (acc : List Nat) (k : Nat),acc.length = k → (∀ i,l[i]? = full[k + i]?) →
  (∀ i,i < k → ∀ D,Zdu full D → (∀ o e,full[i]? = some o → e ∈ o.after.toList → Region.binds .any e = true → D e.on) → ∀ j,(acc.getD i 0).testBit j = true → D j) →
  ∀ i,i < (bef l acc).length → ∀ D,Zdu full D → (∀ o e,full[i]? = some o → e ∈ o.after.toList → Region.binds .any e = true → D e.on) → ∀ j,((bef l acc).getD i 0).testBit j = true → D j
 | [],acc,k,hk,_,h,i,hi,D,hD,hd,j,hj=>h i (by simpa [bef,hk] using hi) D hD hd j hj
 | o :: r,acc,k,hk,hl,h,i,hi,D,hD,hd,j,hj=>by
  refine Za3 full r _ (k + 1) (by simp [hk]) (λi=>by have:=hl (i + 1); simpa [Nat.add_assoc,Nat.add_comm 1 i] using this) ?_ i hi D hD hd j hj
  intro i hi D hD hd j hj
  have ho : full[k]? = some o:=by have:=hl 0; simpa using this.symm
  by_cases hik : i < k
  ·refine h i hik D hD hd j ?_
   rw [List.getD_eq_getElem?_getD,List.getElem?_append_left (by omega)] at hj
   rwa [List.getD_eq_getElem?_getD]
  ·have hik : i = k:=by omega
   subst hik
   rw [List.getD_eq_getElem?_getD,List.getElem?_append_right (by omega),hk] at hj
   simp only [Nat.sub_self,List.getElem?_cons_zero,Option.getD_some] at hj
   rcases Zdt acc j _ _ hj with h0 | ⟨e,h1,h2,h3⟩
   ·simp at h0
   ·have hDe:=hd o e ho h1 h2
    rcases h3 with rfl | h3
    ·exact hDe
    ·by_cases hek : e.on < i
     ·exact h e.on hek D hD (λo' e' ho' he' hb'=>hD e.on o' e' ho' he' hb' hDe) j h3
     ·rw [List.getD_eq_getElem?_getD,List.getElem?_eq_none (by omega)] at h3
      simp at h3

abbrev dn (listed : Array Bool) (i : Nat) : Prop:=listed.getD i false = true

theorem yD {listed : Array Bool} {i j : Nat} (hi : i < listed.size) : dn (listed.setIfInBounds i true) j ↔ (j = i ∨ dn listed j):=by
 unfold dn
 simp only [Array.getD_eq_getD_getElem?,Array.getElem?_setIfInBounds]
 by_cases h : i = j
 ·subst h; simp [hi]
 simp [h,Ne.symm h]

theorem y4 {P : Program} {l : List Oper} {Q : Exit → Act → World → Prop} (hE : Aa l 0 = true) (I : Array Bool → Act → World → Prop)
  (hstep : ∀ listed i o a w,listed.size = l.length → l[i]? = some o → ¬ dn listed i → Zdu l (dn listed) → (∀ e ∈ o.after.toList,Region.binds .any e = true → dn listed e.on) → I listed a w →
   wpOp P l.toArray Q i (I (listed.setIfInBounds i true)) a w)
  (hend : ∀ listed a w,listed.size = l.length → (∀ i,i < l.length → dn listed i) → I listed a w → Q .normal a w) :
  ∀ (fuel : Nat) (listed : Array Bool) (a : Act) (w : World),listed.size = l.length → ((List.range l.length).filter λi=>!listed.getD i false).length ≤ fuel → Zdu l (dn listed) → I listed a w → wpAny P .any l.toArray Q fuel listed a w:=by
 have hnone : ∀ listed : Array Bool,listed.size = l.length → Region.ready .any l.toArray listed = [] → ∀ i,i < l.length → dn listed i:=by
  intro listed hsz hr i
  induction i using Nat.strongRecOn with
  | _ i ih =>
   intro hi
   by_cases hd : dn listed i
   ·exact hd
   exfalso
   have hm : i ∈ Region.ready .any l.toArray listed:=by
    unfold Region.ready
    rw [List.mem_filter]
    refine ⟨by simpa using hi,?_⟩
    have hg : l.toArray[i]? = some l[i]:=by simp [hi]
    rw [hg]
    simp only [Option.map_some,Option.getD_some,Bool.and_eq_true,Bool.not_eq_true']
    constructor
    ·unfold dn at hd
     rw [Array.getD_eq_getD_getElem?] at hd ⊢
     have : i < listed.size:=by omega
     simp [this] at hd ⊢
     exact hd
    ·rw [← Array.all_toList,List.all_eq_true]
     intro e he
     by_cases hb : Region.binds .any e = true
     ·have hlt:=kM l 0 hE i l[i] e (by simp [hi]) he hb
      have:=ih e.on (by omega) (by omega)
      simp only [Bool.or_eq_true]; exact .inr this
     ·simp [hb]
   rw [hr] at hm; cases hm
 intro fuel
 induction fuel with
 | zero =>
  intro listed a w hsz hf hdc hI
  have hall : ∀ i,i < l.length → dn listed i:=by
   intro i hi
   have : ((List.range l.length).filter λi=>!listed.getD i false) = []:=List.eq_nil_of_length_eq_zero (by omega)
   rw [List.filter_eq_nil_iff] at this
   have:=this i (by simpa using hi)
   unfold dn; simpa using this
  refine ⟨?_,hend listed a w hsz hall hI⟩
  unfold Region.ready
  rw [List.filter_eq_nil_iff]
  intro i hi
  have hi' : i < l.length:=by simpa using hi
  have:=hall i hi'
  unfold dn at this
  rw [Array.getD_eq_getD_getElem?] at this ⊢
  have hlt : i < listed.size:=by omega
  simp [hlt] at this ⊢
  simp [this]
 | succ fuel ih =>
  intro listed a w hsz hf hdc hI
  refine ⟨λhr=>hend listed a w hsz (hnone listed hsz hr) hI,λi hi=>?_⟩
  unfold Region.ready at hi
  rw [List.mem_filter] at hi
  obtain ⟨h1,h2⟩:=hi
  have hil : i < l.length:=by simpa using h1
  have hg : l.toArray[i]? = some l[i]:=by simp [hil]
  rw [hg] at h2
  simp only [Option.map_some,Option.getD_some,Bool.and_eq_true,Bool.not_eq_true'] at h2
  have hnd : ¬ dn listed i:=by
   unfold dn
   have hlt : i < listed.size:=by omega
   have h3:=h2.1
   rw [Array.getD_eq_getD_getElem?] at h3 ⊢
   simp [hlt] at h3 ⊢
   exact h3
  have hpre : ∀ e ∈ l[i].after.toList,Region.binds .any e = true → dn listed e.on:=by
   intro e he hb
   have h4:=h2.2
   rw [← Array.all_toList,List.all_eq_true] at h4
   have:=h4 e he
   simp only [hb,Bool.not_true,Bool.false_or] at this
   exact this
  refine wpOp_mono (λa' w' hI'=>ih _ a' w' (by simpa using hsz) ?_ ?_ hI') (hstep listed i l[i] a w hsz (by simp [hil]) hnd hdc hpre hI)
  ·have hlt : ((List.range l.length).filter λj=>!(listed.setIfInBounds i true).getD j false).length < ((List.range l.length).filter λj=>!listed.getD j false).length:=by
    have hsub : ∀ j,(!(listed.setIfInBounds i true).getD j false) = true → (!listed.getD j false) = true:=by
     intro j hj
     have : ¬ dn (listed.setIfInBounds i true) j:=by unfold dn; simpa using hj
     rw [yD (by omega)] at this
     have h5 : ¬ dn listed j:=λh=>this (.inr h)
     unfold dn at h5; simpa using h5
    rw [← List.countP_eq_length_filter,← List.countP_eq_length_filter]
    have hmono : ∀ (xs : List Nat),i ∈ xs → xs.countP (λj=>!(listed.setIfInBounds i true).getD j false) < xs.countP (λj=>!listed.getD j false):=by
     intro xs
     induction xs with
     | nil=>intro h; cases h
     | cons x xs ihx =>
      intro hx
      have hle : xs.countP (λj=>!(listed.setIfInBounds i true).getD j false) ≤ xs.countP (λj=>!listed.getD j false):=List.countP_mono_left (λj _=>hsub j)
      rw [List.countP_cons,List.countP_cons]
      rcases List.mem_cons.1 hx with rfl | hx
      ·have e1 : (!(listed.setIfInBounds i true).getD i false) = false:=by
        have : dn (listed.setIfInBounds i true) i:=(yD (by omega)).2 (.inl rfl)
        unfold dn at this; simp [this]
       have e2 : (!listed.getD i false) = true:=by unfold dn at hnd; simpa using hnd
       rw [e1,e2]; simp only [Bool.false_eq_true,if_false,if_true]; omega
      ·have:=ihx hx
       by_cases hc : (!(listed.setIfInBounds i true).getD x false) = true
       ·rw [hc,hsub x hc]; simp only [if_true]; omega
       ·simp only [Bool.not_eq_true] at hc; rw [hc]; simp only [Bool.false_eq_true,if_false]; split <;> omega
    exact hmono _ (by simpa using hil)
   omega
  ·intro j o e hj he hb hdj
   rw [yD (by omega)] at hdj ⊢
   rcases hdj with rfl | hdj
   ·have : o = l[j]:=by rw [List.getElem?_eq_getElem hil] at hj; simpa using hj.symm
    subst this
    exact .inr (hpre e he hb)
   ·exact .inr (hdc j o e hj he hb hdj)

def DrawI (P : Program) (l hd tl : List Oper) (Q : Exit → Act → World → Prop) (n : Nat) (ts : List Nat) (e0 : List (Nat × Value)) (C : World → Prop) (G : Nat → Value → World → Prop) (listed : Array Bool) (a : Act) (w : World) : Prop :=
 ((∀ i,i < hd.length → dn listed i) ∧ ∃ k,k ≤ tl.length ∧ (∀ j,j < k → dn listed (hd.length + j)) ∧ (∀ j,k ≤ j → j < tl.length → ¬ dn listed (hd.length + j)) ∧ wpList P l.toArray Q (tl.drop k) a w) ∨
 ((¬ ∀ i,i < hd.length → dn listed i) ∧ (∀ j,hd.length ≤ j → ¬ dn listed j) ∧ ∃ u,Env n a (KD ts 0 u e0) ∧ C w ∧ ∀ j,dn listed j → G j (u j) w)

theorem Zom {P : Program} {id : Nat} {hd tl : List Oper} {Q : Exit → Act → World → Prop} {a : Act} {w : World} {n : Nat} {e0 : List (Nat × Value)}
  (hm : P.follows .mixedOrders = true) (hE : Aa (hd ++ tl) 0 = true) (hT : Zd2 (hd ++ tl) hd.length = true)
  (ts : List Nat) (hn : ts.Nodup) (C : World → Prop) (G : Nat → Value → World → Prop)
  (hC : ∀ w w',C w → Kept (Old w) w w' → C w') (hG : ∀ j v w w',C w → Kept (Old w) w w' → G j v w → G j v w')
  (h0 : Env n a e0) (hC0 : C w.drew)
  (hstep : ∀ (i : Nat) (o : Oper),hd[i]? = some o → ∀ a w (u : Nat → Value),Env n a (KD ts 0 u e0) → C w → (∀ (k : Nat) (e : Edge),o.after.toList[k]? = some e → Region.binds .any e = true → G e.on (u e.on) w) →
   wpList P (hd ++ tl).toArray (nrm λa' w'=>Kept (Old w) w w' ∧ ∃ v t,ts[i]? = some t ∧ Env n a' ((t,v) :: KD ts 0 u e0) ∧ G i v w') [o] a w)
  (htail : ∀ a w u,Env n a (KD ts 0 u e0) → C w → (∀ j,j < hd.length → G j (u j) w) → wpList P (hd ++ tl).toArray Q tl a w) :
  (Code.region id (hd ++ tl).toArray true).wp P Q a w:=by
 refine wp_region_any hm ?_
 generalize hl : hd ++ tl = l at *
 have hln : l.length = hd.length + tl.length:=by rw [← hl]; simp
 have hbl : (bef l []).length = l.length:=by
  have : ∀ (r : List Oper) (acc : List Nat),(bef r acc).length = acc.length + r.length:=by
   intro r; induction r with
   | nil=>intro acc; simp [bef]
   | cons o r ih=>intro acc; rw [bef,ih]; simp; omega
  rw [this]; simp
 have tailDone : ∀ listed i o,l[i]? = some o → hd.length ≤ i → Zdu l (dn listed) → (∀ e ∈ o.after.toList,Region.binds .any e = true → dn listed e.on) → ∀ j,j < i → dn listed j:=by
  intro listed i o hi hle hdc hp j hj
  have hil:=(List.getElem?_eq_some_iff.1 hi).1
  have hbit : ((bef l []).getD i 0).testBit j = true:=by
   unfold Zd2 at hT
   simp only [List.all_eq_true] at hT
   have:=hT i (by simpa using hil)
   simp only [Bool.or_eq_true,decide_eq_true_eq,List.all_eq_true] at this
   rcases this with h | h
   ·omega
   ·exact h j (by simpa using hj)
  exact Za3 l l [] 0 rfl (by simp) (λi hi=>absurd hi (Nat.not_lt_zero i)) i (by rw [hbl]; exact hil) (dn listed) hdc (λo' e ho' he hb=>by rw [hi] at ho'; cases ho'; exact hp e he hb) j hbit
 have hfuel : ((List.range l.length).filter λi=>!(Array.replicate l.toArray.size false).getD i false).length ≤ l.toArray.size:=by
  refine Nat.le_trans (List.length_filter_le _ _) ?_; simp
 have hnot0 : ∀ i,¬ dn (Array.replicate l.toArray.size false) i:=by
  intro i; unfold dn; rw [Array.getD_eq_getD_getElem?,Array.getElem?_replicate]; split <;> simp
 refine y4 hE (DrawI P l hd tl Q n ts e0 C G) ?_ ?_ _ _ _ _ (by simp) hfuel (λi o e _ _ _ h=>absurd h (hnot0 i)) ?_
 ·intro listed i o a w hsz hi hnd hdc hp hI
  have hil:=(List.getElem?_eq_some_iff.1 hi).1
  by_cases hh : i < hd.length
  ·-- a head operation
   have hnall : ¬ ∀ i,i < hd.length → dn listed i:=λh=>hnd (h i hh)
   obtain ⟨h,_⟩ | ⟨_,ht0,u,k1,k2,k3⟩:=hI
   ·exact absurd h hnall
   have hio : hd[i]? = some o:=by rw [← hl] at hi; rwa [List.getElem?_append_left hh] at hi
   refine Zkf (by simpa using hi) ?_
   have hs:=hstep i o hio a w u k1 k2 (λk e hk hb=>k3 _ (hp e (List.mem_of_getElem? hk) hb))
   have hmono : ∀ (X Y : Act → World → Prop),(∀ a w,X a w → Y a w) → ∀ a w,wpList P l.toArray (nrm X) [o] a w → wpList P l.toArray (nrm Y) [o] a w:=by
    intro X Y hXY a w h
    unfold wpList at h ⊢
    split
    ·rename_i hw
     rw [if_pos hw] at h
     rcases h with h | ⟨_,a',w',h⟩
     ·exact .inl (Oper.wp_mono2 (λ_ _ h=>hXY _ _ h) (λ_ _ _ h=>h.elim) (λ⟨_,_,h⟩=>h.elim) h)
     ·exact h.elim
    ·rename_i hw
     rw [if_neg hw] at h
     exact hXY _ _ h
   refine hmono _ _ ?_ a w hs
   rintro a' w' ⟨hk,v,t,hti,hEnv,hGi⟩
   have hEnv':=hEnv.upd hn hti
   have hC':=hC w w' k2 hk
   have hset : ∀ j,dn (listed.setIfInBounds i true) j ↔ (j = i ∨ dn listed j):=λj=>yD (by omega)
   have hG' : ∀ j,dn (listed.setIfInBounds i true) j → G j (V0 u i v j) w':=by
    intro j hj
    rcases (hset j).1 hj with rfl | hj'
    ·simpa [V0] using hGi
    ·have hji : j ≠ i:=λh=>by subst h; exact hnd hj'
     simp only [V0,if_neg hji]
     exact hG j _ w w' k2 hk (k3 j hj')
   have htn : ∀ j,hd.length ≤ j → ¬ dn (listed.setIfInBounds i true) j:=by
    intro j hj hd'
    rcases (hset j).1 hd' with rfl | hj'
    ·omega
    ·exact ht0 j hj hj'
   by_cases hall : ∀ j,j < hd.length → dn (listed.setIfInBounds i true) j
   ·exact .inl ⟨hall,0,Nat.zero_le _,λj hj=>by omega,λj _ _=>htn _ (by omega),htail a' w' _ hEnv' hC' (λj hj=>hG' j (hall j hj))⟩
   exact .inr ⟨hall,htn,_,hEnv',hC',hG'⟩
  have hdone:=tailDone listed i o hi (by omega) hdc hp
  have hall : ∀ j,j < hd.length → dn listed j:=λj hj=>hdone j (by omega)
  obtain ⟨_,k,hk,k1,k2,k3⟩ | ⟨h,_⟩:=hI
  case inr=>exact absurd hall h
  have hki : hd.length + k = i:=by
   rcases Nat.lt_trichotomy (hd.length + k) i with h | h | h
   ·exact absurd (hdone _ h) (k2 k (Nat.le_refl _) (by omega))
   ·exact h
   ·exact absurd (by have:=k1 (i - hd.length) (by omega); rwa [show hd.length + (i - hd.length) = i by omega] at this) hnd
  have hto : tl[k]? = some o:=by
   rw [← hl] at hi
   rw [List.getElem?_append_right (by omega)] at hi
   rwa [show i - hd.length = k by omega] at hi
  have hdr : tl.drop k = o :: tl.drop (k + 1):=by
   rw [List.drop_eq_getElem_cons (List.getElem?_eq_some_iff.1 hto).1]
   congr 1
   exact (List.getElem?_eq_some_iff.1 hto).2
  rw [hdr] at k3
  refine wpOp_mono (λa' w' hl=>?_) (Zec (by simpa using hi) k3)
  have hset : ∀ j,dn (listed.setIfInBounds i true) j ↔ (j = i ∨ dn listed j):=λj=>yD (by omega)
  have hall' : ∀ j,j < hd.length → dn (listed.setIfInBounds i true) j:=λj hj=>(hset j).2 (.inr (hall j hj))
  refine .inl ⟨hall',k + 1,(List.getElem?_eq_some_iff.1 hto).1,λj hj=>(hset _).2 ?_,λj hj1 hj2 hd'=>?_,hl⟩
  ·rcases Nat.lt_or_ge j k with h | h
   ·exact .inr (k1 j h)
   exact .inl (by omega)
  rcases (hset _).1 hd' with h | h
  ·omega
  exact k2 j (by omega) hj2 h
 ·intro listed a w hsz hall hI
  have hall' : ∀ i,i < hd.length → dn listed i:=λi hi=>hall i (by omega)
  obtain ⟨_,k,hk,k1,k2,k3⟩ | ⟨h,_⟩:=hI
  case inr=>exact absurd hall' h
  have : k = tl.length:=by
   rcases Nat.lt_or_ge k tl.length with h | h
   ·exact absurd (hall (hd.length + k) (by omega)) (k2 k (Nat.le_refl _) h)
   ·omega
  subst this
  rw [List.drop_length] at k3
  exact k3
 have hu : ∀ (r : List Nat) (j : Nat) (u : Nat → Value),(∀ k t,r[k]? = some t → u (j + k) = a.tmps.getD t undef) → Env n a (KD r j u e0):=by
  intro r
  induction r with
  | nil=>intro j u _; exact h0
  | cons t r ih =>
   intro j u hu
   have h1:=ih (j + 1) u (λk s hk=>by have:=hu (k + 1) s (by simpa using hk); rwa [show j + (k + 1) = j + 1 + k by omega] at this)
   refine ⟨h1.sz,h1.df,λs x hs=>?_⟩
   simp only [KD,List.lookup_cons] at hs
   by_cases hst : s = t
   ·subst hst
    simp at hs
    rw [← hs]
    exact (hu 0 s rfl).symm
   ·rw [show (s == t) = false by simpa using hst] at hs
    exact h1.get s x hs
 have hEnv : Env n a (KD ts 0 (λj=>a.tmps.getD (ts.getD j 0) undef) e0):=hu ts 0 _ (λk t hk=>by simp [List.getD_eq_getElem?_getD,hk])
 by_cases hall : ∀ i,i < hd.length → dn (Array.replicate l.toArray.size false) i
 ·have hnil : hd.length = 0:=by
   rcases Nat.eq_zero_or_pos hd.length with h | h
   ·exact h
   ·exact absurd (hall 0 h) (hnot0 0)
  exact .inl ⟨hall,0,Nat.zero_le _,λj hj=>by omega,λj _ _=>hnot0 _,htail a _ _ hEnv hC0 (λj hj=>by omega)⟩
 exact .inr ⟨hall,λj _=>hnot0 j,_,hEnv,hC0,λj hj=>absurd hj (hnot0 j)⟩
end
section
open Go

def Y7 (cs : List Value) (o : Nat) (vs : List Value) : List Value:=cs.take o ++ (vs ++ cs.drop (o + vs.length))
theorem Qk {cs : List Value} {o : Nat} {vs : List Value} (h : o + vs.length ≤ cs.length) : (Y7 cs o vs).length = cs.length:=by
 simp [Y7]; omega
theorem Za4 (p c q d : List Value) (h : d.length = c.length) : Y7 (p ++ (c ++ q)) p.length d = p ++ (d ++ q):=by
 unfold Y7
 rw [List.take_left,h,← List.append_assoc p c q,← List.length_append,List.drop_left]
theorem zE {p c q d : List Value} {k o : Nat} (ho : o = p.length + k) (h : k + d.length ≤ c.length) : Y7 (p ++ (c ++ q)) o d = p ++ (Y7 c k d ++ q):=by
 subst ho
 unfold Y7
 rw [List.take_length_add_append,List.append_assoc,List.append_assoc,List.append_assoc]
 congr 1
 rw [List.take_append_of_le_length (by omega)]
 congr 1
 congr 1
 rw [Nat.add_assoc,List.drop_length_add_append,List.drop_append_of_le_length (by omega)]
theorem Zg {c d : List Value} (h : d.length = c.length) : Y7 c 0 d = d:=by simp [Y7,h]

theorem Zex (w : World) (b o : Nat) (v : Value) (c : Array Value) (T : TypeId) (fz : Nat × Nat) (h : w.heap[b]? = some (.cells c T fz)) :
  (w.setCell ⟨b,o,none⟩ v).heap[b]? = some (.cells (c.setIfInBounds o v) T fz):=by
 simp [World.setCell,Array.getElem?_modify,h]
theorem Up (b : Nat) (T : TypeId) (fz : Nat × Nat) : ∀ (vs : List Value) (o : Nat) (w : World) (c : Array Value),w.heap[b]? = some (.cells c T fz) → o + vs.length ≤ c.size →
  (w.setCells b o vs).heap[b]? = some (.cells (Y7 c.toList o vs).toArray T fz)
 | [],o,w,c,h,hl=>by simp [World.setCells,Y7,h]
 | v :: r,o,w,c,h,hl=>by
  simp only [List.length_cons] at hl
  rw [World.setCells,Up b T fz r (o + 1) _ _ (Zex w b o v c T fz h) (by simp; omega)]
  congr 2
  simp only [Array.toList_setIfInBounds,Y7,List.length_cons]
  apply Array.ext'
  simp only []
  have h1 : (c.toList.set o v).take (o + 1) = c.toList.take o ++ [v]:=by
   rw [List.take_set,List.take_succ_eq_append_getElem (by simp; omega),List.set_append_right _ _ (by simp; omega)]
   congr 1
   have : o - (c.toList.take o).length = 0:=by simp; omega
   rw [this]; rfl
  have h2 : (c.toList.set o v).drop (o + 1 + r.length) = c.toList.drop (o + (r.length + 1)):=by
   rw [List.drop_set_of_lt (by omega)]; congr 1; omega
  rw [h1,h2]; simp
theorem T6 (b k : Nat) (hk : k ≠ b) : ∀ (vs : List Value) (o : Nat) (w : World),(w.setCells b o vs).heap[k]? = w.heap[k]?
 | [],_,_=>rfl
 | v :: r,o,w=>by
  rw [World.setCells,T6 b k hk r]
  simp only [World.setCell,Array.getElem?_modify]
  rw [if_neg (by omega)]
theorem K7 (b : Nat) : ∀ (vs : List Value) (o : Nat) (w : World),(w.setCells b o vs).heap.size = w.heap.size
 | [],_,_=>rfl
 | v :: r,o,w=>by rw [World.setCells,K7 b r]; simp [World.setCell]
theorem Y5 (b : Nat) : ∀ (vs : List Value) (o : Nat) (w : World),(w.setCells b o vs).os = w.os ∧ (w.setCells b o vs).tape = w.tape ∧ (w.setCells b o vs).output = w.output
 | [],_,_=>⟨rfl,rfl,rfl⟩
 | v :: r,o,w=>by rw [World.setCells]; have:=Y5 b r (o + 1) (w.setCell ⟨b,o,none⟩ v); exact this

theorem Ad {P : Program} {w : World} {b o : Nat} {c : Array Value} {T : TypeId} {fz : Nat × Nat} {vs : List Value} (h : w.heap[b]? = some (.cells c T fz)) (hl : o + vs.length ≤ c.size)
  (hf : ∀ i,i < c.size → ¬ (fz.1 ≤ i ∧ i < fz.2)) (h1 : ∀ v ∈ vs,v.oneCell' = true) : (storeCells ⟨b,o,none⟩ vs).run P w = .ok () (w.setCells b o vs):=by
 have:=run_storeCells_cells (P:=P) b o vs 0 w (λj hj=>by
   simp only [Nat.add_zero]
   have : o + j < c.size:=by omega
   simp [World.cell?,h,this]) (λj hj=>by
   simp only [Nat.add_zero,World.frozen?,h]
   have:=hf (o + j) (by omega)
   simp only [Bool.and_eq_false_iff,decide_eq_false_iff_not]
   by_cases h3 : fz.1 ≤ o + j
   ·exact .inr (λh4=>this ⟨h3,h4⟩)
   ·exact .inl h3) h1
 simpa using this

section
variable {n : Nat} {a : Act} {e : List (Nat × Value)} {w w' : World} {P : Program} {ops : Array Oper} {rest : List Oper} {Q : Exit → Act → World → Prop}
variable {d : Nat} {ty t : TypeId} {pos : String} {af : Array Edge} {g : Option (Nat × Bool)} {x y : Operand} {v : Value}
variable {St : Nat → Prop} {w0 : World} {its : List Item}

theorem M.storesRaw {b o : Nat} {cs seg : List Value} (hM : M St w0 w (raw b cs :: its)) (hb : o + seg.length ≤ cs.length) (hc : ∀ v ∈ seg,v.oneCell' = true) :
  (storeCells ⟨b,o,none⟩ seg).run P w = .ok () (w.setCells b o seg) ∧ M St w0 (w.setCells b o seg) (raw b (Y7 cs o seg) :: its):=by
 obtain ⟨fp,⟨rfl,T,hheap⟩,_⟩:=hM.head
 refine ⟨Ad (P:=P) (o:=o) hheap (by simpa using hb) (by intro i hi; simp) hc,?_⟩
 refine M.turn (new:=[raw b (Y7 cs o seg)]) hM (Y5 _ _ _ _).1 (Y5 _ _ _ _).2.1 (Y5 _ _ _ _).2.2 (by rw [K7]; exact Nat.le_refl _) ?_
 rintro fp ⟨rfl,T',_⟩ _ _
 refine ⟨λk hk _=>T6 _ _ (by simpa using hk) _ _ _,[b],⟨[b],[],rfl,XR,⟨rfl,T,?_⟩,rfl⟩,by simp,λk hk=>.inl hk⟩
 rw [Up b T (0,0) _ _ _ _ hheap (by simpa using hb)]
theorem Zk {D : TypeDesc} {sz by_ : Nat} {z : List Value} {b o : Nat} {cs seg cs' : List Value} {u : Value} (h : Env n a e) (hM : M St w0 w (raw b cs :: its)) (hw : Goes ops ⟨none,.store t x y,ty,pos,af,g⟩ a)
  (hx : opv e x = some (ptr b o)) (hy : opv e y = some u) (hu : u.cells.toList = seg) (ht : Ty P t D sz by_ z) (hl : seg.length = sz) (hb : o + seg.length ≤ cs.length) (hc : ∀ v ∈ seg,v.oneCell' = true) (hs : Y7 cs o seg = cs')
  (k : ∀ w a,M St w0 w (raw b cs' :: its) → Env n a e → wpList P ops Q rest a w) : wpList P ops Q (⟨none,.store t x y,ty,pos,af,g⟩ :: rest) a w:=by
 subst hs
 obtain ⟨hr,hM'⟩:=M.storesRaw (P:=P) hM hb hc
 refine Zev h hw rfl (w':=w.setCells b o seg) ?_ λa ha=>k _ _ hM' ha
 simp only [execOp,h.ev hx,h.ev hy]
 have hsz : u.cells.size = sz:=by rw [← hl,← hu]; simp
 simp [Instr.storeAt,Instr.sureAddr,storeVar,WC ht,hsz,hu,hr]

end

def UO {α : Type} [Rep α] (S : Nat → Prop) (w : World) (l : List α) (v : Value) (fp : List Nat) : Prop :=
  ∃ p cap,v = .slice p l.length cap ∧ l.length ≤ cap ∧
    ((cap = 0 ∧ fp = [] ∧ True) ∨
     ∃ b o ecs fpe,p = some ⟨b,o,none⟩ ∧ YA S w l ecs fpe ∧ At w b o ecs ∧ fp = b :: fpe ∧ qN w b o (cap * Rep.n α))
def osl {α : Type} [Rep α] (S : Nat → Prop) (l : List α) (v : Value) : Item:=λw fp=>UO S w l v fp

section
variable {α : Type} [Rep α] {S St : Nat → Prop} {w w' : World} {l : List α} {v : Value} {fp : List Nat}
theorem UO.sat (h : UO S w l v fp) : Rep.sat S w l [v] fp:=by
 obtain ⟨p,cap,rfl,hc,h⟩:=h
 refine ⟨p,cap,rfl,hc,?_⟩
 rcases h with ⟨rfl,rfl,hp⟩ | ⟨b,o,ecs,fpe,rfl,h1,h2,rfl,h3⟩
 ·have : l = []:=List.eq_nil_of_length_eq_zero (by omega)
  subst this
  cases p with
  | none=>exact ⟨rfl,rfl⟩
  | some q=>exact ⟨λh=>absurd rfl h,[],[],⟨rfl,rfl⟩,At.nil _ _ _,.inl ⟨λh=>absurd rfl h,rfl⟩⟩
 exact ⟨λ_=>rfl,ecs,fpe,h1,h2,.inr ⟨rfl,h3,rfl⟩⟩
theorem UO.loc (h : UO S w l v fp) (hb : ∀ b,(b ∈ fp ∨ S b) → w'.heap[b]? = w.heap[b]?) : UO S w' l v fp:=by
 obtain ⟨p,cap,rfl,hc,h⟩:=h
 refine ⟨p,cap,rfl,hc,?_⟩
 rcases h with h | ⟨b,o,ecs,fpe,rfl,h1,h2,rfl,h3⟩
 ·exact .inl h
 exact .inr ⟨b,o,ecs,fpe,rfl,h1.loc (λb h=>hb b (by simp; grind)),h2.loc (hb b (by simp)),rfl,h3.loc (hb b (by simp))⟩
theorem TP (hS : ∀ b,S b → St b) : Loc St (osl S l v):=λ_ _ _ h hb=>UO.loc h λb h=>hb b (h.imp id (hS b))
theorem M.sl {w0 : World} {pre post : List Item} (h : M St w0 w (pre ++ osl S l v :: post)) (hS : ∀ b,S b → St b) : Ro w l [v]:=by
 obtain ⟨fp,h1,h2⟩:=h.get
 exact Rep.ro (UO.sat h1) λb hb=>hb.elim (h2 b) (λhb=>h.st' b (hS b hb))
theorem noB {St : Nat → Prop} : ∀ b,NoB b → St b:=λ_ h=>h.elim
theorem M.rd {β : Type} [Rep β] {w0 : World} {its : List Item} {x : β} {cs : List Value} (h : M St w0 w its) (hx : Rep.sat St w0 x cs []) : Rep.sat St w x cs [] :=
 Rep.loc hx λb hb=>h.kept.block b (hb.elim (λh=>by cases h) id)
theorem M.rdo {β : Type} [Rep β] {w0 : World} {its : List Item} {x : β} {cs : List Value} (h : M St w0 w its) (hx : Rep.sat St w0 x cs []) : Ro w x cs :=
 Rep.ro (h.rd hx) λb hb=>hb.elim (λh=>by cases h) (h.st' b)
end

theorem XG {α : Type} [Flat α] {S : Nat → Prop} {w : World} : ∀ {l : List α} {cs : List Value} {fp : List Nat},YA S w l cs fp ↔ cs = XA l ∧ fp = []
 | [],cs,fp=>Iff.rfl
 | x :: l,cs,fp=>by
  constructor
  ·rintro ⟨c,cs',f,fp',rfl,rfl,⟨rfl,rfl⟩,h⟩
   obtain ⟨rfl,rfl⟩:=XG.1 h
   exact ⟨rfl,rfl⟩
  ·rintro ⟨rfl,rfl⟩
   exact ⟨Flat.enc x,XA l,[],[],rfl,rfl,⟨rfl,rfl⟩,XG.2 ⟨rfl,rfl⟩⟩

theorem qZ {α : Type} [Rep α] {P : Program} {w : World} {S S2 : Nat → Prop} {l m : List α} {v u : Value} {fp fq : List Nat} {t ty el : TypeId} {D : TypeDesc} {by_ : Nat} {z : List Value}
    (ho : UO S w l v fp) (hu : Rep.sat S2 w m [u] fq) (ht : P.underlying t = some (.slice el)) (he : Ty P el D (Rep.n α) by_ z) (hzl : z.length = Rep.n α) (h0 : 0 < by_) (hb : (l.length + m.length) * by_ ≤ 140737488355328) :
    ∃ v' w',(Builtin.append_ #[t,t] ty #[v,u]).run P w = .ok v' w' ∧ w'.os = w.os ∧ w'.tape = w.tape ∧ w'.output = w.output ∧ w.heap.size ≤ w'.heap.size ∧ (∀ b,b < w.heap.size → (b ∈ fp → b ≠ sb v) → w'.heap[b]? = w.heap[b]?) ∧
      ∃ p cap,v' = .slice p (l.length + m.length) cap ∧ l.length + m.length ≤ cap ∧
        ((cap = 0 ∧ fp = [] ∧ True) ∨
         ∃ b o ecs fpe news fqe,p = some ⟨b,o,none⟩ ∧ YA S w l ecs fpe ∧ YA S2 w m news fqe ∧ (∀ k ∈ fqe,k ∈ fq) ∧ fqe.Sublist fq ∧ fpe.Sublist fp ∧ (fp = [] ∨ fp = sb v :: fpe) ∧ At w' b o (ecs ++ news) ∧ qN w' b o (cap * Rep.n α) ∧
           (fp = b :: fpe ∨ (w.heap.size ≤ b ∧ b < w'.heap.size))):=by
  obtain ⟨i,zv,hi,hsz,hby,hz,hzc⟩:=he.get
  obtain ⟨p,cap,rfl,hc,ho⟩:=ho
  obtain ⟨pu,capu,hu1,hcu,hu2⟩:=hu
  simp only [List.cons.injEq,and_true] at hu1
  subst hu1
  have hle : l.length + m.length ≤ 140737488355328:=Nat.le_trans (Nat.le_mul_of_pos_right _ h0) hb
  -- the new cells
  obtain ⟨news,fqe,hnews,hnl,hsub,hfirst⟩ : ∃ news fqe,YA S2 w m news fqe ∧ news.length = m.length * i.size ∧ fqe.Sublist fq ∧ (m = [] ∨ ∃ a : Addr,pu = some a ∧ ∀ j v,news[j]? = some v → w.cell? (a.add j) = some v):=by
    cases pu with
    | none =>
      have : m = []:=List.eq_nil_of_length_eq_zero (by have:=hu2.1; omega)
      subst this
      exact ⟨[],[],⟨rfl,rfl⟩,by simp,List.nil_sublist _,.inl rfl⟩
    | some q =>
      by_cases hm : m = []
      · subst hm; exact ⟨[],[],⟨rfl,rfl⟩,by simp,List.nil_sublist _,.inl rfl⟩
      obtain ⟨q1,q2,q3⟩:=q
      obtain ⟨hs,ecs,fpe,k1,k2,k3⟩:=hu2
      have hs:=hs (by have:=List.length_pos_iff.2 hm; omega)
      simp only at hs
      subst hs
      refine ⟨ecs,fpe,k1,by rw [k1.len,hsz],?_,.inr ⟨_,rfl,λj v hv=>by rw [Addr.add_lit]; exact k2 j v hv⟩⟩
      rcases k3 with ⟨_,rfl⟩ | ⟨rfl,_⟩
      · exact List.Sublist.refl _
      · exact List.sublist_cons_self _ _
  have hfqm : ∀ k ∈ fqe,k ∈ fq:=λk hk=>hsub.subset hk
  have h1 : ∀ u ∈ news,u.oneCell' = true:=hnews.cell
  -- in place,or a new array
  by_cases hroom : l.length + m.length ≤ cap
  · -- in place
    rcases ho with ⟨rfl,rfl,hp⟩ | ⟨b,o,ecs,fpe,rfl,k1,k2,rfl,k3⟩
    · have hl0 : l = []:=List.eq_nil_of_length_eq_zero (by omega)
      have hm0 : m = []:=List.eq_nil_of_length_eq_zero (by omega)
      subst hl0; subst hm0
      refine ⟨.slice p 0 0,w,?_,rfl,rfl,rfl,Nat.le_refl _,λ_ _ _=>rfl,p,0,rfl,Nat.le_refl _,.inl ⟨rfl,rfl,hp⟩⟩
      have hl : ∀ (x : Addr),(loadCells x 0).run P w = .ok #[] w:=λx=>by simpa using run_loadCells_list (P:=P) w x [] (by simp)
      cases p <;> cases pu <;> simp [Builtin.append_,run_underlying ht,sizeOf,typeInfo,hi,Builtin.lenOf,Builtin.firstCells,hl,storeCells]
    · obtain ⟨c,T,fz,hheap,hsize,hfz⟩:=k3
      have hfit : o + l.length * i.size + news.length ≤ c.size:=by
        have : (l.length + m.length) * Rep.n α ≤ cap * Rep.n α:=Nat.mul_le_mul_right _ hroom
        rw [Nat.add_mul] at this
        rw [hnl,hsz]; omega
      have hst:=Ad (P:=P) (o:=o + l.length * i.size) (vs:=news) hheap (by omega) hfz h1
      refine ⟨.slice (some ⟨b,o,none⟩) (l.length + m.length) cap,w.setCells b (o + l.length * i.size) news,?_,(Y5 _ _ _ _).1,(Y5 _ _ _ _).2.1,(Y5 _ _ _ _).2.2,
        by rw [K7]; exact Nat.le_refl _,λk _ hk=>T6 _ _ (λh=>hk (by rw [h]; simp) (by rw [h]; rfl)) _ _ _,some ⟨b,o,none⟩,cap,rfl,hroom,.inr ⟨b,o,ecs,fpe,news,fqe,rfl,k1,hnews,hfqm,hsub,List.sublist_cons_self _ _,.inr rfl,?_,?_,.inl rfl⟩⟩
      · have hf : (Builtin.firstCells i.size m.length (.slice pu m.length capu)).run P w = .ok news.toArray w:=by
          rcases hfirst with rfl | ⟨a,rfl,ha⟩
          · have : news = []:=List.eq_nil_of_length_eq_zero (by simpa using hnl)
            subst this
            have hl : ∀ (x : Addr),(loadCells x 0).run P w = .ok #[] w:=λx=>by simpa using run_loadCells_list (P:=P) w x [] (by simp)
            cases pu <;> simp [Builtin.firstCells,hl]
          · exact run_firstCells_some (P:=P) w i.size m.length a m.length capu news hnl ha
        simp [Builtin.append_,run_underlying ht,sizeOf,typeInfo,hi,Builtin.lenOf,hroom,hf,Addr.add_lit,hst]
      · have hh:=Up b T fz news (o + l.length * i.size) w c hheap (by omega)
        have hel : ecs.length = l.length * i.size:=by rw [k1.len,hsz]
        refine At.append.2 ⟨λj v hv=>?_,λj v hv=>?_⟩
        · have hj:=(List.getElem?_eq_some_iff.1 hv).1
          have:=k2 j v hv
          simp only [World.cell?,hheap,hh] at this ⊢
          simp only [Option.isSome_none,Bool.false_eq_true,if_false] at this ⊢
          rw [List.getElem?_toArray,Y7,List.getElem?_append_left (by simp; omega),List.getElem?_take,if_pos (by omega)]
          simpa using this
        · have hj:=(List.getElem?_eq_some_iff.1 hv).1
          rw [hel]
          simp only [World.cell?,hh]
          simp only [Option.isSome_none,Bool.false_eq_true,if_false]
          rw [List.getElem?_toArray,Y7,List.getElem?_append_right (by simp; omega)]
          have : o + l.length * i.size + j - (c.toList.take (o + l.length * i.size)).length = j:=by simp; omega
          rw [this,List.getElem?_append_left hj]; exact hv
      · refine ⟨_,T,fz,Up b T fz news _ w c hheap (by omega),?_,?_⟩
        · rw [List.size_toArray,Qk (by simpa using hfit)]; simpa using hsize
        · intro j hj
          rw [List.size_toArray,Qk (by simpa using hfit)] at hj
          exact hfz j (by simpa using hj)
  · -- it grows
    have hm0 : m ≠ []:=λh=>by subst h; simp at hroom; omega
    have hmpos : 0 < m.length:=List.length_pos_iff.2 hm0
    rcases hfirst with rfl | ⟨a,rfl,ha⟩
    · exact absurd rfl hm0
    have hfit : Builtin.nextslicecap (l.length + m.length) cap * i.bytes ≤ 281474976710656:=growslice_fits (by omega) (by rw [hby]; exact hb)
    have h63 : ((l.length + m.length : Nat) : Int) ≤ 9223372036854775807:=by omega
    have hgc:=grownCap_ge w (l.length + m.length) cap el
    -- the old cells
    obtain ⟨olds,fpe,k1,hol,hfpe,hfps,hrun⟩ : ∃ olds fpe,YA S w l olds fpe ∧ olds.length = l.length * i.size ∧ fpe.Sublist fp ∧ (fp = [] ∨ fp = sb (.slice p l.length cap) :: fpe) ∧
        (Builtin.append_ #[t,t] ty #[.slice p l.length cap,.slice (some a) m.length capu]).run P w =
          .ok (.slice (some ⟨w.heap.size,0,none⟩) (l.length + m.length) (grownCap w (l.length + m.length) cap el))
            (w.drew.alloc (.cells (olds.toArray ++ news.toArray ++ Builtin.zeroCells zv.cells (grownCap w (l.length + m.length) cap el - (l.length + m.length))) el)):=by
      rcases ho with ⟨rfl,rfl,hp⟩ | ⟨b,o,ecs,fpe,rfl,k1,k2,rfl,k3⟩
      · have hl0 : l = []:=List.eq_nil_of_length_eq_zero (by omega)
        subst hl0
        refine ⟨[],[],⟨rfl,rfl⟩,by simp,List.nil_sublist _,.inl rfl,?_⟩
        cases p with
        | none =>
          have h48 : m.length * i.bytes ≤ 281474976710656:=by
            rw [hby]; simp only [List.length_nil,Nat.zero_add] at hb; omega
          have:=run_append_nil (P:=P) w t ty el i zv ht hi hz a m.length capu news hnl ha hmpos (by omega) h48
          simpa using this
        | some q=>exact run_append_grow (P:=P) w t ty el i zv ht hi hz q 0 0 [] (by simp) (by simp) a m.length capu news hnl ha (by simpa using hmpos) (by simpa using h63) hfit
      · exact ⟨ecs,fpe,k1,by rw [k1.len,hsz],List.sublist_cons_self _ _,.inr rfl,run_append_grow (P:=P) w t ty el i zv ht hi hz ⟨b,o,none⟩ l.length cap ecs (by rw [k1.len,hsz]) (λj v hv=>by rw [Addr.add_lit]; exact k2 j v hv) a m.length capu news hnl ha (by omega) h63 hfit⟩
    have hnewheap:=heap_alloc_new w.drew (.cells (olds.toArray ++ news.toArray ++ Builtin.zeroCells zv.cells (grownCap w (l.length + m.length) cap el - (l.length + m.length))) el)
    refine ⟨_,_,hrun,rfl,rfl,rfl,by simp,λk hk _=>Kw w.drew _ k hk,_,_,rfl,hgc,.inr ⟨w.heap.size,0,olds,fpe,news,fqe,rfl,k1,hnews,hfqm,hsub,hfpe,hfps,?_,?_,.inr ⟨Nat.le_refl _,by simp⟩⟩⟩
    · intro j v hv
      have hj:=(List.getElem?_eq_some_iff.1 hv).1
      simp only [World.cell?]
      rw [show w.heap.size = w.drew.heap.size from rfl,hnewheap]
      simp only [Option.isSome_none,Bool.false_eq_true,if_false,Nat.zero_add]
      rw [Array.getElem?_append_left (by simpa using hj)]
      simpa using hv
    · refine ⟨_,el,(0,0),hnewheap,?_,by intro j _; simp⟩
      have hzs : zv.cells.size = i.size:=by
        have:=congrArg List.length hzc
        rw [hzl] at this; simpa [hsz] using this
      simp only [Array.size_append,List.size_toArray,size_zeroCells,hol,hnl,hzs,← hsz]
      rw [← Nat.add_mul,← Nat.add_mul,Nat.zero_add,show l.length + m.length + (grownCap w (l.length + m.length) cap el - (l.length + m.length)) = grownCap w (l.length + m.length) cap el by omega]
      exact Nat.le_refl _

section
variable {n : Nat} {a : Act} {e : List (Nat × Value)} {w w' : World} {P : Program} {ops : Array Oper} {rest : List Oper} {Q : Exit → Act → World → Prop}
variable {d : Nat} {ty t : TypeId} {pos : String} {af : Array Edge} {g : Option (Nat × Bool)} {x y : Operand} {v u : Value}
variable {St : Nat → Prop} {w0 : World} {its : List Item}

theorem Yg {α : Type} [Flat α] {S2 : Nat → Prop} {l m : List α} {fq : List Nat} {el : TypeId} {D : TypeDesc} {by_ : Nat} {z : List Value}
  (h : Env n a e) (hM : M St w0 w (osl NoB l v :: its)) (hw : Goes ops ⟨some d,.call ⟨.builtin .append,[x,y].toArray,[t,t].toArray⟩,ty,pos,af,g⟩ a) (hd : d < n) (hx : opv e x = some v) (hy : opv e y = some u)
  (hu : Rep.sat S2 w m [u] fq) (ht : P.underlying t = some (.slice el)) (he : Ty P el D (Rep.n α) by_ z) (hzl : z.length = Rep.n α) (h0 : 0 < by_) (hb : (l.length + m.length) * by_ ≤ 140737488355328)
  (k : ∀ v' w a,M St w0 w (osl NoB (l ++ m) v' :: its) → Env n a ((d,v') :: e) → wpList P ops Q rest a w) : wpList P ops Q (⟨some d,.call ⟨.builtin .append,[x,y].toArray,[t,t].toArray⟩,ty,pos,af,g⟩ :: rest) a w:=by
 obtain ⟨fp,hfp,_⟩:=hM.head
 obtain ⟨v',w',hr,hos,htp,hout,hsz,_,_⟩:=qZ (ty:=ty) hfp hu ht he hzl h0 hb
 refine XV h hw rfl hd (v:=v') (w':=w') (by simp only [execOp,resolve]; simp [invoke,builtin,h.ev hx,h.ev hy,hr]) λa ha=>k _ _ _ ?_ ha
 refine hM.turn (new:=[osl NoB (l ++ m) v']) hos htp hout hsz ?_
 intro fp hfp hlt hnd
 obtain ⟨v2,w2,hr2,_,_,_,_,hother,p,cap,hv2,hc,hres⟩:=qZ (ty:=ty) hfp hu ht he hzl h0 hb
 rw [hr] at hr2
 simp only [Result.ok.injEq] at hr2
 obtain ⟨rfl,rfl⟩:=hr2
 refine ⟨λb hb hb'=>hother b hb' (λh=>absurd h hb),?_⟩
 have hlen : l.length + m.length = (l ++ m).length:=by simp
 rcases hres with ⟨rfl,rfl,hq⟩ | ⟨b,o,ecs,fpe,news,fqe,rfl,k1,k2,_,_,_,_,k3,k4,k5⟩
 ·exact ⟨[],⟨[],[],rfl,TP noB,⟨p,0,by rw [hv2,hlen],by rw [← hlen]; exact hc,.inl ⟨rfl,rfl,hq⟩⟩,rfl⟩,List.nodup_nil,λb hb=>by cases hb⟩
 obtain ⟨rfl,rfl⟩:=XG.1 k1
 obtain ⟨rfl,rfl⟩:=XG.1 k2
 refine ⟨[b],⟨[b],[],rfl,TP noB,⟨some ⟨b,o,none⟩,cap,by rw [hv2,hlen],by rw [← hlen]; exact hc,.inr ⟨b,o,XA l ++ XA m,[],rfl,?_,k3,rfl,k4⟩⟩,rfl⟩,by simp,λb' hb'=>?_⟩
 ·exact YA.append (fp:=[]) (gp:=[]) (XG.2 ⟨rfl,rfl⟩) (XG.2 ⟨rfl,rfl⟩)
 simp at hb'; subst hb'
 rcases k5 with rfl | k5
 ·exact .inl (by simp)
 exact .inr k5
theorem J4 {α : Type} [Rep α] {S : Nat → Prop} {l m : List α} {el : TypeId} {D : TypeDesc} {by_ : Nat} {z : List Value}
  (h : Env n a e) (hM : M St w0 w (osl S l v :: osl S m u :: its)) (hS : ∀ b,S b → St b) (hw : Goes ops ⟨some d,.call ⟨.builtin .append,[x,y].toArray,[t,t].toArray⟩,ty,pos,af,g⟩ a) (hd : d < n) (hx : opv e x = some v) (hy : opv e y = some u)
  (ht : P.underlying t = some (.slice el)) (he : Ty P el D (Rep.n α) by_ z) (hzl : z.length = Rep.n α) (h0 : 0 < by_) (hb : (l.length + m.length) * by_ ≤ 140737488355328)
  (k : ∀ v' w a,M St w0 w (osl S (l ++ m) v' :: its) → Env n a ((d,v') :: e) → wpList P ops Q rest a w) : wpList P ops Q (⟨some d,.call ⟨.builtin .append,[x,y].toArray,[t,t].toArray⟩,ty,pos,af,g⟩ :: rest) a w:=by
 -- the two items as one
 obtain ⟨hk,hs,fp,⟨f1,f',rfl,hl1,h1,f2,f3,rfl,hl2,h2,h3⟩,hnd,hlt⟩:=hM
 have hM2 : M St w0 w ((λw fp=>∃ f1 f2,fp = f1 ++ f2 ∧ UO S w l v f1 ∧ UO S w m u f2) :: its):=by
  refine ⟨hk,hs,(f1 ++ f2) ++ f3,⟨f1 ++ f2,f3,rfl,?_,⟨f1,f2,rfl,h1,h2⟩,h3⟩,by simpa using hnd,by simpa using hlt⟩
  rintro w w' fp ⟨g1,g2,rfl,k1,k2⟩ hb
  exact ⟨g1,g2,rfl,k1.loc (λb h=>hb b (by rcases h with h | h; exact .inl (by simp [h]); exact .inr (hS b h))),k2.loc (λb h=>hb b (by rcases h with h | h; exact .inl (by simp [h]); exact .inr (hS b h)))⟩
 obtain ⟨v',w',hr,hos,htp,hout,hsz,_,_⟩:=qZ (ty:=ty) h1 h2.sat ht he hzl h0 hb
 refine XV h hw rfl hd (v:=v') (w':=w') (by simp only [execOp,resolve]; simp [invoke,builtin,h.ev hx,h.ev hy,hr]) λa ha=>k _ _ _ ?_ ha
 have hst:=hM2.st'
 refine hM2.turn (new:=[osl S (l ++ m) v']) hos htp hout hsz ?_
 rintro fp ⟨g1,g2,rfl,k1,k2⟩ hlt hnd
 obtain ⟨v2,w2,hr2,_,_,_,_,hother,p,cap,hv2,hc,hres⟩:=qZ (ty:=ty) k1 k2.sat ht he hzl h0 hb
 rw [hr] at hr2
 simp only [Result.ok.injEq] at hr2
 obtain ⟨rfl,rfl⟩:=hr2
 refine ⟨λb hb hb'=>hother b hb' (λh=>absurd (by simp [h]) hb),?_⟩
 have hlen : l.length + m.length = (l ++ m).length:=by simp
 obtain ⟨n1,n2,n3⟩:=List.nodup_append.1 hnd
 rcases hres with ⟨rfl,rfl,hq⟩ | ⟨b,o,ecs,fpe,news,fqe,rfl,j1,j2,j3,j4,j5,j9,j6,j7,j8⟩
 ·exact ⟨[],⟨[],[],rfl,TP hS,⟨p,0,by rw [hv2,hlen],by rw [← hlen]; exact hc,.inl ⟨rfl,rfl,hq⟩⟩,rfl⟩,List.nodup_nil,λb hb=>by cases hb⟩
 have hbg2 : b ∉ g2:=by
  intro hb
  rcases j8 with hg1 | j8
  ·exact n3 b (by rw [hg1]; simp) b hb rfl
  ·have:=(hlt b (by simp [hb])).2; omega
 have hbfpe : b ∉ fpe:=by
  intro hb
  rcases j8 with hg1 | j8
  ·rw [hg1] at n1; exact (List.nodup_cons.1 n1).1 hb
  ·have:=(hlt b (by simp [j5.subset hb])).2; omega
 have hkeep : ∀ c,(c ∈ fpe ∨ c ∈ fqe ∨ S c) → w'.heap[c]? = w.heap[c]?:=by
  intro c hc'
  refine hother c ?_ ?_
  ·rcases hc' with h | h | h
   ·exact (hlt c (by simp [j5.subset h])).2
   ·exact (hlt c (by simp [j3 c h])).2
   ·exact hst c (hS c h)
  ·rintro hcg rfl
   rcases hc' with h | h | h
   ·rcases j9 with rfl | hg
    ·cases hcg
    ·rw [hg] at n1; exact (List.nodup_cons.1 n1).1 h
   ·exact n3 _ hcg _ (j3 _ h) rfl
   ·exact (hlt _ (by simp [hcg])).1 (hS _ h)
 refine ⟨b :: (fpe ++ fqe),⟨b :: (fpe ++ fqe),[],by simp,TP hS,⟨some ⟨b,o,none⟩,cap,by rw [hv2,hlen],by rw [← hlen]; exact hc,.inr ⟨b,o,ecs ++ news,fpe ++ fqe,rfl,?_,j6,rfl,j7⟩⟩,rfl⟩,?_,?_⟩
 ·exact YA.append (j1.loc λc hc=>hkeep c (by rcases hc with h | h; exact .inl h; exact .inr (.inr h))) (j2.loc λc hc=>hkeep c (by rcases hc with h | h; exact .inr (.inl h); exact .inr (.inr h)))
 ·refine List.nodup_cons.2 ⟨λh=>?_,List.nodup_append.2 ⟨j5.nodup n1,j4.nodup n2,λx hx y hy hxy=>n3 x (j5.subset hx) y (j3 y hy) hxy⟩⟩
  rcases List.mem_append.1 h with h | h
  ·exact hbfpe h
  exact hbg2 (j3 b h)
 intro c hc
 rcases List.mem_cons.1 hc with rfl | hc
 ·rcases j8 with rfl | j8
  ·exact .inl (by simp)
  exact .inr j8
 rcases List.mem_append.1 hc with h | h
 ·exact .inl (by simp [j5.subset h])
 exact .inl (by simp [j3 c h])
end
end
section
open Go

theorem Zc6 {cs a b : List Value} {o : Nat} (h : o + a.length + b.length ≤ cs.length) : Y7 (Y7 cs o a) (o + a.length) b = Y7 cs o (a ++ b):=by
 have hP : (cs.take o ++ a).length = o + a.length:=by simp; omega
 unfold Y7
 rw [← List.append_assoc (cs.take o) a,List.take_left' hP,← hP,List.drop_append,hP]
 rw [List.drop_of_length_le (by rw [hP]; omega),List.nil_append,List.drop_drop,show o + a.length + b.length - (o + a.length) = b.length by omega]
 simp only [List.append_assoc,List.length_append]
 rw [Nat.add_assoc]
theorem HH : ∀ (vs : List Value) (k o : Nat) (cs : Array Value),o + k + vs.length ≤ cs.size →
  ((vs.zipIdx k).foldl (λcs (c,j)=>cs.setIfInBounds (o + j) c) cs) = (Y7 cs.toList (o + k) vs).toArray
 | [],k,o,cs,h=>by simp [Y7]
 | v :: r,k,o,cs,h=>by
  simp only [List.length_cons] at h
  rw [List.zipIdx_cons,List.foldl_cons,HH r (k + 1) o _ (by simp; omega)]
  apply Array.ext'
  simp only [Y7,Array.toList_setIfInBounds,List.length_cons]
  have h1 : (cs.toList.set (o + k) v).take (o + (k + 1)) = cs.toList.take (o + k) ++ [v]:=by
   rw [show o + (k + 1) = o + k + 1 by omega,List.take_set,List.take_succ_eq_append_getElem (by simp; omega),List.set_append_right _ _ (by simp; omega)]
   congr 1
   have : o + k - (cs.toList.take (o + k)).length = 0:=by simp; omega
   rw [this]; rfl
  have h2 : (cs.toList.set (o + k) v).drop (o + (k + 1) + r.length) = cs.toList.drop (o + k + (r.length + 1)):=by
   rw [List.drop_set_of_lt (by omega)]; congr 1; omega
  rw [h1,h2]; simp
def numbered : Nat → List Value → List (Nat × Value)
 | _,[]=>[]
 | k,v :: r=>(k,v) :: numbered (k + 1) r
theorem Zb2 (size : Nat) (place : Nat → Option (Nat × Nat)) (hp : ∀ i,place i = some (i * size,size)) : ∀ (vs : List Value) (k : Nat) (cs : Array Value),(∀ v ∈ vs,v.cells.size = size) → (k + vs.length) * size ≤ cs.size →
  Instr.fill place cs (numbered k vs) = some (Y7 cs.toList (k * size) (vs.map (·.cells.toList)).flatten).toArray
 | [],k,cs,_,_=>by simp [numbered,Instr.fill,Y7]
 | v :: r,k,cs,hv,hl=>by
  have hv0:=hv v (by simp)
  simp only [List.length_cons] at hl
  have hks : k * size + size ≤ cs.size:=by
   have : (k + 1) * size ≤ (k + (r.length + 1)) * size:=Nat.mul_le_mul_right _ (by omega)
   rw [Nat.add_mul k 1] at this; omega
  simp only [numbered,Instr.fill,hp,hv0]
  rw [if_neg (by simp; omega)]
  have hz : v.cells.zipIdx.foldl (λcs (c,j)=>cs.setIfInBounds (k * size + j) c) cs = (Y7 cs.toList (k * size) v.cells.toList).toArray:=by
   have:=HH v.cells.toList 0 (k * size) cs (by simp [hv0]; omega)
   rw [← Array.foldl_toList,Array.toList_zipIdx]
   simpa using this
  rw [hz,Zb2 size place hp r (k + 1) _ (λu hu=>hv u (by simp [hu])) (by
   rw [List.size_toArray,Qk (by simp [hv0]; omega)]; simp; rw [show k + 1 + r.length = k + (r.length + 1) by omega]; exact hl)]
  congr 1
  have hlv : v.cells.toList.length = size:=by simpa using hv0
  have hfl : ((r.map (·.cells.toList)).flatten).length = r.length * size:=by
   have : ∀ (xs : List Value),(∀ u ∈ xs,u.cells.size = size) → ((xs.map (·.cells.toList)).flatten).length = xs.length * size:=by
    intro xs
    induction xs with
    | nil=>intro _; simp
    | cons u xs ih=>intro hu; rw [List.map_cons,List.flatten_cons,List.length_append,ih (λy hy=>hu y (by simp [hy])),List.length_cons,Nat.add_mul]; have:=hu u (by simp); simp [this]; omega
   exact this r (λu hu=>hv u (by simp [hu]))
  have e1 : (k + 1) * size = k * size + v.cells.toList.length:=by rw [hlv,Nat.add_mul]; omega
  rw [List.map_cons,List.flatten_cons,e1]
  rw [Zc6]
  rw [hlv,hfl]
  rw [Nat.add_mul,Nat.add_mul] at hl
  simp; omega

section
variable {n : Nat} {a : Act} {e : List (Nat × Value)} {w w' : World} {P : Program} {ops : Array Oper} {rest : List Oper} {Q : Exit → Act → World → Prop}
variable {d : Nat} {ty t : TypeId} {pos : String} {af : Array Edge} {g : Option (Nat × Bool)} {x y : Operand} {v u : Value}
variable {St : Nat → Prop} {w0 : World} {its : List Item}

def Hc : Nat → List Operand → List (Nat × Operand)
 | _,[]=>[]
 | k,x :: r=>(k,x) :: Hc (k + 1) r
theorem Env.numbered (h : Env n a e) : ∀ (xs : List Operand) (k : Nat) (vs : List Value),J1 e xs = some vs → (Hc k xs).map (λ(p : Nat × Operand)=>(p.1,a.eval p.2)) = numbered k vs
 | [],k,vs,hx=>by simp [J1] at hx; subst hx; rfl
 | x :: r,k,vs,hx=>by
  simp only [J1] at hx
  split at hx
  ·rename_i v vs' h1 h2
   simp only [Option.some.injEq] at hx
   subst hx
   simp only [Hc,List.map_cons,h.ev h1,Go.Proofs.YtfhhlkkhcoaapaaGreat.numbered]
   rw [Env.numbered h r (k + 1) vs' h2]
  ·cases hx

theorem jn {α : Type} [Rep α] {S : Nat → Prop} {xs : List Operand} {vs : List Value} {m : Nat} {el : TypeId} {D : TypeDesc} {by_ : Nat} {z : List Value} {l : List α} {it : Item}
  (h : Env n a e) (hM : M St w0 w (it :: its)) (hS : ∀ b,S b → St b) (hw : Goes ops ⟨some d,.buildSlice t m (Hc 0 xs).toArray,ty,pos,af,g⟩ a) (hd : d < n) (hxs : J1 e xs = some vs) (hm : vs.length = m) (hlm : l.length = m)
  (ht : P.underlying t = some (.slice el)) (he : Ty P el D (Rep.n α) by_ z) (_hzl : z.length = Rep.n α) (hsmall : m * Rep.n α ≤ 16777216)
  (hel : ∀ fp,it w fp → YA S w l (vs.map (·.cells.toList)).flatten fp) (hcell : ∀ v ∈ vs,v.cells.size = Rep.n α)
  (k : ∀ v' w a,M St w0 w (osl S l v' :: its) → Env n a ((d,v') :: e) → wpList P ops Q rest a w) : wpList P ops Q (⟨some d,.buildSlice t m (Hc 0 xs).toArray,ty,pos,af,g⟩ :: rest) a w:=by
 have hsz:=WC he
 obtain ⟨zv,hzv,hzc⟩:=BI he w
 have hsub : ∀ cs : Array Value,cs.size = m * Rep.n α → Instr.fill (λi=>some (i * Rep.n α,Rep.n α)) cs (numbered 0 vs) = some (vs.map (·.cells.toList)).flatten.toArray:=by
  intro cs hcs
  rw [Zb2 (Rep.n α) _ (λ_=>rfl) vs 0 cs hcell (by simp [hm,hcs])]
  congr 2
  have hfl : ((vs.map (·.cells.toList)).flatten).length = m * Rep.n α:=by
   rw [← hm]
   clear hm hxs hel
   induction vs with
   | nil=>simp
   | cons u xs ih=>rw [List.map_cons,List.flatten_cons,List.length_append,ih (λy hy=>hcell y (by simp [hy])),List.length_cons,Nat.add_mul]; have:=hcell u (by simp); simp [this]; omega
  rw [Nat.zero_mul]
  exact Zg (by simpa [hcs] using hfl)
 have hnum:=h.numbered xs 0 vs hxs
 have Ab : ∀ (zz : Array Value),((Array.range (m * Rep.n α)).map (zz[· % zz.size]!)).size = m * Rep.n α:=by intro zz; simp
 have hrun : (Instr.buildSlice t m ((Hc 0 xs).toArray.map λ(i,x)=>(i,a.eval x))).run P w = .ok (.slice (some ⟨w.heap.size,0,none⟩) m m) (w.alloc (.cells (vs.map (·.cells.toList)).flatten.toArray el)):=by
  have hparts : ((Hc 0 xs).toArray.map λ(i,x)=>(i,a.eval x)).toList = numbered 0 vs:=by simpa using hnum
  have hlim : ¬ (m * Rep.n α > 2 ^ 24):=by omega
  have hfill : ∀ zz : Array Value,Instr.fill (λi=>some (i * Rep.n α,Rep.n α)) ((Array.range (m * Rep.n α)).map (zz[· % zz.size]!)) (numbered 0 vs) = some (vs.map (·.cells.toList)).flatten.toArray:=λzz=>hsub _ (Ab zz)
  unfold Instr.buildSlice
  simp only [Sem.run_bind,run_underlying ht,Result.andThen_ok,hsz,if_neg hlim,hparts]
  by_cases h0 : m * Rep.n α = 0
  ·simp only [if_pos h0,pure_bind]
   rw [hfill]
   simp [newRow]
  ·simp only [if_neg h0,pure_bind,Sem.run_bind,hzv,Result.andThen_ok]
   rw [hfill]
   simp [newRow]
 refine XV h hw rfl hd (v:=.slice (some ⟨w.heap.size,0,none⟩) m m) (w':=w.alloc (.cells (vs.map (·.cells.toList)).flatten.toArray el)) (by simp only [execOp]; simp only [Sem.run_bind,hrun]; rfl) λa ha=>k _ _ _ ?_ ha
 have hst:=hM.st'
 refine hM.turn (new:=[osl S l _]) rfl rfl rfl (by simp) ?_
 intro fp hit hlt hnd
 have hE:=hel fp hit
 have hnew:=heap_alloc_new w (.cells (vs.map (·.cells.toList)).flatten.toArray el)
 have hkeep : ∀ b,(b ∈ fp ∨ S b) → (w.alloc (.cells (vs.map (·.cells.toList)).flatten.toArray el)).heap[b]? = w.heap[b]?:=λb hb=>Kw w _ b (by rcases hb with hb | hb; exact (hlt b hb).2; exact hst b (hS b hb))
 refine ⟨λb _ hb=>Kw w _ b hb,w.heap.size :: fp,⟨w.heap.size :: fp,[],by simp,TP hS,⟨some ⟨w.heap.size,0,none⟩,m,by rw [hlm],by rw [hlm]; exact Nat.le_refl _,.inr ⟨w.heap.size,0,_,fp,rfl,hE.loc hkeep,At.of_heap hnew,rfl,?_⟩⟩,rfl⟩,?_,?_⟩
 ·refine ⟨_,el,(0,0),hnew,?_,by intro i _; simp⟩
  have:=hE.len
  rw [List.size_toArray,this,hlm]; omega
 ·exact List.nodup_cons.2 ⟨λhb=>by have:=(hlt _ hb).2; omega,hnd⟩
 intro b hb
 rcases List.mem_cons.1 hb with rfl | hb
 ·exact .inr ⟨Nat.le_refl _,by simp⟩
 exact .inl hb
theorem M.emp (hM : M St w0 w its) : M St w0 w (emp :: its):=by
 obtain ⟨h1,h2,fp,h3,h4,h5⟩:=hM
 exact ⟨h1,h2,fp,⟨[],fp,rfl,Zsc,rfl,h3⟩,h4,h5⟩
theorem M.nilS {α : Type} [Rep α] (S : Nat → Prop) (hS : ∀ b,S b → St b) (hM : M St w0 w its) : M St w0 w (osl S ([] : List α) (.slice none 0 0) :: its):=by
 obtain ⟨h1,h2,fp,h3,h4,h5⟩:=hM
 exact ⟨h1,h2,fp,⟨[],fp,rfl,TP hS,⟨none,0,rfl,Nat.le_refl _,.inl ⟨rfl,rfl,trivial⟩⟩,h3⟩,h4,h5⟩
theorem ZR {α : Type} [Flat α] {xs : List Operand} {vs : List Value} {m : Nat} {el : TypeId} {D : TypeDesc} {by_ : Nat} {z : List Value} {l : List α}
  (h : Env n a e) (hM : M St w0 w its) (hw : Goes ops ⟨some d,.buildSlice t m (Hc 0 xs).toArray,ty,pos,af,g⟩ a) (hd : d < n) (hxs : J1 e xs = some vs) (hlm : l.length = m)
  (ht : P.underlying t = some (.slice el)) (he : Ty P el D (Rep.n α) by_ z) (hzl : z.length = Rep.n α) (hsmall : m * Rep.n α ≤ 16777216)
  (hel : vs.map (·.cells.toList) = l.map Flat.enc)
  (k : ∀ v' w a,M St w0 w (osl NoB l v' :: its) → Env n a ((d,v') :: e) → wpList P ops Q rest a w) : wpList P ops Q (⟨some d,.buildSlice t m (Hc 0 xs).toArray,ty,pos,af,g⟩ :: rest) a w:=by
 have hlen : vs.length = l.length:=by simpa using congrArg List.length hel
 refine jn (S:=NoB) (l:=l) h hM.emp noB hw hd hxs (by rw [hlen,hlm]) hlm ht he hzl hsmall ?_ ?_ k
 ·intro fp hfp
  have hfp : fp = []:=hfp
  subst hfp
  refine XG.2 ⟨?_,rfl⟩
  rw [hel]
  have : ∀ l : List α,(l.map Flat.enc).flatten = XA l:=by
   intro l
   induction l with
   | nil=>rfl
   | cons x l ih=>simp [XA,ih]
  exact this l
 intro v hv
 have : v.cells.toList ∈ l.map Flat.enc:=by rw [← hel]; exact List.mem_map_of_mem (f:=λv : Value=>v.cells.toList) hv
 obtain ⟨x,_,hx⟩:=List.mem_map.1 this
 have:=Flat.len x
 rw [hx] at this
 have h2 : Rep.n α = Flat.n α:=rfl
 rw [h2]
 simpa using this

theorem Zen (z : List Value) (c : Nat) : (madeCells z.toArray (c * z.length)).toList = (List.replicate c z).flatten:=by
 rcases Nat.eq_zero_or_pos z.length with h0 | hp
 ·have : z = []:=List.eq_nil_of_length_eq_zero h0
  subst this
  induction c with
  | zero=>simp [madeCells]
  | succ c ih=>simp [madeCells]
 apply List.ext_getElem?
 intro i
 have hlen : ((List.replicate c z).flatten).length = c * z.length:=by simp
 by_cases hi : i < c * z.length
 ·have h1 : i % z.length < z.length:=Nat.mod_lt _ hp
  have hq : i / z.length < c:=Nat.div_lt_of_lt_mul (by rw [Nat.mul_comm]; exact hi)
  have e1 : (madeCells z.toArray (c * z.length)).toList[i]? = some z[i % z.length]:=by
   simp [madeCells,hi,h1]
  rw [e1]
  have e2 : ∀ (c i : Nat),i < c * z.length → ((List.replicate c z).flatten)[i]? = some (z[i % z.length]'(Nat.mod_lt _ hp)):=by
   intro c
   induction c with
   | zero=>intro i hi; simp at hi
   | succ c ih =>
    intro i hi
    rw [List.replicate_succ,List.flatten_cons]
    by_cases hz : i < z.length
    ·rw [List.getElem?_append_left hz,List.getElem?_eq_getElem hz]
     congr 2
     exact (Nat.mod_eq_of_lt hz).symm
    ·rw [List.getElem?_append_right (by omega),ih (i - z.length) (by rw [Nat.add_mul] at hi; omega)]
     congr 2
     exact (Nat.mod_eq_sub_mod (by omega)).symm
  exact (e2 c i hi).symm
 rw [List.getElem?_eq_none (by simp [madeCells]; omega),List.getElem?_eq_none (by rw [hlen]; omega)]
theorem Hq {α : Type} [Rep α] {S : Nat → Prop} {x : α} {z : List Value} (hz : Rep.sat S w x z []) : ∀ c,YA S w (List.replicate c x) (List.replicate c z).flatten []
 | 0=>⟨rfl,rfl⟩
 | c + 1=>by rw [List.replicate_succ,List.replicate_succ,List.flatten_cons]; exact ⟨z,_,[],[],rfl,rfl,hz,Hq hz c⟩
def mkS {α : Type} (bytes : Nat) (x : α) (c : Int) : Option (List α):=if 0 ≤ c ∧ c * bytes ≤ 140737488355328 then some (List.replicate c.toNat x) else none
theorem Zoa {α : Type} [Rep α] {K K' : IntKind} {c : Int} {el : TypeId} {D : TypeDesc} {by_ : Nat} {z : List Value} {zero : α} {l : List α}
  (h : Env n a e) (hM : M St w0 w its) (hw : Goes ops ⟨some d,.makeSlice t x y,ty,pos,af,g⟩ a) (hd : d < n) (hx : opv e x = some (.int K c)) (hy : opv e y = some (.int K' c))
  (ht : P.underlying t = some (.slice el)) (he : Ty P el D (Rep.n α) by_ z) (hzl : z.length = Rep.n α) (h0 : 0 < by_) (hz : ∀ w,Rep.sat NoB w zero z []) (hb : mkS by_ zero c = some l)
  (k : ∀ v' w a,M St w0 w (osl NoB l v' :: its) → Env n a ((d,v') :: e) → wpList P ops Q rest a w) : wpList P ops Q (⟨some d,.makeSlice t x y,ty,pos,af,g⟩ :: rest) a w:=by
 unfold mkS at hb
 split at hb
 case isFalse=>cases hb
 rename_i hc
 obtain ⟨hc0,hcb⟩:=hc
 simp only [Option.some.injEq] at hb
 subst hb
 obtain ⟨i,zv,hi,hsz,hby,hzz,hzc⟩:=he.get
 have hcb' : c ≤ 140737488355328:=by
  have : c * 1 ≤ c * by_:=Int.mul_le_mul_of_nonneg_left (by omega) hc0
  omega
 have hr:=run_make (P:=P) w t el i zv ht hi hzz K K' c c hc0 (Int.le_refl _) (by rw [hby,Int.mul_comm]; omega) (by omega)
 have Ab : (madeCells zv.cells (c.toNat * i.size)).toList = (List.replicate c.toNat z).flatten:=by
  have:=Zen z c.toNat
  rw [hsz,← hzl]
  rw [← this,← hzc]
 refine XV h hw rfl hd (v:=_) (w':=_) (by simp only [execOp,h.ev hx,h.ev hy]; simp only [Sem.run_bind,hr]; rfl) λa ha=>k _ _ _ ?_ ha
 have hnew:=heap_alloc_new w (.cells (madeCells zv.cells (c.toNat * i.size)) el)
 have hat : At (w.alloc (.cells (madeCells zv.cells (c.toNat * i.size)) el)) w.heap.size 0 (List.replicate c.toNat z).flatten:=by
  have : madeCells zv.cells (c.toNat * i.size) = (List.replicate c.toNat z).flatten.toArray:=by rw [← Ab]
  rw [this] at hnew ⊢
  exact At.of_heap hnew
 refine hM.add (new:=[osl NoB (List.replicate c.toNat zero) _]) (Kept.alloc _ _) ⟨[w.heap.size],⟨[w.heap.size],[],rfl,TP (λ_ h=>h),⟨some ⟨w.heap.size,0,none⟩,c.toNat,by simp,by simp,.inr ⟨w.heap.size,0,_,[],rfl,Hq (hz _) _,hat,rfl,?_⟩⟩,rfl⟩,by simp,λb hb=>by simp at hb; subst hb; simp⟩
 refine ⟨_,el,(0,0),hnew,?_,by intro i _; simp⟩
 rw [size_madeCells,hsz]; omega

def lset {α : Type} (l : List α) (i : Int) (x : α) : Option (List α):=if 0 ≤ i ∧ i < l.length then some (l.set i.toNat x) else none
theorem zu {α : Type} [Flat α] : ∀ (l m : List α),XA (l ++ m) = XA l ++ XA m
 | [],m=>rfl
 | x :: l,m=>by simp [XA,zu l m]
theorem JV {α : Type} [Flat α] {l : List α} {i : Nat} {x : α} (h : l[i]? = some x) : XA l = XA (l.take i) ++ (Flat.enc x ++ XA (l.drop (i + 1))):=by
 have hi:=(List.getElem?_eq_some_iff.1 h).1
 have hx:=(List.getElem?_eq_some_iff.1 h).2
 have : l = l.take i ++ (x :: l.drop (i + 1)):=by
  rw [← hx,← List.drop_eq_getElem_cons hi,List.take_append_drop]
 conv=>lhs; rw [this,zu]
 rfl
theorem Zbc {α : Type} [Flat α] {l : List α} {i : Nat} {x y : α} (h : l[i]? = some x) : XA (l.set i y) = XA (l.take i) ++ (Flat.enc y ++ XA (l.drop (i + 1))):=by
 have hi:=(List.getElem?_eq_some_iff.1 h).1
 rw [List.set_eq_take_append_cons_drop,if_pos hi,zu]
 rfl
theorem Zhn {α : Type} [Flat α] {l : List α} {D : TypeDesc} {sz by_ : Nat} {z seg : List Value} {i k0 : Nat} {xo xn : α} (h : Env n a e) (hM : M St w0 w (osl NoB l v :: its)) (hw : Goes ops ⟨none,.store t x y,ty,pos,af,g⟩ a)
  (hx : opv e x = some (ptr (sb v) (so v + i * Rep.n α + k0))) (hy : opv e y = some u) (hu : u.cells.toList = seg) (ht : Ty P t D sz by_ z) (hl : seg.length = sz) (hc : ∀ v ∈ seg,v.oneCell' = true)
  (hi : l[i]? = some xo) (hfit : k0 + seg.length ≤ Flat.n α) (hs : Y7 (Flat.enc xo) k0 seg = Flat.enc xn)
  (k : ∀ w a,M St w0 w (osl NoB (l.set i xn) v :: its) → Env n a e → wpList P ops Q rest a w) : wpList P ops Q (⟨none,.store t x y,ty,pos,af,g⟩ :: rest) a w:=by
 have hil:=(List.getElem?_eq_some_iff.1 hi).1
 have key : ∀ fp,UO NoB w l v fp → (storeCells ⟨sb v,so v + i * Rep.n α + k0,none⟩ seg).run P w = .ok () (w.setCells (sb v) (so v + i * Rep.n α + k0) seg) ∧ fp = [sb v] ∧
   UO NoB (w.setCells (sb v) (so v + i * Rep.n α + k0) seg) (l.set i xn) v [sb v]:=by
  rintro fp ⟨p,cap,rfl,hcap,hO⟩
  rcases hO with ⟨rfl,_⟩ | ⟨b,o,ecs,fpe,rfl,k1,k2,rfl,k3⟩
  ·omega
  obtain ⟨rfl,rfl⟩:=XG.1 k1
  obtain ⟨c,T,fz,hheap,hsize,hfz⟩:=k3
  have hsb : sb (.slice (some ⟨b,o,none⟩) l.length cap) = b:=rfl
  have hso : so (.slice (some ⟨b,o,none⟩) l.length cap) = o:=rfl
  rw [hsb,hso]
  have hel:=Tw l
  have hspl:=JV hi
  have hsplset:=Zbc (y:=xn) hi
  have ht1 : (XA (l.take i)).length = i * Rep.n α:=by rw [Tw,List.length_take,Nat.min_eq_left (Nat.le_of_lt hil)]; rfl
  have hfit2 : o + i * Rep.n α + k0 + seg.length ≤ c.size:=by
   have h1 : (i + 1) * Rep.n α ≤ cap * Rep.n α:=Nat.mul_le_mul_right _ (by omega)
   rw [Nat.add_mul] at h1
   have h2 : Rep.n α = Flat.n α:=rfl
   omega
  have hst:=Ad (P:=P) (o:=o + i * Rep.n α + k0) (vs:=seg) hheap hfit2 hfz hc
  refine ⟨hst,rfl,some ⟨b,o,none⟩,cap,by simp,by simpa using hcap,.inr ⟨b,o,XA (l.set i xn),[],rfl,XG.2 ⟨rfl,rfl⟩,?_,rfl,?_⟩⟩
  ·have hh:=Up b T fz seg (o + i * Rep.n α + k0) w c hheap hfit2
   -- the cells of the row
   intro j vv hv
   have hj:=(List.getElem?_eq_some_iff.1 hv).1
   have hsetlen : (XA (l.set i xn)).length = (XA l).length:=by rw [Tw,Tw,List.length_set]
   rw [hsetlen] at hj
   simp only [World.cell?,hh,Option.isSome_none,Bool.false_eq_true,if_false]
   rw [List.getElem?_toArray]
   -- both sides by the Y7 of the row
   have hrow : ∀ j,j < (XA l).length → c.toList[o + j]? = (XA l)[j]?:=by
    intro j hj
    have:=k2 j _ (List.getElem?_eq_getElem hj)
    simp only [World.cell?,hheap,Option.isSome_none,Bool.false_eq_true,if_false] at this
    rw [List.getElem?_eq_getElem hj]
    simpa using this
   have hset : XA (l.set i xn) = Y7 (XA l) (i * Rep.n α + k0) seg:=by
    rw [hsplset,← hs,hspl,← zE (p:=XA (l.take i)) (c:=Flat.enc xo) (q:=XA (l.drop (i + 1))) (k:=k0) (o:=i * Rep.n α + k0) (by rw [ht1]) (by rw [Flat.len]; exact hfit)]
   rw [hset] at hv
   have hlen2 : i * Rep.n α + k0 + seg.length ≤ (XA l).length:=by
    rw [hel]
    have h1 : (i + 1) * Flat.n α ≤ l.length * Flat.n α:=Nat.mul_le_mul_right _ (by omega)
    rw [Nat.add_mul] at h1
    have h2 : Rep.n α = Flat.n α:=rfl
    rw [h2]; omega
   simp only [Y7] at hv ⊢
   have hclen : o + (XA l).length ≤ c.toList.length:=by
    have h1 : l.length * Flat.n α ≤ cap * Rep.n α:=Nat.mul_le_mul_right _ hcap
    rw [hel]; simp; omega
   by_cases hj1 : j < i * Rep.n α + k0
   ·rw [List.getElem?_append_left (by simp; omega),List.getElem?_take,if_pos hj1] at hv
    rw [List.getElem?_append_left (by simp at hclen ⊢; omega),List.getElem?_take,if_pos (by omega),hrow j hj]
    exact hv
   ·rw [List.getElem?_append_right (by simp; omega)] at hv
    rw [List.getElem?_append_right (by simp; omega)]
    have e1 : (List.take (i * Rep.n α + k0) (XA l)).length = i * Rep.n α + k0:=by simp; omega
    have e2 : (List.take (o + i * Rep.n α + k0) c.toList).length = o + i * Rep.n α + k0:=by simp at hclen ⊢; omega
    rw [e1] at hv
    rw [e2,show o + j - (o + i * Rep.n α + k0) = j - (i * Rep.n α + k0) by omega]
    by_cases hj2 : j - (i * Rep.n α + k0) < seg.length
    ·rw [List.getElem?_append_left hj2] at hv ⊢; exact hv
    ·rw [List.getElem?_append_right (by omega),List.getElem?_drop] at hv ⊢
     rw [show o + i * Rep.n α + k0 + seg.length + (j - (i * Rep.n α + k0) - seg.length) = o + j by omega,hrow j hj]
     rw [show i * Rep.n α + k0 + seg.length + (j - (i * Rep.n α + k0) - seg.length) = j by omega] at hv
     exact hv
  ·refine ⟨_,T,fz,Up b T fz seg _ w c hheap hfit2,?_,?_⟩
   ·rw [List.size_toArray,Qk (by simpa using hfit2)]; simpa using hsize
   ·intro j hj
    rw [List.size_toArray,Qk (by simpa using hfit2)] at hj
    exact hfz j (by simpa using hj)
 obtain ⟨fp0,hfp0,_⟩:=hM.head
 obtain ⟨hr,_,_⟩:=key fp0 hfp0
 refine Zev h hw rfl (w':=w.setCells (sb v) (so v + i * Rep.n α + k0) seg) ?_ λa ha=>k _ _ ?_ ha
 ·simp only [execOp,h.ev hx,h.ev hy]
  have hsz : u.cells.size = sz:=by rw [← hl,← hu]; simp
  simp [Instr.storeAt,Instr.sureAddr,storeVar,WC ht,hsz,hu,hr]
 refine M.turn (new:=[osl NoB (l.set i xn) v]) hM (Y5 _ _ _ _).1 (Y5 _ _ _ _).2.1 (Y5 _ _ _ _).2.2 (by rw [K7]; exact Nat.le_refl _) ?_
 intro fp hfp hlt hnd
 obtain ⟨_,rfl,hO⟩:=key fp hfp
 exact ⟨λb hb _=>T6 _ _ (by simpa using hb) _ _ _,[sb v],⟨[sb v],[],rfl,TP noB,hO,rfl⟩,by simp,λb hb=>.inl hb⟩
end
end
section
open Go

instance {α β : Type} [Rep α] [Rep β] : Rep (α × β) where
 n:=Rep.n α + Rep.n β
 sat S w x cs fp:=∃ c1 c2 f1 f2,cs = c1 ++ c2 ∧ fp = f1 ++ f2 ∧ Rep.sat S w x.1 c1 f1 ∧ Rep.sat S w x.2 c2 f2
 len:=by rintro S w x cs fp ⟨c1,c2,f1,f2,rfl,rfl,h1,h2⟩; rw [List.length_append,Rep.len h1,Rep.len h2]
 loc:=by
  rintro S w w' x cs fp ⟨c1,c2,f1,f2,rfl,rfl,h1,h2⟩ hb
  exact ⟨c1,c2,f1,f2,rfl,rfl,Rep.loc h1 (λb h=>hb b (by simp; grind)),Rep.loc h2 (λb h=>hb b (by simp; grind))⟩
 ro:=by
  rintro S S' w x cs fp ⟨c1,c2,f1,f2,rfl,rfl,h1,h2⟩ hb
  exact ⟨c1,c2,[],[],rfl,rfl,Rep.ro h1 (λb h=>hb b (by simp; grind)),Rep.ro h2 (λb h=>hb b (by simp; grind))⟩
 wk:=by
  rintro S S' w x cs fp ⟨c1,c2,f1,f2,rfl,rfl,h1,h2⟩ hb
  exact ⟨c1,c2,f1,f2,rfl,rfl,Rep.wk h1 hb,Rep.wk h2 hb⟩
 lt:=by
  rintro S w x cs fp ⟨c1,c2,f1,f2,rfl,rfl,h1,h2⟩ b hb
  rcases List.mem_append.1 hb with hb | hb
  ·exact Rep.lt h1 b hb
  ·exact Rep.lt h2 b hb
 cell:=by
  rintro S w x cs fp ⟨c1,c2,f1,f2,rfl,rfl,h1,h2⟩ v hv
  rcases List.mem_append.1 hv with hv | hv
  ·exact Rep.cell h1 v hv
  ·exact Rep.cell h2 v hv
@[reducible] def repIso {σ α : Type} [Rep α] (f : σ → α) : Rep σ where
 n:=Rep.n α
 sat S w x cs fp:=Rep.sat S w (f x) cs fp
 len h:=Rep.len h
 loc h:=Rep.loc h
 ro h:=Rep.ro h
 wk h:=Rep.wk h
 lt h:=Rep.lt h
 cell h:=Rep.cell h

def cat : List (List Value) → List Value
 | []=>[]
 | [c]=>c
 | c :: d :: r=>c ++ cat (d :: r)
theorem Uq : ∀ l : List (List Value),cat l = l.flatten
 | []=>rfl
 | [c]=>by simp [cat]
 | c :: d :: r=>by rw [cat,Uq (d :: r)]; simp
def Hp : List (List Value) → Nat
 | []=>0
 | c :: r=>c.length + Hp r
theorem Ql : ∀ l : List (List Value),l.flatten.length = Hp l
 | []=>rfl
 | c :: r=>by simp [Hp,Ql r]
theorem cl0 : Hp [] = 0:=rfl
theorem cl1 {c : List Value} {r : List (List Value)} {n m : Nat} (h : c.length = n) (k : Hp r = m) : Hp (c :: r) = n + m:=by rw [Hp,h,k]
theorem At.cat {w : World} {b o k : Nat} {pre : List (List Value)} {seg : List Value} {post : List (List Value)} (h : At w b o (cat (pre ++ seg :: post))) (hk : Hp pre = k) : At w b (o + k) seg:=by
 rw [Uq] at h
 exact h.part (by rw [Ql,hk])
theorem YL {pre : List (List Value)} {seg seg' : List Value} {post : List (List Value)} {o : Nat} (hk : Hp pre = o) (hl : seg'.length = seg.length) :
  Y7 (cat (pre ++ seg :: post)) o seg' = cat (pre ++ seg' :: post):=by
 subst hk
 rw [Uq,Uq,List.flatten_append,List.flatten_append,List.flatten_cons,List.flatten_cons,← Ql]
 exact Za4 _ _ _ _ hl
theorem qX {l : List (List Value)} {n : Nat} (h : Hp l = n) : (cat l).length = n:=by rw [Uq,Ql,h]
theorem cc0 : ∀ c ∈ ([] : List (List Value)),∀ v ∈ c,v.oneCell' = true:=λ_ h=>by cases h
theorem cc1 {c : List Value} {r : List (List Value)} (h : ∀ v ∈ c,v.oneCell' = true) (k : ∀ c ∈ r,∀ v ∈ c,v.oneCell' = true) : ∀ d ∈ c :: r,∀ v ∈ d,v.oneCell' = true:=by
 intro d hd
 rcases List.mem_cons.1 hd with rfl | hd
 ·exact h
 exact k d hd
theorem Z0 {l : List (List Value)} (h : ∀ c ∈ l,∀ v ∈ c,v.oneCell' = true) : ∀ v ∈ cat l,v.oneCell' = true:=by
 intro v hv
 rw [Uq,List.mem_flatten] at hv
 obtain ⟨c,hc,hv⟩:=hv
 exact h c hc v hv

section
variable {n : Nat} {a : Act} {e : List (Nat × Value)} {w w' : World} {P : Program} {ops : Array Oper} {rest : List Oper} {Q : Exit → Act → World → Prop}
variable {St : Nat → Prop} {w0 : World} {its : List Item}
theorem M.fst {l r : List Item} (h : M St w0 w (l ++ r)) : M St w0 w l:=by
 obtain ⟨h1,h2,fp,h3,h4,h5⟩:=h
 obtain ⟨f,g,rfl,k1,k2⟩:=h3.split
 exact ⟨h1,h2,f,k1,(List.nodup_append.1 h4).1,λb hb=>h5 b (by simp [hb])⟩
theorem M.drew (h : M St w0 w its) : M St w0 w.drew its:=h.keep ⟨rfl,rfl,rfl,Nat.le_refl _,λ_ _=>rfl⟩
def Zdg (its : List Item) : Prop:=∀ it ∈ its,Loc NoB it
theorem XN.reloc {w : World} : ∀ {l : List Item} {fp : List Nat},XN St w l fp → Zdg l → XN NoB w l fp
 | [],_,h,_=>h
 | it :: r,_,h,hl=>by
  obtain ⟨f,f',rfl,_,h1,h2⟩:=h
  exact ⟨f,f',rfl,hl it (by simp),h1,XN.reloc h2 (λx hx=>hl x (by simp [hx]))⟩
theorem M.outF (h : M (Old w0) w0 w its) (hl : Zdg its) : Fr w0 w its:=by
 obtain ⟨h1,h2,fp,h3,h4,h5⟩:=h
 exact ⟨fp,h3.reloc hl,h4,λb hb=>⟨Nat.le_of_not_lt (h5 b hb).1,(h5 b hb).2⟩⟩
theorem Yj : Zdg []:=λ_ h=>by cases h
theorem Z1 {α : Type} [Rep α] {l : List α} {v : Value} {r : List Item} (h : Zdg r) : Zdg (osl NoB l v :: r):=by
 intro it hit
 rcases List.mem_cons.1 hit with rfl | hit
 ·exact TP (λ_ h=>h)
 exact h it hit

theorem Zw {Z : Code} (h : Z.wp P Q a w) : Exit.then (Z.wp P Q) Q .normal a w:=h
theorem Yn {id : Nat} (h : Q .normal a w) : Exit.inBlock id Q .normal a w:=h
theorem Zi {K : Act → World → Prop} (h : K a w) : Exit.then K Q .normal a w:=h
theorem Zp {K : Act → World → Prop} {id : Nat} (h : Q (.exit id) a w) : Exit.then K Q (.exit id) a w:=h
theorem Yv {id : Nat} (h : Q .normal a w) : Exit.inBlock id Q (.exit id) a w:=by simp [Exit.inBlock,h]
theorem ZA {K : Act → World → Prop} (h : Q .ret a w) : Exit.then K Q .ret a w:=h
theorem YZ {id : Nat} (h : Q .ret a w) : Exit.inBlock id Q .ret a w:=h
theorem lk {o : Option Value} {u v : Value} (h : o = some u) (k : u = v) : o = some v:=by rw [h,k]
theorem lkb {o : Option Value} {b c : Bool} (h : o = some (vT b)) (k : b = c) : o = some (vT c):=by rw [h,k]
theorem Zrv {X Y : Code} {x : Operand} (hE : Env n a e) (hx : opv e x = some (vT true)) (ht : X.wp P Q a w) : (Code.cond x X Y).wp P Q a w:=wp_cond_true (hE.ev hx) ht
theorem Zru {X Y : Code} {x : Operand} (hE : Env n a e) (hx : opv e x = some (vT false)) (ht : Y.wp P Q a w) : (Code.cond x X Y).wp P Q a w:=wp_cond_false (hE.ev hx) ht

def Z8 (P : Program) (w : World) (a : Act) (rv : ResultVar) (v : Value) : Prop :=
 match rv with
 | .tmp t=>a.tmps.getD t undef = v
 | .cell t ty=>(do loadVar ty (← asAddr (a.tmps.getD t undef)) : Sem Value).run P w = .ok v w
theorem Zy {t : Nat} {v : Value} (hE : Env n a e) (h : e.lookup t = some v) : Z8 P w a (.tmp t) v:=hE.get _ _ h
theorem ZH {t ty b : Nat} {v : Value} {cs : List Value} {D : TypeDesc} {sz by_ : Nat} {z : List Value} (hE : Env n a e) (h : e.lookup t = some (ptr b 0)) (ht : Ty P ty D sz by_ z) (hD : BC D = true) (hA : At w b 0 cs) (hl : cs.length = sz)
  (hv : v = .agg cs.toArray) : Z8 P w a (.cell t ty) v:=by
 subst hv
 have hr:=run_loadCells_list (P:=P) w ⟨b,0,none⟩ cs hA.add
 rw [hl] at hr
 have hg:=hE.get _ _ h
 show (do loadVar ty (← asAddr (a.tmps.getD t undef)) : Sem Value).run P w = _
 rw [hg]
 simp [asAddr,loadVar,BU ht,hD,WC ht,hr]
def Zo7 (tmps : Array Value) : ResultVar → Sem Value
 | .tmp t=>pure (tmps.getD t undef)
 | .cell a t=>do loadVar t (← asAddr (tmps.getD a undef))
theorem QQ {rv : ResultVar} {v : Value} (h : Z8 P w a rv v) : (Zo7 a.tmps rv).run P w = .ok v w:=by
 cases rv with
 | tmp t=>simp only [Z8] at h; simp [Zo7,h]
 | cell t ty=>exact h
theorem Ba (fn : Func) (tmps : Array Value) : results fn tmps = (do let vs ← fn.results.mapM (Zo7 tmps); pure (if h : vs.size = 1 then vs[0] else .tuple vs)):=by
 unfold results
 congr 1
theorem ZT {fn : Func} {R : Ending → World → Prop} {r1 : ResultVar} {v1 : Value} (hE : Env n a e) (hres : fn.results = #[r1]) (h1 : Z8 P w a r1 v1) (hR : R (.returned v1) w) : bodyPost P fn R .ret a w:=by
 refine bodyPost_ret ?_ hE.df hR
 rw [Ba,hres]
 simp [QQ h1]
theorem YN {fn : Func} {R : Ending → World → Prop} {r1 r2 : ResultVar} {v1 v2 : Value} (hE : Env n a e) (hres : fn.results = #[r1,r2]) (h1 : Z8 P w a r1 v1) (h2 : Z8 P w a r2 v2)
  (hR : R (.returned (.tuple [v1,v2].toArray)) w) : bodyPost P fn R .ret a w:=by
 refine bodyPost_ret ?_ hE.df hR
 rw [Ba,hres]
 simp [QQ h1,QQ h2]
theorem kp {fn : Func} {R : Ending → World → Prop} {r1 r2 r3 : ResultVar} {v1 v2 v3 : Value} (hE : Env n a e) (hres : fn.results = #[r1,r2,r3]) (h1 : Z8 P w a r1 v1) (h2 : Z8 P w a r2 v2) (h3 : Z8 P w a r3 v3)
  (hR : R (.returned (.tuple [v1,v2,v3].toArray)) w) : bodyPost P fn R .ret a w:=by
 refine bodyPost_ret ?_ hE.df hR
 rw [Ba,hres]
 simp [QQ h1,QQ h2,QQ h3]
end

theorem Vm {P : Program} {t f off sz by_ : Nat} {fs : Array Field} {fd : Field} {D : TypeDesc} {z : List Value} (hu : P.underlying t = some (.struct fs)) (hf : fs[f]? = some fd) (ho : fd.offset = off) (ht : Ty P fd.type D sz by_ z) (hs : sz ≠ 0) : Fd P t f off:=by
 obtain ⟨i,v,h1,h2,_⟩:=ht.get
 exact ⟨fs,fd,i,hu,hf,ho,h1,by rw [h2]; exact hs⟩
theorem U0 {α : Type} [Rep α] {S : Nat → Prop} {w : World} {l : List α} {cs : List Value} {fp : List Nat} (h : Rep.sat S w l cs fp) : ∃ v,cs = [v]:=by
 obtain ⟨p,cap,rfl,_⟩:=h; exact ⟨_,rfl⟩
section
variable {w w' w0 : World} {St : Nat → Prop} {its : List Item}
theorem M.atk {b o : Nat} {cs : List Value} (h : M St w0 w its) (hA : At w0 b o cs) (hb : St b) : At w b o cs:=hA.loc (h.kept.block b hb)
end
def ZP {α : Type} {n : Nat} (v : Vector α n) (i : Int) : Option α:=if 0 ≤ i then v[i.toNat]? else none
theorem Zng {α : Type} {n : Nat} {v : Vector α n} {i : Int} {x : α} (h : ZP v i = some x) : (0 ≤ i ∧ i < n) ∧ v.toList[i.toNat]? = some x:=by
 unfold ZP at h
 split at h
 ·rename_i h0
  rw [Vector.getElem?_eq_some_iff] at h
  obtain ⟨h1,h2⟩:=h
  refine ⟨⟨h0,by omega⟩,?_⟩
  rw [← h2]
  simp [h1]
 cases h
theorem At.vec {α : Type} [Flat α] {n : Nat} {w : World} {b o i : Nat} {v : Vector α n} {x : α} (h : At w b o (Flat.enc v)) (hi : v.toList[i]? = some x) : At w b (o + i * Flat.n α) (Flat.enc x):=by
 have hl : (Flat.enc v) = XA v.toList:=rfl
 rw [hl,JV hi] at h
 have:=(At.append.1 (At.append.1 h).2).1
 rw [Tw,List.length_take,Nat.min_eq_left (Nat.le_of_lt (List.getElem?_eq_some_iff.1 hi).1)] at this
 exact this
def vset {α : Type} {n : Nat} (v : Vector α n) (i : Int) (x : α) : Option (Vector α n):=if 0 ≤ i ∧ i < n then some (v.setIfInBounds i.toNat x) else none
theorem Znf {α : Type} {n : Nat} {v v' : Vector α n} {i : Int} {x : α} (h : vset v i x = some v') : (0 ≤ i ∧ i < n) ∧ v' = v.setIfInBounds i.toNat x:=by
 unfold vset at h
 split at h
 ·rename_i h0; simp only [Option.some.injEq] at h; exact ⟨h0,h.symm⟩
 cases h
theorem Zaz {α : Type} [Flat α] {n : Nat} {v v' : Vector α n} {i : Int} {x : α} (h : vset v i x = some v') : Y7 (Flat.enc v) (i.toNat * Flat.n α) (Flat.enc x) = Flat.enc v':=by
 obtain ⟨h1,rfl⟩:=Znf h
 have hi : i.toNat < v.toList.length:=by simp; omega
 have hx:=List.getElem?_eq_getElem hi
 have e1 : Flat.enc v = XA v.toList:=rfl
 have e2 : Flat.enc (v.setIfInBounds i.toNat x) = XA (v.toList.set i.toNat x):=by
  show XA (v.setIfInBounds i.toNat x).toList = _
  rw [Vector.toList_setIfInBounds]
 rw [e1,e2,JV hx,Zbc hx]
 have hl : (XA (v.toList.take i.toNat)).length = i.toNat * Flat.n α:=by rw [Tw,List.length_take,Nat.min_eq_left (Nat.le_of_lt hi)]
 rw [← hl]
 exact Za4 _ _ _ _ (by rw [Flat.len,Flat.len])
def app {α : Type} (bytes : Nat) (l m : List α) : Option (List α):=if (l.length + m.length) * bytes ≤ 140737488355328 then some (l ++ m) else none
theorem Yc {α : Type} {bytes : Nat} {l m r : List α} (h : app bytes l m = some r) : (l.length + m.length) * bytes ≤ 140737488355328 ∧ r = l ++ m:=by
 unfold app at h
 split at h
 ·rename_i h0; simp only [Option.some.injEq] at h; exact ⟨h0,h.symm⟩
 cases h
end
section
open Go

theorem Yq {p : Prop} (b : Bool) (h1 : b = true → p) (h2 : b = false → p) : p:=by cases b; exact h2 rfl; exact h1 rfl
def XM (x : Int) : Option Unit:=if 0 ≤ x then some () else none
theorem VG {x : Int} {u : Unit} (h : XM x = some u) : 0 ≤ x:=by
 unfold XM at h; split at h
 ·assumption
 cases h
def Bu (x : Int) : Option Unit:=if x ≠ 0 then some () else none
theorem yW {x : Int} {u : Unit} (h : Bu x = some u) : x ≠ 0:=by
 unfold Bu at h; split at h
 ·assumption
 cases h

def Zby (Ph : Nat → Oper → Prop) : Nat → List Oper → Prop
 | _,[]=>True
 | i,o :: r=>Ph i o ∧ Zby Ph (i + 1) r
theorem Zd1 {Ph : Nat → Oper → Prop} {i : Nat} : Zby Ph i []:=trivial
theorem ZJ {Ph : Nat → Oper → Prop} {i : Nat} {o : Oper} {r : List Oper} (h : Ph i o) (k : Zby Ph (i + 1) r) : Zby Ph i (o :: r):=⟨h,k⟩
theorem Zby.get {Ph : Nat → Oper → Prop} : ∀ {l : List Oper} {k : Nat},Zby Ph k l → ∀ i o,l[i]? = some o → Ph (k + i) o
 | [],_,_,i,o,h=>by simp at h
 | p :: r,k,h,0,o,hi=>by simp at hi; subst hi; exact h.1
 | p :: r,k,h,i + 1,o,hi=>by
  have:=h.2.get i o (by simpa using hi)
  rwa [show k + 1 + i = k + (i + 1) by omega] at this
theorem Zhq {Ph : Nat → Oper → Prop} {l : List Oper} (h : Zby Ph 0 l) : ∀ i o,l[i]? = some o → Ph i o:=λi o hi=>by
 have:=h.get i o hi
 rwa [Nat.zero_add] at this

def GUp (C : World → Prop) (Gs : List (Value → World → Prop)) : Prop:=∀ g ∈ Gs,∀ v w w',C w → Kept (Old w) w w' → g v w → g v w'
theorem gupN {C : World → Prop} : GUp C []:=λ_ h=>by cases h
theorem WE {C : World → Prop} {u : Value} {r : List (Value → World → Prop)} (h : GUp C r) : GUp C ((λv _=>v = u) :: r):=by
 intro g hg
 rcases List.mem_cons.1 hg with rfl | hg
 ·intro v w w' _ _ hv; exact hv
 exact h g hg
theorem gup {C : World → Prop} {Gs : List (Value → World → Prop)} (h : GUp C Gs) : ∀ j v w w',C w → Kept (Old w) w w' → Gs.getD j (λ_ _=>True) v w → Gs.getD j (λ_ _=>True) v w':=by
 intro j v w w' hC hk hg
 rw [List.getD_eq_getElem?_getD] at hg ⊢
 cases hj : Gs[j]? with
 | none=>trivial
 | some g=>rw [hj] at hg; exact h g (List.mem_of_getElem? hj) v w w' hC hk hg

theorem Qi {α : Type} [Rep α] {S : Nat → Prop} {w : World} {l : List α} {v : Value} {i : Nat} {x : α} (h : Rep.sat S w l [v] []) (hi : l[i]? = some x) : S (sb v):=by
 obtain ⟨p,cap,hv,hc,hp⟩:=h
 simp only [List.cons.injEq,and_true] at hv
 have hil:=(List.getElem?_eq_some_iff.1 hi).1
 have hne : l ≠ []:=λh=>by subst h; simp at hil
 cases p with
 | none=>exfalso; have:=hp.1; omega
 | some q =>
  obtain ⟨q1,q2,q3⟩:=q
  obtain ⟨h1,ecs,fpe,h2,h3,h4⟩:=hp
  rcases h4 with ⟨h4,_⟩ | ⟨h4,_⟩
  ·rw [hv]; exact h4 (by have:=List.length_pos_iff.2 hne; omega)
  ·cases h4
theorem Zn4 {α : Type} [Rep α] {w : World} : Ro w ([] : List α) [.slice none 0 0]:=⟨none,0,rfl,Nat.le_refl _,rfl,rfl⟩
theorem J9 {α : Type} [Rep α] {w : World} {S : Nat → Prop} : Rep.sat S w ([] : List α) [.slice none 0 0] []:=⟨none,0,rfl,Nat.le_refl _,rfl,rfl⟩
theorem Xr : ∀ v ∈ [Value.slice none 0 0],v.oneCell' = true:=by intro v h; simp at h; subst h; rfl
theorem Zaa {k : IntKind} {n : Int} : ∀ v ∈ [Value.int k n],v.oneCell' = true:=by intro v h; simp at h; subst h; rfl
theorem y0 {α : Type} [Rep α] {w w' : World} {x : α} {cs : List Value} (h : Ro w x cs) (hk : Kept (Old w) w w') : Ro w' x cs :=
 Rep.ro (Rep.loc h λb hb=>hk.block b (hb.elim (λh=>by cases h) id)) λb hb=>hb.elim (λh=>by cases h) (λhb=>Nat.lt_of_lt_of_le hb hk.size)
theorem zq {w w' : World} {b o : Nat} {cs : List Value} (h : At w b o cs) (hk : Kept (Old w) w w') (hc : cs ≠ []) : At w' b o cs:=h.loc (hk.block b (h.lt hc))
theorem Ha {w w' : World} {b o : Nat} {cs : List Value} (h : At w b o cs) (hk : Kept (Old w) w w') (hc : cs ≠ []) : Old w' b:=Nat.lt_of_lt_of_le (h.lt hc) hk.size

theorem evsN {e : List (Nat × Value)} : J1 e [] = some []:=rfl
theorem ym {e : List (Nat × Value)} {x : Operand} {xs : List Operand} {v : Value} {vs : List Value} (h : opv e x = some v) (k : J1 e xs = some vs) : J1 e (x :: xs) = some (v :: vs):=by simp [J1,h,k]
theorem Ze1 {p : Prop} (h : p) : p:=h

section
variable {n : Nat} {a : Act} {e : List (Nat × Value)} {w w' : World} {P : Program} {ops : Array Oper} {rest : List Oper} {Q : Exit → Act → World → Prop}
variable {d : Nat} {ty t : TypeId} {pos : String} {af : Array Edge} {g : Option (Nat × Bool)} {x y : Operand} {v u : Value}
theorem ZX {X : Code} (Mid : Act → World → Prop) (h : X.wp P (Exit.then Mid Q) a w) (k : ∀ a w,Mid a w → Q .normal a w) : X.wp P Q a w :=
 wp_mono h λex a w hq=>by cases ex <;> first | exact k _ _ hq | exact hq
theorem Ae {fn : Fn} {cs : List Operand} {vs : List Value} (h : Env n a e) (hw : Goes ops ⟨some d,.makeFunc fn #[] cs.toArray,ty,pos,af,g⟩ a) (hd : d < n) (hxs : J1 e cs = some vs)
  (k : ∀ a,Env n a ((d,.func fn #[] vs.toArray) :: e) → wpList P ops Q rest a w) : wpList P ops Q (⟨some d,.makeFunc fn #[] cs.toArray,ty,pos,af,g⟩ :: rest) a w :=
 XV h hw rfl hd (by
  simp only [execOp]
  have:=h.evs hxs
  simp [Instr.makeFunc,this]) k
theorem yS {f : Nat} {fv : Operand} {q : List Value} {xs : List Operand} {ats : Array TypeId} {vs : List Value} {R : Value → World → Prop} (h : Env n a e) (hw : Goes ops ⟨some d,.call ⟨.value fv,xs.toArray,ats⟩,ty,pos,af,g⟩ a) (hd : d < n)
  (hfv : opv e fv = some (.func (.func f) #[] q.toArray)) (hxs : J1 e xs = some vs) (hf : Callable P f) (hc : Calls P f (vs ++ q).toArray w λen w'=>∃ v,en = .returned v ∧ R v w')
  (k : ∀ v w' a,R v w' → Env n a ((d,v) :: e) → wpList P ops Q rest a w') : wpList P ops Q (⟨some d,.call ⟨.value fv,xs.toArray,ats⟩,ty,pos,af,g⟩ :: rest) a w :=
 Zsg h hw hd hfv hxs hf (by simpa using hc) k
end

theorem Vh {pre : List (List Value)} {seg seg' d : List Value} {post : List (List Value)} {o k o' : Nat} (hk : Hp pre = k) (hfit : o' + d.length ≤ seg.length) (hs : Y7 seg o' d = seg') (ho : o = k + o') :
  Y7 (cat (pre ++ seg :: post)) o d = cat (pre ++ seg' :: post):=by
 subst hk; subst ho; subst hs
 rw [Uq,Uq,List.flatten_append,List.flatten_append,List.flatten_cons,List.flatten_cons,← Ql]
 exact zE rfl hfit
theorem Wl {pre : List (List Value)} {seg d : List Value} {post : List (List Value)} {o : Nat} (hk : Hp pre = o) (hl : d.length = seg.length) : o + d.length ≤ (cat (pre ++ seg :: post)).length:=by
 rw [Uq,List.flatten_append,List.length_append,Ql,hk,List.flatten_cons,List.length_append]; omega
theorem QE {pre : List (List Value)} {seg d : List Value} {post : List (List Value)} {o k o' : Nat} (hk : Hp pre = k) (hfit : o' + d.length ≤ seg.length) (ho : o = k + o') : o + d.length ≤ (cat (pre ++ seg :: post)).length:=by
 rw [Uq,List.flatten_append,List.length_append,Ql,hk,List.flatten_cons,List.length_append]; omega
theorem Zlm {α : Type} {n : Nat} {v : Vector α n} {i : Int} {x : α} (h : 0 ≤ i ∧ i < n) : vset v i x = some (v.setIfInBounds i.toNat x):=by unfold vset; rw [if_pos h]
theorem ZF {α : Type} [Flat α] {n : Nat} {v : Vector α n} {i : Int} {x : α} (h : 0 ≤ i ∧ i < n) : Y7 (Flat.enc v) (0 + i.toNat * Flat.n α) (Flat.enc x) = Flat.enc (v.setIfInBounds i.toNat x):=by
 rw [Nat.zero_add]; exact Zaz (Zlm h)
theorem ZS {α : Type} [Flat α] {n : Nat} {v : Vector α n} {i : Int} {x : α} (h : 0 ≤ i ∧ i < n) : 0 + i.toNat * Flat.n α + (Flat.enc x).length ≤ (Flat.enc v).length:=by
 rw [Flat.len,Flat.len]
 have h1 : (i.toNat + 1) * Flat.n α ≤ n * Flat.n α:=Nat.mul_le_mul_right _ (by omega)
 rw [Nat.add_mul] at h1
 show _ ≤ n * Flat.n α
 omega
theorem X5 {α : Type} [Flat α] {n : Nat} {v : Vector α n} {i : Int} {x x' : α} {o o' : Nat} {d : List Value} (h : (0 ≤ i ∧ i < n) ∧ v.toList[i.toNat]? = some x) (hfit : o' + d.length ≤ (Flat.enc x).length) (hs : Y7 (Flat.enc x) o' d = Flat.enc x')
  (ho : o = i.toNat * Flat.n α + o') : Y7 (Flat.enc v) o d = Flat.enc (v.setIfInBounds i.toNat x'):=by
 subst ho
 have e1 : Flat.enc v = XA v.toList:=rfl
 have e2 : Flat.enc (v.setIfInBounds i.toNat x') = XA (v.toList.set i.toNat x'):=by
  show XA (v.setIfInBounds i.toNat x').toList = _
  rw [Vector.toList_setIfInBounds]
 rw [e1,e2,JV h.2,Zbc h.2,← hs]
 refine zE ?_ hfit
 rw [Tw,List.length_take,Nat.min_eq_left (by have:=(List.getElem?_eq_some_iff.1 h.2).1; omega)]
theorem WY {α : Type} [Flat α] {n : Nat} {v : Vector α n} {i : Int} {x : α} {o o' : Nat} {d : List Value} (h : (0 ≤ i ∧ i < n) ∧ v.toList[i.toNat]? = some x) (hfit : o' + d.length ≤ (Flat.enc x).length) (ho : o = i.toNat * Flat.n α + o') :
  o + d.length ≤ (Flat.enc v).length:=by
 subst ho
 rw [Flat.len] at hfit
 rw [Flat.len]
 have h1 : (i.toNat + 1) * Flat.n α ≤ n * Flat.n α:=Nat.mul_le_mul_right _ (by omega)
 rw [Nat.add_mul] at h1
 show _ ≤ n * Flat.n α
 omega

theorem Zlh {seg : List Value} {k m N : Nat} (h : seg.length = m) (h2 : k + m ≤ N) : k + seg.length ≤ N:=by rw [h]; exact h2
theorem Ym {α : Type} [Rep α] {S : Nat → Prop} {w : World} {l : List α} {v : Value} {fp : List Nat} (h : Rep.sat S w l [v] fp) : v.cells.toList = [v]:=by
 obtain ⟨p,cap,hv,_⟩:=h
 simp only [List.cons.injEq,and_true] at hv
 subst hv; rfl
end
section
open Go

def ZV (v : Value) (lo hi n : Nat) : Value :=
 match v with
 | .slice a _ cap=>.slice (if cap = lo then a else a.map (·.add (lo * n))) (hi - lo) (cap - lo)
 | v=>v
def slc {α : Type} (l : List α) (lo hi : Int) : Option (List α):=if 0 ≤ lo ∧ lo ≤ hi ∧ hi ≤ l.length then some ((l.take hi.toNat).drop lo.toNat) else none
theorem jb {α : Type} {l r : List α} {lo hi : Int} (h : slc l lo hi = some r) : (0 ≤ lo ∧ lo ≤ hi ∧ hi ≤ l.length) ∧ r = (l.take hi.toNat).drop lo.toNat:=by
 unfold slc at h
 split at h
 ·rename_i h0; simp only [Option.some.injEq] at h; exact ⟨h0,h.symm⟩
 cases h
theorem YA.cut {α : Type} [Rep α] {S : Nat → Prop} {w : World} : ∀ {l : List α} {cs : List Value} {lo : Nat},YA S w l cs [] → YA S w (l.drop lo) (cs.drop (lo * Rep.n α)) []
 | l,cs,0,h=>by simpa using h
 | [],cs,lo + 1,h=>by obtain ⟨rfl,_⟩:=h; exact ⟨by simp,rfl⟩
 | x :: l,cs,lo + 1,h=>by
  obtain ⟨c,cs',f,fp',rfl,hf,h1,h2⟩:=h
  obtain ⟨rfl,rfl⟩:=List.append_eq_nil_iff.1 hf.symm
  have:=YA.cut (lo:=lo) h2
  have hlc:=Rep.len h1
  rw [List.drop_succ_cons,Nat.add_mul,Nat.one_mul,Nat.add_comm]
  rw [show Rep.n α + lo * Rep.n α = c.length + lo * Rep.n α by rw [hlc],List.drop_length_add_append]
  exact this
theorem YA.pre {α : Type} [Rep α] {S : Nat → Prop} {w : World} : ∀ {l : List α} {cs : List Value} {k : Nat},YA S w l cs [] → YA S w (l.take k) (cs.take (k * Rep.n α)) []
 | l,cs,0,h=>by simp only [Nat.zero_mul,List.take_zero]; exact ⟨rfl,rfl⟩
 | [],cs,k + 1,h=>by obtain ⟨rfl,_⟩:=h; exact ⟨by simp,rfl⟩
 | x :: l,cs,k + 1,h=>by
  obtain ⟨c,cs',f,fp',rfl,hf,h1,h2⟩:=h
  obtain ⟨rfl,rfl⟩:=List.append_eq_nil_iff.1 hf.symm
  have:=YA.pre (k:=k) h2
  have hlc:=Rep.len h1
  rw [List.take_succ_cons,Nat.add_mul,Nat.one_mul,Nat.add_comm]
  rw [show Rep.n α + k * Rep.n α = c.length + k * Rep.n α by rw [hlc],List.take_length_add_append]
  exact ⟨c,_,[],[],rfl,rfl,h1,this⟩
theorem Yo {α : Type} [Rep α] {S : Nat → Prop} {w : World} {l r : List α} {v : Value} {lo hi : Int} (h : Rep.sat S w l [v] []) (hb : slc l lo hi = some r) : Rep.sat S w r [ZV v lo.toNat hi.toNat (Rep.n α)] []:=by
 obtain ⟨⟨h0,h1,h2⟩,rfl⟩:=jb hb
 obtain ⟨p,cap,hv,hc,hp⟩:=h
 simp only [List.cons.injEq,and_true] at hv
 subst hv
 have hlen : (List.drop lo.toNat (List.take hi.toNat l)).length = hi.toNat - lo.toNat:=by simp; omega
 refine ⟨(if cap = lo.toNat then p else p.map (·.add (lo.toNat * Rep.n α))),cap - lo.toNat,by simp only [ZV,hlen],by rw [hlen]; omega,?_⟩
 cases p with
 | none =>
  obtain ⟨rfl,_⟩:=hp
  simp
 | some q =>
  obtain ⟨hs,ecs,fpe,k1,k2,k3⟩:=hp
  rcases k3 with ⟨k3,k4⟩ | ⟨k3,_⟩
  case inr=>cases k3
  subst k4
  by_cases hcl : cap = lo.toNat
  ·rw [if_pos hcl]
   have hnil : List.drop lo.toNat (List.take hi.toNat l) = []:=List.eq_nil_of_length_eq_zero (by rw [hlen]; omega)
   rw [hnil]
   refine ⟨λh=>absurd (by omega) h,[],[],⟨rfl,rfl⟩,At.nil _ _ _,.inl ⟨λh=>absurd (by omega) h,rfl⟩⟩
  ·rw [if_neg hcl]
   obtain ⟨q1,q2,q3⟩:=q
   have hs:=hs (by omega)
   simp only at hs
   subst hs
   simp only [Option.map_some]
   rw [Addr.add_lit]
   refine ⟨λ_=>rfl,(ecs.take (hi.toNat * Rep.n α)).drop (lo.toNat * Rep.n α),[],(k1.pre).cut,?_,.inl ⟨λhne=>k3 (by omega),rfl⟩⟩
   ·intro i v hv
    rw [List.getElem?_drop,List.getElem?_take] at hv
    split at hv
    ·have:=k2 _ v hv
     rwa [← Nat.add_assoc] at this
    ·cases hv

section
variable {n : Nat} {a : Act} {e : List (Nat × Value)} {w w' : World} {P : Program} {ops : Array Oper} {rest : List Oper} {Q : Exit → Act → World → Prop}
variable {d : Nat} {ty t : TypeId} {pos : String} {af : Array Edge} {g : Option (Nat × Bool)} {x y : Operand} {v u : Value}
variable {St : Nat → Prop} {w0 : World} {its : List Item}

def Ze0 (e : List (Nat × Value)) : Option Operand → Option (Option Value)
 | none=>some none
 | some x=>(opv e x).map some
theorem Ju {x : Operand} (h : opv e x = some v) : Ze0 e (some x) = some (some v):=by simp [Ze0,h]
theorem Env.evo (h : Env n a e) {x : Option Operand} {v : Option Value} (hx : Ze0 e x = some v) : x.map a.eval = v:=by
 cases x with
 | none=>simpa [Ze0] using hx
 | some y =>
  simp only [Ze0,Option.map_eq_some_iff] at hx
  obtain ⟨u,h1,rfl⟩:=hx
  simp [h.ev h1]
def bnd (o : Option Value) (dflt : Int) : Option Int :=
 match o with
 | none=>some dflt
 | some (.int _ i)=>some i
 | _=>none
theorem Uk {α : Type} [Rep α] {S : Nat → Prop} {l r : List α} {fp : List Nat} {el sz by_ : Nat} {z : List Value} {D : TypeDesc} {lo hi : Option Operand} {vlo vhi : Option Value} {i j : Int}
  (h : Env n a e) (hw : Goes ops ⟨some d,.slice t x lo hi none,ty,pos,af,g⟩ a) (hd : d < n) (hx : opv e x = some v) (hlo : Ze0 e lo = some vlo) (hhi : Ze0 e hi = some vhi)
  (hi1 : bnd vlo 0 = some i) (hj1 : bnd vhi l.length = some j) (ht : P.underlying t = some (.slice el)) (he : Ty P el D sz by_ z) (hs : Rep.sat S w l [v] fp) (hb : slc l i j = some r)
  (k : ∀ a,Env n a ((d,ZV v i.toNat j.toNat sz) :: e) → wpList P ops Q rest a w) : wpList P ops Q (⟨some d,.slice t x lo hi none,ty,pos,af,g⟩ :: rest) a w:=by
 obtain ⟨⟨h0,h1,h2⟩,rfl⟩:=jb hb
 obtain ⟨p,cap,hv,hc,hp⟩:=hs
 simp only [List.cons.injEq,and_true] at hv
 subst hv
 refine XV h hw rfl hd (w':=w) ?_ k
 simp only [execOp,h.ev hx,h.evo hlo,h.evo hhi]
 have hsize:=WC he w
 have hlow : ∀ m : Nat,i ≤ m → (match vlo with | some v=>Instr.sliceBound v m .sliceB | none=>pure 0 : Sem Nat).run P w = .ok i.toNat w:=by
  intro m hm
  cases vlo with
  | none=>simp only [bnd,Option.some.injEq] at hi1; subst hi1; rfl
  | some u =>
   cases u <;> simp only [bnd] at hi1 <;> first | cases hi1 | skip
   simp [Instr.sliceBound,asIntOf,h0,hm]
 have hhigh : (match vhi with | some v=>Instr.sliceBound v cap .sliceAcap | none=>pure l.length : Sem Nat).run P w = .ok j.toNat w:=by
  cases vhi with
  | none=>simp only [bnd,Option.some.injEq] at hj1; subst hj1; simp
  | some u =>
   cases u <;> simp only [bnd] at hj1 <;> first | cases hj1 | skip
   have : (0 ≤ j ∧ j ≤ (cap : Int)):=by omega
   simp [Instr.sliceBound,asIntOf,this]
 have hbounds : (Instr.sliceBounds true l.length cap vlo vhi none).run P w = .ok (i.toNat,j.toNat,cap) w:=by
  have hl:=hlow j.toNat (by omega)
  cases vlo <;> cases vhi <;> simp_all [Instr.sliceBounds]
 simp [Instr.sliceAt,run_underlying ht,Instr.slice,hbounds,hsize,ZV]

theorem Zr4 {p q : Bool} (ht : P.underlying t = some .bool) : (Op.equal t (.bool p) (.bool q)).run P w = .ok (p == q) w:=by
 show (Op.equalIn (9999 + 1) t (.bool p) (.bool q)).run P w = _
 rw [Op.equalIn]
 simp only [Sem.run_bind,run_underlying ht,Result.andThen_ok,Sem.run_pure]
theorem s_eqT {p q : Bool} {y' : TypeId} (h : Env n a e) (hw : Goes ops ⟨some d,.binOp .eql t x y y',ty,pos,af,g⟩ a) (hd : d < n) (hx : opv e x = some (vT p)) (hy : opv e y = some (vT q)) (ht : P.underlying t = some .bool)
  (k : ∀ a,Env n a ((d,vT (p == q)) :: e) → wpList P ops Q rest a w) : wpList P ops Q (⟨some d,.binOp .eql t x y y',ty,pos,af,g⟩ :: rest) a w :=
 XV h hw rfl hd (by simp only [execOp,h.ev hx,h.ev hy]; simp only [eqGuard,binOp,Sem.run_bind,Zr4 ht,Result.andThen_ok,Sem.run_pure]; simp) k
theorem Zax : ∀ l : List UInt8,XA l = (l.map λb=>Value.int .u8 b.toNat)
 | []=>rfl
 | x :: l=>by rw [XA,Zax l]; rfl
theorem Zey (l : List UInt8) : Lib.bytesOf (l.map λb=>(b.toNat : Int)) = l:=by
 unfold Lib.bytesOf
 rw [List.map_map]
 conv=>rhs; rw [← List.map_id l]
 apply List.map_congr_left
 intro b _
 simp
abbrev indexByte (l : List UInt8) (c : UInt8) : Int:=Lib.indexByte l c
theorem Zgl {S : Nat → Prop} {l : List UInt8} {fp : List Nat} {f : Nat} {fn : Func} {c : UInt8} {ats : Array TypeId} {xs : List Operand} (h : Env n a e) (hw : Goes ops ⟨some d,.call ⟨.value (.func f),xs.toArray,ats⟩,ty,pos,af,g⟩ a) (hd : d < n)
  (hxs : J1 e xs = some [v, vB c]) (hf : P.funcs[f]? = some fn) (hb : fn.body.isNone = true) (hn : (fn.name == "runtime.NumGoroutine") = false) (hnx : Extern.findNext fn = none) (hfd : Extern.find fn = some Extern.BytealgIndexByte.indexByte)
  (hs : Rep.sat S w l [v] fp) (k : ∀ a,Env n a ((d,vI (indexByte l c)) :: e) → wpList P ops Q rest a w) : wpList P ops Q (⟨some d,.call ⟨.value (.func f),xs.toArray,ats⟩,ty,pos,af,g⟩ :: rest) a w:=by
 refine XV h hw rfl hd (w':=w) ?_ k
 have hr : (Extern.BytealgIndexByte.indexByte #[v,vB c]).run P w = .ok (vI (Lib.indexByte l c)) w:=by
  obtain ⟨p,cap,hv,hc,hp⟩:=hs
  simp only [List.cons.injEq,and_true] at hv
  subst hv
  cases p with
  | none =>
   have : l = []:=List.eq_nil_of_length_eq_zero (by have:=hp.1; omega)
   subst this
   exact Lib.run_indexByteNil (P:=P) w _ _ _
  | some q =>
   obtain ⟨h1,ecs,fpe,h2,h3,_⟩:=hp
   by_cases hl0 : l = []
   ·subst hl0
    exact Lib.run_indexByteString (P:=P) .empty (c.toNat : Int) w
   have h1:=h1 (by have:=List.length_pos_iff.2 hl0; omega)
   obtain ⟨q1,q2,q3⟩:=q
   simp only at h1
   subst h1
   obtain ⟨rfl,rfl⟩:=XG.1 h2
   have:=Lib.run_indexByteSlice (P:=P) w q1 q2 l.length cap (l.map λb=>(b.toNat : Int)) (by simp) (λi hi=>by
    have:=h3 i (Value.int .u8 (l[i].toNat : Int)) (by rw [Zax]; simp [hi])
    rw [this]
    simp [hi]) (c.toNat : Int)
   rw [Zey] at this
   have hcc : (c.toNat : Int).toNat.toUInt8 = c:=by simp
   rw [hcc] at this
   exact this
 simp only [execOp,resolve,Act.eval]
 simp only [Deferred.ofValue,Sem.run_bind,pure,Sem.run,Result.andThen_ok,invoke]
 have hargs : (xs.toArray.map a.eval) = #[v,vB c]:=by simp [h.evs hxs]
 simp only [hargs,Array.append_empty]
 have:=run_callFunc_extern (P:=P) hf hn hb hnx hfd #[v,vB c] w
 simpa [hr] using this
end

section
variable {St : Nat → Prop} {w0 w : World} {its : List Item}
theorem M.pack1 {i1 it : Item} (h : M St w0 w (i1 :: its)) (hl : Loc St it) (hp : ∀ fp,i1 w fp → it w fp) : M St w0 w (it :: its):=by
 obtain ⟨h1,h2,fp,⟨f,f',rfl,_,k1,k2⟩,h4,h5⟩:=h
 exact ⟨h1,h2,_,⟨f,f',rfl,hl,hp f k1,k2⟩,h4,h5⟩
theorem M.pack2 {i1 i2 it : Item} (h : M St w0 w (i1 :: i2 :: its)) (hl : Loc St it) (hp : ∀ f g,i1 w f → i2 w g → it w (f ++ g)) : M St w0 w (it :: its):=by
 obtain ⟨h1,h2,fp,⟨f,f',rfl,_,k1,g,g',rfl,_,k2,k3⟩,h4,h5⟩:=h
 exact ⟨h1,h2,f ++ g ++ g',⟨f ++ g,g',rfl,hl,hp f g k1 k2,k3⟩,by simpa using h4,by simpa using h5⟩
end
section
variable {n : Nat} {a : Act} {e : List (Nat × Value)} {w w' : World} {P : Program} {ops : Array Oper} {rest : List Oper} {Q : Exit → Act → World → Prop}
variable {d : Nat} {ty t : TypeId} {pos : String} {af : Array Edge} {g : Option (Nat × Bool)} {x y : Operand} {v u : Value}
variable {St : Nat → Prop} {w0 : World} {its : List Item}
theorem H7 {α : Type} [Rep α] {S : Nat → Prop} {xs : List Operand} {el : TypeId} {D : TypeDesc} {by_ : Nat} {z seg : List Value} {xn : α}
  (h : Env n a e) (hM : M St w0 w (own S xn seg :: its)) (hS : ∀ b,S b → St b) (hw : Goes ops ⟨some d,.buildSlice t 1 (Hc 0 xs).toArray,ty,pos,af,g⟩ a) (hd : d < n) (hxs : J1 e xs = some [u]) (hu : u.cells.toList = seg)
  (ht : P.underlying t = some (.slice el)) (he : Ty P el D (Rep.n α) by_ z) (hzl : z.length = Rep.n α) (hsmall : 1 * Rep.n α ≤ 16777216)
  (k : ∀ v' w a,M St w0 w (osl S [xn] v' :: its) → Env n a ((d,v') :: e) → wpList P ops Q rest a w) : wpList P ops Q (⟨some d,.buildSlice t 1 (Hc 0 xs).toArray,ty,pos,af,g⟩ :: rest) a w:=by
 subst hu
 obtain ⟨fp0,hfp0,_⟩:=hM.head
 have hl0:=Rep.len hfp0
 exact jn (l:=[xn]) h hM hS hw hd hxs rfl rfl ht he hzl hsmall (λfp hfp=>by
  have hfp : Rep.sat S w xn u.cells.toList fp:=hfp
  exact ⟨u.cells.toList,[],fp,[],by simp,by simp,hfp,rfl,rfl⟩) (λv hv=>by simp at hv; subst hv; simpa using hl0) k
end
class Dat (α : Type) where
 bd : α → Prop
 sz : α → Nat

instance : Dat Int:=⟨λx=>-9223372036854775808 ≤ x ∧ x ≤ 9223372036854775807,λ_=>1⟩
instance : Dat UInt8:=⟨λ_=>True,λ_=>1⟩
instance : Dat Bool:=⟨λ_=>True,λ_=>1⟩
instance : Dat Str:=⟨λs=>s.l.length ≤ 9223372036854775807,λs=>s.l.length + 1⟩
instance {α : Type} [Dat α] : Dat (List α):=⟨λl=>l.length ≤ 9223372036854775807 ∧ ∀ x ∈ l,Dat.bd x,λl=>(l.map Dat.sz).sum + 1⟩
instance {α : Type} [Dat α] {n : Nat} : Dat (Vector α n):=⟨λl=>∀ x ∈ l.toList,Dat.bd x,λl=>(l.toList.map Dat.sz).sum + 1⟩
instance {α β : Type} [Dat α] [Dat β] : Dat (α × β):=⟨λx=>Dat.bd x.1 ∧ Dat.bd x.2,λx=>Dat.sz x.1 + Dat.sz x.2⟩

end
section
open Go Go.ChangeShapes Go.WideShapes Go.ChangeAt Go.RowKit

def Zb3 (P : Program) (t : TypeId) (α : Type) [Rep α] [Dat α] : Prop :=
 ∀ (H : Type) (en : TypeId × Value → H) (w : World) (base : Nat) (held : Bool) (fuel : Nat) (cs : List Value) (x : DataW H × List MemPlace),
  DataW.trod en P w base (λ_=>true) held fuel t cs = some x → ∃ y : α,Ro w y cs ∧ Dat.bd y ∧ Dat.sz y ≤ Rows.uptoBulk x.1

section
variable {P : Program} {t e : TypeId}
theorem Ziq (ht : P.underlying t = some (.int .u8)) : Zb3 P t UInt8:=by
 intro H en w base held fuel cs x h
 obtain ⟨n,rfl,rfl,hw⟩:=DataW.trod_int ht h
 have hn : 0 ≤ n ∧ n ≤ 255:=by simpa [Lit.wf,IntKind.min,IntKind.max,IntKind.signed,IntKind.bits,Dat.bd] using hw
 refine ⟨UInt8.ofNat n.toNat,⟨?_,rfl⟩,trivial,Nat.le_refl _⟩
 have : ((UInt8.ofNat n.toNat).toNat : Int) = n:=by
  rw [UInt8.toNat_ofNat']; omega
 show [Value.int .u8 n] = [Value.int .u8 ((UInt8.ofNat n.toNat).toNat : Int)]
 rw [this]
theorem Zan {α : Type} [Rep α] [Dat α] (he : Zb3 P e α) {H : Type} {en : TypeId × Value → H} {w : World} {base : Nat} {held : Bool} {fuel : Nat} :
  ∀ (css : List (List Value)) (xs : List (DataW H × List MemPlace)),css.length = xs.length → (∀ (i : Nat) (c : List Value),css[i]? = some c → DataW.trod en P w base (λ_=>true) held fuel e c = xs[i]?) →
   ∃ l : List α,l.length = css.length ∧ YA (Old w) w l css.flatten [] ∧ (∀ y ∈ l,Dat.bd y) ∧ (l.map Dat.sz).sum ≤ Rows.uptoBulkAll (xs.map (·.1))
 | [],[],_,_=>⟨[],rfl,⟨rfl,rfl⟩,(λ_ h=>by cases h),Nat.le_refl _⟩
 | [],_ :: _,h,_=>by simp at h
 | _ :: _,[],h,_=>by simp at h
 | c :: css,x :: xs,h,hx=>by
  obtain ⟨y,h1,h2,h3⟩:=he H en w base held fuel c x (hx 0 c rfl)
  obtain ⟨l,k0,k1,k2,k3⟩:=Zan he css xs (by simpa using h) (λi d hd=>hx (i + 1) d hd)
  refine ⟨y :: l,by simp [k0],⟨c,css.flatten,[],[],by simp,rfl,h1,k1⟩,?_,?_⟩
  ·intro z hz
   rcases List.mem_cons.1 hz with rfl | hz
   ·exact h2
   ·exact k2 z hz
  ·simp only [List.map_cons,List.sum_cons,Rows.uptoBulkAll]
   omega

theorem cells?_get {w : World} {base : Nat} {a : Addr} {n : Nat} {cs : List Value} (h : w.cells? base a n = some cs) : cs.length = n ∧ ∀ i,i < n → w.cell? (a.add i) = cs[i]?:=by
 unfold World.cells? at h
 split at h
 ·refine ⟨by simpa using mapM_some_length h,λi hi=>?_⟩
  exact mapM_some_get h i i (by simp [hi])
 cases h
theorem cell?_spot {w : World} {a : Addr} {v : Value} (h : w.cell? a = some v) : a.spot = none ∧ Old w a.block:=by
 unfold World.cell? at h
 split at h
 ·rename_i hh
  split at h
  ·cases h
  rename_i hsp
  refine ⟨by simpa using hsp,?_⟩
  rcases Nat.lt_or_ge a.block w.heap.size with hb | hb
  ·exact hb
  simp [Array.getElem?_eq_none hb] at hh
 cases h

theorem Zlf {n : Nat} : ∀ (css : List (List Value)),(∀ d ∈ css,d.length = n) → ∀ {i j : Nat} {c : List Value},css[i]? = some c → j < n → css.flatten[i * n + j]? = c[j]?
 | [],_,i,j,c,h,_=>by simp at h
 | d :: css,hd,0,j,c,h,hj=>by
  simp only [List.getElem?_cons_zero,Option.some.injEq] at h
  subst h
  have:=hd d (by simp)
  rw [List.flatten_cons,Nat.zero_mul,Nat.zero_add,List.getElem?_append_left (by omega)]
 | d :: css,hd,i + 1,j,c,h,hj=>by
  have hdl:=hd d (by simp)
  have:=Zlf css (λx hx=>hd x (by simp [hx])) (i:=i) (c:=c) (by simpa using h) hj
  rw [List.flatten_cons,Nat.add_mul,Nat.one_mul,List.getElem?_append_right (by omega),← this]
  congr 1
  omega
theorem Zgd {α : Type} [Rep α] [Dat α] (ht : P.underlying t = some (.slice e)) (he : Zb3 P e α) (hn : P.cellsOf e = Rep.n α) (h0 : 0 < Rep.n α) : Zb3 P t (List α):=by
 intro H en w base held fuel cs x h
 rcases DataW.trod_slice ht h with ⟨rfl,rfl⟩ | ⟨a,len,cap,elems,rest,n,_,rfl,rfl,hb,hl,hm,hlen,hel,hsp,hns⟩
 ·exact ⟨[],⟨none,0,rfl,Nat.le_refl _,rfl,rfl⟩,⟨by simp,λ_ h=>by cases h⟩,Nat.le_refl _⟩
 have hcell : ∀ i,i < len → ∃ c,w.cells? base (a.add (i * Rep.n α)) (Rep.n α) = some c ∧ DataW.trod en P w base (λ_=>true) held n e c = elems[i]?:=by
  intro i hi
  have:=hel i hi
  rw [hn,List.getElem?_eq_getElem (by omega)] at this
  obtain ⟨c,h1,h2⟩:=Option.bind_eq_some_iff.1 this
  exact ⟨c,h1,by rw [h2,List.getElem?_eq_getElem (by omega)]⟩
 obtain ⟨css,hcl,hcs⟩ : ∃ css : List (List Value),css.length = len ∧ ∀ (i : Nat) (c : List Value),css[i]? = some c → w.cells? base (a.add (i * Rep.n α)) (Rep.n α) = some c ∧ DataW.trod en P w base (λ_=>true) held n e c = elems[i]?:=by
  refine ⟨(List.range len).map λi=>if hi : i < len then (hcell i hi).choose else [],by simp,λi c hc=>?_⟩
  have hi : i < len:=by have:=(List.getElem?_eq_some_iff.1 hc).1; simpa using this
  simp [hi] at hc
  subst hc
  exact (hcell i hi).choose_spec
 obtain ⟨l,hll,hE,hbd,hsz⟩:=Zan he css elems (by omega) λi c hc=>(hcs i c hc).2
 have hla : l.length = len:=by omega
 -- where the array lies
 have hspot2 : cap ≠ 0 → a.spot = none ∧ Old w a.block:=by
  intro hc
  by_cases hl0 : 0 < len
  ·obtain ⟨c,h1,_⟩:=hcell 0 hl0
   obtain ⟨k1,k2⟩:=cells?_get h1
   have:=k2 0 h0
   rw [List.getElem?_eq_getElem (by omega)] at this
   have:=cell?_spot this
   cases a
   simpa [Addr.add] using this
  ·have hl0 : len = 0:=by omega
   have:=(hsp rfl).2 0 (by omega)
   rw [hn,List.getElem?_eq_getElem (by have:=(hsp rfl).1; omega)] at this
   obtain ⟨c,h1,_⟩:=Option.bind_eq_some_iff.1 this
   obtain ⟨k1,k2⟩:=cells?_get h1
   have:=k2 0 h0
   rw [List.getElem?_eq_getElem (by omega)] at this
   have:=cell?_spot this
   cases a
   simpa [Addr.add,hl0] using this
 have hspot:=λh=>(hspot2 h).1
 refine ⟨l,⟨some a,cap,by rw [hla],by omega,hspot,css.flatten,[],hE,?_,.inl ⟨?_,rfl⟩⟩,⟨by unfold maxLen at hm; omega,hbd⟩,?_⟩
 ·intro i v hv
  have hil : i < css.flatten.length:=(List.getElem?_eq_some_iff.1 hv).1
  have hfl : css.flatten.length = len * Rep.n α:=by rw [hE.len,hla]
  have hi : i / Rep.n α < len:=Nat.div_lt_of_lt_mul (by rw [Nat.mul_comm]; rwa [hfl] at hil)
  obtain ⟨c,hc⟩ : ∃ c,css[i / Rep.n α]? = some c:=⟨css[i / Rep.n α]'(by omega),by simp⟩
  obtain ⟨k1,k2⟩:=cells?_get (hcs _ c hc).1
  have hm':=k2 (i % Rep.n α) (Nat.mod_lt _ h0)
  have hsp0 : a.spot = none:=hspot (by have:=Nat.lt_of_le_of_lt (Nat.zero_le _) hi; omega)
  have hdm:=Nat.div_add_mod i (Rep.n α)
  have hval : css.flatten[i]? = c[i % Rep.n α]?:=by
   have:=Zlf (n:=Rep.n α) css (λd hd=>by
    obtain ⟨j,hj⟩:=List.mem_iff_getElem?.1 hd
    exact (cells?_get (hcs j d hj).1).1) hc (Nat.mod_lt i h0)
   rw [← this]
   congr 1
   rw [Nat.mul_comm]; omega
  rw [hval] at hv
  rw [hv] at hm'
  obtain ⟨b,o,s⟩:=a
  simp only at hsp0
  subst hsp0
  rw [← hm']
  simp only [Addr.add_lit]
  congr 2
  rw [Nat.add_assoc]
  congr 1
  rw [Nat.mul_comm]; omega
 ·exact λh=>(hspot2 h).2
 simp only [Dat.sz,Rows.uptoBulk]
 have : (l.map Dat.sz).sum ≤ Rows.uptoBulkAll (elems.map (·.1)):=hsz
 omega

def OpensF (P : Program) (fs : List Field) (o : Nat) (α : Type) [Rep α] [Dat α] : Prop :=
 ∀ (H : Type) (en : TypeId × Value → H) (w : World) (base : Nat) (held : Bool) (fuel : Nat) (cs : List Value) (xs : List (DataW H × List MemPlace)),cs.length = o + Rep.n α → xs.length = fs.length →
  (∀ (i : Nat) (f : Field),fs[i]? = some f → DataW.trod en P w base (λ_=>true) held fuel f.type ((cs.drop f.offset).take (P.cellsOf f.type)) = xs[i]?) →
   ∃ y : α,Ro w y (cs.drop o) ∧ Dat.bd y ∧ Dat.sz y ≤ Rows.uptoBulkAll (xs.map (·.1))
theorem Zse {H : Type} {en : TypeId × Value → H} {w : World} {α : Type} [Rep α] [Dat α] (ho : Zb3 P t α) {v : Value} {d : DataW H} {ps : List MemPlace} (hv : v.cells.toList = [v]) (h : DataW.Trod en P w 0 (λ_=>true) true t v d ps) :
  ∃ y : α,Ro w y [v] ∧ Dat.bd y ∧ Dat.sz y ≤ Rows.uptoBulk d:=by
 obtain ⟨fuel,h⟩:=h
 rw [hv] at h
 exact ho H en w 0 true fuel _ _ h
end

theorem Kept.below {w w' : World} (h : Kept (Old w) w w') : Below w.heap.size w w':=⟨h.os,h.tape,h.output,h.size,λk hk=>h.block k hk⟩
theorem z5 {P : Program} {H : Type} {en : TypeId × Value → H} {W W' : World} (hl : laidOutB P = true) (hB : Below W.heap.size W W') : ∀ {ts : List TypeId} {vs : List Value} {ds : List (DataW H)} {ps : List MemPlace},
  (∀ t ∈ ts,P.readableRec t = true ∧ t < P.types.size) → (∀ x ∈ ps,x.block < W.heap.size) → DataW.TrodAll en P W 0 (λ_=>true) true ts vs ds ps → DataW.TrodAll en P W' 0 (λb=>decide (b < W.heap.size)) true ts vs ds ps
 | [],_,_,_,_,_,h=>by
  obtain ⟨rfl,rfl,rfl⟩:=trodAll_nil h
  rfl
 | t :: ts,_,_,_,ht,hp,h=>by
  obtain ⟨v,vs,d,ds,p,q,rfl,rfl,rfl,h1,h2⟩:=trodAll_cons h
  obtain ⟨k1,k2⟩:=ht t (by simp)
  exact ⟨p,q,Below.trod hl k1 k2 h1 hB (λx hx=>hp x (by simp [hx])),z5 hl hB (λt h=>ht t (by simp [h])) (λx hx=>hp x (by simp [hx])) h2,rfl⟩

theorem Zqj {P : Program} {H : Type} {en : TypeId × Value → H} {f : Func} {s : ChangeSpec} {tb : TypeId} {W W' : World} {args : Array Value} {ds : List (DataW H)} {before : List MemPlace} (hs : s.vars = []) (hW : DataW.Whole en P f.params.toList s.vars false W args.toList ds [] before)
  (hr : f.resultTypes = #[tb]) (htb : P.underlying tb = some .bool) (hfn : s.fn H (ds ++ []) = { results:=[.lit (.bool true)],args:=ds }) (hl : laidOutB P = true) (hts : ∀ t ∈ f.params.toList,P.readableRec t = true ∧ t < P.types.size) (hK : Kept (Old W) W W') :
  s.post en P f false true false false W args (.bool true) W':=by
 have hlt:=hW.lt
 have hW0:=hW
 obtain ⟨p,q,hA,hV,rfl,_,_⟩:=hW0
 rw [hs] at hV
 obtain ⟨_,rfl⟩:=trodVars_none hV
 refine ⟨ds,[],_,[],p,[],hW,?_,?_,?_,hK.below.frame _,λh=>by cases h⟩
 ·rw [hfn,hr]
  exact trodAll_mk1 (shut_bool htb true)
 ·rw [hfn]
  exact z5 hl hK.below hts (λx hx=>hlt x (by simpa using hx)) hA
 rw [hfn,hs]
 rfl
/-! ### Five and six arguments -/
end
section
open Go

abbrev Places (P : Program) (fs : List Field) (pl : List (Nat × Nat)) : Prop:=fs.mapM (λf=>(P.info? f.type).map λi=>(f.offset,i.size)) = some pl
abbrev FillTo (pl : List (Nat × Nat)) (z : List Value) (parts : List (Nat × Value)) (cs : List Value) : Prop:=Instr.fill (pl.toArray[·]?) z.toArray parts = some cs.toArray
theorem XL {pl : List (Nat × Nat)} {z : List Value} : FillTo pl z [] z:=rfl
theorem Yk {pl : List (Nat × Nat)} {pre : List (List Value)} {seg seg' : List Value} {post : List (List Value)} {rest : List (Nat × Value)} {i off size : Nat} {v : Value} {cs : List Value}
  (hi : pl[i]? = some (off,size)) (hk : Hp pre = off) (hl : seg.length = size) (hl' : seg'.length = size) (hv : v.cells.toList = seg') (hr : FillTo pl (cat (pre ++ seg' :: post)) rest cs) :
  FillTo pl (cat (pre ++ seg :: post)) ((i,v) :: rest) cs:=by
 subst hv
 have hvs : v.cells.size = size:=by simpa using hl'
 have hfit : off + v.cells.toList.length ≤ (cat (pre ++ seg :: post)).length:=Wl hk (by rw [hl',hl])
 have hfit2 : off + size ≤ (cat (pre ++ seg :: post)).length:=by rw [hl'] at hfit; exact hfit
 have hf:=HH v.cells.toList 0 off (cat (pre ++ seg :: post)).toArray (by simpa using hfit)
 have hz : v.cells.zipIdx.foldl (λcs (c,j)=>cs.setIfInBounds (off + j) c) (cat (pre ++ seg :: post)).toArray = (Y7 (cat (pre ++ seg :: post)) off v.cells.toList).toArray:=by
  rw [← Array.foldl_toList,Array.toList_zipIdx]
  simpa using hf
 unfold FillTo
 rw [Instr.fill]
 simp only [List.getElem?_toArray,hi]
 rw [if_neg (by simp [hvs]; omega)]
 rw [hz,YL hk (by rw [hl',hl])]
 have:=hr
 unfold FillTo at this
 simpa only [List.getElem?_toArray] using this
section
variable {n : Nat} {a : Act} {e : List (Nat × Value)} {w w' : World} {P : Program} {ops : Array Oper} {rest : List Oper} {Q : Exit → Act → World → Prop}
variable {d : Nat} {ty t : TypeId} {pos : String} {af : Array Edge} {g : Option (Nat × Bool)} {x y : Operand} {v u : Value}
variable {St : Nat → Prop} {w0 : World} {its : List Item}
theorem YQ {fs : Array Field} {pl : List (Nat × Nat)} {parts : List (Nat × Operand)} {vs : List (Nat × Value)} {z cs : List Value} {sz by_ : Nat} (h : Env n a e) (hw : Goes ops ⟨some d,.build t parts.toArray,ty,pos,af,g⟩ a) (hd : d < n)
  (hxs : J1 e (parts.map (·.2)) = some (vs.map (·.2))) (hix : parts.map (·.1) = vs.map (·.1)) (ht : Ty P t (.struct fs) sz by_ z) (hp : Places P fs.toList pl) (hf : FillTo pl z vs cs)
  (k : ∀ a,Env n a ((d,.agg cs.toArray) :: e) → wpList P ops Q rest a w) : wpList P ops Q (⟨some d,.build t parts.toArray,ty,pos,af,g⟩ :: rest) a w:=by
 refine XV h hw rfl hd (w':=w) ?_ k
 have hvals : (parts.map λ(p : Nat × Operand)=>(p.1,a.eval p.2)) = vs:=by
  have h1:=h.evs hxs
  rw [List.map_map] at h1
  apply List.ext_getElem?
  intro i
  have e1 : (parts.map (·.1))[i]? = (vs.map (·.1))[i]?:=by rw [hix]
  have e2 : (parts.map (a.eval ∘ λ(p : Nat × Operand)=>p.2))[i]? = (vs.map (·.2))[i]?:=by rw [h1]
  simp only [List.getElem?_map] at e1 e2 ⊢
  cases hp : parts[i]? with
  | none =>
   rw [hp] at e1
   cases hq : vs[i]? with
   | none=>rfl
   | some q=>rw [hq] at e1; simp at e1
  | some p =>
   rw [hp] at e1 e2
   cases hq : vs[i]? with
   | none=>rw [hq] at e1; simp at e1
   | some q =>
    rw [hq] at e1 e2
    simp only [Option.map_some,Option.some.injEq] at e1 e2 ⊢
    exact Prod.ext e1 e2
 have hb : P.built t vs = some cs.toArray:=by
  obtain ⟨i,zv,h1,h2,_,h3,h4⟩:=ht.get
  unfold Program.built
  rw [h1,ht.und]
  simp only [h3]
  rw [show fs.toList.mapM (λf=>(P.info? f.type).map λi=>(f.offset,i.size)) = some pl from hp]
  have h5 : zv.cells = z.toArray:=by rw [← h4]
  simp only [h5]
  exact hf
 simp only [execOp]
 have : (parts.toArray.map λ(p : Nat × Operand)=>(p.1,a.eval p.2)) = vs.toArray:=by rw [List.map_toArray,hvals]
 simp only [Sem.run_bind]
 rw [show (Instr.build t (parts.toArray.map λ(i,x)=>(i,a.eval x))).run P w = .ok (.agg cs.toArray) w from by
  have h2:=run_build (P:=P) w t (parts.toArray.map λ(i,x)=>(i,a.eval x)) cs.toArray (by
   have : (parts.toArray.map λ(i,x)=>(i,a.eval x)).toList = vs:=by simpa using hvals
   rw [this]; exact hb)
  exact h2]
 rfl
end


def opt (b : Bool) (it : Item) : Item:=λw fp=>if b = true then it w fp else fp = []
def optL (mk : List (Nat × (Value → Item))) (D : Nat → Bool) (u : Nat → Value) : List Item:=mk.map λp=>opt (D p.1) (p.2 (u p.1))
def XY (D : Nat → Bool) (i : Nat) : Nat → Bool:=λj=>if j = i then true else D j
theorem yQ (it : Item) : opt true it = it:=by funext w fp; simp [opt]
theorem zJ (it : Item) : opt false it = emp:=by funext w fp; simp [opt,emp]
section
variable {St : Nat → Prop} {w0 w : World} {its pre post : List Item} {it : Item} {b : Bool}
theorem M.sure (h : M St w0 w (pre ++ opt b it :: post)) (hb : b = true) : M St w0 w (pre ++ it :: post):=by subst hb; rwa [yQ] at h
theorem M.push {pre post : List Item} (h : M St w0 w (it :: (pre ++ post))) : M St w0 w (pre ++ it :: post):=by
 obtain ⟨hk,hs,fp,⟨g1,g,rfl,l1,l2,k⟩,h2,h3⟩:=h
 obtain ⟨f,g2,rfl,k1,k2⟩:=XN.split k
 refine ⟨hk,hs,f ++ (g1 ++ g2),XN.append k1 ⟨g1,g2,rfl,l1,l2,k2⟩,?_,λb hb=>h3 b (by simp at hb ⊢; grind)⟩
 refine (List.Perm.nodup_iff ?_).1 h2
 rw [← List.append_assoc,← List.append_assoc]
 exact List.Perm.append_right _ List.perm_append_comm
end

def DrawI2 (P : Program) (l hd tl : List Oper) (Q : Exit → Act → World → Prop) (n : Nat) (ts : List Nat) (e0 : List (Nat × Value)) (St : Nat → Prop) (w0 : World) (its : List Item) (mk : List (Nat × (Value → Item))) (G : Nat → Value → Prop) (listed : Array Bool) (a : Act) (w : World) : Prop :=
 ((∀ i,i < hd.length → dn listed i) ∧ ∃ k,k ≤ tl.length ∧ (∀ j,j < k → dn listed (hd.length + j)) ∧ (∀ j,k ≤ j → j < tl.length → ¬ dn listed (hd.length + j)) ∧ wpList P l.toArray Q (tl.drop k) a w) ∨
 ((¬ ∀ i,i < hd.length → dn listed i) ∧ (∀ j,hd.length ≤ j → ¬ dn listed j) ∧ ∃ u,Env n a (KD ts 0 u e0) ∧ M St w0 w (its ++ optL mk (λj=>listed.getD j false) u) ∧ ∀ j,dn listed j → G j (u j))

end
section
open Go

def asV (ag : Bool) (cs : List Value) : Value:=if ag = true then .agg cs.toArray else cs.headD undef
abbrev EqOk (P : Program) (t : TypeId) (k : Nat) (α : Type) [Flat α] [DecidableEq α] (ag : Bool) : Prop :=
 ∀ (d : Nat) (w : World) (x y : α),(Op.equalIn (d + k) t (asV ag (Flat.enc x)) (asV ag (Flat.enc y))).run P w = .ok (decide (x = y)) w
section
variable {P : Program} {t e : TypeId}
theorem Zrs {α : Type} [DecidableEq α] (x y : α) : (x == y) = decide (x = y):=rfl
theorem QO (h : P.underlying t = some (.int .u8)) : EqOk P t 1 UInt8 false:=by
 intro d w x y
 have:=run_equalIn_int (P:=P) w d t .u8 .u8 x.toNat y.toNat h
 show (Op.equalIn (d + 1) t (vB x) (vB y)).run P w = _
 rw [this]
 congr 1
 rw [Zrs,decide_eq_decide,As]
theorem Zo1 {α : Type} [Flat α] {l : List α} {i : Nat} {x : α} (h : l[i]? = some x) : ((XA l).drop (i * Flat.n α)).take (Flat.n α) = Flat.enc x:=by
 have hl : i ≤ l.length:=Nat.le_of_lt (List.getElem?_eq_some_iff.1 h).1
 rw [JV h]
 have e1 : (XA (l.take i)).length = i * Flat.n α:=by rw [Tw,List.length_take,Nat.min_eq_left hl]
 rw [← e1,List.drop_left,← Flat.len x,List.take_left]
theorem Zej {α : Type} [Flat α] {D : TypeDesc} {by_ : Nat} {z : List Value} (he : Ty P e D (Flat.n α) by_ z) {ag : Bool} (hag : BC D = ag) (h1 : ag = false → Flat.n α = 1) {l : List α} {i : Nat} {x : α} (h : l[i]? = some x) (w : World) :
  (part e (XA l).toArray (i * Flat.n α)).run P w = .ok (asV ag (Flat.enc x)) w:=by
 have hg:=Zo1 h
 unfold part
 simp only [Sem.run_bind,BU he,Result.andThen_ok,hag]
 cases ag with
 | true =>
  simp only [if_true,Sem.run_bind,WC he,Result.andThen_ok,Sem.run_pure,asV]
  congr 2
  apply Array.ext'
  rw [Array.toList_extract]
  simp only [List.extract_eq_take_drop]
  rw [← hg,show i * Flat.n α + Flat.n α - i * Flat.n α = Flat.n α by omega]
 | false =>
  have h1:=h1 rfl
  have : (XA l).toArray[i * Flat.n α]? = some (asV false (Flat.enc x)):=by
   rw [List.getElem?_toArray]
   have hlen:=Flat.len x
   rw [h1] at hg hlen
   have e2 : (XA l)[i * 1]? = ((XA l).drop (i * 1))[0]?:=by rw [List.getElem?_drop]; rfl
   rw [h1,e2]
   cases hd : (XA l).drop (i * 1) with
   | nil=>rw [hd] at hg; simp at hg; rw [hg] at hlen; simp at hlen
   | cons a r=>rw [hd] at hg; simp at hg; rw [← hg]; rfl
  simp [this]
theorem Zbi {α : Type} [Flat α] [DecidableEq α] {D : TypeDesc} {by_ k : Nat} {z : List Value} (he : Ty P e D (Flat.n α) by_ z) {ag : Bool} (hag : BC D = ag) (h1 : ag = false → Flat.n α = 1) (hq : EqOk P e k α ag) (d : Nat) (w : World) {l m : List α} :
  ∀ (is : List Nat),(∀ i ∈ is,i < l.length ∧ i < m.length) → (Op.eqItems (d + k) e (Flat.n α) (XA l).toArray (XA m).toArray is).run P w = .ok (decide (∀ i ∈ is,l[i]? = m[i]?)) w
 | [],_=>by simp [Op.eqItems]
 | i :: is,h=>by
  obtain ⟨hl,hm⟩:=h i (by simp)
  have ih:=Zbi he hag h1 hq d w is (λj hj=>h j (by simp [hj]))
  simp only [Op.eqItems,Sem.run_bind,Zej he hag h1 (List.getElem?_eq_getElem hl),Zej he hag h1 (List.getElem?_eq_getElem hm),Result.andThen_ok,hq d w]
  by_cases hx : l[i] = m[i]
  ·simp only [hx,decide_true,Bool.not_true,Bool.false_eq_true,if_false,ih]
   congr 1
   rw [decide_eq_decide]
   simp [List.getElem?_eq_getElem hl,List.getElem?_eq_getElem hm,hx]
  ·simp only [hx,decide_false,Bool.not_false,if_true,Sem.run_pure]
   congr 1
   symm
   rw [decide_eq_false_iff_not]
   intro hall
   have:=hall i (by simp)
   rw [List.getElem?_eq_getElem hl,List.getElem?_eq_getElem hm] at this
   exact hx (by simpa using this)
theorem K4 {α : Type} [Flat α] [DecidableEq α] {n sz by_ k : Nat} {z : List Value} {D : TypeDesc} (ht : P.underlying t = some (.array n e)) (he : Ty P e D sz by_ z) (hn : sz = Flat.n α) (ag : Bool) (hag : BC D = ag) (h1 : ag = false → Flat.n α = 1) (hq : EqOk P e k α ag) :
  EqOk P t (k + 1) (Vector α n) true:=by
 subst hn
 intro d w x y
 obtain ⟨i,v,hi,hs,_⟩:=he.get
 have hc : P.cellsOf e = Flat.n α:=by simp [Program.cellsOf,hi,hs]
 have h2:=run_equalIn_array (P:=P) w (d + k) (Flat.enc x).toArray (Flat.enc y).toArray ht hi
 show (Op.equalIn ((d + k) + 1) t (.agg (Flat.enc x).toArray) (.agg (Flat.enc y).toArray)).run P w = _
 rw [h2,hc]
 have h3:=Zbi he hag h1 hq d w (l:=x.toList) (m:=y.toList) (List.range n) (by intro i hi; simpa using hi)
 rw [show Flat.enc x = XA x.toList from rfl,show Flat.enc y = XA y.toList from rfl,h3]
 congr 1
 rw [decide_eq_decide]
 constructor
 ·intro h
  apply Vector.ext
  intro i hi
  have:=h i (by simpa using hi)
  simpa [hi] using this
 rintro rfl i _; rfl
end
section
variable {n : Nat} {a : Act} {e : List (Nat × Value)} {w w' : World} {P : Program} {ops : Array Oper} {rest : List Oper} {Q : Exit → Act → World → Prop}
variable {d : Nat} {ty t : TypeId} {pos : String} {af : Array Edge} {g : Option (Nat × Bool)} {x y : Operand} {v u : Value}
variable {St : Nat → Prop} {w0 : World} {its : List Item}
theorem Zkc {α : Type} [Flat α] [DecidableEq α] {k0 : Nat} {p q : α} {y' : TypeId} (h : Env n a e) (hw : Goes ops ⟨some d,.binOp .eql t x y y',ty,pos,af,g⟩ a) (hd : d < n) (hx : opv e x = some (.agg (Flat.enc p).toArray)) (hy : opv e y = some (.agg (Flat.enc q).toArray))
  (hq : EqOk P t k0 α true) (hk : k0 ≤ 10000) (hg : P.eqGuardType P.depth t = false)
  (k : ∀ a,Env n a ((d,vT (decide (p = q))) :: e) → wpList P ops Q rest a w) : wpList P ops Q (⟨some d,.binOp .eql t x y y',ty,pos,af,g⟩ :: rest) a w:=by
 have he:=hq (10000 - k0) w p q
 rw [show 10000 - k0 + k0 = 10000 by omega] at he
 have he' : (Op.equal t (.agg (Flat.enc p).toArray) (.agg (Flat.enc q).toArray)).run P w = .ok (decide (p = q)) w:=he
 have hgd : (eqGuard .eql t x y (.agg (Flat.enc p).toArray) (.agg (Flat.enc q).toArray)).run P w = .ok () w:=by simp [eqGuard,run_program,hg]
 have hb : (binOp .eql t (.agg (Flat.enc p).toArray) (.agg (Flat.enc q).toArray)).run P w = .ok (vT (decide (p = q))) w:=by
  simp only [binOp,Sem.run_bind,he',Result.andThen_ok,Sem.run_pure]
 exact XV h hw rfl hd (by simp only [execOp,h.ev hx,h.ev hy,Sem.run_bind,hgd,hb,Result.andThen_ok]; rfl) k
theorem Zd0 {α : Type} [Flat α] [DecidableEq α] {k0 : Nat} {p q : α} {y' : TypeId} (h : Env n a e) (hw : Goes ops ⟨some d,.binOp .neq t x y y',ty,pos,af,g⟩ a) (hd : d < n) (hx : opv e x = some (.agg (Flat.enc p).toArray)) (hy : opv e y = some (.agg (Flat.enc q).toArray))
  (hq : EqOk P t k0 α true) (hk : k0 ≤ 10000) (hg : P.eqGuardType P.depth t = false)
  (k : ∀ a,Env n a ((d,vT (!decide (p = q))) :: e) → wpList P ops Q rest a w) : wpList P ops Q (⟨some d,.binOp .neq t x y y',ty,pos,af,g⟩ :: rest) a w:=by
 have he:=hq (10000 - k0) w p q
 rw [show 10000 - k0 + k0 = 10000 by omega] at he
 have he' : (Op.equal t (.agg (Flat.enc p).toArray) (.agg (Flat.enc q).toArray)).run P w = .ok (decide (p = q)) w:=he
 have hgd : (eqGuard .neq t x y (.agg (Flat.enc p).toArray) (.agg (Flat.enc q).toArray)).run P w = .ok () w:=by simp [eqGuard,run_program,hg]
 have hb : (binOp .neq t (.agg (Flat.enc p).toArray) (.agg (Flat.enc q).toArray)).run P w = .ok (vT (!decide (p = q))) w:=by
  simp only [binOp,Sem.run_bind,he',Result.andThen_ok,Sem.run_pure]
 exact XV h hw rfl hd (by simp only [execOp,h.ev hx,h.ev hy,Sem.run_bind,hgd,hb,Result.andThen_ok]; rfl) k

theorem Av {S : Nat → Prop} {l : List UInt8} {fp : List Nat} {src dst el : TypeId} (h : Env n a e) (hw : Goes ops ⟨some d,.convert src dst x,ty,pos,af,g⟩ a) (hd : d < n) (hx : opv e x = some v)
  (hs : P.underlying src = some (.slice el)) (he : P.underlying el = some (.int .u8)) (ht : P.underlying dst = some .string) (hsat : Rep.sat S w l [v] fp)
  (k : ∀ a,Env n a ((d,vS ⟨l⟩) :: e) → wpList P ops Q rest a w) : wpList P ops Q (⟨some d,.convert src dst x,ty,pos,af,g⟩ :: rest) a w:=by
 refine XV h hw rfl hd (w':=w) ?_ k
 obtain ⟨p,cap,hv,hc,hp⟩:=hsat
 simp only [List.cons.injEq,and_true] at hv
 subst hv
 simp only [execOp,h.ev hx]
 cases p with
 | none =>
  have : l = []:=List.eq_nil_of_length_eq_zero (by have:=hp.1; omega)
  subst this
  simp only [Sem.run_bind,run_convert_bytes_string w src dst el none _ _ hs he ht]
  rfl
 | some q =>
  obtain ⟨h1,ecs,fpe,h2,h3,_⟩:=hp
  obtain ⟨rfl,rfl⟩:=XG.1 h2
  have Ab : ∀ j (hj : j < l.length),w.cell? (q.add j) = some (.int .u8 (l[j].toNat : Int)):=by
   intro j hj
   have hq:=h1 (by omega)
   obtain ⟨q1,q2,q3⟩:=q
   simp only at hq
   subst hq
   rw [Addr.add_lit]
   exact h3 j _ (by rw [Zax]; simp [hj])
  simp only [Sem.run_bind,run_convert_bytes_back w src dst el q cap l hs he ht Ab]
  rfl
theorem Zba (s : Str) : (⟨s.l.toArray⟩ : ByteArray).toList = s.l:=by rw [ByteArray.toList_eq]
theorem Zre {op : BinOp} {p q : Str} {y' : TypeId} (h : Env n a e) (hw : Goes ops ⟨some d,.binOp op t x y y',ty,pos,af,g⟩ a) (hd : d < n) (hx : opv e x = some (vS p)) (hy : opv e y = some (vS q)) {r : Value}
  (hr : ∀ w,(Op.stringOp op ⟨p.l.toArray⟩ ⟨q.l.toArray⟩).run P w = .ok r w)
  (k : ∀ a,Env n a ((d,r) :: e) → wpList P ops Q rest a w) : wpList P ops Q (⟨some d,.binOp op t x y y',ty,pos,af,g⟩ :: rest) a w :=
 XV h hw rfl hd (by
  simp only [execOp,h.ev hx,h.ev hy]
  have hg : (eqGuard op t x y (vS p) (vS q)).run P w = .ok () w:=by cases op <;> simp [eqGuard]
  have hb : (binOp op t (vS p) (vS q)).run P w = .ok r w:=by
   have : binOp op t (vS p) (vS q) = Op.stringOp op ⟨p.l.toArray⟩ ⟨q.l.toArray⟩:=by cases op <;> rfl
   rw [this]; exact hr w
  simp only [Sem.run_bind,hg,hb,Result.andThen_ok]; rfl) k
theorem strEq {p q : Str} : (⟨p.l.toArray⟩ : ByteArray).toList == (⟨q.l.toArray⟩ : ByteArray).toList ↔ p = q:=by
 rw [Zba,Zba]
 obtain ⟨p⟩:=p; obtain ⟨q⟩:=q
 simp
theorem s_eqS {p q : Str} {y' : TypeId} (h : Env n a e) (hw : Goes ops ⟨some d,.binOp .eql t x y y',ty,pos,af,g⟩ a) (hd : d < n) (hx : opv e x = some (vS p)) (hy : opv e y = some (vS q))
  (k : ∀ a,Env n a ((d,vT (decide (p = q))) :: e) → wpList P ops Q rest a w) : wpList P ops Q (⟨some d,.binOp .eql t x y y',ty,pos,af,g⟩ :: rest) a w :=
 Zre h hw hd hx hy (λw=>by
  simp only [Op.stringOp,Sem.run_pure]
  congr 2
  rw [Bool.eq_iff_iff]; simp only [decide_eq_true_eq]; exact strEq) k
def scat (p q : Str) : Option Str:=if p.l.length + q.l.length ≤ 140737488355328 then some ⟨p.l ++ q.l⟩ else none
def sslc (s : Str) (lo hi : Int) : Option Str:=if 0 ≤ lo ∧ lo ≤ hi ∧ hi ≤ s.l.length then some ⟨(s.l.take hi.toNat).drop lo.toNat⟩ else none
theorem Ul {α : Type} {N : Nat} {v : Vector α N} {lo hi : Int} {r : List α} (h : slc v.toList lo hi = some r) : 0 ≤ lo ∧ lo ≤ hi ∧ hi ≤ N:=by
 have:=(jb h).1
 simpa using this
theorem At.sat {α : Type} [Flat α] {w : World} {b o : Nat} {m : Nat} {l : List α} (h : At w b o (XA l)) (hl : l.length = m) (h0 : 0 < Flat.n α) : Rep.sat (Old w) w l [.slice (some ⟨b,o,none⟩) m m] []:=by
 subst hl
 refine ⟨some ⟨b,o,none⟩,l.length,rfl,Nat.le_refl _,λ_=>rfl,XA l,[],XG.2 ⟨rfl,rfl⟩,h,.inl ⟨λhne=>?_,rfl⟩⟩
 by_cases hc : XA l = []
 ·exfalso
  have:=Tw l
  rw [hc] at this
  have h1 : 0 < l.length:=by omega
  have h2:=Nat.mul_pos h1 h0
  simp only [List.length_nil] at this
  omega
 exact h.lt hc
theorem Env.yieldU (h : Env n a e) {j t : Nat} (hj : (ops[j]?).bind (·.dst) = some t) (ht : e.lookup t = some undef) : yielded ops a.tmps j = none:=by
 unfold yielded
 rw [hj]
 have:=h.get t _ ht
 rw [Array.getD_eq_getD_getElem?] at this
 cases hq : a.tmps[t]? with
 | none=>simp [hq]
 | some v=>rw [hq] at this; simp only [Option.getD_some] at this; subst this; simp [hq,undef]
theorem JK (h : Env n a e) {j t d : Nat} {b' : Bool} {x : Op} {ty : TypeId} {p : String} {af : Array Edge} (hj : (ops[j]?).bind (·.dst) = some t) (ht : e.lookup t = some undef)
  (hd : d < n) (k : ∀ a,Env n a ((d,undef) :: e) → wpList P ops Q rest a w) : wpList P ops Q (⟨some d,x,ty,p,af,some (j,b')⟩ :: rest) a w:=by
 unfold wpList
 rw [if_neg (by simp [Region.wanted,h.yieldU hj ht])]
 exact k _ (h.put hd _)
theorem XH {N el sz by_ b o : Nat} {z : List Value} {D : TypeDesc} {lo hi : Option Operand} {vlo vhi : Option Value} {i j : Int}
  (h : Env n a e) (hw : Goes ops ⟨some d,.slice t x lo hi none,ty,pos,af,g⟩ a) (hd : d < n) (hx : opv e x = some (ptr b o)) (hlo : Ze0 e lo = some vlo) (hhi : Ze0 e hi = some vhi)
  (hi1 : bnd vlo 0 = some i) (hj1 : bnd vhi N = some j) (ht : P.underlying t = some (.array N el)) (he : Ty P el D sz by_ z) (hb : 0 ≤ i ∧ i ≤ j ∧ j ≤ N)
  (k : ∀ a,Env n a ((d,ZV (.slice (some ⟨b,o,none⟩) N N) i.toNat j.toNat sz) :: e) → wpList P ops Q rest a w) : wpList P ops Q (⟨some d,.slice t x lo hi none,ty,pos,af,g⟩ :: rest) a w:=by
 obtain ⟨h0,h1,h2⟩:=hb
 refine XV h hw rfl hd (w':=w) ?_ k
 simp only [execOp,h.ev hx,h.evo hlo,h.evo hhi]
 have hsize:=WC he w
 have hlow : ∀ m : Nat,i ≤ m → (match vlo with | some v=>Instr.sliceBound v m .sliceB | none=>pure 0 : Sem Nat).run P w = .ok i.toNat w:=by
  intro m hm
  cases vlo with
  | none=>simp only [bnd,Option.some.injEq] at hi1; subst hi1; rfl
  | some u =>
   cases u <;> simp only [bnd] at hi1 <;> first | cases hi1 | skip
   simp [Instr.sliceBound,asIntOf,h0,hm]
 have hhigh : (match vhi with | some v=>Instr.sliceBound v N .sliceAlen | none=>pure N : Sem Nat).run P w = .ok j.toNat w:=by
  cases vhi with
  | none=>simp only [bnd,Option.some.injEq] at hj1; subst hj1; simp
  | some u =>
   cases u <;> simp only [bnd] at hj1 <;> first | cases hj1 | skip
   have : (0 ≤ j ∧ j ≤ (N : Int)):=by omega
   simp [Instr.sliceBound,asIntOf,this]
 have hbounds : (Instr.sliceBounds false N N vlo vhi none).run P w = .ok (i.toNat,j.toNat,N) w:=by
  have hl:=hlow j.toNat (by omega)
  cases vlo <;> cases vhi <;> simp_all [Instr.sliceBounds]
 have hr : (Instr.sliceAt t (ptr b o) vlo vhi none).run P w = .ok (ZV (.slice (some ⟨b,o,none⟩) N N) i.toNat j.toNat sz) w:=by
  simp only [Instr.sliceAt,Instr.sureAddr,Sem.run_bind,run_underlying ht,Result.andThen_ok,Sem.run_pure,hbounds,hsize,ZV]
  by_cases hN : N = i.toNat <;> simp [hN]
 have hmax : (none : Option Operand).map a.eval = none:=rfl
 simp only [hmax,Sem.run_bind,hr,Result.andThen_ok]
 rfl
end
end
section
open Go

theorem At.set {w : World} {b o k : Nat} {row seg : List Value} {c : Array Value} {T : TypeId} {fz : Nat × Nat} (h : At w b o row) (hheap : w.heap[b]? = some (.cells c T fz)) (hk : k + seg.length ≤ row.length) (hrow : o + row.length ≤ c.size) :
  At (w.setCells b (o + k) seg) b o (Y7 row k seg):=by
 have hfit : o + k + seg.length ≤ c.size:=by omega
 have hh:=Up b T fz seg (o + k) w c hheap hfit
 intro j vv hv
 have hj:=(List.getElem?_eq_some_iff.1 hv).1
 rw [Qk hk] at hj
 simp only [World.cell?,hh,Option.isSome_none,Bool.false_eq_true,if_false]
 rw [List.getElem?_toArray]
 have hrw : ∀ j,j < row.length → c.toList[o + j]? = row[j]?:=by
  intro j hj
  have:=h j _ (List.getElem?_eq_getElem hj)
  simp only [World.cell?,hheap,Option.isSome_none,Bool.false_eq_true,if_false] at this
  rw [List.getElem?_eq_getElem hj]
  simpa using this
 have hcl : c.toList.length = c.size:=by simp
 simp only [Y7] at hv ⊢
 by_cases hj1 : j < k
 ·rw [List.getElem?_append_left (by simp; omega),List.getElem?_take,if_pos hj1] at hv
  rw [List.getElem?_append_left (by rw [List.length_take]; omega),List.getElem?_take,if_pos (by omega),hrw j hj]
  exact hv
 rw [List.getElem?_append_right (by simp; omega)] at hv
 rw [List.getElem?_append_right (by simp; omega)]
 have e1' : (List.take k row).length = k:=by rw [List.length_take]; omega
 have e2' : (List.take (o + k) c.toList).length = o + k:=by rw [List.length_take]; omega
 rw [e1'] at hv
 rw [e2',show o + j - (o + k) = j - k by omega]
 by_cases hj2 : j - k < seg.length
 ·rw [List.getElem?_append_left hj2] at hv ⊢; exact hv
 rw [List.getElem?_append_right (by omega),List.getElem?_drop] at hv ⊢
 rw [show o + k + seg.length + (j - k - seg.length) = o + j by omega,hrw j hj]
 rw [show k + seg.length + (j - k - seg.length) = j by omega] at hv
 exact hv
theorem qN.set {w : World} {b o m b2 o2 : Nat} {seg : List Value} {c : Array Value} {T : TypeId} {fz : Nat × Nat} (h : qN w b o m) (hheap : w.heap[b]? = some (.cells c T fz)) (h2 : b2 = b) (hfit : o2 + seg.length ≤ c.size) : qN (w.setCells b2 o2 seg) b o m:=by
 subst h2
 obtain ⟨c',T',fz',h1,h3,h4⟩:=h
 rw [hheap] at h1
 simp only [Option.some.injEq,Obj.cells.injEq] at h1
 obtain ⟨rfl,rfl,rfl⟩:=h1
 refine ⟨_,T,fz,Up b2 T fz seg _ w c hheap hfit,?_,?_⟩
 ·rw [List.size_toArray,Qk (by simpa using hfit)]; simpa using h3
 intro j hj
 rw [List.size_toArray,Qk (by simpa using hfit)] at hj
 exact h4 j (by simpa using hj)

theorem VC {c d e' : List Value} {r s : List (List Value)} {f : List Value} (h : cat (c :: e' :: r) = cat (d :: f :: s)) (hl : c.length = d.length) : c = d ∧ cat (e' :: r) = cat (f :: s):=List.append_inj h hl

theorem toList_eq {c : Array Value} {l : List Value} (h : c.toList = l) : c = l.toArray:=by rw [← h]

def AH {α : Type} [Rep α] (S : Nat → Prop) (l : List α) (i : Nat) (v : Value) (cs : List Value) : Item:=λw fp =>
 ∃ b o cap c1 c2 f1 f2,v = .slice (some ⟨b,o,none⟩) l.length cap ∧ l.length ≤ cap ∧ i < l.length ∧ c1.length = i * Rep.n α ∧ cs.length = Rep.n α ∧ YA S w (l.take i) c1 f1 ∧ YA S w (l.drop (i + 1)) c2 f2 ∧
  At w b o (c1 ++ (cs ++ c2)) ∧ qN w b o (cap * Rep.n α) ∧ fp = b :: (f1 ++ f2)
section
variable {α : Type} [Rep α] {S St : Nat → Prop} {w w' w0 : World} {l : List α} {v : Value} {i : Nat} {x : α} {cs : List Value} {its : List Item}
theorem Zgi (hS : ∀ b,S b → St b) : Loc St (AH S l i v cs):=by
 rintro w w' fp ⟨b,o,cap,c1,c2,f1,f2,h1,h2,h3,h4,h5,h6,h7,h8,h9,rfl⟩ hb
 exact ⟨b,o,cap,c1,c2,f1,f2,h1,h2,h3,h4,h5,h6.loc (λk hk=>hb k (by rcases hk with h | h; exact .inl (by simp [h]); exact .inr (hS k h))),h7.loc (λk hk=>hb k (by rcases hk with h | h; exact .inl (by simp [h]); exact .inr (hS k h))),
  h8.loc (hb b (by simp)),h9.loc (hb b (by simp)),rfl⟩
theorem M.open1 (hM : M St w0 w (osl S l v :: its)) (hS : ∀ b,S b → St b) (hi : l[i]? = some x) : ∃ cs,M St w0 w (own S x cs :: AH S l i v cs :: its) ∧ At w (sb v) (so v + i * Rep.n α) cs:=by
 obtain ⟨hk,hs,fp,⟨f,f',rfl,_,⟨p,cap,rfl,hcap,hO⟩,hr⟩,hnd,hlt⟩:=hM
 have hil:=(List.getElem?_eq_some_iff.1 hi).1
 rcases hO with ⟨rfl,_⟩ | ⟨b,o,ecs,fpe,rfl,k1,k2,rfl,k3⟩
 ·omega
 obtain ⟨c1,cc,c2,e1,ee,e2,rfl,rfl,q1,q2,q3,q4⟩:=k1.split hi
 have hcc:=Rep.len q3
 refine ⟨cc,⟨hk,hs,ee ++ ((b :: (e1 ++ e2)) ++ f'),⟨ee,_,rfl,Xl hS,q3,b :: (e1 ++ e2),f',rfl,Zgi hS,⟨b,o,cap,c1,c2,e1,e2,rfl,hcap,hil,q1,hcc,q2,q4,k2,k3,rfl⟩,hr⟩,?_,λk hk=>hlt k (by simp at hk ⊢; grind)⟩,?_⟩
 ·refine (List.Perm.nodup_iff ?_).1 hnd
  have : (b :: (e1 ++ (ee ++ e2))) ++ f' = ((b :: e1) ++ ee) ++ (e2 ++ f'):=by simp
  rw [this]
  have h2 : ee ++ ((b :: (e1 ++ e2)) ++ f') = (ee ++ (b :: e1)) ++ (e2 ++ f'):=by simp
  rw [h2]
  exact List.Perm.append_right _ List.perm_append_comm
 have:=(At.append.1 (At.append.1 k2).2).1
 rw [q1] at this
 exact this
theorem M.close1 (hM : M St w0 w (own S x cs :: AH S l i v cs :: its)) (hS : ∀ b,S b → St b) : M St w0 w (osl S (l.set i x) v :: its):=by
 obtain ⟨hk,hs,fp,⟨f,f',rfl,_,h1,g,g',rfl,_,⟨b,o,cap,c1,c2,f1,f2,rfl,h3,h4,h5,h6,h7,h8,h9,h10,rfl⟩,hr⟩,hnd,hlt⟩:=hM
 have h1 : Rep.sat S w x cs f:=h1
 refine ⟨hk,hs,(b :: (f1 ++ (f ++ f2))) ++ g',⟨b :: (f1 ++ (f ++ f2)),g',rfl,TP hS,⟨some ⟨b,o,Option.none⟩,cap,by simp,by simpa using h3,.inr ⟨b,o,_,_,rfl,YA.join h4 h7 h1 h8,h9,rfl,h10⟩⟩,hr⟩,?_,λk hk=>hlt k (by simp at hk ⊢; grind)⟩
 refine (List.Perm.nodup_iff ?_).1 hnd
 have : (b :: (f1 ++ (f ++ f2))) ++ g' = ((b :: f1) ++ f) ++ (f2 ++ g'):=by simp
 rw [this]
 have h2 : f ++ ((b :: (f1 ++ f2)) ++ g') = (f ++ (b :: f1)) ++ (f2 ++ g'):=by simp
 rw [h2]
 exact List.Perm.append_right _ List.perm_append_comm
theorem M.packL {m : List Item} {it : Item} (h : M St w0 w (m ++ its)) (hl : Loc St it) (hp : ∀ fp,XN St w m fp → it w fp) : M St w0 w (it :: its):=by
 obtain ⟨h1,h2,fp,h3,h4,h5⟩:=h
 obtain ⟨f,g,rfl,k1,k2⟩:=XN.split h3
 exact ⟨h1,h2,_,⟨f,g,rfl,hl,hp f k1,k2⟩,h4,h5⟩
theorem M.unpackL {m : List Item} {it : Item} (h : M St w0 w (it :: its)) (hp : ∀ fp,it w fp → XN St w m fp) : M St w0 w (m ++ its):=by
 obtain ⟨h1,h2,fp,⟨f,g,rfl,_,k1,k2⟩,h4,h5⟩:=h
 exact ⟨h1,h2,_,XN.append (hp f k1) k2,h4,h5⟩
theorem XN.one {it : Item} {fp : List Nat} (hl : Loc St it) (h : it w fp) : XN St w [it] fp:=⟨fp,[],by simp,hl,h,rfl⟩
theorem XN.cons {it : Item} {m : List Item} {f g : List Nat} (hl : Loc St it) (h : it w f) (k : XN St w m g) : XN St w (it :: m) (f ++ g):=⟨f,g,rfl,hl,h,k⟩
theorem Zp0 {fp : List Nat} (hs : Rep.sat NoB w l [v] fp) : UO NoB w l v fp:=by
 obtain ⟨p,cap,hv,hc,hp⟩:=hs
 simp only [List.cons.injEq,and_true] at hv
 refine ⟨p,cap,hv,hc,?_⟩
 cases p with
 | none=>exact .inl ⟨hp.1,hp.2,trivial⟩
 | some q =>
  obtain ⟨q1,q2,q3⟩:=q
  obtain ⟨h1,ecs,fpe,h2,h3,h4⟩:=hp
  rcases h4 with ⟨h4,rfl⟩ | ⟨rfl,h4,h5⟩
  ·have hcap : cap = 0:=Classical.byContradiction λhcap=>h4 hcap
   subst hcap
   have hl : l = []:=List.eq_nil_of_length_eq_zero (by omega)
   subst hl
   exact .inl ⟨rfl,h2.2,trivial⟩
  ·simp only at h5
   subst h5
   exact .inr ⟨q1,q2,ecs,fpe,rfl,h2,h3,rfl,h4⟩
theorem M.toOsl0 (h : M St w0 w (own NoB l [v] :: its)) : M St w0 w (osl NoB l v :: its):=h.pack1 (TP noB) λ_ k=>Zp0 k
theorem M.toOwn (h : M St w0 w (osl S l v :: its)) (hS : ∀ b,S b → St b) : M St w0 w (own S l [v] :: its):=h.pack1 (Xl hS) λ_ k=>UO.sat k
end
section
variable {n : Nat} {a : Act} {e : List (Nat × Value)} {w w' : World} {P : Program} {ops : Array Oper} {rest : List Oper} {Q : Exit → Act → World → Prop}
variable {d : Nat} {ty t : TypeId} {pos : String} {af : Array Edge} {g : Option (Nat × Bool)} {x y : Operand} {v u : Value}
variable {St : Nat → Prop} {w0 : World} {its : List Item}
theorem Zfa {α : Type} [Rep α] {S : Nat → Prop} {l : List α} {fp : List Nat} {el y' : TypeId} (h : Env n a e) (hw : Goes ops ⟨some d,.binOp .eql t x y y',ty,pos,af,g⟩ a) (hd : d < n) (hx : opv e x = some v) (hy : opv e y = some (.slice none 0 0)) (ht : P.underlying t = some (.slice el)) (hs : Rep.sat S w l [v] fp)
  (k : ∀ b a,(b = true → l = []) → Env n a ((d,vT b) :: e) → wpList P ops Q rest a w) : wpList P ops Q (⟨some d,.binOp .eql t x y y',ty,pos,af,g⟩ :: rest) a w:=by
 obtain ⟨p,cap,hv,hc,hp⟩:=hs
 simp only [List.cons.injEq,and_true] at hv
 subst hv
 have hr:=run_equal_slice_nil (P:=P) w t el p l.length cap ht
 have hgd : (eqGuard .eql t x y (.slice p l.length cap) (.slice none 0 0)).run P w = .ok () w:=by simp [eqGuard]
 have hb : (binOp .eql t (.slice p l.length cap) (.slice none 0 0)).run P w = .ok (vT p.isNone) w:=by
  simp only [binOp,Sem.run_bind,hr,Result.andThen_ok,Sem.run_pure]
 refine XV h hw rfl hd (by simp only [execOp,h.ev hx,h.ev hy,Sem.run_bind,hgd,hb,Result.andThen_ok]; rfl) λa ha=>k p.isNone a ?_ ha
 intro hn
 cases p with
 | none=>exact List.eq_nil_of_length_eq_zero (by have:=hp.1; omega)
 | some q=>simp at hn
end
end
end Go.Proofs.YtfhhlkkhcoaapaaGreat
