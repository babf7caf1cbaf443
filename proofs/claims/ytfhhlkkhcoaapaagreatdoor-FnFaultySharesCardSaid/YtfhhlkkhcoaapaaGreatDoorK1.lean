/- The walk library: what this claim needs of it. -/
import Derived.ProofKit
import Derived.WalkKit
import Derived.Lib.BytesEntry
import Derived.Test.YtfhhlkkhcoaapaaGreatDoorRows
import Derived.OpenShut
import Derived.Laws.Tables
import Derived.ChangeKeysEq
import Derived.Laws.Cover3
import Derived.Lib.AppendZeros
import Derived.RangeFuncNested
import Derived.RangeFuncBound
import Derived.RangeFuncCalls
import Derived.RangeFuncLeaves
import Derived.RangeFuncBox
import Derived.Shelf.Abstract
import Derived.Shelf.RegionOpen
import Derived.OwnWalkIn
import Derived.TacticsInMore
import Derived.LoopNIn
import Derived.LoopIn
import Derived.Lib.SliceRun
import Derived.Laws.StructEq
import Derived.Lib.AppendZerosOnto
import Derived.Lib.Overlaps
import Derived.Laws.IdiomRangeMap
import Derived.Sort.Grow
import Derived.Lib.SlicesCompact
set_option linter.unusedVariables false
set_option linter.unusedSimpArgs false
set_option linter.unusedSectionVars false
namespace Go.Proofs.YtfhhlkkhcoaapaaGreatDoor
section
open Go

structure Kept (St : Nat → Prop) (w w' : World) : Prop where
 os : w'.os = w.os
 tape : w'.tape = w.tape
 output : w'.output = w.output
 size : w.heap.size ≤ w'.heap.size
 block : ∀ b,St b → w'.heap[b]? = w.heap[b]?

theorem Kept.refl (St : Nat → Prop) (w : World) : Kept St w w:=⟨rfl,rfl,rfl,Nat.le_refl _,fun _ _=>rfl⟩
theorem Kept.trans {St : Nat → Prop} {a b c : World} (h : Kept St a b) (k : Kept St b c) : Kept St a c :=
 ⟨k.os.trans h.os,k.tape.trans h.tape,k.output.trans h.output,Nat.le_trans h.size k.size,fun i hi=>(k.block i hi).trans (h.block i hi)⟩
theorem Kept.mono {St St' : Nat → Prop} {a b : World} (h : Kept St a b) (hs : ∀ b,St' b → St b) : Kept St' a b :=
 ⟨h.os,h.tape,h.output,h.size,fun i hi=>h.block i (hs i hi)⟩

def Old (w : World) (b : Nat) : Prop:=b < w.heap.size
def NoB (_ : Nat) : Prop:=False

theorem Kept.drew {St : Nat → Prop} {a w : World} (h : Kept St a w) : Kept St a w.drew:=⟨h.os,h.tape,h.output,h.size,h.block⟩

theorem T0 (w : World) (o : Obj) (k : Nat) (h : k < w.heap.size) : (w.alloc o).heap[k]? = w.heap[k]?:=by
 show (w.heap.push o)[k]? = _
 rw [Array.getElem?_push,if_neg (by omega)]
theorem U4 (w : World) (o : Obj) : (w.alloc o).heap[w.heap.size]? = some o:=by
 show (w.heap.push o)[w.heap.size]? = _
 rw [Array.getElem?_push,if_pos rfl]
theorem Kept.alloc (w : World) (o : Obj) : Kept (Old w) w (w.alloc o) :=
 ⟨rfl,rfl,rfl,by simp,fun b hb=>T0 w o b hb⟩

def At (w : World) (b o : Nat) (cs : List Value) : Prop:=∀ i v,cs[i]? = some v → w.cell? ⟨b,o + i,none⟩ = some v

def Ae (w : World) (b o m : Nat) : Prop:=∃ c T fz,w.heap[b]? = some (.cells c T fz) ∧ o + m ≤ c.size ∧ ∀ i,i < c.size → ¬ (fz.1 ≤ i ∧ i < fz.2)

theorem cell?_of_heap {w w' : World} {b : Nat} (h : w'.heap[b]? = w.heap[b]?) (o : Nat) : w'.cell? ⟨b,o,none⟩ = w.cell? ⟨b,o,none⟩:=by
 simp [World.cell?,h]
theorem At.loc {w w' : World} {b o : Nat} {cs : List Value} (h : At w b o cs) (hb : w'.heap[b]? = w.heap[b]?) : At w' b o cs :=
 fun i v hv=>by rw [cell?_of_heap hb]; exact h i v hv
theorem At.nil (w : World) (b o : Nat) : At w b o []:=fun i v h=>by simp at h
theorem At.append {w : World} {b o : Nat} {c d : List Value} : At w b o (c ++ d) ↔ At w b o c ∧ At w b (o + c.length) d:=by
 constructor
 ·intro h
  refine ⟨fun i v hv=>h i v ?_,fun i v hv=>?_⟩
  ·rw [List.getElem?_append_left (by have:=(List.getElem?_eq_some_iff.1 hv).1; exact this)]; exact hv
  ·have:=h (c.length + i) v (by rw [List.getElem?_append_right (by omega)]; simpa using hv)
   rw [← Nat.add_assoc] at this; exact this
 ·rintro ⟨h1,h2⟩ i v hv
  by_cases hi : i < c.length
  ·exact h1 i v (by rw [List.getElem?_append_left hi] at hv; exact hv)
  ·have:=h2 (i - c.length) v (by rw [List.getElem?_append_right (by omega)] at hv; exact hv)
   rw [show o + c.length + (i - c.length) = o + i by omega] at this; exact this
theorem At.lt {w : World} {b o : Nat} {cs : List Value} (h : At w b o cs) (hc : cs ≠ []) : b < w.heap.size:=by
 cases cs with
 | nil=>exact absurd rfl hc
 | cons v r =>
  have:=h 0 v rfl
  simp only [World.cell?] at this
  rcases Nat.lt_or_ge b w.heap.size with hb | hb
  ·exact hb
  ·simp [Array.getElem?_eq_none hb] at this
theorem Ae.loc {w w' : World} {b o m : Nat} (h : Ae w b o m) (hb : w'.heap[b]? = w.heap[b]?) : Ae w' b o m:=by
 obtain ⟨c,T,fz,h1,h2⟩:=h; exact ⟨c,T,fz,by rw [hb]; exact h1,h2⟩
theorem Ae.lt {w : World} {b o m : Nat} (h : Ae w b o m) : b < w.heap.size:=by
 obtain ⟨c,T,fz,h1,h2⟩:=h
 rcases Nat.lt_or_ge b w.heap.size with hb | hb
 ·exact hb
 ·simp [Array.getElem?_eq_none hb] at h1
theorem At.of_heap {w : World} {b : Nat} {cs : List Value} {T : TypeId} {fz : Nat × Nat} (h : w.heap[b]? = some (.cells cs.toArray T fz)) : At w b 0 cs:=by
 intro i v hv
 simp [World.cell?,h,hv]


class Flat (α : Type) where
 n : Nat
 enc : α → List Value
 len : ∀ x,(enc x).length = n
 cell : ∀ x,∀ v ∈ enc x,v.oneCell' = true

class Rep (α : Type) where
 n : Nat
 sat : (Nat → Prop) → World → α → List Value → List Nat → Prop
 len : ∀ {S w x cs fp},sat S w x cs fp → cs.length = n
 loc : ∀ {S w w' x cs fp},sat S w x cs fp → (∀ b,(b ∈ fp ∨ S b) → w'.heap[b]? = w.heap[b]?) → sat S w' x cs fp
 ro : ∀ {S S' : Nat → Prop} {w x cs fp},sat S w x cs fp → (∀ b,(b ∈ fp ∨ S b) → S' b) → sat S' w x cs []
 wk : ∀ {S S' : Nat → Prop} {w x cs fp},sat S w x cs fp → (∀ b,S b → S' b) → sat S' w x cs fp
 lt : ∀ {S w x cs fp},sat S w x cs fp → ∀ b ∈ fp,b < w.heap.size
 cell : ∀ {S w x cs fp},sat S w x cs fp → ∀ v ∈ cs,v.oneCell' = true

instance (priority:=low) ofFlat {α : Type} [Flat α] : Rep α where
 n:=Flat.n α
 sat:=fun _ _ x cs fp=>cs = Flat.enc x ∧ fp = []
 len:=fun h=>by rw [h.1]; exact Flat.len _
 loc:=fun h _=>h
 ro:=fun h _=>⟨h.1,rfl⟩
 wk:=fun h _=>h
 lt:=fun h b hb=>by rw [h.2] at hb; cases hb
 cell:=fun h=>by rw [h.1]; exact Flat.cell _

theorem QQ {α : Type} [Flat α] {S : Nat → Prop} {w : World} {x : α} {cs : List Value} {fp : List Nat} : Rep.sat S w x cs fp ↔ cs = Flat.enc x ∧ fp = []:=Iff.rfl

def Z1 {α : Type} [Rep α] (S : Nat → Prop) (w : World) : List α → List Value → List Nat → Prop
 | [],cs,fp=>cs = [] ∧ fp = []
 | x :: l,cs,fp=>∃ c cs' f fp',cs = c ++ cs' ∧ fp = f ++ fp' ∧ Rep.sat S w x c f ∧ Z1 S w l cs' fp'

section
variable {α : Type} [Rep α] {S S' : Nat → Prop} {w w' : World}
theorem Z1.len : ∀ {l : List α} {cs : List Value} {fp : List Nat},Z1 S w l cs fp → cs.length = l.length * Rep.n α
 | [],_,_,h=>by obtain ⟨rfl,_⟩:=h; simp
 | x :: l,_,_,h=>by
  obtain ⟨c,cs',f,fp',rfl,_,h1,h2⟩:=h
  rw [List.length_append,Rep.len h1,Z1.len h2,List.length_cons,Nat.add_mul]; omega
theorem Z1.loc : ∀ {l : List α} {cs : List Value} {fp : List Nat},Z1 S w l cs fp → (∀ b,(b ∈ fp ∨ S b) → w'.heap[b]? = w.heap[b]?) → Z1 S w' l cs fp
 | [],_,_,h,_=>h
 | x :: l,_,_,h,hb=>by
  obtain ⟨c,cs',f,fp',rfl,rfl,h1,h2⟩:=h
  exact ⟨c,cs',f,fp',rfl,rfl,Rep.loc h1 (fun b h=>hb b (by simp; grind)),Z1.loc h2 (fun b h=>hb b (by simp; grind))⟩
theorem Z1.ro : ∀ {l : List α} {cs : List Value} {fp : List Nat},Z1 S w l cs fp → (∀ b,(b ∈ fp ∨ S b) → S' b) → Z1 S' w l cs []
 | [],_,_,h,_=>⟨h.1,rfl⟩
 | x :: l,_,_,h,hb=>by
  obtain ⟨c,cs',f,fp',rfl,rfl,h1,h2⟩:=h
  exact ⟨c,cs',[],[],rfl,rfl,Rep.ro h1 (fun b h=>hb b (by simp; grind)),Z1.ro h2 (fun b h=>hb b (by simp; grind))⟩
theorem Z1.wk : ∀ {l : List α} {cs : List Value} {fp : List Nat},Z1 S w l cs fp → (∀ b,S b → S' b) → Z1 S' w l cs fp
 | [],_,_,h,_=>h
 | x :: l,_,_,h,hb=>by
  obtain ⟨c,cs',f,fp',rfl,rfl,h1,h2⟩:=h
  exact ⟨c,cs',f,fp',rfl,rfl,Rep.wk h1 hb,Z1.wk h2 hb⟩
theorem Z1.lt : ∀ {l : List α} {cs : List Value} {fp : List Nat},Z1 S w l cs fp → ∀ b ∈ fp,b < w.heap.size
 | [],_,_,h,b,hb=>by rw [h.2] at hb; cases hb
 | x :: l,_,_,h,b,hb=>by
  obtain ⟨c,cs',f,fp',rfl,rfl,h1,h2⟩:=h
  rcases List.mem_append.1 hb with hb | hb
  ·exact Rep.lt h1 b hb
  ·exact Z1.lt h2 b hb
theorem Z1.cell : ∀ {l : List α} {cs : List Value} {fp : List Nat},Z1 S w l cs fp → ∀ v ∈ cs,v.oneCell' = true
 | [],_,_,h,v,hv=>by rw [h.1] at hv; cases hv
 | x :: l,_,_,h,v,hv=>by
  obtain ⟨c,cs',f,fp',rfl,rfl,h1,h2⟩:=h
  rcases List.mem_append.1 hv with hv | hv
  ·exact Rep.cell h1 v hv
  ·exact Z1.cell h2 v hv
theorem Z1.append : ∀ {l m : List α} {cs ds : List Value} {fp gp : List Nat},Z1 S w l cs fp → Z1 S w m ds gp → Z1 S w (l ++ m) (cs ++ ds) (fp ++ gp)
 | [],_,_,_,_,_,h,k=>by obtain ⟨rfl,rfl⟩:=h; exact k
 | x :: l,_,_,_,_,_,h,k=>by
  obtain ⟨c,cs',f,fp',rfl,rfl,h1,h2⟩:=h
  exact ⟨c,cs' ++ _,f,fp' ++ _,by simp,by simp,h1,Z1.append h2 k⟩
theorem Z1.split : ∀ {l : List α} {cs : List Value} {fp : List Nat} {i : Nat} {x : α},Z1 S w l cs fp → l[i]? = some x →
  ∃ c1 c c2 f1 f f2,cs = c1 ++ (c ++ c2) ∧ fp = f1 ++ (f ++ f2) ∧ c1.length = i * Rep.n α ∧ Z1 S w (l.take i) c1 f1 ∧ Rep.sat S w x c f ∧ Z1 S w (l.drop (i + 1)) c2 f2
 | [],_,_,_,_,_,hi=>by simp at hi
 | y :: l,_,_,0,x,h,hi=>by
  obtain ⟨c,cs',f,fp',rfl,rfl,h1,h2⟩:=h
  simp only [List.getElem?_cons_zero,Option.some.injEq] at hi
  subst hi
  exact ⟨[],c,cs',[],f,fp',rfl,rfl,by simp,⟨rfl,rfl⟩,h1,h2⟩
 | y :: l,_,_,i + 1,x,h,hi=>by
  obtain ⟨c,cs',f,fp',rfl,rfl,h1,h2⟩:=h
  obtain ⟨c1,d,c2,f1,g,f2,rfl,rfl,e1,k1,k2,k3⟩:=Z1.split h2 (by simpa using hi)
  refine ⟨c ++ c1,d,c2,f ++ f1,g,f2,by simp,by simp,?_,⟨c,c1,f,f1,rfl,rfl,h1,k1⟩,k2,k3⟩
  rw [List.length_append,Rep.len h1,e1,Nat.add_mul]; omega
theorem Z1.join : ∀ {l : List α} {i : Nat} {x : α} {c1 c c2 : List Value} {f1 f f2 : List Nat},i < l.length → Z1 S w (l.take i) c1 f1 → Rep.sat S w x c f → Z1 S w (l.drop (i + 1)) c2 f2 →
  Z1 S w (l.set i x) (c1 ++ (c ++ c2)) (f1 ++ (f ++ f2))
 | [],_,_,_,_,_,_,_,_,hi,_,_,_=>by simp at hi
 | y :: l,0,x,c1,c,c2,f1,f,f2,_,h1,h2,h3=>by
  obtain ⟨rfl,rfl⟩:=h1
  exact ⟨c,c2,f,f2,rfl,rfl,h2,h3⟩
 | y :: l,i + 1,x,c1,c,c2,f1,f,f2,hi,h1,h2,h3=>by
  obtain ⟨d,cs',g,fp',rfl,rfl,k1,k2⟩:=h1
  refine ⟨d,cs' ++ (c ++ c2),g,fp' ++ (f ++ f2),by simp,by simp,k1,Z1.join (by simpa using hi) k2 h2 h3⟩

def zZ (w : World) (q : Addr) (m : Nat) : Prop:=Ae w q.block q.off m ∧ q.spot = none
theorem zZ.loc {w w' : World} {q : Addr} {m : Nat} (h : zZ w q m) (hb : w'.heap[q.block]? = w.heap[q.block]?) : zZ w' q m:=⟨h.1.loc hb,h.2⟩
theorem zZ.lt {w : World} {q : Addr} {m : Nat} (h : zZ w q m) : Old w q.block:=h.1.lt
def SlSat (S : Nat → Prop) (w : World) (l : List α) (cs : List Value) (fp : List Nat) : Prop :=
 ∃ p cap,cs = [.slice p l.length cap] ∧ l.length ≤ cap ∧
  match p with
  | none=>cap = 0 ∧ fp = []
  | some q=>(cap ≠ 0 → q.spot = none) ∧ ∃ ecs fpe,Z1 S w l ecs fpe ∧ At w q.block q.off ecs ∧
    (((cap ≠ 0 → S q.block) ∧ fp = fpe) ∨ (fp = q.block :: fpe ∧ zZ w q (cap * Rep.n α)))

instance : Rep (List α) where
 n:=1
 sat:=SlSat
 len:=by rintro S w x cs fp ⟨p,cap,rfl,_⟩; rfl
 loc:=by
  rintro S w w' x cs fp ⟨p,cap,rfl,hc,h⟩ hb
  refine ⟨p,cap,rfl,hc,?_⟩
  cases p with
  | none=>exact h
  | some q =>
   obtain ⟨hs,ecs,fpe,h1,h2,h3⟩:=h
   rcases h3 with ⟨h3,rfl⟩ | ⟨rfl,h3⟩
   ·refine ⟨hs,ecs,fp,Z1.loc h1 hb,?_,.inl ⟨h3,rfl⟩⟩
    by_cases hx : x = []
    ·subst hx; obtain ⟨rfl,_⟩:=h1; exact At.nil _ _ _
    ·exact h2.loc (hb _ (.inr (h3 (by have:=List.length_pos_iff.2 hx; omega))))
   ·exact ⟨hs,ecs,fpe,Z1.loc h1 (fun b h=>hb b (by simp; grind)),h2.loc (hb _ (by simp)),.inr ⟨rfl,h3.loc (hb _ (by simp))⟩⟩
 ro:=by
  rintro S S' w x cs fp ⟨p,cap,rfl,hc,h⟩ hb
  refine ⟨p,cap,rfl,hc,?_⟩
  cases p with
  | none=>exact ⟨h.1,rfl⟩
  | some q =>
   obtain ⟨hs,ecs,fpe,h1,h2,h3⟩:=h
   rcases h3 with ⟨h3,rfl⟩ | ⟨rfl,h3⟩
   ·exact ⟨hs,ecs,[],Z1.ro h1 hb,h2,.inl ⟨fun h=>hb _ (.inr (h3 h)),rfl⟩⟩
   ·exact ⟨hs,ecs,[],Z1.ro h1 (fun b h=>hb b (by simp; grind)),h2,.inl ⟨fun _=>hb _ (by simp),rfl⟩⟩
 wk:=by
  rintro S S' w x cs fp ⟨p,cap,rfl,hc,h⟩ hb
  refine ⟨p,cap,rfl,hc,?_⟩
  cases p with
  | none=>exact h
  | some q =>
   obtain ⟨hs,ecs,fpe,h1,h2,h3⟩:=h
   rcases h3 with ⟨h3,rfl⟩ | ⟨rfl,h3⟩
   ·exact ⟨hs,ecs,fp,Z1.wk h1 hb,h2,.inl ⟨fun h=>hb _ (h3 h),rfl⟩⟩
   ·exact ⟨hs,ecs,fpe,Z1.wk h1 hb,h2,.inr ⟨rfl,h3⟩⟩
 lt:=by
  rintro S w x cs fp ⟨p,cap,rfl,hc,h⟩ b hb
  cases p with
  | none=>rw [h.2] at hb; cases hb
  | some q =>
   obtain ⟨hs,ecs,fpe,h1,h2,h3⟩:=h
   rcases h3 with ⟨h3,rfl⟩ | ⟨rfl,h3⟩
   ·exact Z1.lt h1 b hb
   ·rcases List.mem_cons.1 hb with rfl | hb
    ·exact h3.lt
    ·exact Z1.lt h1 b hb
 cell:=by
  rintro S w x cs fp ⟨p,cap,rfl,_⟩ v hv
  simp at hv; subst hv; rfl
end

abbrev RoS {α : Type} [Rep α] (S : Nat → Prop) (w : World) (x : α) (cs : List Value) : Prop:=Rep.sat S w x cs []
abbrev Ro {α : Type} [Rep α] (w : World) (x : α) (cs : List Value) : Prop:=Rep.sat (Old w) w x cs []


abbrev Item:=World → List Nat → Prop
def Loc (St : Nat → Prop) (it : Item) : Prop:=∀ w w' fp,it w fp → (∀ b,(b ∈ fp ∨ St b) → w'.heap[b]? = w.heap[b]?) → it w' fp
theorem Loc.mono {St St' : Nat → Prop} {it : Item} (h : Loc St it) (hs : ∀ b,St b → St' b) : Loc St' it :=
 fun w w' fp hi hb=>h w w' fp hi fun b h=>hb b (h.imp id (hs b))

def own {α : Type} [Rep α] (S : Nat → Prop) (x : α) (cs : List Value) : Item:=fun w fp=>Rep.sat S w x cs fp
def raw (b : Nat) (cs : List Value) : Item:=fun w fp=>fp = [b] ∧ ∃ T,w.heap[b]? = some (.cells cs.toArray T (0,0))
def emp : Item:=fun _ fp=>fp = []

theorem VS {α : Type} [Rep α] {S St : Nat → Prop} {x : α} {cs : List Value} (hs : ∀ b,S b → St b) : Loc St (own S x cs) :=
 fun _ _ _ h hb=>Rep.loc h fun b h=>hb b (h.imp id (hs b))
theorem kW {St : Nat → Prop} {b : Nat} {cs : List Value} : Loc St (raw b cs) :=
 fun w w' fp h hb=>by obtain ⟨rfl,T,h⟩:=h; exact ⟨rfl,T,by rw [hb b (by simp)]; exact h⟩
theorem Zcm {St : Nat → Prop} : Loc St emp:=fun _ _ _ h _=>h

def WD (St : Nat → Prop) (w : World) : List Item → List Nat → Prop
 | [],fp=>fp = []
 | it :: r,fp=>∃ f f',fp = f ++ f' ∧ Loc St it ∧ it w f ∧ WD St w r f'

section
variable {St St' : Nat → Prop} {w w' : World}
theorem WD.loc : ∀ {l : List Item} {fp : List Nat},WD St w l fp → (∀ b,(b ∈ fp ∨ St b) → w'.heap[b]? = w.heap[b]?) → WD St w' l fp
 | [],_,h,_=>h
 | it :: r,_,h,hb=>by
  obtain ⟨f,f',rfl,hl,h1,h2⟩:=h
  exact ⟨f,f',rfl,hl,hl _ _ _ h1 (fun b h=>hb b (by simp; grind)),WD.loc h2 (fun b h=>hb b (by simp; grind))⟩
theorem WD.mono : ∀ {l : List Item} {fp : List Nat},WD St w l fp → (∀ b,St b → St' b) → WD St' w l fp
 | [],_,h,_=>h
 | it :: r,_,h,hb=>by
  obtain ⟨f,f',rfl,hl,h1,h2⟩:=h
  exact ⟨f,f',rfl,hl.mono hb,h1,WD.mono h2 hb⟩
theorem WD.append : ∀ {l m : List Item} {fp gp : List Nat},WD St w l fp → WD St w m gp → WD St w (l ++ m) (fp ++ gp)
 | [],_,_,_,h,k=>by cases h; exact k
 | it :: r,_,_,_,h,k=>by
  obtain ⟨f,f',rfl,hl,h1,h2⟩:=h
  exact ⟨f,f' ++ _,by simp,hl,h1,WD.append h2 k⟩
theorem WD.split : ∀ {l m : List Item} {fp : List Nat},WD St w (l ++ m) fp → ∃ f g,fp = f ++ g ∧ WD St w l f ∧ WD St w m g
 | [],_,fp,h=>⟨[],fp,rfl,rfl,h⟩
 | it :: r,_,_,h=>by
  obtain ⟨f,f',rfl,hl,h1,h2⟩:=h
  obtain ⟨g,g',rfl,k1,k2⟩:=WD.split h2
  exact ⟨f ++ g,g',by simp,⟨f,g,rfl,hl,h1,k1⟩,k2⟩
end

structure M (St : Nat → Prop) (w0 w : World) (items : List Item) : Prop where
 kept : Kept St w0 w
 st : ∀ b,St b → b < w0.heap.size
 sep : ∃ fp,WD St w items fp ∧ fp.Nodup ∧ ∀ b ∈ fp,¬ St b ∧ b < w.heap.size

def Fr (w w' : World) (items : List Item) : Prop :=
 ∃ fp,WD NoB w' items fp ∧ fp.Nodup ∧ ∀ b ∈ fp,w.heap.size ≤ b ∧ b < w'.heap.size
def FrS (S : Nat → Prop) (w w' : World) (items : List Item) : Prop :=
 ∃ fp,WD S w' items fp ∧ fp.Nodup ∧ ∀ b ∈ fp,w.heap.size ≤ b ∧ b < w'.heap.size

section
variable {St : Nat → Prop} {w0 w w' : World} {its : List Item} {it : Item}
theorem M.start (w : World) : M (Old w) w w []:=⟨.refl _ _,fun _ h=>h,[],rfl,List.nodup_nil,fun _ h=>by cases h⟩
theorem M.st' (h : M St w0 w its) : ∀ b,St b → b < w.heap.size:=fun b hb=>Nat.lt_of_lt_of_le (h.st b hb) h.kept.size
theorem M.pull {pre post : List Item} (h : M St w0 w (pre ++ it :: post)) : M St w0 w (it :: (pre ++ post)):=by
 obtain ⟨hk,hs,fp,h1,h2,h3⟩:=h
 obtain ⟨f,g,rfl,k1,k2⟩:=WD.split h1
 obtain ⟨g1,g2,rfl,l1,l2,l3⟩:=k2
 refine ⟨hk,hs,g1 ++ (f ++ g2),⟨g1,f ++ g2,rfl,l1,l2,WD.append k1 l3⟩,?_,fun b hb=>h3 b (by simp at hb ⊢; grind)⟩
 refine (List.Perm.nodup_iff ?_).1 h2
 rw [← List.append_assoc,← List.append_assoc]
 exact List.Perm.append_right _ List.perm_append_comm
theorem M.drop (h : M St w0 w (it :: its)) : M St w0 w its:=by
 obtain ⟨hk,hs,fp,⟨f,g,rfl,_,_,h1⟩,h2,h3⟩:=h
 exact ⟨hk,hs,g,h1,(List.nodup_append.1 h2).2.1,fun b hb=>h3 b (by simp; grind)⟩
theorem M.keep (h : M St w0 w its) (hk : Kept (Old w) w w') : M St w0 w' its:=by
 obtain ⟨h0,hs,fp,h1,h2,h3⟩:=h
 have hs' : ∀ b,St b → Old w b:=fun b hb=>Nat.lt_of_lt_of_le (hs b hb) h0.size
 refine ⟨h0.trans (hk.mono hs'),hs,fp,WD.loc h1 (fun b hb=>hk.block b ?_),h2,fun b hb=>⟨(h3 b hb).1,Nat.lt_of_lt_of_le (h3 b hb).2 hk.size⟩⟩
 exact hb.elim (fun h=>(h3 b h).2) (hs' b)
theorem M.addS {new : List Item} (h : M St w0 w its) (hk : Kept (Old w) w w') (hf : FrS St w w' new) : M St w0 w' (new ++ its):=by
 have hst:=h.st'
 obtain ⟨h0,hs,fp,h1,h2,h3⟩:=h
 obtain ⟨gp,k1,k2,k3⟩:=hf
 refine ⟨h0.trans (hk.mono hst),hs,gp ++ fp,WD.append k1 (WD.loc h1 fun b hb=>hk.block b (hb.elim (fun h=>(h3 b h).2) (hst b))),?_,?_⟩
 ·refine List.nodup_append.2 ⟨k2,h2,fun a ha b hb e=>?_⟩
  subst e
  have:=(k3 a ha).1; have:=(h3 a hb).2; omega
 ·intro b hb
  rcases List.mem_append.1 hb with hb | hb
  ·exact ⟨fun hb'=>absurd (hst b hb') (by have:=(k3 b hb).1; omega),(k3 b hb).2⟩
  ·exact ⟨(h3 b hb).1,Nat.lt_of_lt_of_le (h3 b hb).2 hk.size⟩
theorem Fr.toS {S : Nat → Prop} {new : List Item} (h : Fr w w' new) : FrS S w w' new:=by
 obtain ⟨fp,h1,h2,h3⟩:=h; exact ⟨fp,h1.mono (fun _ h=>h.elim),h2,h3⟩
theorem M.add {new : List Item} (h : M St w0 w its) (hk : Kept (Old w) w w') (hf : Fr w w' new) : M St w0 w' (new ++ its):=h.addS hk hf.toS
theorem M.alloc (h : M St w0 w its) (cs : List Value) (T : TypeId) : M St w0 (w.alloc (.cells cs.toArray T)) (raw w.heap.size cs :: its) :=
 h.addS (new:=[_]) (Kept.alloc _ _) ⟨[w.heap.size],⟨[w.heap.size],[],rfl,kW,⟨rfl,T,U4 _ _⟩,rfl⟩,by simp,fun b hb=>by simp at hb; subst hb; simp⟩
theorem M.head (h : M St w0 w (it :: its)) : ∃ fp,it w fp ∧ ∀ b ∈ fp,b < w.heap.size:=by
 obtain ⟨_,_,fp,⟨f,g,rfl,_,h1,_⟩,_,h3⟩:=h
 exact ⟨f,h1,fun b hb=>(h3 b (by simp; grind)).2⟩
theorem M.get {pre post : List Item} (h : M St w0 w (pre ++ it :: post)) : ∃ fp,it w fp ∧ ∀ b ∈ fp,b < w.heap.size:=h.pull.head
theorem M.ro {α : Type} [Rep α] {S : Nat → Prop} {x : α} {cs : List Value} {pre post : List Item} (h : M St w0 w (pre ++ own S x cs :: post)) (hS : ∀ b,S b → Old w b) : Ro w x cs:=by
 obtain ⟨fp,h1,h2⟩:=h.get
 exact Rep.ro h1 fun b hb=>hb.elim (h2 b) (hS b)
theorem M.rawAt {b : Nat} {cs : List Value} {pre post : List Item} (h : M St w0 w (pre ++ raw b cs :: post)) : At w b 0 cs:=by
 obtain ⟨fp,⟨rfl,T,h1⟩,_⟩:=h.get
 exact At.of_heap h1
theorem M.turn {new : List Item} (h : M St w0 w (it :: its)) (hos : w'.os = w.os) (htape : w'.tape = w.tape) (hout : w'.output = w.output) (hsize : w.heap.size ≤ w'.heap.size)
  (ht : ∀ fp,it w fp → (∀ b ∈ fp,¬ St b ∧ b < w.heap.size) → fp.Nodup → (∀ b,b ∉ fp → b < w.heap.size → w'.heap[b]? = w.heap[b]?) ∧
   ∃ fp',WD St w' new fp' ∧ fp'.Nodup ∧ ∀ b ∈ fp',b ∈ fp ∨ (w.heap.size ≤ b ∧ b < w'.heap.size)) : M St w0 w' (new ++ its):=by
 have hst:=h.st'
 obtain ⟨h0,hs,fp,⟨f,g,rfl,hl,h1,h2⟩,h3,h4⟩:=h
 obtain ⟨n1,n2,n3⟩:=List.nodup_append.1 h3
 obtain ⟨k1,fp',k2,k3,k4⟩:=ht f h1 (fun b hb=>h4 b (by simp; grind)) n1
 have keepg : ∀ b,(b ∈ g ∨ St b) → w'.heap[b]? = w.heap[b]?:=by
  intro b hb
  refine k1 b (fun hf=>?_) ?_
  ·rcases hb with hb | hb
   ·exact n3 b hf b hb rfl
   ·exact (h4 b (by simp; grind)).1 hb
  ·rcases hb with hb | hb
   ·exact (h4 b (by simp; grind)).2
   ·exact hst b hb
 refine ⟨h0.trans ⟨hos,htape,hout,hsize,fun b hb=>keepg b (.inr hb)⟩,hs,fp' ++ g,WD.append k2 (WD.loc h2 keepg),?_,?_⟩
 ·refine List.nodup_append.2 ⟨k3,n2,fun a ha b hb e=>?_⟩
  subst e
  rcases k4 a ha with hf | ⟨hf,_⟩
  ·exact n3 a hf a hb rfl
  ·have:=(h4 a (by simp; grind)).2; omega
 ·intro b hb
  rcases List.mem_append.1 hb with hb | hb
  ·rcases k4 b hb with hf | ⟨hf,hf'⟩
   ·exact ⟨(h4 b (by simp; grind)).1,Nat.lt_of_lt_of_le (h4 b (by simp; grind)).2 hsize⟩
   ·exact ⟨fun hb'=>absurd (hst b hb') (by omega),hf'⟩
  ·exact ⟨(h4 b (by simp; grind)).1,Nat.lt_of_lt_of_le (h4 b (by simp; grind)).2 hsize⟩
end
end
section
open Go

structure Str where
 l : List UInt8
 deriving DecidableEq,Inhabited
abbrev vI (x : Int) : Value:=.int .i64 x
abbrev vU (x : Int) : Value:=.int .u64 x
abbrev vB (x : UInt8) : Value:=.int .u8 x.toNat
abbrev vT (x : Bool) : Value:=.bool x
abbrev vS (x : Str) : Value:=.string ⟨x.l.toArray⟩
instance : Flat UInt8:=⟨1,fun x=>[vB x],fun _=>rfl,fun _ v h=>by simp at h; subst h; rfl⟩
instance : Flat Int:=⟨1,fun x=>[vI x],fun _=>rfl,fun _ v h=>by simp at h; subst h; rfl⟩
instance : Flat Bool:=⟨1,fun x=>[vT x],fun _=>rfl,fun _ v h=>by simp at h; subst h; rfl⟩
instance : Flat Str:=⟨1,fun x=>[vS x],fun _=>rfl,fun _ v h=>by simp at h; subst h; rfl⟩
def VN {α : Type} [Flat α] : List α → List Value
 | []=>[]
 | x :: l=>Flat.enc x ++ VN l
theorem QT {α : Type} [Flat α] : ∀ l : List α,(VN l).length = l.length * Flat.n α
 | []=>by simp [VN]
 | x :: l=>by rw [VN,List.length_append,Flat.len,QT l,List.length_cons,Nat.add_mul]; omega
theorem yg {α : Type} [Flat α] : ∀ l : List α,∀ v ∈ VN l,v.oneCell' = true
 | [],v,h=>by cases h
 | x :: l,v,h=>by
  rcases List.mem_append.1 h with h | h
  ·exact Flat.cell x v h
  ·exact yg l v h
instance {α : Type} [Flat α] {n : Nat} : Flat (Vector α n):=⟨n * Flat.n α,fun v=>VN v.toList,fun v=>by rw [QT]; simp,fun v=>yg _⟩
abbrev enc {α : Type} [Flat α] (x : α) : List Value:=Flat.enc x

abbrev wr (x : Int) : Int:=IntKind.i64.wrap x
abbrev wru (x : Int) : Int:=IntKind.u64.wrap x

structure Env (n : Nat) (a : Act) (e : List (Nat × Value)) : Prop where
 sz : a.tmps.size = n
 df : a.defers = []
 get : ∀ t v,e.lookup t = some v → a.tmps.getD t undef = v

def opv (e : List (Nat × Value)) : Operand → Option Value
 | .tmp t=>e.lookup t
 | .const v=>some v
 | .global g=>some (.pointer (some ⟨g,0,none⟩))
 | .func f=>some (.func (.func f) #[] #[])

section
variable {n : Nat} {a : Act} {e : List (Nat × Value)} {w w' : World} {P : Program} {ops : Array Oper} {rest : List Oper} {Q : Exit → Act → World → Prop}
theorem Env.ev (h : Env n a e) {x : Operand} {v : Value} (hx : opv e x = some v) : a.eval x = v:=by
 cases x with
 | tmp t=>exact h.get t v hx
 | const u=>simp only [opv,Option.some.injEq] at hx; exact hx
 | global g=>simpa [opv,Act.eval] using hx
 | func f=>simpa [opv,Act.eval] using hx
theorem Env.put (h : Env n a e) {d : Nat} (hd : d < n) (v : Value) : Env n (a.put (some d) v) ((d,v) :: e):=by
 refine ⟨by simp [Act.put,h.sz],h.df,fun t u ht=>?_⟩
 simp only [List.lookup_cons] at ht
 by_cases hdt : t = d
 ·subst hdt
  simp at ht
  subst ht
  simp [Act.put,h.sz,hd,Array.getD]
 ·have : (t == d) = false:=by simpa using hdt
  rw [this] at ht
  have:=h.get t u ht
  simp only [Act.put,Array.getD_eq_getD_getElem?,Array.getElem?_setIfInBounds] at this ⊢
  rw [if_neg (by omega)]
  exact this
def HN (e : List (Nat × Value)) : List (Nat × Value) → Prop
 | []=>True
 | p :: r=>e.lookup p.1 = some p.2 ∧ HN e r
theorem HN.look {e : List (Nat × Value)} : ∀ {e' : List (Nat × Value)},HN e e' → ∀ t v,e'.lookup t = some v → e.lookup t = some v
 | [],_,t,v,h=>by simp at h
 | (s,u) :: r,h,t,v,hv=>by
  simp only [List.lookup_cons] at hv
  by_cases ht : t = s
  ·subst ht; simp at hv; subst hv; exact h.1
  ·rw [show (t == s) = false by simpa using ht] at hv; exact HN.look h.2 t v hv
theorem Env.sub {e' : List (Nat × Value)} (h : Env n a e) (hs : HN e e') : Env n a e':=⟨h.sz,h.df,fun t v ht=>h.get t v (hs.look t v ht)⟩

abbrev Goes (ops : Array Oper) (o : Oper) (a : Act) : Prop:=Region.wanted o (yielded ops a.tmps) = true
theorem Za {d : Option Tmp} {x : Op} {t : TypeId} {p : String} {af : Array Edge} : Goes ops ⟨d,x,t,p,af,none⟩ a:=rfl
theorem Env.yield (h : Env n a e) {j t : Nat} {b : Bool} (hj : (ops[j]?).bind (·.dst) = some t) (ht : e.lookup t = some (.bool b)) : yielded ops a.tmps j = some b:=by
 unfold yielded
 rw [hj]
 have:=h.get t _ ht
 rw [Array.getD_eq_getD_getElem?] at this
 cases hq : a.tmps[t]? with
 | none=>rw [hq] at this; simp [undef] at this
 | some v=>rw [hq] at this; simp only [Option.getD_some] at this; subst this; simp [hq]
theorem Zf (h : Env n a e) {j t : Nat} {b : Bool} {d : Option Tmp} {x : Op} {ty : TypeId} {p : String} {af : Array Edge} (hj : (ops[j]?).bind (·.dst) = some t) (ht : e.lookup t = some (.bool b)) :
  Goes ops ⟨d,x,ty,p,af,some (j,b)⟩ a:=by
 simp [Goes,Region.wanted,h.yield hj ht]
theorem Zg (h : Env n a e) {j t d : Nat} {b b' : Bool} {x : Op} {ty : TypeId} {p : String} {af : Array Edge} (hj : (ops[j]?).bind (·.dst) = some t) (ht : e.lookup t = some (.bool b))
  (hb : b = !b') (hd : d < n) (k : ∀ a,Env n a ((d,undef) :: e) → wpList P ops Q rest a w) : wpList P ops Q (⟨some d,x,ty,p,af,some (j,b')⟩ :: rest) a w:=by
 unfold wpList
 rw [if_neg (by simp [Region.wanted,h.yield hj ht,hb])]
 exact k _ (h.put hd _)
theorem Xw {o : Oper} {d : Nat} {v : Value} (h : Env n a e) (hw : Goes ops o a) (ho : o.dst = some d) (hd : d < n) (hr : (execOp a.eval o).run P w = .ok (.value v) w')
  (k : ∀ a,Env n a ((d,v) :: e) → wpList P ops Q rest a w') : wpList P ops Q (o :: rest) a w:=by
 unfold wpList
 rw [if_pos hw]
 refine .inl ?_
 unfold Oper.wp
 rw [hr,Oper.upon_value,ho]
 exact k _ (h.put hd _)
theorem ke {o : Oper} (h : Env n a e) (hw : Goes ops o a) (ho : o.dst = none) (hr : (execOp a.eval o).run P w = .ok .skip w')
  (k : ∀ a,Env n a e → wpList P ops Q rest a w') : wpList P ops Q (o :: rest) a w:=by
 unfold wpList
 rw [if_pos hw]
 refine .inl ?_
 unfold Oper.wp
 rw [hr,Oper.upon_skip,ho]
 exact k _ h

variable {d : Nat} {ty ty' : TypeId} {pos : String} {af : Array Edge} {g : Option (Nat × Bool)} {x y z : Operand} {v : Value}

theorem Zh (h : Env n a e) (hw : Goes ops ⟨some d,.move x,ty,pos,af,g⟩ a) (hd : d < n) (hx : opv e x = some v)
  (k : ∀ a,Env n a ((d,v) :: e) → wpList P ops Q rest a w) : wpList P ops Q (⟨some d,.move x,ty,pos,af,g⟩ :: rest) a w :=
 Xw h hw rfl hd (by simp only [execOp,h.ev hx]; rfl) k
theorem YO (h : Env n a e) (hw : Goes ops ⟨some d,.assign x,ty,pos,af,g⟩ a) (hd : d < n) (hx : opv e x = some v)
  (k : ∀ a,Env n a ((d,v) :: e) → wpList P ops Q rest a w) : wpList P ops Q (⟨some d,.assign x,ty,pos,af,g⟩ :: rest) a w :=
 Xw h hw rfl hd (by simp only [execOp,h.ev hx]; rfl) k
theorem WT (h : Env n a e) (hw : Goes ops ⟨some d,.pick x y z,ty,pos,af,g⟩ a) (hd : d < n) (hx : opv e x = some (vT true)) (hy : opv e y = some v)
  (k : ∀ a,Env n a ((d,v) :: e) → wpList P ops Q rest a w) : wpList P ops Q (⟨some d,.pick x y z,ty,pos,af,g⟩ :: rest) a w :=
 Xw h hw rfl hd (by simp only [execOp,h.ev hx]; simp [asBool,h.ev hy]) k
theorem Wl (h : Env n a e) (hw : Goes ops ⟨some d,.pick x y z,ty,pos,af,g⟩ a) (hd : d < n) (hx : opv e x = some (vT false)) (hz : opv e z = some v)
  (k : ∀ a,Env n a ((d,v) :: e) → wpList P ops Q rest a w) : wpList P ops Q (⟨some d,.pick x y z,ty,pos,af,g⟩ :: rest) a w :=
 Xw h hw rfl hd (by simp only [execOp,h.ev hx]; simp [asBool,h.ev hz]) k

def shV (op : BinOp) (k : IntKind) (a b : Int) : Option Value :=
 if b < 0 then none else
 match op with
 | .shl=>some (.int k (k.wrap (a * 2 ^ (min b.toNat k.bits))))
 | .shr=>some (.int k (a.fdiv (2 ^ (min b.toNat k.bits))))
 | _=>none
def Tb (op : BinOp) (k : IntKind) (a b : Int) : Option Value :=
 match op with
 | .add=>some (.int k (k.wrap (a + b)))
 | .sub=>some (.int k (k.wrap (a - b)))
 | .mul=>some (.int k (k.wrap (a * b)))
 | .quo=>if b = 0 then none else some (.int k (k.wrap (a.tdiv b)))
 | .rem=>if b = 0 then none else some (.int k (a.tmod b))
 | .and=>some (.int k (k.wrap (BitVec.ofInt k.bits a &&& BitVec.ofInt k.bits b).toNat))
 | .or=>some (.int k (k.wrap (BitVec.ofInt k.bits a ||| BitVec.ofInt k.bits b).toNat))
 | .xor=>some (.int k (k.wrap (BitVec.ofInt k.bits a ^^^ BitVec.ofInt k.bits b).toNat))
 | .andNot=>some (.int k (k.wrap (BitVec.ofInt k.bits a &&& ~~~ (BitVec.ofInt k.bits b)).toNat))
 | .eql=>some (.bool (a == b))
 | .neq=>some (.bool (a != b))
 | .lss=>some (.bool (decide (a < b)))
 | .leq=>some (.bool (decide (a ≤ b)))
 | .gtr=>some (.bool (decide (a > b)))
 | .geq=>some (.bool (decide (a ≥ b)))
 | _=>none
theorem Zcg {op : BinOp} {t : TypeId} {k : IntKind} {a b : Int} {v : Value} (h : Tb op k a b = some v) : (binOp op t (.int k a) (.int k b)).run P w = .ok v w:=by
 cases op <;> simp only [Tb] at h <;> (try split at h) <;> (try (simp at h; done)) <;> simp only [Option.some.injEq] at h <;> subst h <;>
  simp [binOp,Op.intArith,Op.intDiv,Op.intBits,Op.intCmp, *]
theorem run_sh {op : BinOp} {t : TypeId} {k j : IntKind} {a b : Int} {v : Value} (h : shV op k a b = some v) : (binOp op t (.int k a) (.int j b)).run P w = .ok v w:=by
 unfold shV at h
 split at h
 ·simp at h
 ·rename_i hb
  cases op <;> simp only [] at h <;> (try (simp at h; done)) <;> simp only [Option.some.injEq] at h <;> subst h <;> simp [binOp,Op.shift,hb]
theorem BY {op : BinOp} {t : TypeId} {x y : Operand} {k j : IntKind} {a b : Int} : (eqGuard op t x y (.int k a) (.int j b)).run P w = .ok () w:=by
 cases op <;> simp [eqGuard]
theorem ZJ {op : BinOp} {t2 : TypeId} {K : IntKind} {p q : Int} (h : Env n a e) (hw : Goes ops ⟨some d,.binOp op ty' x y t2,ty,pos,af,g⟩ a) (hd : d < n) (hx : opv e x = some (.int K p)) (hy : opv e y = some (.int K q))
  (hv : Tb op K p q = some v) (k : ∀ a,Env n a ((d,v) :: e) → wpList P ops Q rest a w) : wpList P ops Q (⟨some d,.binOp op ty' x y t2,ty,pos,af,g⟩ :: rest) a w :=
 Xw h hw rfl hd (by simp only [execOp,h.ev hx,h.ev hy]; simp [BY,Zcg hv]) k
theorem Ke {op : BinOp} {t2 : TypeId} {K J : IntKind} {p q : Int} (h : Env n a e) (hw : Goes ops ⟨some d,.binOp op ty' x y t2,ty,pos,af,g⟩ a) (hd : d < n) (hx : opv e x = some (.int K p)) (hy : opv e y = some (.int J q))
  (hv : shV op K p q = some v) (k : ∀ a,Env n a ((d,v) :: e) → wpList P ops Q rest a w) : wpList P ops Q (⟨some d,.binOp op ty' x y t2,ty,pos,af,g⟩ :: rest) a w :=
 Xw h hw rfl hd (by simp only [execOp,h.ev hx,h.ev hy]; simp [BY,run_sh hv]) k
theorem U5 {p : Bool} (h : Env n a e) (hw : Goes ops ⟨some d,.unOp .not ty' x,ty,pos,af,g⟩ a) (hd : d < n) (hx : opv e x = some (vT p))
  (k : ∀ a,Env n a ((d,vT (!p)) :: e) → wpList P ops Q rest a w) : wpList P ops Q (⟨some d,.unOp .not ty' x,ty,pos,af,g⟩ :: rest) a w :=
 Xw h hw rfl hd (by simp only [execOp,h.ev hx]; simp [Op.unary]) k
theorem s_neg {K : IntKind} {p : Int} (h : Env n a e) (hw : Goes ops ⟨some d,.unOp .neg ty' x,ty,pos,af,g⟩ a) (hd : d < n) (hx : opv e x = some (.int K p))
  (k : ∀ a,Env n a ((d,.int K (K.wrap (0 - p))) :: e) → wpList P ops Q rest a w) : wpList P ops Q (⟨some d,.unOp .neg ty' x,ty,pos,af,g⟩ :: rest) a w :=
 Xw h hw rfl hd (by simp only [execOp,h.ev hx]; simp [Op.unary,Op.intArith]) k
theorem Qm {src dst : TypeId} {J K : IntKind} {p : Int} {D : TypeDesc} (h : Env n a e) (hw : Goes ops ⟨some d,.convert src dst x,ty,pos,af,g⟩ a) (hd : d < n) (hx : opv e x = some (.int J p))
  (hs : P.underlying src = some D) (ht : P.underlying dst = some (.int K))
  (k : ∀ a,Env n a ((d,.int K (K.wrap p)) :: e) → wpList P ops Q rest a w) : wpList P ops Q (⟨some d,.convert src dst x,ty,pos,af,g⟩ :: rest) a w :=
 Xw h hw rfl hd (by simp only [execOp,h.ev hx]; simp [convert,underlying,program,Sem.run,hs,ht,Conv.intToInt]) k
end

theorem JP (n : Nat) : IntKind.u8.wrap (n : Int) = ((n % 256 : Nat) : Int):=by
 simp [IntKind.wrap,IntKind.bits,IntKind.signed]
theorem AH (x : UInt8) : BitVec.ofInt 8 (x.toNat : Int) = x.toBitVec:=by
 apply BitVec.eq_of_toNat_eq
 simp
theorem bB_add (p q : UInt8) : Tb .add .u8 p.toNat q.toNat = some (vB (p + q)):=by
 simp [Tb,← Int.natCast_add,JP]
theorem Ur (p q : UInt8) : Tb .xor .u8 p.toNat q.toNat = some (vB (p ^^^ q)):=by
 simp only [Tb,IntKind.bits,AH,JP]
 congr 3
 rw [Nat.mod_eq_of_lt (BitVec.isLt _)]; rfl
theorem Za0 (p q : UInt8) : Tb .and .u8 p.toNat q.toNat = some (vB (p &&& q)):=by
 simp only [Tb,IntKind.bits,AH,JP]
 congr 3
 rw [Nat.mod_eq_of_lt (BitVec.isLt _)]; rfl
theorem bB_or (p q : UInt8) : Tb .or .u8 p.toNat q.toNat = some (vB (p ||| q)):=by
 simp only [Tb,IntKind.bits,AH,JP]
 congr 3
 rw [Nat.mod_eq_of_lt (BitVec.isLt _)]; rfl
theorem HQ (p q : UInt8) : ((p.toNat : Int) = q.toNat) ↔ p = q:=by
 rw [Int.natCast_inj,UInt8.toNat_inj]
theorem AE (p q : UInt8) : Tb .eql .u8 p.toNat q.toNat = some (vT (p == q)):=by
 simp only [Tb]; congr 2; rw [Bool.eq_iff_iff]; simp [HQ]
theorem Kd (p q : UInt8) : Tb .neq .u8 p.toNat q.toNat = some (vT (p != q)):=by
 simp only [Tb]; congr 2; rw [Bool.eq_iff_iff]; simp [HQ]
theorem bB_lss (p q : UInt8) : Tb .lss .u8 p.toNat q.toNat = some (vT (decide (p < q))):=by
 simp only [Tb]; congr 2; rw [decide_eq_decide]; rw [UInt8.lt_iff_toNat_lt]; omega
theorem yv (p q : UInt8) : Tb .leq .u8 p.toNat q.toNat = some (vT (decide (p ≤ q))):=by
 simp only [Tb]; congr 2; rw [decide_eq_decide]; rw [UInt8.le_iff_toNat_le]; omega
theorem bB_gtr (p q : UInt8) : Tb .gtr .u8 p.toNat q.toNat = some (vT (decide (p > q))):=by
 simp only [Tb]; congr 2; rw [decide_eq_decide]; show (p.toNat : Int) > q.toNat ↔ q < p; rw [UInt8.lt_iff_toNat_lt]; omega
theorem yo (p q : UInt8) : Tb .geq .u8 p.toNat q.toNat = some (vT (decide (p ≥ q))):=by
 simp only [Tb]; congr 2; rw [decide_eq_decide]; show (p.toNat : Int) ≥ q.toNat ↔ q ≤ p; rw [UInt8.le_iff_toNat_le]; omega
theorem zt (p q : UInt8) : Tb .sub .u8 p.toNat q.toNat = some (vB (p - q)):=by
 simp only [Tb]
 congr 2
 simp only [IntKind.wrap,IntKind.bits,IntKind.signed]
 have:=p.toNat_lt; have:=q.toNat_lt
 simp [UInt8.toNat_sub]
 omega
theorem bB_quo (p q : UInt8) (hq : q ≠ 0) : Tb .quo .u8 p.toNat q.toNat = some (vB (p / q)):=by
 have h0 : (q.toNat : Int) ≠ 0:=by intro h; apply hq; apply UInt8.toNat_inj.1; simpa using h
 have:=p.toNat_lt
 have hd : p.toNat / q.toNat < 256:=Nat.lt_of_le_of_lt (Nat.div_le_self _ _) this
 simp only [Tb,if_neg h0]
 congr 2
 rw [Int.tdiv_eq_ediv_of_nonneg (by omega),← Int.natCast_ediv,JP,Nat.mod_eq_of_lt hd]; simp
theorem bB_rem (p q : UInt8) (hq : q ≠ 0) : Tb .rem .u8 p.toNat q.toNat = some (vB (p % q)):=by
 have h0 : (q.toNat : Int) ≠ 0:=by intro h; apply hq; apply UInt8.toNat_inj.1; simpa using h
 simp only [Tb,if_neg h0]
 congr 2
def Yp (x : Int) : UInt8:=UInt8.ofNat (x % 256).toNat
theorem Bf (x : Int) : Value.int .u8 (IntKind.u8.wrap x) = vB (Yp x):=by
 simp only [vB,Yp,IntKind.wrap,IntKind.bits,IntKind.signed]
 congr 1
 have h1 : 0 ≤ x % 256:=Int.emod_nonneg _ (by omega)
 have h2 : x % 256 < 256:=Int.emod_lt_of_pos _ (by omega)
 simp only [Bool.false_and,Bool.false_eq_true,if_false]
 show x % 256 = _
 have : (UInt8.ofNat (x % 256).toNat).toNat = (x % 256).toNat:=by simp; omega
 rw [this]; omega
theorem qF (x : UInt8) : IntKind.i64.wrap (x.toNat : Int) = x.toNat:=by
 have:=x.toNat_lt
 simp only [IntKind.wrap,IntKind.bits,IntKind.signed]
 simp
 omega
theorem kj (x : UInt8) : IntKind.u64.wrap (x.toNat : Int) = x.toNat:=by
 have:=x.toNat_lt
 simp only [IntKind.wrap,IntKind.bits,IntKind.signed]
 simp
 omega
theorem YM {x : Int} (h : -9223372036854775808 ≤ x ∧ x ≤ 9223372036854775807) : wr x = x:=by
 simp only [wr,IntKind.wrap,IntKind.bits,IntKind.signed]
 simp
 omega
abbrev bI (x : UInt8) : Int:=x.toNat

def BI (p : UInt8) (q : Int) : UInt8:=Yp ((p.toNat : Int) * 2 ^ (min q.toNat 8))
def BR (p : UInt8) (q : Int) : UInt8:=Yp ((p.toNat : Int).fdiv (2 ^ (min q.toNat 8)))
theorem bB_shl (p : UInt8) (q : Int) (h : 0 ≤ q) : shV .shl .u8 p.toNat q = some (vB (BI p q)):=by
 simp only [shV,if_neg (Int.not_lt.2 h),IntKind.bits,BI]
 rw [Bf]
theorem qT (p : UInt8) (q : Int) (h : 0 ≤ q) : shV .shr .u8 p.toNat q = some (vB (BR p q)):=by
 simp only [shV,if_neg (Int.not_lt.2 h),IntKind.bits,BR]
 rw [← Bf]
 congr 2
 have h1:=p.toNat_lt
 have h2 : (p.toNat : Int).fdiv (2 ^ (min q.toNat 8)) = ((p.toNat / 2 ^ (min q.toNat 8) : Nat) : Int):=by
  rw [Int.fdiv_eq_ediv_of_nonneg _ (by exact_mod_cast Nat.zero_le _)]; simp
 rw [h2,JP,Nat.mod_eq_of_lt]
 exact Nat.lt_of_le_of_lt (Nat.div_le_self _ _) h1
def TN (p q : Int) : Int:=wr (p * 2 ^ (min q.toNat 64))
def YD (p q : Int) : Int:=p.fdiv (2 ^ (min q.toNat 64))
theorem Ho (p q : Int) (h : 0 ≤ q) : shV .shl .i64 p q = some (vI (TN p q)):=by simp [shV,Int.not_lt.2 h,TN,IntKind.bits]
theorem km (p q : Int) (h : 0 ≤ q) : shV .shr .i64 p q = some (vI (YD p q)):=by simp [shV,Int.not_lt.2 h,YD,IntKind.bits]
def B8 (p q : Int) : Int:=wr (BitVec.ofInt 64 p &&& BitVec.ofInt 64 q).toNat
def orI (p q : Int) : Int:=wr (BitVec.ofInt 64 p ||| BitVec.ofInt 64 q).toNat
def K4 (p q : Int) : Int:=wr (BitVec.ofInt 64 p ^^^ BitVec.ofInt 64 q).toNat
theorem HB (p q : Int) (h : q ≠ 0) : Tb .quo .i64 p q = some (vI (wr (p.tdiv q))):=by simp [Tb,h]
theorem Kj (p q : Int) (h : q ≠ 0) : Tb .rem .i64 p q = some (vI (p.tmod q)):=by simp [Tb,h]
end
section
open Go

abbrev ptr (b o : Nat) : Value:=.pointer (some ⟨b,o,none⟩)
def sb : Value → Nat
 | .slice (some a) _ _=>a.block
 | _=>0
def so : Value → Nat
 | .slice (some a) _ _=>a.off
 | _=>0

def Hd : TypeDesc → Bool
 | .struct _ | .array _ _=>true
 | _=>false

structure Ty (P : Program) (t : TypeId) (d : TypeDesc) (sz bytes : Nat) (z : List Value) : Prop where
 und : P.underlying t = some d
 info : (P.info? t).map (fun i=>(i.size,i.bytes,i.zero.map (·.cells.toList))) = some (sz,bytes,some z)

section
variable {P : Program} {t : TypeId} {d : TypeDesc} {sz bytes : Nat} {z : List Value}
theorem Ty.get (h : Ty P t d sz bytes z) : ∃ i v,P.info? t = some i ∧ i.size = sz ∧ i.bytes = bytes ∧ i.zero = some v ∧ v.cells.toList = z:=by
 have:=h.info
 cases hq : P.info? t with
 | none=>simp [hq] at this
 | some i =>
  simp [hq] at this
  obtain ⟨h1,h2,v,h3,h4⟩:=this
  exact ⟨i,v,rfl,h1,h2,h3,h4⟩
theorem JL (h : Ty P t d sz bytes z) (w : World) : (isAgg t).run P w = .ok (Hd d) w:=by
 simp only [isAgg,Sem.run_bind,run_underlying h.und,Result.andThen_ok]
 cases d <;> rfl
theorem Va (h : Ty P t d sz bytes z) (w : World) : (sizeOf t).run P w = .ok sz w:=by
 obtain ⟨i,v,h1,h2,_⟩:=h.get
 simp [sizeOf,typeInfo,h1,h2]
theorem Q9 (h : Ty P t d sz bytes z) (w : World) : ∃ v,(zeroValue t).run P w = .ok v w ∧ v.cells.toList = z:=by
 obtain ⟨i,v,h1,h2,_,h3,h4⟩:=h.get
 exact ⟨v,by simp [zeroValue,typeInfo,h1,h3],h4⟩
end

theorem At.add {w : World} {b o : Nat} {cs : List Value} (h : At w b o cs) : ∀ j v,cs[j]? = some v → w.cell? ((⟨b,o,none⟩ : Addr).add j) = some v:=by
 intro j v hv
 rw [Addr.add_lit]; exact h j v hv
theorem At.part {w : World} {b o k : Nat} {pre : List (List Value)} {seg : List Value} {post : List (List Value)} (h : At w b o (pre ++ seg :: post).flatten) (hk : pre.flatten.length = k) : At w b (o + k) seg:=by
 rw [List.flatten_append,List.flatten_cons] at h
 have:=(At.append.1 (At.append.1 h).2).1
 rw [hk] at this; exact this
section
variable {n : Nat} {a : Act} {e : List (Nat × Value)} {w w' : World} {P : Program} {ops : Array Oper} {rest : List Oper} {Q : Exit → Act → World → Prop}
variable {d : Nat} {ty t : TypeId} {pos : String} {af : Array Edge} {g : Option (Nat × Bool)} {x y : Operand} {v : Value}
variable {St : Nat → Prop} {w0 : World} {its : List Item}

theorem KW {cs : List Value} (h : Env n a e) (hM : M St w0 w its) (hw : Goes ops ⟨some d,.box t x,ty,pos,af,g⟩ a) (hd : d < n) (hx : opv e x = some v) (hcs : v.cells.toList = cs)
  (k : ∀ b w a,M St w0 w (raw b cs :: its) → Env n a ((d,ptr b 0) :: e) → wpList P ops Q rest a w) : wpList P ops Q (⟨some d,.box t x,ty,pos,af,g⟩ :: rest) a w:=by
 subst hcs
 refine Xw h hw rfl hd (v:=ptr w.heap.size 0) (w':=w.alloc (.cells v.cells t)) (by simp only [execOp,h.ev hx]; simp [Instr.box,newVar,newRow]) fun a ha=>?_
 have:=hM.alloc v.cells.toList t
 exact k _ _ _ (by simpa using this) ha
theorem Zci {D : TypeDesc} {sz by_ : Nat} {z : List Value} (h : Env n a e) (hM : M St w0 w its) (hw : Goes ops ⟨some d,.alloc t,ty,pos,af,g⟩ a) (hd : d < n) (ht : Ty P t D sz by_ z)
  (k : ∀ b w a,M St w0 w (raw b z :: its) → Env n a ((d,ptr b 0) :: e) → wpList P ops Q rest a w) : wpList P ops Q (⟨some d,.alloc t,ty,pos,af,g⟩ :: rest) a w:=by
 obtain ⟨v,hv,rfl⟩:=Q9 ht w
 refine Xw h hw rfl hd (v:=ptr w.heap.size 0) (w':=w.alloc (.cells v.cells t)) (by simp only [execOp]; simp [Instr.alloc,hv,newVar,newRow]) fun a ha=>?_
 have:=hM.alloc v.cells.toList t
 exact k _ _ _ (by simpa using this) ha

theorem ZE {D : TypeDesc} {sz by_ : Nat} {z : List Value} {b o : Nat} (h : Env n a e) (hw : Goes ops ⟨some d,.load t x,ty,pos,af,g⟩ a) (hd : d < n) (hx : opv e x = some (ptr b o))
  (ht : Ty P t D sz by_ z) (hD : Hd D = false) (hA : At w b o [v])
  (k : ∀ a,Env n a ((d,v) :: e) → wpList P ops Q rest a w) : wpList P ops Q (⟨some d,.load t x,ty,pos,af,g⟩ :: rest) a w:=by
 have hc : w.cell? ⟨b,o,none⟩ = some v:=by simpa using hA 0 v rfl
 exact Xw h hw rfl hd (by simp only [execOp,h.ev hx]; simp [Instr.loadAt,Instr.sureAddr,loadVar,JL ht,hD,hc]) k
theorem Zbr {D : TypeDesc} {sz by_ : Nat} {z : List Value} {b o : Nat} {cs : List Value} (h : Env n a e) (hw : Goes ops ⟨some d,.load t x,ty,pos,af,g⟩ a) (hd : d < n) (hx : opv e x = some (ptr b o))
  (ht : Ty P t D sz by_ z) (hD : Hd D = true) (hA : At w b o cs) (hl : cs.length = sz)
  (k : ∀ a,Env n a ((d,.agg cs.toArray) :: e) → wpList P ops Q rest a w) : wpList P ops Q (⟨some d,.load t x,ty,pos,af,g⟩ :: rest) a w:=by
 have hr:=run_loadCells_list (P:=P) w ⟨b,o,none⟩ cs hA.add
 rw [hl] at hr
 exact Xw h hw rfl hd (by simp only [execOp,h.ev hx]; simp [Instr.loadAt,Instr.sureAddr,loadVar,JL ht,hD,Va ht,hr]) k
structure Fd (P : Program) (t : TypeId) (f off : Nat) : Prop where
 out : ∃ fs fd i,P.underlying t = some (.struct fs) ∧ fs[f]? = some fd ∧ fd.offset = off ∧ P.info? fd.type = some i ∧ i.size ≠ 0
theorem Zv {f off b o : Nat} (h : Env n a e) (hw : Goes ops ⟨some d,.fieldAddr t x f,ty,pos,af,g⟩ a) (hd : d < n) (hx : opv e x = some (ptr b o)) (hf : Fd P t f off)
  (k : ∀ a,Env n a ((d,ptr b (o + off)) :: e) → wpList P ops Q rest a w) : wpList P ops Q (⟨some d,.fieldAddr t x f,ty,pos,af,g⟩ :: rest) a w:=by
 obtain ⟨fs,fd,i,h1,h2,h3,h4,h5⟩:=hf.out
 exact Xw h hw rfl hd (by
  simp only [execOp,h.ev hx]
  simp [Instr.fieldAt,run_underlying h1,h2,Instr.sureAddr,fieldPlace,sizeOf,typeInfo,h4,h5,Addr.add_lit,h3]) k
theorem ZA {α : Type} [Rep α] {S : Nat → Prop} {l : List α} {fp : List Nat} {el sz by_ : Nat} {z : List Value} {D : TypeDesc} {K : IntKind} {i : Int} (h : Env n a e) (hw : Goes ops ⟨some d,.indexAddr t x y,ty,pos,af,g⟩ a) (hd : d < n)
  (hx : opv e x = some v) (hy : opv e y = some (.int K i)) (ht : P.underlying t = some (.slice el)) (he : Ty P el D sz by_ z) (hs : Rep.sat S w l [v] fp) (hi : 0 ≤ i ∧ i < l.length)
  (k : ∀ a,Env n a ((d,ptr (sb v) (so v + i.toNat * sz)) :: e) → wpList P ops Q rest a w) : wpList P ops Q (⟨some d,.indexAddr t x y,ty,pos,af,g⟩ :: rest) a w:=by
 obtain ⟨p,cap,hv,hc,hp⟩:=hs
 simp only [List.cons.injEq,and_true] at hv
 cases p with
 | none=>exfalso; obtain ⟨h1,_⟩:=hp; omega
 | some q =>
  obtain ⟨q1,q2,q3⟩:=q
  obtain ⟨h1,_⟩:=hp
  have h1:=h1 (by omega)
  simp only at h1
  subst h1
  refine Xw h hw rfl hd (v:=ptr (sb v) (so v + i.toNat * sz)) (w':=w) ?_ k
  simp only [execOp,h.ev hx,h.ev hy,hv,sb,so]
  simp [Instr.indexAt,asIntOf,run_underlying ht,hi,Va he,Addr.add_lit]
theorem sl_at {α : Type} [Rep α] {S : Nat → Prop} {l : List α} {fp : List Nat} {i : Nat} {u : α} (hs : Rep.sat S w l [v] fp) (hi : l[i]? = some u) :
  ∃ cs f,Rep.sat S w u cs f ∧ At w (sb v) (so v + i * Rep.n α) cs ∧ ∀ b ∈ f,b ∈ fp:=by
 obtain ⟨p,cap,hv,hc,hp⟩:=hs
 simp only [List.cons.injEq,and_true] at hv
 have hil:=(List.getElem?_eq_some_iff.1 hi).1
 cases p with
 | none=>exfalso; obtain ⟨h1,_⟩:=hp; omega
 | some q =>
  obtain ⟨q1,q2,q3⟩:=q
  obtain ⟨h1,ecs,fpe,h2,h3,h4⟩:=hp
  have h1:=h1 (by omega)
  simp only at h1
  subst h1
  obtain ⟨c1,c,c2,f1,f,f2,rfl,rfl,k1,_,k2,_⟩:=h2.split hi
  refine ⟨c,f,k2,?_,fun b hb=>?_⟩
  ·have:=(At.append.1 (At.append.1 h3).2).1
   rw [k1] at this
   rw [hv]; exact this
  ·rcases h4 with ⟨_,rfl⟩ | ⟨rfl,_⟩ <;> simp [hb]
theorem Z3 {α : Type} [Rep α] {S : Nat → Prop} {l : List α} {i : Nat} {u : α} (hs : Rep.sat S w l [v] []) (hi : l[i]? = some u) :
  ∃ cs,Rep.sat S w u cs [] ∧ At w (sb v) (so v + i * Rep.n α) cs:=by
 obtain ⟨cs,f,h1,h2,h3⟩:=sl_at hs hi
 have : f = []:=List.eq_nil_iff_forall_not_mem.2 fun b hb=>by cases h3 b hb
 subst this
 exact ⟨cs,h1,h2⟩
theorem ZS {α : Type} [Flat α] {S : Nat → Prop} {l : List α} {fp : List Nat} {i : Nat} {u : α} (hs : Rep.sat S w l [v] fp) (hi : l[i]? = some u) :
  At w (sb v) (so v + i * Rep.n α) (Flat.enc u):=by
 obtain ⟨cs,f,h1,h2,h3⟩:=sl_at hs hi
 obtain ⟨rfl,_⟩:=h1
 exact h2
theorem XN {α : Type} [Rep α] {S : Nat → Prop} {l : List α} {fp : List Nat} {el : TypeId} (h : Env n a e) (hw : Goes ops ⟨some d,.call ⟨.builtin .len,[x].toArray,[t].toArray⟩,ty,pos,af,g⟩ a) (hd : d < n)
  (hx : opv e x = some v) (ht : P.underlying t = some (.slice el)) (hs : Rep.sat S w l [v] fp)
  (k : ∀ a,Env n a ((d,vI l.length) :: e) → wpList P ops Q rest a w) : wpList P ops Q (⟨some d,.call ⟨.builtin .len,[x].toArray,[t].toArray⟩,ty,pos,af,g⟩ :: rest) a w:=by
 obtain ⟨p,cap,hv,hc,hp⟩:=hs
 simp only [List.cons.injEq,and_true] at hv
 exact Xw h hw rfl hd (by
  simp only [execOp,resolve]
  simp [invoke,builtin,Builtin.len_,run_underlying ht,h.ev hx,hv,goInt]) k
theorem V1 {s : Str} (h : Env n a e) (hw : Goes ops ⟨some d,.call ⟨.builtin .len,[x].toArray,[t].toArray⟩,ty,pos,af,g⟩ a) (hd : d < n)
  (hx : opv e x = some (vS s)) (ht : P.underlying t = some .string)
  (k : ∀ a,Env n a ((d,vI s.l.length) :: e) → wpList P ops Q rest a w) : wpList P ops Q (⟨some d,.call ⟨.builtin .len,[x].toArray,[t].toArray⟩,ty,pos,af,g⟩ :: rest) a w:=by
 exact Xw h hw rfl hd (by
  simp only [execOp,resolve]
  simp [invoke,builtin,Builtin.len_,run_underlying ht,h.ev hx,goInt]; rfl) k

structure Callable (P : Program) (f : Nat) : Prop where
 out : ∃ fn c, P.funcs[f]? = some fn ∧ (fn.name == "runtime.NumGoroutine") = false ∧ fn.body = some c
def Ku (e : List (Nat × Value)) : List Operand → Option (List Value)
 | []=>some []
 | x :: r=>match opv e x,Ku e r with
  | some v,some vs=>some (v :: vs)
  | _,_=>none
theorem Env.evs (h : Env n a e) : ∀ {xs : List Operand} {vs : List Value},Ku e xs = some vs → xs.map a.eval = vs
 | [],vs,hx=>by simp [Ku] at hx; subst hx; rfl
 | x :: r,vs,hx=>by
  simp only [Ku] at hx
  split at hx
  ·rename_i v vs' h1 h2
   simp only [Option.some.injEq] at hx
   subst hx
   simp [h.ev h1,h.evs h2]
  ·cases hx
theorem ZW {f : Nat} {xs : List Operand} {ats : Array TypeId} {vs : List Value} {R : Value → World → Prop} (h : Env n a e) (hw : Goes ops ⟨some d,.call ⟨.value (.func f),xs.toArray,ats⟩,ty,pos,af,g⟩ a) (hd : d < n)
  (hxs : Ku e xs = some vs) (hf : Callable P f) (hc : Calls P f vs.toArray w fun en w'=>∃ v,en = .returned v ∧ R v w')
  (k : ∀ v w' a,R v w' → Env n a ((d,v) :: e) → wpList P ops Q rest a w') : wpList P ops Q (⟨some d,.call ⟨.value (.func f),xs.toArray,ats⟩,ty,pos,af,g⟩ :: rest) a w:=by
 obtain ⟨fn,c,h1,h2',h3⟩:=hf.out
 have h2 : ¬ fn.name = "runtime.NumGoroutine" := by simpa using h2'
 unfold wpList
 rw [if_pos hw]
 refine .inl ?_
 have hr : (execOp a.eval ⟨some d,.call ⟨.value (.func f),xs.toArray,ats⟩,ty,pos,af,g⟩).run P w = .ok (.enter f vs.toArray) w:=by
  simp only [execOp,resolve,Act.eval]
  simp [Deferred.ofValue,invoke,callFunc,h1,h2,h3,h.evs hxs]
 unfold Oper.wp
 rw [hr,Oper.upon_enter]
 refine hc.mono ?_
 rintro en w' ⟨v,rfl,hR⟩
 exact k v w' _ hR (h.put hd v)
theorem Zch {f : Nat} {fv : Operand} {cap : Array Value} {xs : List Operand} {ats : Array TypeId} {vs : List Value} {R : Value → World → Prop} (h : Env n a e) (hw : Goes ops ⟨some d,.call ⟨.value fv,xs.toArray,ats⟩,ty,pos,af,g⟩ a) (hd : d < n)
  (hfv : opv e fv = some (.func (.func f) #[] cap)) (hxs : Ku e xs = some vs) (hf : Callable P f) (hc : Calls P f (vs.toArray ++ cap) w fun en w'=>∃ v,en = .returned v ∧ R v w')
  (k : ∀ v w' a,R v w' → Env n a ((d,v) :: e) → wpList P ops Q rest a w') : wpList P ops Q (⟨some d,.call ⟨.value fv,xs.toArray,ats⟩,ty,pos,af,g⟩ :: rest) a w:=by
 obtain ⟨fn,c,h1,h2',h3⟩:=hf.out
 have h2 : ¬ fn.name = "runtime.NumGoroutine" := by simpa using h2'
 unfold wpList
 rw [if_pos hw]
 refine .inl ?_
 have hr : (execOp a.eval ⟨some d,.call ⟨.value fv,xs.toArray,ats⟩,ty,pos,af,g⟩).run P w = .ok (.enter f (vs.toArray ++ cap)) w:=by
  simp only [execOp,resolve,h.ev hfv]
  simp [Deferred.ofValue,invoke,callFunc,h1,h2,h3,h.evs hxs]
 unfold Oper.wp
 rw [hr,Oper.upon_enter]
 refine hc.mono ?_
 rintro en w' ⟨v,rfl,hR⟩
 exact k v w' _ hR (h.put hd v)
theorem Zt {i : Nat} {vs : List Value} (h : Env n a e) (hw : Goes ops ⟨some d,.extract x i,ty,pos,af,g⟩ a) (hd : d < n) (hx : opv e x = some (.tuple vs.toArray)) (hv : vs[i]? = some v)
  (k : ∀ a,Env n a ((d,v) :: e) → wpList P ops Q rest a w) : wpList P ops Q (⟨some d,.extract x i,ty,pos,af,g⟩ :: rest) a w :=
 Xw h hw rfl hd (by simp only [execOp,h.ev hx]; simp [Instr.extract,hv]) k

theorem Zc {id : Nat} {l : List Oper} {Y : Code} (h : wpList P l.toArray (Exit.then (Y.wp P Q) Q) l a w) : (Code.seq (.region id l.toArray false) Y).wp P Q a w:=wp_seq (wp_region_lit h)
theorem Ze {Y : Code} (h : Y.wp P Q a w) : wpList P ops (Exit.then (Y.wp P Q) Q) [] a w:=h
theorem Zj (h : Q .normal a w) : wpList P ops Q [] a w:=h
theorem Zm {c : Bool} {X Y : Code} (hE : Env n a e) (hx : opv e x = some (vT c)) (ht : c = true → X.wp P Q a w) (hf : c = false → Y.wp P Q a w) : (Code.cond x X Y).wp P Q a w:=by
 cases c
 ·exact wp_cond_false (hE.ev hx) (hf rfl)
 ·exact wp_cond_true (hE.ev hx) (ht rfl)
theorem Zx {X Y : Code} (Mid : Act → World → Prop) (h : X.wp P (Exit.then Mid Q) a w) (k : ∀ a w,Mid a w → Y.wp P Q a w) : (Code.seq X Y).wp P Q a w:=by
 refine wp_seq (wp_mono h fun ex a w hq=>?_)
 cases ex <;> first | exact k _ _ hq | exact hq

end
inductive Fl (S T : Type) where
 | nx (s : S)
 | ex (t : T)
def Qu {S T : Type} (f : S → Option (Fl S T)) : Nat → S → Option T
 | 0,_=>none
 | n + 1,s=>match f s with
  | none=>none
  | some (.ex t)=>some t
  | some (.nx s)=>Qu f n s
theorem J7 {S T : Type} {f : S → Option (Fl S T)} : ∀ {n : Nat} {s : S} {t : T},Qu f n s = some t → ∀ m,n ≤ m → Qu f m s = some t
 | 0,_,_,h,_,_=>by simp [Qu] at h
 | n + 1,s,t,h,0,hm=>by omega
 | n + 1,s,t,h,m + 1,hm=>by
  simp only [Qu] at h ⊢
  cases hf : f s with
  | none=>simp [hf] at h
  | some o =>
   cases o with
   | ex u=>simpa [hf] using h
   | nx s'=>simp only [hf] at h; exact J7 h m (by omega)
open Classical in
noncomputable def ZH {S T : Type} (f : S → Option (Fl S T)) (s : S) : Option T :=
 if h : ∃ n t,Qu f n s = some t then Qu f h.choose s else none
theorem yn {S T : Type} {f : S → Option (Fl S T)} {s : S} {n : Nat} {t : T} (h : Qu f n s = some t) : ZH f s = some t:=by
 have hx : ∃ n t,Qu f n s = some t:=⟨n,t,h⟩
 unfold ZH
 rw [dif_pos hx]
 obtain ⟨u,hu⟩:=hx.choose_spec
 have h1:=J7 h (max n hx.choose) (by omega)
 have h2:=J7 hu (max n hx.choose) (by omega)
 rw [h1] at h2
 rw [hu]; exact h2.symm
theorem BL {S T : Type} {f : S → Option (Fl S T)} {s : S} {t : T} (h : ZH f s = some t) : ∃ n,Qu f n s = some t:=by
 unfold ZH at h
 split at h
 ·rename_i hx; exact ⟨_,h⟩
 ·cases h
theorem kU {S T : Type} (f : S → Option (Fl S T)) (s : S) : ZH f s = (match f s with | none=>none | some (.ex t)=>some t | some (.nx s')=>ZH f s'):=by
 have key : ∀ u,ZH f s = some u ↔ (match f s with | none=>none | some (.ex t)=>some t | some (.nx s')=>ZH f s') = some u:=by
  intro u
  constructor
  ·intro h
   obtain ⟨n,hn⟩:=BL h
   cases n with
   | zero=>simp [Qu] at hn
   | succ n =>
    simp only [Qu] at hn
    cases hf : f s with
    | none=>simp [hf] at hn
    | some o =>
     cases o with
     | ex t=>simpa [hf] using hn
     | nx s'=>simp only [hf] at hn; exact yn hn
  ·intro h
   cases hf : f s with
   | none=>simp [hf] at h
   | some o =>
    cases o with
    | ex t=>refine yn (n:=1) ?_; simpa [Qu,hf] using h
    | nx s' =>
     simp only [hf] at h
     obtain ⟨n,hn⟩:=BL h
     refine yn (n:=n + 1) ?_
     simpa [Qu,hf] using hn
 cases hi : ZH f s with
 | some u=>exact ((key u).1 hi).symm
 | none =>
  cases hj : (match f s with | none=>none | some (.ex t)=>some t | some (.nx s')=>ZH f s') with
  | none=>rfl
  | some u=>rw [(key u).2 hj] at hi; cases hi
theorem Xr {S T : Type} {f : S → Option (Fl S T)} {s s' : S} (h : f s = some (.nx s')) : ZH f s = ZH f s':=by rw [kU,h]
theorem Yi {S T : Type} {f : S → Option (Fl S T)} {s : S} {t : T} (h : f s = some (.ex t)) : ZH f s = some t:=by rw [kU,h]

section
variable {P : Program} {Q : Exit → Act → World → Prop} {a : Act} {w : World}
theorem ZK {S T : Type} {f : S → Option (Fl S T)} {s : S} {t : T} {c : Code} (Rel : S → Act → World → Prop) (hi : ZH f s = some t) (h0 : Rel s a w)
  (hr : ∀ s a w,Rel s a w → ∀ o,f s = some o → (∀ t',o = .ex t' → t' = t) → c.wp P (Exit.then (fun a w=>∃ s',o = .nx s' ∧ Rel s' a w) Q) a w) : (Code.loop c).wp P Q a w:=by
 obtain ⟨n,hn⟩:=BL hi
 refine wp_loop_rounds n ?_
 clear hi
 induction n generalizing s a w with
 | zero=>simp [Qu] at hn
 | succ n ih =>
  simp only [Qu] at hn
  cases hf : f s with
  | none=>simp [hf] at hn
  | some o =>
   rw [rounds_succ]
   refine wp_mono (hr s a w h0 o hf ?_) fun ex a w hq=>?_
   ·rintro t' rfl; simpa [hf] using hn
   ·cases ex <;> first | exact hq | skip
    obtain ⟨s',rfl,hrel⟩:=hq
    simp only [hf] at hn
    exact ih hrel hn
end
def Fl.el {S T B : Type} (o : Fl S T) (f : S → B) (g : T → B) : B :=
 match o with
 | .nx s=>f s
 | .ex t=>g t
def idx {α : Type} (l : List α) (i : Int) : Option α:=if 0 ≤ i then l[i.toNat]? else none
theorem yW {α : Type} {l : List α} {i : Int} {x : α} (h : idx l i = some x) : (0 ≤ i ∧ i < l.length) ∧ l[i.toNat]? = some x:=by
 unfold idx at h
 split at h
 ·rename_i h0
  have:=(List.getElem?_eq_some_iff.1 h).1
  exact ⟨⟨h0,by omega⟩,h⟩
 ·cases h
theorem bind_some {α β : Type} {x : Option α} {f : α → Option β} {r : β} (h : x.bind f = some r) : ∃ v,x = some v ∧ f v = some r:=Option.bind_eq_some_iff.1 h
theorem Zn {α : Type} {c : Bool} {x y : Option α} {r : α} (h : (if c = true then x else y) = some r) (hc : c = true) : x = some r:=by rw [if_pos hc] at h; exact h
theorem Zo {α : Type} {c : Bool} {x y : Option α} {r : α} (h : (if c = true then x else y) = some r) (hc : c = false) : y = some r:=by rw [if_neg (by simp [hc])] at h; exact h

def Bl : Nat → List Value → List (Nat × Value)
 | _,[]=>[]
 | i,v :: r=>(i,v) :: Bl (i + 1) r
theorem B3 : ∀ (vs : List Value) (i t : Nat) (v : Value),(Bl i vs).lookup t = some v → i ≤ t ∧ vs[t - i]? = some v
 | [],_,_,_,h=>by simp [Bl] at h
 | u :: r,i,t,v,h=>by
  simp only [Bl,List.lookup_cons] at h
  by_cases ht : t = i
  ·subst ht; simp at h; subst h; simp
  ·rw [show (t == i) = false by simpa using ht] at h
   obtain ⟨h1,h2⟩:=B3 r (i + 1) t v h
   refine ⟨by omega,?_⟩
   rw [show t - i = (t - (i + 1)) + 1 by omega,List.getElem?_cons_succ]; exact h2
section
variable {P : Program} {w : World} {a : Act} {n : Nat} {e : List (Nat × Value)}
theorem yS {f : Nat} {fn : Func} {c : Code} {vs : List Value} {R : Ending → World → Prop} (hf : P.funcs[f]? = some fn) (hb : fn.body = some c) (hn : fn.ntmps = n) (hl : vs.length ≤ n) (he : Bl 0 vs = e)
  (k : ∀ a,Env n a e → c.wp P (bodyPost P fn R) a w) : Calls P f vs.toArray w R:=by
 refine calls_of_wp hf hb (k _ ⟨?_,rfl,fun t v ht=>?_⟩)
 ·simp [hn]; omega
 ·rw [← he] at ht
  have:=(B3 vs 0 t v ht).2
  simp only [Nat.sub_zero] at this
  have hlt:=(List.getElem?_eq_some_iff.1 this).1
  rw [Array.getD_eq_getD_getElem?,Array.getElem?_append_left (by simpa using hlt)]
  simp [this]
end
end
section
open Go

def nrm (K : Act → World → Prop) : Exit → Act → World → Prop
 | .normal,a,w=>K a w
 | _,_,_=>False

section
variable {P : Program} {ops : Array Oper} {Q Q' : Exit → Act → World → Prop} {a : Act} {w : World}
theorem Oper.wp_mono2 {o : Oper} {K K' : Act → World → Prop} (h : ∀ a w,K a w → K' a w) (hq : ∀ c a w,Q (.panic c) a w → Q' (.panic c) a w) (hl : LetsOut Q → LetsOut Q')
  (hh : o.wp P a w K Q) : o.wp P a w K' Q':=by
 unfold Oper.wp at *
 generalize (execOp a.eval o).run P w = r at *
 cases r with
 | ok n w' =>
  cases n <;> simp only [Oper.upon] at hh ⊢ <;>
   first
    | exact h _ _ hh
    | exact Calls.mono hh (fun e w'' he=>by cases e <;> first | exact h _ _ he | exact hq _ _ _ he | exact hl he)
    | exact Rows.mono hh (fun _ _ he=>h _ _ he)
 | halt x w'=>cases x <;> simp only [Oper.upon] at hh ⊢ <;> first | exact hh | exact hq _ _ _ hh
theorem Zbp {o : Oper} {i : Nat} {K : Act → World → Prop} (hi : ops[i]? = some o) (h : wpList P ops (nrm K) [o] a w) : wpOp P ops Q i K a w:=by
 unfold wpOp
 rw [hi]
 unfold wpList at h
 simp only []
 split
 ·rename_i hw
  rw [if_pos hw] at h
  rcases h with h | ⟨_,a',w',h⟩
  ·exact .inl (Oper.wp_mono2 (fun _ _ h=>h) (fun _ _ _ h=>h.elim) (fun ⟨_,_,h⟩=>h.elim) h)
  ·exact h.elim
 ·rename_i hw
  rw [if_neg hw] at h
  exact h
theorem qG {o : Oper} {i : Nat} {rest : List Oper} (hi : ops[i]? = some o) (h : wpList P ops Q (o :: rest) a w) : wpOp P ops Q i (wpList P ops Q rest) a w:=by
 unfold wpOp
 rw [hi]
 unfold wpList at h
 exact h
end

def Qs : List Nat → Nat → (Nat → Value) → List (Nat × Value) → List (Nat × Value)
 | [],_,_,e=>e
 | t :: r,j,u,e=>(t,u j) :: Qs r (j + 1) u e
def QO (u : Nat → Value) (i : Nat) (v : Value) : Nat → Value:=fun j=>if j = i then v else u j

theorem HJ : ∀ (ts : List Nat) (j k t : Nat) (u : Nat → Value) (e : List (Nat × Value)),ts.Nodup → ts[k]? = some t → (Qs ts j u e).lookup t = some (u (j + k))
 | [],_,_,_,_,_,_,h=>by simp at h
 | s :: r,j,0,t,u,e,_,h=>by
  simp at h; subst h; simp [Qs]
 | s :: r,j,k + 1,t,u,e,hn,h=>by
  have h' : r[k]? = some t:=by simpa using h
  have hne : t ≠ s:=fun hts=>by subst hts; exact (List.nodup_cons.1 hn).1 (List.mem_of_getElem? h')
  simp only [Qs,List.lookup_cons,show (t == s) = false by simpa using hne]
  rw [HJ r (j + 1) k t u e (List.nodup_cons.1 hn).2 h']
  congr 2; omega
theorem AZ : ∀ (ts : List Nat) (j t : Nat) (u : Nat → Value) (e : List (Nat × Value)),t ∉ ts → (Qs ts j u e).lookup t = e.lookup t
 | [],_,_,_,_,_=>rfl
 | s :: r,j,t,u,e,h=>by
  simp only [List.mem_cons,not_or] at h
  simp only [Qs,List.lookup_cons,show (t == s) = false by simpa using h.1]
  exact AZ r (j + 1) t u e h.2
theorem Env.upd {n : Nat} {a : Act} {ts : List Nat} {u : Nat → Value} {e : List (Nat × Value)} {i t : Nat} {v : Value} (hn : ts.Nodup) (hi : ts[i]? = some t) (h : Env n a ((t,v) :: Qs ts 0 u e)) : Env n a (Qs ts 0 (QO u i v) e):=by
 refine ⟨h.sz,h.df,fun s x hs=>h.get s x ?_⟩
 simp only [List.lookup_cons]
 by_cases hst : s = t
 ·subst hst
  rw [HJ ts 0 i s _ e hn hi] at hs
  simpa [QO] using hs
 ·rw [show (s == t) = false by simpa using hst]
  simp only
  by_cases hm : s ∈ ts
  ·obtain ⟨k,hk⟩:=List.mem_iff_getElem?.1 hm
   rw [HJ ts 0 k s _ e hn hk] at hs ⊢
   have : k ≠ i:=fun hki=>by subst hki; rw [hk] at hi; exact hst (by simpa using hi)
   simpa [QO,this] using hs
  ·rw [AZ ts 0 s _ e hm] at hs ⊢; exact hs

def bef : List Oper → List Nat → List Nat
 | [],acc=>acc
 | o :: r,acc=>bef r (acc ++ [o.after.toList.foldl (fun s e=>if Region.binds .any e then s ||| 2 ^ e.on ||| acc.getD e.on 0 else s) 0])
def Jb : List Oper → Nat → Bool
 | [],_=>true
 | o :: r,i=>o.after.toList.all (fun e=>!Region.binds .any e || decide (e.on < i)) && Jb r (i + 1)
def k7 (l : List Oper) (h : Nat) : Bool :=
 let b:=bef l []
 (List.range l.length).all fun i=>decide (i < h) || (List.range i).all fun j=>(b.getD i 0).testBit j

def jg (l : List Oper) (D : Nat → Prop) : Prop:=∀ i o e,l[i]? = some o → e ∈ o.after.toList → Region.binds .any e = true → D i → D e.on

theorem BU : ∀ (l : List Oper) (k : Nat),Jb l k = true → ∀ i o e,l[i]? = some o → e ∈ o.after.toList → Region.binds .any e = true → e.on < k + i
 | [],_,_,_,_,_,h,_,_=>by simp at h
 | p :: r,k,hb,0,o,e,h,he,hbi=>by
  simp at h; subst h
  simp only [Jb,Bool.and_eq_true,List.all_eq_true] at hb
  have:=hb.1 e he
  simp [hbi] at this
  omega
 | p :: r,k,hb,i + 1,o,e,h,he,hbi=>by
  simp only [Jb,Bool.and_eq_true] at hb
  have:=BU r (k + 1) hb.2 i o e (by simpa using h) he hbi
  omega

theorem zS (acc : List Nat) (j : Nat) : ∀ (es : List Edge) (s : Nat),(es.foldl (fun s e=>if Region.binds .any e then s ||| 2 ^ e.on ||| acc.getD e.on 0 else s) s).testBit j = true →
  s.testBit j = true ∨ ∃ e ∈ es,Region.binds .any e = true ∧ (e.on = j ∨ (acc.getD e.on 0).testBit j = true)
 | [],s,h=>.inl h
 | e :: r,s,h=>by
  rw [List.foldl_cons] at h
  rcases zS acc j r _ h with h | ⟨e',h1,h2⟩
  ·split at h
   ·rename_i hb
    rw [Nat.testBit_or,Nat.testBit_or,Bool.or_eq_true,Bool.or_eq_true,Nat.testBit_two_pow] at h
    rcases h with (h | h) | h
    ·exact .inl h
    ·exact .inr ⟨e,by simp,hb,.inl (by simpa using h)⟩
    ·exact .inr ⟨e,by simp,hb,.inr h⟩
   ·exact .inl h
  ·exact .inr ⟨e',by simp [h1],h2⟩

theorem y5 (full : List Oper) : ∀ (l : List Oper) (acc : List Nat) (k : Nat),acc.length = k → (∀ i,l[i]? = full[k + i]?) →
  (∀ i,i < k → ∀ D,jg full D → (∀ o e,full[i]? = some o → e ∈ o.after.toList → Region.binds .any e = true → D e.on) → ∀ j,(acc.getD i 0).testBit j = true → D j) →
  ∀ i,i < (bef l acc).length → ∀ D,jg full D → (∀ o e,full[i]? = some o → e ∈ o.after.toList → Region.binds .any e = true → D e.on) → ∀ j,((bef l acc).getD i 0).testBit j = true → D j
 | [],acc,k,hk,_,h,i,hi,D,hD,hd,j,hj=>h i (by simpa [bef,hk] using hi) D hD hd j hj
 | o :: r,acc,k,hk,hl,h,i,hi,D,hD,hd,j,hj=>by
  refine y5 full r _ (k + 1) (by simp [hk]) (fun i=>by have:=hl (i + 1); simpa [Nat.add_assoc,Nat.add_comm 1 i] using this) ?_ i hi D hD hd j hj
  intro i hi D hD hd j hj
  have ho : full[k]? = some o:=by have:=hl 0; simpa using this.symm
  by_cases hik : i < k
  ·refine h i hik D hD hd j ?_
   rw [List.getD_eq_getElem?_getD,List.getElem?_append_left (by omega)] at hj
   rwa [List.getD_eq_getElem?_getD]
  ·have hik : i = k:=by omega
   subst hik
   rw [List.getD_eq_getElem?_getD,List.getElem?_append_right (by omega),hk] at hj
   simp only [Nat.sub_self,List.getElem?_cons_zero,Option.getD_some] at hj
   rcases zS acc j _ _ hj with h0 | ⟨e,h1,h2,h3⟩
   ·simp at h0
   ·have hDe:=hd o e ho h1 h2
    rcases h3 with rfl | h3
    ·exact hDe
    ·by_cases hek : e.on < i
     ·exact h e.on hek D hD (fun o' e' ho' he' hb'=>hD e.on o' e' ho' he' hb' hDe) j h3
     ·rw [List.getD_eq_getElem?_getD,List.getElem?_eq_none (by omega)] at h3
      simp at h3

abbrev dn (listed : Array Bool) (i : Nat) : Prop:=listed.getD i false = true

theorem zk {listed : Array Bool} {i j : Nat} (hi : i < listed.size) : dn (listed.setIfInBounds i true) j ↔ (j = i ∨ dn listed j):=by
 unfold dn
 simp only [Array.getD_eq_getD_getElem?,Array.getElem?_setIfInBounds]
 by_cases h : i = j
 ·subst h; simp [hi]
 ·simp [h,Ne.symm h]

theorem yO {P : Program} {l : List Oper} {Q : Exit → Act → World → Prop} (hE : Jb l 0 = true) (I : Array Bool → Act → World → Prop)
  (hstep : ∀ listed i o a w,listed.size = l.length → l[i]? = some o → ¬ dn listed i → jg l (dn listed) → (∀ e ∈ o.after.toList,Region.binds .any e = true → dn listed e.on) → I listed a w →
   wpOp P l.toArray Q i (I (listed.setIfInBounds i true)) a w)
  (hend : ∀ listed a w,listed.size = l.length → (∀ i,i < l.length → dn listed i) → I listed a w → Q .normal a w) :
  ∀ (fuel : Nat) (listed : Array Bool) (a : Act) (w : World),listed.size = l.length → ((List.range l.length).filter fun i=>!listed.getD i false).length ≤ fuel → jg l (dn listed) → I listed a w → wpAny P .any l.toArray Q fuel listed a w:=by
 have hnone : ∀ listed : Array Bool,listed.size = l.length → Region.ready .any l.toArray listed = [] → ∀ i,i < l.length → dn listed i:=by
  intro listed hsz hr i
  induction i using Nat.strongRecOn with
  | _ i ih =>
   intro hi
   by_cases hd : dn listed i
   ·exact hd
   exfalso
   have hm : i ∈ Region.ready .any l.toArray listed:=by
    unfold Region.ready
    rw [List.mem_filter]
    refine ⟨by simpa using hi,?_⟩
    have hg : l.toArray[i]? = some l[i]:=by simp [hi]
    rw [hg]
    simp only [Option.map_some,Option.getD_some,Bool.and_eq_true,Bool.not_eq_true']
    constructor
    ·unfold dn at hd
     rw [Array.getD_eq_getD_getElem?] at hd ⊢
     have : i < listed.size:=by omega
     simp [this] at hd ⊢
     exact hd
    ·rw [← Array.all_toList,List.all_eq_true]
     intro e he
     by_cases hb : Region.binds .any e = true
     ·have hlt:=BU l 0 hE i l[i] e (by simp [hi]) he hb
      have:=ih e.on (by omega) (by omega)
      simp only [Bool.or_eq_true]; exact .inr this
     ·simp [hb]
   rw [hr] at hm; cases hm
 intro fuel
 induction fuel with
 | zero =>
  intro listed a w hsz hf hdc hI
  have hall : ∀ i,i < l.length → dn listed i:=by
   intro i hi
   have : ((List.range l.length).filter fun i=>!listed.getD i false) = []:=List.eq_nil_of_length_eq_zero (by omega)
   rw [List.filter_eq_nil_iff] at this
   have:=this i (by simpa using hi)
   unfold dn; simpa using this
  refine ⟨?_,hend listed a w hsz hall hI⟩
  unfold Region.ready
  rw [List.filter_eq_nil_iff]
  intro i hi
  have hi' : i < l.length:=by simpa using hi
  have:=hall i hi'
  unfold dn at this
  rw [Array.getD_eq_getD_getElem?] at this ⊢
  have hlt : i < listed.size:=by omega
  simp [hlt] at this ⊢
  simp [this]
 | succ fuel ih =>
  intro listed a w hsz hf hdc hI
  refine ⟨fun hr=>hend listed a w hsz (hnone listed hsz hr) hI,fun i hi=>?_⟩
  unfold Region.ready at hi
  rw [List.mem_filter] at hi
  obtain ⟨h1,h2⟩:=hi
  have hil : i < l.length:=by simpa using h1
  have hg : l.toArray[i]? = some l[i]:=by simp [hil]
  rw [hg] at h2
  simp only [Option.map_some,Option.getD_some,Bool.and_eq_true,Bool.not_eq_true'] at h2
  have hnd : ¬ dn listed i:=by
   unfold dn
   have hlt : i < listed.size:=by omega
   have h3:=h2.1
   rw [Array.getD_eq_getD_getElem?] at h3 ⊢
   simp [hlt] at h3 ⊢
   exact h3
  have hpre : ∀ e ∈ l[i].after.toList,Region.binds .any e = true → dn listed e.on:=by
   intro e he hb
   have h4:=h2.2
   rw [← Array.all_toList,List.all_eq_true] at h4
   have:=h4 e he
   simp only [hb,Bool.not_true,Bool.false_or] at this
   exact this
  refine wpOp_mono (fun a' w' hI'=>ih _ a' w' (by simpa using hsz) ?_ ?_ hI') (hstep listed i l[i] a w hsz (by simp [hil]) hnd hdc hpre hI)
  ·have hlt : ((List.range l.length).filter fun j=>!(listed.setIfInBounds i true).getD j false).length < ((List.range l.length).filter fun j=>!listed.getD j false).length:=by
    have hsub : ∀ j,(!(listed.setIfInBounds i true).getD j false) = true → (!listed.getD j false) = true:=by
     intro j hj
     have : ¬ dn (listed.setIfInBounds i true) j:=by unfold dn; simpa using hj
     rw [zk (by omega)] at this
     have h5 : ¬ dn listed j:=fun h=>this (.inr h)
     unfold dn at h5; simpa using h5
    rw [← List.countP_eq_length_filter,← List.countP_eq_length_filter]
    have hmono : ∀ (xs : List Nat),i ∈ xs → xs.countP (fun j=>!(listed.setIfInBounds i true).getD j false) < xs.countP (fun j=>!listed.getD j false):=by
     intro xs
     induction xs with
     | nil=>intro h; cases h
     | cons x xs ihx =>
      intro hx
      have hle : xs.countP (fun j=>!(listed.setIfInBounds i true).getD j false) ≤ xs.countP (fun j=>!listed.getD j false):=List.countP_mono_left (fun j _=>hsub j)
      rw [List.countP_cons,List.countP_cons]
      rcases List.mem_cons.1 hx with rfl | hx
      ·have e1 : (!(listed.setIfInBounds i true).getD i false) = false:=by
        have : dn (listed.setIfInBounds i true) i:=(zk (by omega)).2 (.inl rfl)
        unfold dn at this; simp [this]
       have e2 : (!listed.getD i false) = true:=by unfold dn at hnd; simpa using hnd
       rw [e1,e2]; simp only [Bool.false_eq_true,if_false,if_true]; omega
      ·have:=ihx hx
       by_cases hc : (!(listed.setIfInBounds i true).getD x false) = true
       ·rw [hc,hsub x hc]; simp only [if_true]; omega
       ·simp only [Bool.not_eq_true] at hc; rw [hc]; simp only [Bool.false_eq_true,if_false]; split <;> omega
    exact hmono _ (by simpa using hil)
   omega
  ·intro j o e hj he hb hdj
   rw [zk (by omega)] at hdj ⊢
   rcases hdj with rfl | hdj
   ·have : o = l[j]:=by rw [List.getElem?_eq_getElem hil] at hj; simpa using hj.symm
    subst this
    exact .inr (hpre e he hb)
   ·exact .inr (hdc j o e hj he hb hdj)

def DrawI (P : Program) (l hd tl : List Oper) (Q : Exit → Act → World → Prop) (n : Nat) (ts : List Nat) (e0 : List (Nat × Value)) (C : World → Prop) (G : Nat → Value → World → Prop) (listed : Array Bool) (a : Act) (w : World) : Prop :=
 ((∀ i,i < hd.length → dn listed i) ∧ ∃ k,k ≤ tl.length ∧ (∀ j,j < k → dn listed (hd.length + j)) ∧ (∀ j,k ≤ j → j < tl.length → ¬ dn listed (hd.length + j)) ∧ wpList P l.toArray Q (tl.drop k) a w) ∨
 ((¬ ∀ i,i < hd.length → dn listed i) ∧ (∀ j,hd.length ≤ j → ¬ dn listed j) ∧ ∃ u,Env n a (Qs ts 0 u e0) ∧ C w ∧ ∀ j,dn listed j → G j (u j) w)

end
section
open Go

def YH (cs : List Value) (o : Nat) (vs : List Value) : List Value:=cs.take o ++ (vs ++ cs.drop (o + vs.length))
theorem Us {cs : List Value} {o : Nat} {vs : List Value} (h : o + vs.length ≤ cs.length) : (YH cs o vs).length = cs.length:=by
 simp [YH]; omega
theorem jY (p c q d : List Value) (h : d.length = c.length) : YH (p ++ (c ++ q)) p.length d = p ++ (d ++ q):=by
 unfold YH
 rw [List.take_left,h,← List.append_assoc p c q,← List.length_append,List.drop_left]
theorem z7 {p c q d : List Value} {k o : Nat} (ho : o = p.length + k) (h : k + d.length ≤ c.length) : YH (p ++ (c ++ q)) o d = p ++ (YH c k d ++ q):=by
 subst ho
 unfold YH
 rw [List.take_length_add_append,List.append_assoc,List.append_assoc,List.append_assoc]
 congr 1
 rw [List.take_append_of_le_length (by omega)]
 congr 1
 congr 1
 rw [Nat.add_assoc,List.drop_length_add_append,List.drop_append_of_le_length (by omega)]
theorem ZZ {c d : List Value} (h : d.length = c.length) : YH c 0 d = d:=by simp [YH,h]

theorem yR (w : World) (b o : Nat) (v : Value) (c : Array Value) (T : TypeId) (fz : Nat × Nat) (h : w.heap[b]? = some (.cells c T fz)) :
  (w.setCell ⟨b,o,none⟩ v).heap[b]? = some (.cells (c.setIfInBounds o v) T fz):=by
 simp [World.setCell,Array.getElem?_modify,h]
theorem WU (b : Nat) (T : TypeId) (fz : Nat × Nat) : ∀ (vs : List Value) (o : Nat) (w : World) (c : Array Value),w.heap[b]? = some (.cells c T fz) → o + vs.length ≤ c.size →
  (w.setCells b o vs).heap[b]? = some (.cells (YH c.toList o vs).toArray T fz)
 | [],o,w,c,h,hl=>by simp [World.setCells,YH,h]
 | v :: r,o,w,c,h,hl=>by
  simp only [List.length_cons] at hl
  rw [World.setCells,WU b T fz r (o + 1) _ _ (yR w b o v c T fz h) (by simp; omega)]
  congr 2
  simp only [Array.toList_setIfInBounds,YH,List.length_cons]
  apply Array.ext'
  simp only []
  have h1 : (c.toList.set o v).take (o + 1) = c.toList.take o ++ [v]:=by
   rw [List.take_set,List.take_succ_eq_append_getElem (by simp; omega),List.set_append_right _ _ (by simp; omega)]
   congr 1
   have : o - (c.toList.take o).length = 0:=by simp; omega
   rw [this]; rfl
  have h2 : (c.toList.set o v).drop (o + 1 + r.length) = c.toList.drop (o + (r.length + 1)):=by
   rw [List.drop_set_of_lt (by omega)]; congr 1; omega
  rw [h1,h2]; simp
theorem VZ (b k : Nat) (hk : k ≠ b) : ∀ (vs : List Value) (o : Nat) (w : World),(w.setCells b o vs).heap[k]? = w.heap[k]?
 | [],_,_=>rfl
 | v :: r,o,w=>by
  rw [World.setCells,VZ b k hk r]
  simp only [World.setCell,Array.getElem?_modify]
  rw [if_neg (by omega)]
theorem Tp (b : Nat) : ∀ (vs : List Value) (o : Nat) (w : World),(w.setCells b o vs).heap.size = w.heap.size
 | [],_,_=>rfl
 | v :: r,o,w=>by rw [World.setCells,Tp b r]; simp [World.setCell]
theorem Ym (b : Nat) : ∀ (vs : List Value) (o : Nat) (w : World),(w.setCells b o vs).os = w.os ∧ (w.setCells b o vs).tape = w.tape ∧ (w.setCells b o vs).output = w.output
 | [],_,_=>⟨rfl,rfl,rfl⟩
 | v :: r,o,w=>by rw [World.setCells]; have:=Ym b r (o + 1) (w.setCell ⟨b,o,none⟩ v); exact this

theorem KG {P : Program} {w : World} {b o : Nat} {c : Array Value} {T : TypeId} {fz : Nat × Nat} {vs : List Value} (h : w.heap[b]? = some (.cells c T fz)) (hl : o + vs.length ≤ c.size)
  (hf : ∀ i,i < c.size → ¬ (fz.1 ≤ i ∧ i < fz.2)) (h1 : ∀ v ∈ vs,v.oneCell' = true) : (storeCells ⟨b,o,none⟩ vs).run P w = .ok () (w.setCells b o vs):=by
 have:=run_storeCells_cells (P:=P) b o vs 0 w (fun j hj=>by
   simp only [Nat.add_zero]
   have : o + j < c.size:=by omega
   simp [World.cell?,h,this]) (fun j hj=>by
   simp only [Nat.add_zero,World.frozen?,h]
   have:=hf (o + j) (by omega)
   simp only [Bool.and_eq_false_iff,decide_eq_false_iff_not]
   by_cases h3 : fz.1 ≤ o + j
   ·exact .inr (fun h4=>this ⟨h3,h4⟩)
   ·exact .inl h3) h1
 simpa using this

section
variable {n : Nat} {a : Act} {e : List (Nat × Value)} {w w' : World} {P : Program} {ops : Array Oper} {rest : List Oper} {Q : Exit → Act → World → Prop}
variable {d : Nat} {ty t : TypeId} {pos : String} {af : Array Edge} {g : Option (Nat × Bool)} {x y : Operand} {v : Value}
variable {St : Nat → Prop} {w0 : World} {its : List Item}

theorem M.storesRaw {b o : Nat} {cs seg : List Value} (hM : M St w0 w (raw b cs :: its)) (hb : o + seg.length ≤ cs.length) (hc : ∀ v ∈ seg,v.oneCell' = true) :
  (storeCells ⟨b,o,none⟩ seg).run P w = .ok () (w.setCells b o seg) ∧ M St w0 (w.setCells b o seg) (raw b (YH cs o seg) :: its):=by
 obtain ⟨fp,⟨rfl,T,hheap⟩,_⟩:=hM.head
 refine ⟨KG (P:=P) (o:=o) hheap (by simpa using hb) (by intro i hi; simp) hc,?_⟩
 refine M.turn (new:=[raw b (YH cs o seg)]) hM (Ym _ _ _ _).1 (Ym _ _ _ _).2.1 (Ym _ _ _ _).2.2 (by rw [Tp]; exact Nat.le_refl _) ?_
 rintro fp ⟨rfl,T',_⟩ _ _
 refine ⟨fun k hk _=>VZ _ _ (by simpa using hk) _ _ _,[b],⟨[b],[],rfl,kW,⟨rfl,T,?_⟩,rfl⟩,by simp,fun k hk=>.inl hk⟩
 rw [WU b T (0,0) _ _ _ _ hheap (by simpa using hb)]
theorem Xs {D : TypeDesc} {sz by_ : Nat} {z : List Value} {b o : Nat} {cs seg cs' : List Value} {u : Value} (h : Env n a e) (hM : M St w0 w (raw b cs :: its)) (hw : Goes ops ⟨none,.store t x y,ty,pos,af,g⟩ a)
  (hx : opv e x = some (ptr b o)) (hy : opv e y = some u) (hu : u.cells.toList = seg) (ht : Ty P t D sz by_ z) (hl : seg.length = sz) (hb : o + seg.length ≤ cs.length) (hc : ∀ v ∈ seg,v.oneCell' = true) (hs : YH cs o seg = cs')
  (k : ∀ w a,M St w0 w (raw b cs' :: its) → Env n a e → wpList P ops Q rest a w) : wpList P ops Q (⟨none,.store t x y,ty,pos,af,g⟩ :: rest) a w:=by
 subst hs
 obtain ⟨hr,hM'⟩:=M.storesRaw (P:=P) hM hb hc
 refine ke h hw rfl (w':=w.setCells b o seg) ?_ fun a ha=>k _ _ hM' ha
 simp only [execOp,h.ev hx,h.ev hy]
 have hsz : u.cells.size = sz:=by rw [← hl,← hu]; simp
 simp [Instr.storeAt,Instr.sureAddr,storeVar,Va ht,hsz,hu,hr]

end

def X5 {α : Type} [Rep α] (S : Nat → Prop) (w : World) (l : List α) (v : Value) (fp : List Nat) : Prop :=
  ∃ p cap,v = .slice p l.length cap ∧ l.length ≤ cap ∧
    ((cap = 0 ∧ fp = [] ∧ True) ∨
     ∃ b o ecs fpe,p = some ⟨b,o,none⟩ ∧ Z1 S w l ecs fpe ∧ At w b o ecs ∧ fp = b :: fpe ∧ Ae w b o (cap * Rep.n α))
def osl {α : Type} [Rep α] (S : Nat → Prop) (l : List α) (v : Value) : Item:=fun w fp=>X5 S w l v fp

section
variable {α : Type} [Rep α] {S St : Nat → Prop} {w w' : World} {l : List α} {v : Value} {fp : List Nat}
theorem X5.sat (h : X5 S w l v fp) : Rep.sat S w l [v] fp:=by
 obtain ⟨p,cap,rfl,hc,h⟩:=h
 refine ⟨p,cap,rfl,hc,?_⟩
 rcases h with ⟨rfl,rfl,hp⟩ | ⟨b,o,ecs,fpe,rfl,h1,h2,rfl,h3⟩
 ·have : l = []:=List.eq_nil_of_length_eq_zero (by omega)
  subst this
  cases p with
  | none=>exact ⟨rfl,rfl⟩
  | some q=>exact ⟨fun h=>absurd rfl h,[],[],⟨rfl,rfl⟩,At.nil _ _ _,.inl ⟨fun h=>absurd rfl h,rfl⟩⟩
 ·exact ⟨fun _=>rfl,ecs,fpe,h1,h2,.inr ⟨rfl,h3,rfl⟩⟩
theorem X5.loc (h : X5 S w l v fp) (hb : ∀ b,(b ∈ fp ∨ S b) → w'.heap[b]? = w.heap[b]?) : X5 S w' l v fp:=by
 obtain ⟨p,cap,rfl,hc,h⟩:=h
 refine ⟨p,cap,rfl,hc,?_⟩
 rcases h with h | ⟨b,o,ecs,fpe,rfl,h1,h2,rfl,h3⟩
 ·exact .inl h
 ·exact .inr ⟨b,o,ecs,fpe,rfl,h1.loc (fun b h=>hb b (by simp; grind)),h2.loc (hb b (by simp)),rfl,h3.loc (hb b (by simp))⟩
theorem VK (hS : ∀ b,S b → St b) : Loc St (osl S l v):=fun _ _ _ h hb=>X5.loc h fun b h=>hb b (h.imp id (hS b))
theorem M.sl {w0 : World} {pre post : List Item} (h : M St w0 w (pre ++ osl S l v :: post)) (hS : ∀ b,S b → St b) : Ro w l [v]:=by
 obtain ⟨fp,h1,h2⟩:=h.get
 exact Rep.ro (X5.sat h1) fun b hb=>hb.elim (h2 b) (fun hb=>h.st' b (hS b hb))
theorem noB {St : Nat → Prop} : ∀ b,NoB b → St b:=fun _ h=>h.elim
theorem M.rd {β : Type} [Rep β] {w0 : World} {its : List Item} {x : β} {cs : List Value} (h : M St w0 w its) (hx : Rep.sat St w0 x cs []) : Rep.sat St w x cs [] :=
 Rep.loc hx fun b hb=>h.kept.block b (hb.elim (fun h=>by cases h) id)
theorem M.rdo {β : Type} [Rep β] {w0 : World} {its : List Item} {x : β} {cs : List Value} (h : M St w0 w its) (hx : Rep.sat St w0 x cs []) : Ro w x cs :=
 Rep.ro (h.rd hx) fun b hb=>hb.elim (fun h=>by cases h) (h.st' b)
end

theorem Wc {α : Type} [Flat α] {S : Nat → Prop} {w : World} : ∀ {l : List α} {cs : List Value} {fp : List Nat},Z1 S w l cs fp ↔ cs = VN l ∧ fp = []
 | [],cs,fp=>Iff.rfl
 | x :: l,cs,fp=>by
  constructor
  ·rintro ⟨c,cs',f,fp',rfl,rfl,⟨rfl,rfl⟩,h⟩
   obtain ⟨rfl,rfl⟩:=Wc.1 h
   exact ⟨rfl,rfl⟩
  ·rintro ⟨rfl,rfl⟩
   exact ⟨Flat.enc x,VN l,[],[],rfl,rfl,⟨rfl,rfl⟩,Wc.2 ⟨rfl,rfl⟩⟩

theorem JK {α : Type} [Rep α] {P : Program} {w : World} {S S2 : Nat → Prop} {l m : List α} {v u : Value} {fp fq : List Nat} {t ty el : TypeId} {D : TypeDesc} {by_ : Nat} {z : List Value}
    (ho : X5 S w l v fp) (hu : Rep.sat S2 w m [u] fq) (ht : P.underlying t = some (.slice el)) (he : Ty P el D (Rep.n α) by_ z) (hzl : z.length = Rep.n α) (h0 : 0 < by_) (hb : (l.length + m.length) * by_ ≤ 140737488355328) :
    ∃ v' w',(Builtin.append_ #[t,t] ty #[v,u]).run P w = .ok v' w' ∧ w'.os = w.os ∧ w'.tape = w.tape ∧ w'.output = w.output ∧ w.heap.size ≤ w'.heap.size ∧ (∀ b,b < w.heap.size → (b ∈ fp → b ≠ sb v) → w'.heap[b]? = w.heap[b]?) ∧
      ∃ p cap,v' = .slice p (l.length + m.length) cap ∧ l.length + m.length ≤ cap ∧
        ((cap = 0 ∧ fp = [] ∧ True) ∨
         ∃ b o ecs fpe news fqe,p = some ⟨b,o,none⟩ ∧ Z1 S w l ecs fpe ∧ Z1 S2 w m news fqe ∧ (∀ k ∈ fqe,k ∈ fq) ∧ fqe.Sublist fq ∧ fpe.Sublist fp ∧ (fp = [] ∨ fp = sb v :: fpe) ∧ At w' b o (ecs ++ news) ∧ Ae w' b o (cap * Rep.n α) ∧
           (fp = b :: fpe ∨ (w.heap.size ≤ b ∧ b < w'.heap.size))):=by
  obtain ⟨i,zv,hi,hsz,hby,hz,hzc⟩:=he.get
  obtain ⟨p,cap,rfl,hc,ho⟩:=ho
  obtain ⟨pu,capu,hu1,hcu,hu2⟩:=hu
  simp only [List.cons.injEq,and_true] at hu1
  subst hu1
  have hle : l.length + m.length ≤ 140737488355328:=Nat.le_trans (Nat.le_mul_of_pos_right _ h0) hb
  -- the new cells
  obtain ⟨news,fqe,hnews,hnl,hsub,hfirst⟩ : ∃ news fqe,Z1 S2 w m news fqe ∧ news.length = m.length * i.size ∧ fqe.Sublist fq ∧ (m = [] ∨ ∃ a : Addr,pu = some a ∧ ∀ j v,news[j]? = some v → w.cell? (a.add j) = some v):=by
    cases pu with
    | none =>
      have : m = []:=List.eq_nil_of_length_eq_zero (by have:=hu2.1; omega)
      subst this
      exact ⟨[],[],⟨rfl,rfl⟩,by simp,List.nil_sublist _,.inl rfl⟩
    | some q =>
      by_cases hm : m = []
      · subst hm; exact ⟨[],[],⟨rfl,rfl⟩,by simp,List.nil_sublist _,.inl rfl⟩
      obtain ⟨q1,q2,q3⟩:=q
      obtain ⟨hs,ecs,fpe,k1,k2,k3⟩:=hu2
      have hs:=hs (by have:=List.length_pos_iff.2 hm; omega)
      simp only at hs
      subst hs
      refine ⟨ecs,fpe,k1,by rw [k1.len,hsz],?_,.inr ⟨_,rfl,fun j v hv=>by rw [Addr.add_lit]; exact k2 j v hv⟩⟩
      rcases k3 with ⟨_,rfl⟩ | ⟨rfl,_⟩
      · exact List.Sublist.refl _
      · exact List.sublist_cons_self _ _
  have hfqm : ∀ k ∈ fqe,k ∈ fq:=fun k hk=>hsub.subset hk
  have h1 : ∀ u ∈ news,u.oneCell' = true:=hnews.cell
  -- in place,or a new array
  by_cases hroom : l.length + m.length ≤ cap
  · -- in place
    rcases ho with ⟨rfl,rfl,hp⟩ | ⟨b,o,ecs,fpe,rfl,k1,k2,rfl,k3⟩
    · have hl0 : l = []:=List.eq_nil_of_length_eq_zero (by omega)
      have hm0 : m = []:=List.eq_nil_of_length_eq_zero (by omega)
      subst hl0; subst hm0
      refine ⟨.slice p 0 0,w,?_,rfl,rfl,rfl,Nat.le_refl _,fun _ _ _=>rfl,p,0,rfl,Nat.le_refl _,.inl ⟨rfl,rfl,hp⟩⟩
      have hl : ∀ (x : Addr),(loadCells x 0).run P w = .ok #[] w:=fun x=>by simpa using run_loadCells_list (P:=P) w x [] (by simp)
      cases p <;> cases pu <;> simp [Builtin.append_,run_underlying ht,sizeOf,typeInfo,hi,Builtin.lenOf,Builtin.firstCells,hl,storeCells]
    · obtain ⟨c,T,fz,hheap,hsize,hfz⟩:=k3
      have hfit : o + l.length * i.size + news.length ≤ c.size:=by
        have : (l.length + m.length) * Rep.n α ≤ cap * Rep.n α:=Nat.mul_le_mul_right _ hroom
        rw [Nat.add_mul] at this
        rw [hnl,hsz]; omega
      have hst:=KG (P:=P) (o:=o + l.length * i.size) (vs:=news) hheap (by omega) hfz h1
      refine ⟨.slice (some ⟨b,o,none⟩) (l.length + m.length) cap,w.setCells b (o + l.length * i.size) news,?_,(Ym _ _ _ _).1,(Ym _ _ _ _).2.1,(Ym _ _ _ _).2.2,
        by rw [Tp]; exact Nat.le_refl _,fun k _ hk=>VZ _ _ (fun h=>hk (by rw [h]; simp) (by rw [h]; rfl)) _ _ _,some ⟨b,o,none⟩,cap,rfl,hroom,.inr ⟨b,o,ecs,fpe,news,fqe,rfl,k1,hnews,hfqm,hsub,List.sublist_cons_self _ _,.inr rfl,?_,?_,.inl rfl⟩⟩
      · have hf : (Builtin.firstCells i.size m.length (.slice pu m.length capu)).run P w = .ok news.toArray w:=by
          rcases hfirst with rfl | ⟨a,rfl,ha⟩
          · have : news = []:=List.eq_nil_of_length_eq_zero (by simpa using hnl)
            subst this
            have hl : ∀ (x : Addr),(loadCells x 0).run P w = .ok #[] w:=fun x=>by simpa using run_loadCells_list (P:=P) w x [] (by simp)
            cases pu <;> simp [Builtin.firstCells,hl]
          · exact run_firstCells_some (P:=P) w i.size m.length a m.length capu news hnl ha
        simp [Builtin.append_,run_underlying ht,sizeOf,typeInfo,hi,Builtin.lenOf,hroom,hf,Addr.add_lit,hst]
      · have hh:=WU b T fz news (o + l.length * i.size) w c hheap (by omega)
        have hel : ecs.length = l.length * i.size:=by rw [k1.len,hsz]
        refine At.append.2 ⟨fun j v hv=>?_,fun j v hv=>?_⟩
        · have hj:=(List.getElem?_eq_some_iff.1 hv).1
          have:=k2 j v hv
          simp only [World.cell?,hheap,hh] at this ⊢
          simp only [Option.isSome_none,Bool.false_eq_true,if_false] at this ⊢
          rw [List.getElem?_toArray,YH,List.getElem?_append_left (by simp; omega),List.getElem?_take,if_pos (by omega)]
          simpa using this
        · have hj:=(List.getElem?_eq_some_iff.1 hv).1
          rw [hel]
          simp only [World.cell?,hh]
          simp only [Option.isSome_none,Bool.false_eq_true,if_false]
          rw [List.getElem?_toArray,YH,List.getElem?_append_right (by simp; omega)]
          have : o + l.length * i.size + j - (c.toList.take (o + l.length * i.size)).length = j:=by simp; omega
          rw [this,List.getElem?_append_left hj]; exact hv
      · refine ⟨_,T,fz,WU b T fz news _ w c hheap (by omega),?_,?_⟩
        · rw [List.size_toArray,Us (by simpa using hfit)]; simpa using hsize
        · intro j hj
          rw [List.size_toArray,Us (by simpa using hfit)] at hj
          exact hfz j (by simpa using hj)
  · -- it grows
    have hm0 : m ≠ []:=fun h=>by subst h; simp at hroom; omega
    have hmpos : 0 < m.length:=List.length_pos_iff.2 hm0
    rcases hfirst with rfl | ⟨a,rfl,ha⟩
    · exact absurd rfl hm0
    have hfit : Builtin.nextslicecap (l.length + m.length) cap * i.bytes ≤ 281474976710656:=growslice_fits (by omega) (by rw [hby]; exact hb)
    have h63 : ((l.length + m.length : Nat) : Int) ≤ 9223372036854775807:=by omega
    have hgc:=grownCap_ge w (l.length + m.length) cap el
    -- the old cells
    obtain ⟨olds,fpe,k1,hol,hfpe,hfps,hrun⟩ : ∃ olds fpe,Z1 S w l olds fpe ∧ olds.length = l.length * i.size ∧ fpe.Sublist fp ∧ (fp = [] ∨ fp = sb (.slice p l.length cap) :: fpe) ∧
        (Builtin.append_ #[t,t] ty #[.slice p l.length cap,.slice (some a) m.length capu]).run P w =
          .ok (.slice (some ⟨w.heap.size,0,none⟩) (l.length + m.length) (grownCap w (l.length + m.length) cap el))
            (w.drew.alloc (.cells (olds.toArray ++ news.toArray ++ Builtin.zeroCells zv.cells (grownCap w (l.length + m.length) cap el - (l.length + m.length))) el)):=by
      rcases ho with ⟨rfl,rfl,hp⟩ | ⟨b,o,ecs,fpe,rfl,k1,k2,rfl,k3⟩
      · have hl0 : l = []:=List.eq_nil_of_length_eq_zero (by omega)
        subst hl0
        refine ⟨[],[],⟨rfl,rfl⟩,by simp,List.nil_sublist _,.inl rfl,?_⟩
        cases p with
        | none =>
          have h48 : m.length * i.bytes ≤ 281474976710656:=by
            rw [hby]; simp only [List.length_nil,Nat.zero_add] at hb; omega
          have:=run_append_nil (P:=P) w t ty el i zv ht hi hz a m.length capu news hnl ha hmpos (by omega) h48
          simpa using this
        | some q=>exact run_append_grow (P:=P) w t ty el i zv ht hi hz q 0 0 [] (by simp) (by simp) a m.length capu news hnl ha (by simpa using hmpos) (by simpa using h63) hfit
      · exact ⟨ecs,fpe,k1,by rw [k1.len,hsz],List.sublist_cons_self _ _,.inr rfl,run_append_grow (P:=P) w t ty el i zv ht hi hz ⟨b,o,none⟩ l.length cap ecs (by rw [k1.len,hsz]) (fun j v hv=>by rw [Addr.add_lit]; exact k2 j v hv) a m.length capu news hnl ha (by omega) h63 hfit⟩
    have hnewheap:=U4 w.drew (.cells (olds.toArray ++ news.toArray ++ Builtin.zeroCells zv.cells (grownCap w (l.length + m.length) cap el - (l.length + m.length))) el)
    refine ⟨_,_,hrun,rfl,rfl,rfl,by simp,fun k hk _=>T0 w.drew _ k hk,_,_,rfl,hgc,.inr ⟨w.heap.size,0,olds,fpe,news,fqe,rfl,k1,hnews,hfqm,hsub,hfpe,hfps,?_,?_,.inr ⟨Nat.le_refl _,by simp⟩⟩⟩
    · intro j v hv
      have hj:=(List.getElem?_eq_some_iff.1 hv).1
      simp only [World.cell?]
      rw [show w.heap.size = w.drew.heap.size from rfl,hnewheap]
      simp only [Option.isSome_none,Bool.false_eq_true,if_false,Nat.zero_add]
      rw [Array.getElem?_append_left (by simpa using hj)]
      simpa using hv
    · refine ⟨_,el,(0,0),hnewheap,?_,by intro j _; simp⟩
      have hzs : zv.cells.size = i.size:=by
        have:=congrArg List.length hzc
        rw [hzl] at this; simpa [hsz] using this
      simp only [Array.size_append,List.size_toArray,size_zeroCells,hol,hnl,hzs,← hsz]
      rw [← Nat.add_mul,← Nat.add_mul,Nat.zero_add,show l.length + m.length + (grownCap w (l.length + m.length) cap el - (l.length + m.length)) = grownCap w (l.length + m.length) cap el by omega]
      exact Nat.le_refl _

section
variable {n : Nat} {a : Act} {e : List (Nat × Value)} {w w' : World} {P : Program} {ops : Array Oper} {rest : List Oper} {Q : Exit → Act → World → Prop}
variable {d : Nat} {ty t : TypeId} {pos : String} {af : Array Edge} {g : Option (Nat × Bool)} {x y : Operand} {v u : Value}
variable {St : Nat → Prop} {w0 : World} {its : List Item}

theorem Z9 {α : Type} [Flat α] {S2 : Nat → Prop} {l m : List α} {fq : List Nat} {el : TypeId} {D : TypeDesc} {by_ : Nat} {z : List Value}
  (h : Env n a e) (hM : M St w0 w (osl NoB l v :: its)) (hw : Goes ops ⟨some d,.call ⟨.builtin .append,[x,y].toArray,[t,t].toArray⟩,ty,pos,af,g⟩ a) (hd : d < n) (hx : opv e x = some v) (hy : opv e y = some u)
  (hu : Rep.sat S2 w m [u] fq) (ht : P.underlying t = some (.slice el)) (he : Ty P el D (Rep.n α) by_ z) (hzl : z.length = Rep.n α) (h0 : 0 < by_) (hb : (l.length + m.length) * by_ ≤ 140737488355328)
  (k : ∀ v' w a,M St w0 w (osl NoB (l ++ m) v' :: its) → Env n a ((d,v') :: e) → wpList P ops Q rest a w) : wpList P ops Q (⟨some d,.call ⟨.builtin .append,[x,y].toArray,[t,t].toArray⟩,ty,pos,af,g⟩ :: rest) a w:=by
 obtain ⟨fp,hfp,_⟩:=hM.head
 obtain ⟨v',w',hr,hos,htp,hout,hsz,_,_⟩:=JK (ty:=ty) hfp hu ht he hzl h0 hb
 refine Xw h hw rfl hd (v:=v') (w':=w') (by simp only [execOp,resolve]; simp [invoke,builtin,h.ev hx,h.ev hy,hr]) fun a ha=>k _ _ _ ?_ ha
 refine hM.turn (new:=[osl NoB (l ++ m) v']) hos htp hout hsz ?_
 intro fp hfp hlt hnd
 obtain ⟨v2,w2,hr2,_,_,_,_,hother,p,cap,hv2,hc,hres⟩:=JK (ty:=ty) hfp hu ht he hzl h0 hb
 rw [hr] at hr2
 simp only [Result.ok.injEq] at hr2
 obtain ⟨rfl,rfl⟩:=hr2
 refine ⟨fun b hb hb'=>hother b hb' (fun h=>absurd h hb),?_⟩
 have hlen : l.length + m.length = (l ++ m).length:=by simp
 rcases hres with ⟨rfl,rfl,hq⟩ | ⟨b,o,ecs,fpe,news,fqe,rfl,k1,k2,_,_,_,_,k3,k4,k5⟩
 ·exact ⟨[],⟨[],[],rfl,VK noB,⟨p,0,by rw [hv2,hlen],by rw [← hlen]; exact hc,.inl ⟨rfl,rfl,hq⟩⟩,rfl⟩,List.nodup_nil,fun b hb=>by cases hb⟩
 ·obtain ⟨rfl,rfl⟩:=Wc.1 k1
  obtain ⟨rfl,rfl⟩:=Wc.1 k2
  refine ⟨[b],⟨[b],[],rfl,VK noB,⟨some ⟨b,o,none⟩,cap,by rw [hv2,hlen],by rw [← hlen]; exact hc,.inr ⟨b,o,VN l ++ VN m,[],rfl,?_,k3,rfl,k4⟩⟩,rfl⟩,by simp,fun b' hb'=>?_⟩
  ·exact Z1.append (fp:=[]) (gp:=[]) (Wc.2 ⟨rfl,rfl⟩) (Wc.2 ⟨rfl,rfl⟩)
  ·simp at hb'; subst hb'
   rcases k5 with rfl | k5
   ·exact .inl (by simp)
   ·exact .inr k5
theorem UM {α : Type} [Rep α] {S : Nat → Prop} {l m : List α} {el : TypeId} {D : TypeDesc} {by_ : Nat} {z : List Value}
  (h : Env n a e) (hM : M St w0 w (osl S l v :: osl S m u :: its)) (hS : ∀ b,S b → St b) (hw : Goes ops ⟨some d,.call ⟨.builtin .append,[x,y].toArray,[t,t].toArray⟩,ty,pos,af,g⟩ a) (hd : d < n) (hx : opv e x = some v) (hy : opv e y = some u)
  (ht : P.underlying t = some (.slice el)) (he : Ty P el D (Rep.n α) by_ z) (hzl : z.length = Rep.n α) (h0 : 0 < by_) (hb : (l.length + m.length) * by_ ≤ 140737488355328)
  (k : ∀ v' w a,M St w0 w (osl S (l ++ m) v' :: its) → Env n a ((d,v') :: e) → wpList P ops Q rest a w) : wpList P ops Q (⟨some d,.call ⟨.builtin .append,[x,y].toArray,[t,t].toArray⟩,ty,pos,af,g⟩ :: rest) a w:=by
 -- the two items as one
 obtain ⟨hk,hs,fp,⟨f1,f',rfl,hl1,h1,f2,f3,rfl,hl2,h2,h3⟩,hnd,hlt⟩:=hM
 have hM2 : M St w0 w ((fun w fp=>∃ f1 f2,fp = f1 ++ f2 ∧ X5 S w l v f1 ∧ X5 S w m u f2) :: its):=by
  refine ⟨hk,hs,(f1 ++ f2) ++ f3,⟨f1 ++ f2,f3,rfl,?_,⟨f1,f2,rfl,h1,h2⟩,h3⟩,by simpa using hnd,by simpa using hlt⟩
  rintro w w' fp ⟨g1,g2,rfl,k1,k2⟩ hb
  exact ⟨g1,g2,rfl,k1.loc (fun b h=>hb b (by rcases h with h | h; exact .inl (by simp [h]); exact .inr (hS b h))),k2.loc (fun b h=>hb b (by rcases h with h | h; exact .inl (by simp [h]); exact .inr (hS b h)))⟩
 obtain ⟨v',w',hr,hos,htp,hout,hsz,_,_⟩:=JK (ty:=ty) h1 h2.sat ht he hzl h0 hb
 refine Xw h hw rfl hd (v:=v') (w':=w') (by simp only [execOp,resolve]; simp [invoke,builtin,h.ev hx,h.ev hy,hr]) fun a ha=>k _ _ _ ?_ ha
 have hst:=hM2.st'
 refine hM2.turn (new:=[osl S (l ++ m) v']) hos htp hout hsz ?_
 rintro fp ⟨g1,g2,rfl,k1,k2⟩ hlt hnd
 obtain ⟨v2,w2,hr2,_,_,_,_,hother,p,cap,hv2,hc,hres⟩:=JK (ty:=ty) k1 k2.sat ht he hzl h0 hb
 rw [hr] at hr2
 simp only [Result.ok.injEq] at hr2
 obtain ⟨rfl,rfl⟩:=hr2
 refine ⟨fun b hb hb'=>hother b hb' (fun h=>absurd (by simp [h]) hb),?_⟩
 have hlen : l.length + m.length = (l ++ m).length:=by simp
 obtain ⟨n1,n2,n3⟩:=List.nodup_append.1 hnd
 rcases hres with ⟨rfl,rfl,hq⟩ | ⟨b,o,ecs,fpe,news,fqe,rfl,j1,j2,j3,j4,j5,j9,j6,j7,j8⟩
 ·exact ⟨[],⟨[],[],rfl,VK hS,⟨p,0,by rw [hv2,hlen],by rw [← hlen]; exact hc,.inl ⟨rfl,rfl,hq⟩⟩,rfl⟩,List.nodup_nil,fun b hb=>by cases hb⟩
 ·have hbg2 : b ∉ g2:=by
   intro hb
   rcases j8 with hg1 | j8
   ·exact n3 b (by rw [hg1]; simp) b hb rfl
   ·have:=(hlt b (by simp [hb])).2; omega
  have hbfpe : b ∉ fpe:=by
   intro hb
   rcases j8 with hg1 | j8
   ·rw [hg1] at n1; exact (List.nodup_cons.1 n1).1 hb
   ·have:=(hlt b (by simp [j5.subset hb])).2; omega
  have hkeep : ∀ c,(c ∈ fpe ∨ c ∈ fqe ∨ S c) → w'.heap[c]? = w.heap[c]?:=by
   intro c hc'
   refine hother c ?_ ?_
   ·rcases hc' with h | h | h
    ·exact (hlt c (by simp [j5.subset h])).2
    ·exact (hlt c (by simp [j3 c h])).2
    ·exact hst c (hS c h)
   ·rintro hcg rfl
    rcases hc' with h | h | h
    ·rcases j9 with rfl | hg
     ·cases hcg
     ·rw [hg] at n1; exact (List.nodup_cons.1 n1).1 h
    ·exact n3 _ hcg _ (j3 _ h) rfl
    ·exact (hlt _ (by simp [hcg])).1 (hS _ h)
  refine ⟨b :: (fpe ++ fqe),⟨b :: (fpe ++ fqe),[],by simp,VK hS,⟨some ⟨b,o,none⟩,cap,by rw [hv2,hlen],by rw [← hlen]; exact hc,.inr ⟨b,o,ecs ++ news,fpe ++ fqe,rfl,?_,j6,rfl,j7⟩⟩,rfl⟩,?_,?_⟩
  ·exact Z1.append (j1.loc fun c hc=>hkeep c (by rcases hc with h | h; exact .inl h; exact .inr (.inr h))) (j2.loc fun c hc=>hkeep c (by rcases hc with h | h; exact .inr (.inl h); exact .inr (.inr h)))
  ·refine List.nodup_cons.2 ⟨fun h=>?_,List.nodup_append.2 ⟨j5.nodup n1,j4.nodup n2,fun x hx y hy hxy=>n3 x (j5.subset hx) y (j3 y hy) hxy⟩⟩
   rcases List.mem_append.1 h with h | h
   ·exact hbfpe h
   ·exact hbg2 (j3 b h)
  ·intro c hc
   rcases List.mem_cons.1 hc with rfl | hc
   ·rcases j8 with rfl | j8
    ·exact .inl (by simp)
    ·exact .inr j8
   ·rcases List.mem_append.1 hc with h | h
    ·exact .inl (by simp [j5.subset h])
    ·exact .inl (by simp [j3 c h])
end
end
section
open Go

theorem zN {cs a b : List Value} {o : Nat} (h : o + a.length + b.length ≤ cs.length) : YH (YH cs o a) (o + a.length) b = YH cs o (a ++ b):=by
 have hP : (cs.take o ++ a).length = o + a.length:=by simp; omega
 unfold YH
 rw [← List.append_assoc (cs.take o) a,List.take_left' hP,← hP,List.drop_append,hP]
 rw [List.drop_of_length_le (by rw [hP]; omega),List.nil_append,List.drop_drop,show o + a.length + b.length - (o + a.length) = b.length by omega]
 simp only [List.append_assoc,List.length_append]
 rw [Nat.add_assoc]
theorem KC : ∀ (vs : List Value) (k o : Nat) (cs : Array Value),o + k + vs.length ≤ cs.size →
  ((vs.zipIdx k).foldl (fun cs (c,j)=>cs.setIfInBounds (o + j) c) cs) = (YH cs.toList (o + k) vs).toArray
 | [],k,o,cs,h=>by simp [YH]
 | v :: r,k,o,cs,h=>by
  simp only [List.length_cons] at h
  rw [List.zipIdx_cons,List.foldl_cons,KC r (k + 1) o _ (by simp; omega)]
  apply Array.ext'
  simp only [YH,Array.toList_setIfInBounds,List.length_cons]
  have h1 : (cs.toList.set (o + k) v).take (o + (k + 1)) = cs.toList.take (o + k) ++ [v]:=by
   rw [show o + (k + 1) = o + k + 1 by omega,List.take_set,List.take_succ_eq_append_getElem (by simp; omega),List.set_append_right _ _ (by simp; omega)]
   congr 1
   have : o + k - (cs.toList.take (o + k)).length = 0:=by simp; omega
   rw [this]; rfl
  have h2 : (cs.toList.set (o + k) v).drop (o + (k + 1) + r.length) = cs.toList.drop (o + k + (r.length + 1)):=by
   rw [List.drop_set_of_lt (by omega)]; congr 1; omega
  rw [h1,h2]; simp
def numbered : Nat → List Value → List (Nat × Value)
 | _,[]=>[]
 | k,v :: r=>(k,v) :: numbered (k + 1) r
theorem HH (size : Nat) (place : Nat → Option (Nat × Nat)) (hp : ∀ i,place i = some (i * size,size)) : ∀ (vs : List Value) (k : Nat) (cs : Array Value),(∀ v ∈ vs,v.cells.size = size) → (k + vs.length) * size ≤ cs.size →
  Instr.fill place cs (numbered k vs) = some (YH cs.toList (k * size) (vs.map (·.cells.toList)).flatten).toArray
 | [],k,cs,_,_=>by simp [numbered,Instr.fill,YH]
 | v :: r,k,cs,hv,hl=>by
  have hv0:=hv v (by simp)
  simp only [List.length_cons] at hl
  have hks : k * size + size ≤ cs.size:=by
   have : (k + 1) * size ≤ (k + (r.length + 1)) * size:=Nat.mul_le_mul_right _ (by omega)
   rw [Nat.add_mul k 1] at this; omega
  simp only [numbered,Instr.fill,hp,hv0]
  rw [if_neg (by simp; omega)]
  have hz : v.cells.zipIdx.foldl (fun cs (c,j)=>cs.setIfInBounds (k * size + j) c) cs = (YH cs.toList (k * size) v.cells.toList).toArray:=by
   have:=KC v.cells.toList 0 (k * size) cs (by simp [hv0]; omega)
   rw [← Array.foldl_toList,Array.toList_zipIdx]
   simpa using this
  rw [hz,HH size place hp r (k + 1) _ (fun u hu=>hv u (by simp [hu])) (by
   rw [List.size_toArray,Us (by simp [hv0]; omega)]; simp; rw [show k + 1 + r.length = k + (r.length + 1) by omega]; exact hl)]
  congr 1
  have hlv : v.cells.toList.length = size:=by simpa using hv0
  have hfl : ((r.map (·.cells.toList)).flatten).length = r.length * size:=by
   have : ∀ (xs : List Value),(∀ u ∈ xs,u.cells.size = size) → ((xs.map (·.cells.toList)).flatten).length = xs.length * size:=by
    intro xs
    induction xs with
    | nil=>intro _; simp
    | cons u xs ih=>intro hu; rw [List.map_cons,List.flatten_cons,List.length_append,ih (fun y hy=>hu y (by simp [hy])),List.length_cons,Nat.add_mul]; have:=hu u (by simp); simp [this]; omega
   exact this r (fun u hu=>hv u (by simp [hu]))
  have e1 : (k + 1) * size = k * size + v.cells.toList.length:=by rw [hlv,Nat.add_mul]; omega
  rw [List.map_cons,List.flatten_cons,e1]
  rw [zN]
  rw [hlv,hfl]
  rw [Nat.add_mul,Nat.add_mul] at hl
  simp; omega

section
variable {n : Nat} {a : Act} {e : List (Nat × Value)} {w w' : World} {P : Program} {ops : Array Oper} {rest : List Oper} {Q : Exit → Act → World → Prop}
variable {d : Nat} {ty t : TypeId} {pos : String} {af : Array Edge} {g : Option (Nat × Bool)} {x y : Operand} {v u : Value}
variable {St : Nat → Prop} {w0 : World} {its : List Item}

def QL : Nat → List Operand → List (Nat × Operand)
 | _,[]=>[]
 | k,x :: r=>(k,x) :: QL (k + 1) r
theorem Env.numbered (h : Env n a e) : ∀ (xs : List Operand) (k : Nat) (vs : List Value),Ku e xs = some vs → (QL k xs).map (fun (p : Nat × Operand)=>(p.1,a.eval p.2)) = numbered k vs
 | [],k,vs,hx=>by simp [Ku] at hx; subst hx; rfl
 | x :: r,k,vs,hx=>by
  simp only [Ku] at hx
  split at hx
  ·rename_i v vs' h1 h2
   simp only [Option.some.injEq] at hx
   subst hx
   simp only [QL,List.map_cons,h.ev h1,Go.Proofs.YtfhhlkkhcoaapaaGreatDoor.numbered]
   rw [Env.numbered h r (k + 1) vs' h2]
  ·cases hx

theorem TE {α : Type} [Rep α] {S : Nat → Prop} {xs : List Operand} {vs : List Value} {m : Nat} {el : TypeId} {D : TypeDesc} {by_ : Nat} {z : List Value} {l : List α} {it : Item}
  (h : Env n a e) (hM : M St w0 w (it :: its)) (hS : ∀ b,S b → St b) (hw : Goes ops ⟨some d,.buildSlice t m (QL 0 xs).toArray,ty,pos,af,g⟩ a) (hd : d < n) (hxs : Ku e xs = some vs) (hm : vs.length = m) (hlm : l.length = m)
  (ht : P.underlying t = some (.slice el)) (he : Ty P el D (Rep.n α) by_ z) (_hzl : z.length = Rep.n α) (hsmall : m * Rep.n α ≤ 16777216)
  (hel : ∀ fp,it w fp → Z1 S w l (vs.map (·.cells.toList)).flatten fp) (hcell : ∀ v ∈ vs,v.cells.size = Rep.n α)
  (k : ∀ v' w a,M St w0 w (osl S l v' :: its) → Env n a ((d,v') :: e) → wpList P ops Q rest a w) : wpList P ops Q (⟨some d,.buildSlice t m (QL 0 xs).toArray,ty,pos,af,g⟩ :: rest) a w:=by
 have hsz:=Va he
 obtain ⟨zv,hzv,hzc⟩:=Q9 he w
 have hsub : ∀ cs : Array Value,cs.size = m * Rep.n α → Instr.fill (fun i=>some (i * Rep.n α,Rep.n α)) cs (numbered 0 vs) = some (vs.map (·.cells.toList)).flatten.toArray:=by
  intro cs hcs
  rw [HH (Rep.n α) _ (fun _=>rfl) vs 0 cs hcell (by simp [hm,hcs])]
  congr 2
  have hfl : ((vs.map (·.cells.toList)).flatten).length = m * Rep.n α:=by
   rw [← hm]
   clear hm hxs hel
   induction vs with
   | nil=>simp
   | cons u xs ih=>rw [List.map_cons,List.flatten_cons,List.length_append,ih (fun y hy=>hcell y (by simp [hy])),List.length_cons,Nat.add_mul]; have:=hcell u (by simp); simp [this]; omega
  rw [Nat.zero_mul]
  exact ZZ (by simpa [hcs] using hfl)
 have hnum:=h.numbered xs 0 vs hxs
 have KM : ∀ (zz : Array Value),((Array.range (m * Rep.n α)).map (zz[· % zz.size]!)).size = m * Rep.n α:=by intro zz; simp
 have hrun : (Instr.buildSlice t m ((QL 0 xs).toArray.map fun (i,x)=>(i,a.eval x))).run P w = .ok (.slice (some ⟨w.heap.size,0,none⟩) m m) (w.alloc (.cells (vs.map (·.cells.toList)).flatten.toArray el)):=by
  have hparts : ((QL 0 xs).toArray.map fun (i,x)=>(i,a.eval x)).toList = numbered 0 vs:=by simpa using hnum
  have hlim : ¬ (m * Rep.n α > 2 ^ 24):=by omega
  have hfill : ∀ zz : Array Value,Instr.fill (fun i=>some (i * Rep.n α,Rep.n α)) ((Array.range (m * Rep.n α)).map (zz[· % zz.size]!)) (numbered 0 vs) = some (vs.map (·.cells.toList)).flatten.toArray:=fun zz=>hsub _ (KM zz)
  unfold Instr.buildSlice
  simp only [Sem.run_bind,run_underlying ht,Result.andThen_ok,hsz,if_neg hlim,hparts]
  by_cases h0 : m * Rep.n α = 0
  ·simp only [if_pos h0,pure_bind]
   rw [hfill]
   simp [newRow]
  ·simp only [if_neg h0,pure_bind,Sem.run_bind,hzv,Result.andThen_ok]
   rw [hfill]
   simp [newRow]
 refine Xw h hw rfl hd (v:=.slice (some ⟨w.heap.size,0,none⟩) m m) (w':=w.alloc (.cells (vs.map (·.cells.toList)).flatten.toArray el)) (by simp only [execOp]; simp only [Sem.run_bind,hrun]; rfl) fun a ha=>k _ _ _ ?_ ha
 have hst:=hM.st'
 refine hM.turn (new:=[osl S l _]) rfl rfl rfl (by simp) ?_
 intro fp hit hlt hnd
 have hE:=hel fp hit
 have hnew:=U4 w (.cells (vs.map (·.cells.toList)).flatten.toArray el)
 have hkeep : ∀ b,(b ∈ fp ∨ S b) → (w.alloc (.cells (vs.map (·.cells.toList)).flatten.toArray el)).heap[b]? = w.heap[b]?:=fun b hb=>T0 w _ b (by rcases hb with hb | hb; exact (hlt b hb).2; exact hst b (hS b hb))
 refine ⟨fun b _ hb=>T0 w _ b hb,w.heap.size :: fp,⟨w.heap.size :: fp,[],by simp,VK hS,⟨some ⟨w.heap.size,0,none⟩,m,by rw [hlm],by rw [hlm]; exact Nat.le_refl _,.inr ⟨w.heap.size,0,_,fp,rfl,hE.loc hkeep,At.of_heap hnew,rfl,?_⟩⟩,rfl⟩,?_,?_⟩
 ·refine ⟨_,el,(0,0),hnew,?_,by intro i _; simp⟩
  have:=hE.len
  rw [List.size_toArray,this,hlm]; omega
 ·exact List.nodup_cons.2 ⟨fun hb=>by have:=(hlt _ hb).2; omega,hnd⟩
 ·intro b hb
  rcases List.mem_cons.1 hb with rfl | hb
  ·exact .inr ⟨Nat.le_refl _,by simp⟩
  ·exact .inl hb
theorem M.emp (hM : M St w0 w its) : M St w0 w (emp :: its):=by
 obtain ⟨h1,h2,fp,h3,h4,h5⟩:=hM
 exact ⟨h1,h2,fp,⟨[],fp,rfl,Zcm,rfl,h3⟩,h4,h5⟩
theorem M.nilS {α : Type} [Rep α] (S : Nat → Prop) (hS : ∀ b,S b → St b) (hM : M St w0 w its) : M St w0 w (osl S ([] : List α) (.slice none 0 0) :: its):=by
 obtain ⟨h1,h2,fp,h3,h4,h5⟩:=hM
 exact ⟨h1,h2,fp,⟨[],fp,rfl,VK hS,⟨none,0,rfl,Nat.le_refl _,.inl ⟨rfl,rfl,trivial⟩⟩,h3⟩,h4,h5⟩
theorem ZD {α : Type} [Flat α] {xs : List Operand} {vs : List Value} {m : Nat} {el : TypeId} {D : TypeDesc} {by_ : Nat} {z : List Value} {l : List α}
  (h : Env n a e) (hM : M St w0 w its) (hw : Goes ops ⟨some d,.buildSlice t m (QL 0 xs).toArray,ty,pos,af,g⟩ a) (hd : d < n) (hxs : Ku e xs = some vs) (hlm : l.length = m)
  (ht : P.underlying t = some (.slice el)) (he : Ty P el D (Rep.n α) by_ z) (hzl : z.length = Rep.n α) (hsmall : m * Rep.n α ≤ 16777216)
  (hel : vs.map (·.cells.toList) = l.map Flat.enc)
  (k : ∀ v' w a,M St w0 w (osl NoB l v' :: its) → Env n a ((d,v') :: e) → wpList P ops Q rest a w) : wpList P ops Q (⟨some d,.buildSlice t m (QL 0 xs).toArray,ty,pos,af,g⟩ :: rest) a w:=by
 have hlen : vs.length = l.length:=by simpa using congrArg List.length hel
 refine TE (S:=NoB) (l:=l) h hM.emp noB hw hd hxs (by rw [hlen,hlm]) hlm ht he hzl hsmall ?_ ?_ k
 ·intro fp hfp
  have hfp : fp = []:=hfp
  subst hfp
  refine Wc.2 ⟨?_,rfl⟩
  rw [hel]
  have : ∀ l : List α,(l.map Flat.enc).flatten = VN l:=by
   intro l
   induction l with
   | nil=>rfl
   | cons x l ih=>simp [VN,ih]
  exact this l
 ·intro v hv
  have : v.cells.toList ∈ l.map Flat.enc:=by rw [← hel]; exact List.mem_map_of_mem (f:=fun v : Value=>v.cells.toList) hv
  obtain ⟨x,_,hx⟩:=List.mem_map.1 this
  have:=Flat.len x
  rw [hx] at this
  have h2 : Rep.n α = Flat.n α:=rfl
  rw [h2]
  simpa using this

theorem yf (z : List Value) (c : Nat) : (madeCells z.toArray (c * z.length)).toList = (List.replicate c z).flatten:=by
 rcases Nat.eq_zero_or_pos z.length with h0 | hp
 ·have : z = []:=List.eq_nil_of_length_eq_zero h0
  subst this
  induction c with
  | zero=>simp [madeCells]
  | succ c ih=>simp [madeCells]
 ·apply List.ext_getElem?
  intro i
  have hlen : ((List.replicate c z).flatten).length = c * z.length:=by simp
  by_cases hi : i < c * z.length
  ·have h1 : i % z.length < z.length:=Nat.mod_lt _ hp
   have hq : i / z.length < c:=Nat.div_lt_of_lt_mul (by rw [Nat.mul_comm]; exact hi)
   have e1 : (madeCells z.toArray (c * z.length)).toList[i]? = some z[i % z.length]:=by
    simp [madeCells,hi,h1]
   rw [e1]
   have e2 : ∀ (c i : Nat),i < c * z.length → ((List.replicate c z).flatten)[i]? = some (z[i % z.length]'(Nat.mod_lt _ hp)):=by
    intro c
    induction c with
    | zero=>intro i hi; simp at hi
    | succ c ih =>
     intro i hi
     rw [List.replicate_succ,List.flatten_cons]
     by_cases hz : i < z.length
     ·rw [List.getElem?_append_left hz,List.getElem?_eq_getElem hz]
      congr 2
      exact (Nat.mod_eq_of_lt hz).symm
     ·rw [List.getElem?_append_right (by omega),ih (i - z.length) (by rw [Nat.add_mul] at hi; omega)]
      congr 2
      exact (Nat.mod_eq_sub_mod (by omega)).symm
   exact (e2 c i hi).symm
  ·rw [List.getElem?_eq_none (by simp [madeCells]; omega),List.getElem?_eq_none (by rw [hlen]; omega)]
theorem Qt {α : Type} [Rep α] {S : Nat → Prop} {x : α} {z : List Value} (hz : Rep.sat S w x z []) : ∀ c,Z1 S w (List.replicate c x) (List.replicate c z).flatten []
 | 0=>⟨rfl,rfl⟩
 | c + 1=>by rw [List.replicate_succ,List.replicate_succ,List.flatten_cons]; exact ⟨z,_,[],[],rfl,rfl,hz,Qt hz c⟩
def mkS {α : Type} (bytes : Nat) (x : α) (c : Int) : Option (List α):=if 0 ≤ c ∧ c * bytes ≤ 140737488355328 then some (List.replicate c.toNat x) else none
theorem Hq {α : Type} [Rep α] {K K' : IntKind} {c : Int} {el : TypeId} {D : TypeDesc} {by_ : Nat} {z : List Value} {zero : α} {l : List α}
  (h : Env n a e) (hM : M St w0 w its) (hw : Goes ops ⟨some d,.makeSlice t x y,ty,pos,af,g⟩ a) (hd : d < n) (hx : opv e x = some (.int K c)) (hy : opv e y = some (.int K' c))
  (ht : P.underlying t = some (.slice el)) (he : Ty P el D (Rep.n α) by_ z) (hzl : z.length = Rep.n α) (h0 : 0 < by_) (hz : ∀ w,Rep.sat NoB w zero z []) (hb : mkS by_ zero c = some l)
  (k : ∀ v' w a,M St w0 w (osl NoB l v' :: its) → Env n a ((d,v') :: e) → wpList P ops Q rest a w) : wpList P ops Q (⟨some d,.makeSlice t x y,ty,pos,af,g⟩ :: rest) a w:=by
 unfold mkS at hb
 split at hb
 case isFalse=>cases hb
 rename_i hc
 obtain ⟨hc0,hcb⟩:=hc
 simp only [Option.some.injEq] at hb
 subst hb
 obtain ⟨i,zv,hi,hsz,hby,hzz,hzc⟩:=he.get
 have hcb' : c ≤ 140737488355328:=by
  have : c * 1 ≤ c * by_:=Int.mul_le_mul_of_nonneg_left (by omega) hc0
  omega
 have hr:=run_make (P:=P) w t el i zv ht hi hzz K K' c c hc0 (Int.le_refl _) (by rw [hby,Int.mul_comm]; omega) (by omega)
 have KM : (madeCells zv.cells (c.toNat * i.size)).toList = (List.replicate c.toNat z).flatten:=by
  have:=yf z c.toNat
  rw [hsz,← hzl]
  rw [← this,← hzc]
 refine Xw h hw rfl hd (v:=_) (w':=_) (by simp only [execOp,h.ev hx,h.ev hy]; simp only [Sem.run_bind,hr]; rfl) fun a ha=>k _ _ _ ?_ ha
 have hnew:=U4 w (.cells (madeCells zv.cells (c.toNat * i.size)) el)
 have hat : At (w.alloc (.cells (madeCells zv.cells (c.toNat * i.size)) el)) w.heap.size 0 (List.replicate c.toNat z).flatten:=by
  have : madeCells zv.cells (c.toNat * i.size) = (List.replicate c.toNat z).flatten.toArray:=by rw [← KM]
  rw [this] at hnew ⊢
  exact At.of_heap hnew
 refine hM.add (new:=[osl NoB (List.replicate c.toNat zero) _]) (Kept.alloc _ _) ⟨[w.heap.size],⟨[w.heap.size],[],rfl,VK (fun _ h=>h),⟨some ⟨w.heap.size,0,none⟩,c.toNat,by simp,by simp,.inr ⟨w.heap.size,0,_,[],rfl,Qt (hz _) _,hat,rfl,?_⟩⟩,rfl⟩,by simp,fun b hb=>by simp at hb; subst hb; simp⟩
 refine ⟨_,el,(0,0),hnew,?_,by intro i _; simp⟩
 rw [size_madeCells,hsz]; omega

def lset {α : Type} (l : List α) (i : Int) (x : α) : Option (List α):=if 0 ≤ i ∧ i < l.length then some (l.set i.toNat x) else none
theorem Jp {α : Type} [Flat α] : ∀ (l m : List α),VN (l ++ m) = VN l ++ VN m
 | [],m=>rfl
 | x :: l,m=>by simp [VN,Jp l m]
theorem jV {α : Type} [Flat α] {l : List α} {i : Nat} {x : α} (h : l[i]? = some x) : VN l = VN (l.take i) ++ (Flat.enc x ++ VN (l.drop (i + 1))):=by
 have hi:=(List.getElem?_eq_some_iff.1 h).1
 have hx:=(List.getElem?_eq_some_iff.1 h).2
 have : l = l.take i ++ (x :: l.drop (i + 1)):=by
  rw [← hx,← List.drop_eq_getElem_cons hi,List.take_append_drop]
 conv=>lhs; rw [this,Jp]
 rfl
theorem Za2 {α : Type} [Flat α] {l : List α} {i : Nat} {x y : α} (h : l[i]? = some x) : VN (l.set i y) = VN (l.take i) ++ (Flat.enc y ++ VN (l.drop (i + 1))):=by
 have hi:=(List.getElem?_eq_some_iff.1 h).1
 rw [List.set_eq_take_append_cons_drop,if_pos hi,Jp]
 rfl
theorem U2 {α : Type} [Flat α] {l : List α} {D : TypeDesc} {sz by_ : Nat} {z seg : List Value} {i k0 : Nat} {xo xn : α} (h : Env n a e) (hM : M St w0 w (osl NoB l v :: its)) (hw : Goes ops ⟨none,.store t x y,ty,pos,af,g⟩ a)
  (hx : opv e x = some (ptr (sb v) (so v + i * Rep.n α + k0))) (hy : opv e y = some u) (hu : u.cells.toList = seg) (ht : Ty P t D sz by_ z) (hl : seg.length = sz) (hc : ∀ v ∈ seg,v.oneCell' = true)
  (hi : l[i]? = some xo) (hfit : k0 + seg.length ≤ Flat.n α) (hs : YH (Flat.enc xo) k0 seg = Flat.enc xn)
  (k : ∀ w a,M St w0 w (osl NoB (l.set i xn) v :: its) → Env n a e → wpList P ops Q rest a w) : wpList P ops Q (⟨none,.store t x y,ty,pos,af,g⟩ :: rest) a w:=by
 have hil:=(List.getElem?_eq_some_iff.1 hi).1
 have key : ∀ fp,X5 NoB w l v fp → (storeCells ⟨sb v,so v + i * Rep.n α + k0,none⟩ seg).run P w = .ok () (w.setCells (sb v) (so v + i * Rep.n α + k0) seg) ∧ fp = [sb v] ∧
   X5 NoB (w.setCells (sb v) (so v + i * Rep.n α + k0) seg) (l.set i xn) v [sb v]:=by
  rintro fp ⟨p,cap,rfl,hcap,hO⟩
  rcases hO with ⟨rfl,_⟩ | ⟨b,o,ecs,fpe,rfl,k1,k2,rfl,k3⟩
  ·omega
  obtain ⟨rfl,rfl⟩:=Wc.1 k1
  obtain ⟨c,T,fz,hheap,hsize,hfz⟩:=k3
  have hsb : sb (.slice (some ⟨b,o,none⟩) l.length cap) = b:=rfl
  have hso : so (.slice (some ⟨b,o,none⟩) l.length cap) = o:=rfl
  rw [hsb,hso]
  have hel:=QT l
  have hspl:=jV hi
  have hsplset:=Za2 (y:=xn) hi
  have ht1 : (VN (l.take i)).length = i * Rep.n α:=by rw [QT,List.length_take,Nat.min_eq_left (Nat.le_of_lt hil)]; rfl
  have hfit2 : o + i * Rep.n α + k0 + seg.length ≤ c.size:=by
   have h1 : (i + 1) * Rep.n α ≤ cap * Rep.n α:=Nat.mul_le_mul_right _ (by omega)
   rw [Nat.add_mul] at h1
   have h2 : Rep.n α = Flat.n α:=rfl
   omega
  have hst:=KG (P:=P) (o:=o + i * Rep.n α + k0) (vs:=seg) hheap hfit2 hfz hc
  refine ⟨hst,rfl,some ⟨b,o,none⟩,cap,by simp,by simpa using hcap,.inr ⟨b,o,VN (l.set i xn),[],rfl,Wc.2 ⟨rfl,rfl⟩,?_,rfl,?_⟩⟩
  ·have hh:=WU b T fz seg (o + i * Rep.n α + k0) w c hheap hfit2
   -- the cells of the row
   intro j vv hv
   have hj:=(List.getElem?_eq_some_iff.1 hv).1
   have hsetlen : (VN (l.set i xn)).length = (VN l).length:=by rw [QT,QT,List.length_set]
   rw [hsetlen] at hj
   simp only [World.cell?,hh,Option.isSome_none,Bool.false_eq_true,if_false]
   rw [List.getElem?_toArray]
   -- both sides by the YH of the row
   have hrow : ∀ j,j < (VN l).length → c.toList[o + j]? = (VN l)[j]?:=by
    intro j hj
    have:=k2 j _ (List.getElem?_eq_getElem hj)
    simp only [World.cell?,hheap,Option.isSome_none,Bool.false_eq_true,if_false] at this
    rw [List.getElem?_eq_getElem hj]
    simpa using this
   have hset : VN (l.set i xn) = YH (VN l) (i * Rep.n α + k0) seg:=by
    rw [hsplset,← hs,hspl,← z7 (p:=VN (l.take i)) (c:=Flat.enc xo) (q:=VN (l.drop (i + 1))) (k:=k0) (o:=i * Rep.n α + k0) (by rw [ht1]) (by rw [Flat.len]; exact hfit)]
   rw [hset] at hv
   have hlen2 : i * Rep.n α + k0 + seg.length ≤ (VN l).length:=by
    rw [hel]
    have h1 : (i + 1) * Flat.n α ≤ l.length * Flat.n α:=Nat.mul_le_mul_right _ (by omega)
    rw [Nat.add_mul] at h1
    have h2 : Rep.n α = Flat.n α:=rfl
    rw [h2]; omega
   simp only [YH] at hv ⊢
   have hclen : o + (VN l).length ≤ c.toList.length:=by
    have h1 : l.length * Flat.n α ≤ cap * Rep.n α:=Nat.mul_le_mul_right _ hcap
    rw [hel]; simp; omega
   by_cases hj1 : j < i * Rep.n α + k0
   ·rw [List.getElem?_append_left (by simp; omega),List.getElem?_take,if_pos hj1] at hv
    rw [List.getElem?_append_left (by simp at hclen ⊢; omega),List.getElem?_take,if_pos (by omega),hrow j hj]
    exact hv
   ·rw [List.getElem?_append_right (by simp; omega)] at hv
    rw [List.getElem?_append_right (by simp; omega)]
    have e1 : (List.take (i * Rep.n α + k0) (VN l)).length = i * Rep.n α + k0:=by simp; omega
    have e2 : (List.take (o + i * Rep.n α + k0) c.toList).length = o + i * Rep.n α + k0:=by simp at hclen ⊢; omega
    rw [e1] at hv
    rw [e2,show o + j - (o + i * Rep.n α + k0) = j - (i * Rep.n α + k0) by omega]
    by_cases hj2 : j - (i * Rep.n α + k0) < seg.length
    ·rw [List.getElem?_append_left hj2] at hv ⊢; exact hv
    ·rw [List.getElem?_append_right (by omega),List.getElem?_drop] at hv ⊢
     rw [show o + i * Rep.n α + k0 + seg.length + (j - (i * Rep.n α + k0) - seg.length) = o + j by omega,hrow j hj]
     rw [show i * Rep.n α + k0 + seg.length + (j - (i * Rep.n α + k0) - seg.length) = j by omega] at hv
     exact hv
  ·refine ⟨_,T,fz,WU b T fz seg _ w c hheap hfit2,?_,?_⟩
   ·rw [List.size_toArray,Us (by simpa using hfit2)]; simpa using hsize
   ·intro j hj
    rw [List.size_toArray,Us (by simpa using hfit2)] at hj
    exact hfz j (by simpa using hj)
 obtain ⟨fp0,hfp0,_⟩:=hM.head
 obtain ⟨hr,_,_⟩:=key fp0 hfp0
 refine ke h hw rfl (w':=w.setCells (sb v) (so v + i * Rep.n α + k0) seg) ?_ fun a ha=>k _ _ ?_ ha
 ·simp only [execOp,h.ev hx,h.ev hy]
  have hsz : u.cells.size = sz:=by rw [← hl,← hu]; simp
  simp [Instr.storeAt,Instr.sureAddr,storeVar,Va ht,hsz,hu,hr]
 ·refine M.turn (new:=[osl NoB (l.set i xn) v]) hM (Ym _ _ _ _).1 (Ym _ _ _ _).2.1 (Ym _ _ _ _).2.2 (by rw [Tp]; exact Nat.le_refl _) ?_
  intro fp hfp hlt hnd
  obtain ⟨_,rfl,hO⟩:=key fp hfp
  exact ⟨fun b hb _=>VZ _ _ (by simpa using hb) _ _ _,[sb v],⟨[sb v],[],rfl,VK noB,hO,rfl⟩,by simp,fun b hb=>.inl hb⟩
end
end
section
open Go

instance {α β : Type} [Rep α] [Rep β] : Rep (α × β) where
 n:=Rep.n α + Rep.n β
 sat S w x cs fp:=∃ c1 c2 f1 f2,cs = c1 ++ c2 ∧ fp = f1 ++ f2 ∧ Rep.sat S w x.1 c1 f1 ∧ Rep.sat S w x.2 c2 f2
 len:=by rintro S w x cs fp ⟨c1,c2,f1,f2,rfl,rfl,h1,h2⟩; rw [List.length_append,Rep.len h1,Rep.len h2]
 loc:=by
  rintro S w w' x cs fp ⟨c1,c2,f1,f2,rfl,rfl,h1,h2⟩ hb
  exact ⟨c1,c2,f1,f2,rfl,rfl,Rep.loc h1 (fun b h=>hb b (by simp; grind)),Rep.loc h2 (fun b h=>hb b (by simp; grind))⟩
 ro:=by
  rintro S S' w x cs fp ⟨c1,c2,f1,f2,rfl,rfl,h1,h2⟩ hb
  exact ⟨c1,c2,[],[],rfl,rfl,Rep.ro h1 (fun b h=>hb b (by simp; grind)),Rep.ro h2 (fun b h=>hb b (by simp; grind))⟩
 wk:=by
  rintro S S' w x cs fp ⟨c1,c2,f1,f2,rfl,rfl,h1,h2⟩ hb
  exact ⟨c1,c2,f1,f2,rfl,rfl,Rep.wk h1 hb,Rep.wk h2 hb⟩
 lt:=by
  rintro S w x cs fp ⟨c1,c2,f1,f2,rfl,rfl,h1,h2⟩ b hb
  rcases List.mem_append.1 hb with hb | hb
  ·exact Rep.lt h1 b hb
  ·exact Rep.lt h2 b hb
 cell:=by
  rintro S w x cs fp ⟨c1,c2,f1,f2,rfl,rfl,h1,h2⟩ v hv
  rcases List.mem_append.1 hv with hv | hv
  ·exact Rep.cell h1 v hv
  ·exact Rep.cell h2 v hv
@[reducible] def repIso {σ α : Type} [Rep α] (f : σ → α) : Rep σ where
 n:=Rep.n α
 sat S w x cs fp:=Rep.sat S w (f x) cs fp
 len h:=Rep.len h
 loc h:=Rep.loc h
 ro h:=Rep.ro h
 wk h:=Rep.wk h
 lt h:=Rep.lt h
 cell h:=Rep.cell h

def cat : List (List Value) → List Value
 | []=>[]
 | [c]=>c
 | c :: d :: r=>c ++ cat (d :: r)
theorem U1 : ∀ l : List (List Value),cat l = l.flatten
 | []=>rfl
 | [c]=>by simp [cat]
 | c :: d :: r=>by rw [cat,U1 (d :: r)]; simp
def Km : List (List Value) → Nat
 | []=>0
 | c :: r=>c.length + Km r
theorem TU : ∀ l : List (List Value),l.flatten.length = Km l
 | []=>rfl
 | c :: r=>by simp [Km,TU r]
theorem cl0 : Km [] = 0:=rfl
theorem At.cat {w : World} {b o k : Nat} {pre : List (List Value)} {seg : List Value} {post : List (List Value)} (h : At w b o (cat (pre ++ seg :: post))) (hk : Km pre = k) : At w b (o + k) seg:=by
 rw [U1] at h
 exact h.part (by rw [TU,hk])
theorem Wj {pre : List (List Value)} {seg seg' : List Value} {post : List (List Value)} {o : Nat} (hk : Km pre = o) (hl : seg'.length = seg.length) :
  YH (cat (pre ++ seg :: post)) o seg' = cat (pre ++ seg' :: post):=by
 subst hk
 rw [U1,U1,List.flatten_append,List.flatten_append,List.flatten_cons,List.flatten_cons,← TU]
 exact jY _ _ _ _ hl
theorem qc {l : List (List Value)} {n : Nat} (h : Km l = n) : (cat l).length = n:=by rw [U1,TU,h]
theorem cc0 : ∀ c ∈ ([] : List (List Value)),∀ v ∈ c,v.oneCell' = true:=fun _ h=>by cases h
theorem cc1 {c : List Value} {r : List (List Value)} (h : ∀ v ∈ c,v.oneCell' = true) (k : ∀ c ∈ r,∀ v ∈ c,v.oneCell' = true) : ∀ d ∈ c :: r,∀ v ∈ d,v.oneCell' = true:=by
 intro d hd
 rcases List.mem_cons.1 hd with rfl | hd
 ·exact h
 ·exact k d hd
theorem Wu {l : List (List Value)} (h : ∀ c ∈ l,∀ v ∈ c,v.oneCell' = true) : ∀ v ∈ cat l,v.oneCell' = true:=by
 intro v hv
 rw [U1,List.mem_flatten] at hv
 obtain ⟨c,hc,hv⟩:=hv
 exact h c hc v hv

section
variable {n : Nat} {a : Act} {e : List (Nat × Value)} {w w' : World} {P : Program} {ops : Array Oper} {rest : List Oper} {Q : Exit → Act → World → Prop}
variable {St : Nat → Prop} {w0 : World} {its : List Item}
theorem M.fst {l r : List Item} (h : M St w0 w (l ++ r)) : M St w0 w l:=by
 obtain ⟨h1,h2,fp,h3,h4,h5⟩:=h
 obtain ⟨f,g,rfl,k1,k2⟩:=h3.split
 exact ⟨h1,h2,f,k1,(List.nodup_append.1 h4).1,fun b hb=>h5 b (by simp [hb])⟩
theorem M.drew (h : M St w0 w its) : M St w0 w.drew its:=h.keep ⟨rfl,rfl,rfl,Nat.le_refl _,fun _ _=>rfl⟩
def LocN (its : List Item) : Prop:=∀ it ∈ its,Loc NoB it
theorem WD.reloc {w : World} : ∀ {l : List Item} {fp : List Nat},WD St w l fp → LocN l → WD NoB w l fp
 | [],_,h,_=>h
 | it :: r,_,h,hl=>by
  obtain ⟨f,f',rfl,_,h1,h2⟩:=h
  exact ⟨f,f',rfl,hl it (by simp),h1,WD.reloc h2 (fun x hx=>hl x (by simp [hx]))⟩
theorem M.outF (h : M (Old w0) w0 w its) (hl : LocN its) : Fr w0 w its:=by
 obtain ⟨h1,h2,fp,h3,h4,h5⟩:=h
 exact ⟨fp,h3.reloc hl,h4,fun b hb=>⟨Nat.le_of_not_lt (h5 b hb).1,(h5 b hb).2⟩⟩
theorem Yd : LocN []:=fun _ h=>by cases h
theorem Z8 {α : Type} [Rep α] {l : List α} {v : Value} {r : List Item} (h : LocN r) : LocN (osl NoB l v :: r):=by
 intro it hit
 rcases List.mem_cons.1 hit with rfl | hit
 ·exact VK (fun _ h=>h)
 ·exact h it hit

theorem Zu {Z : Code} (h : Z.wp P Q a w) : Exit.then (Z.wp P Q) Q .normal a w:=h
theorem Yg {id : Nat} (h : Q .normal a w) : Exit.inBlock id Q .normal a w:=h
theorem Zi {K : Act → World → Prop} (h : K a w) : Exit.then K Q .normal a w:=h
theorem Zs {K : Act → World → Prop} {id : Nat} (h : Q (.exit id) a w) : Exit.then K Q (.exit id) a w:=h
theorem Ys {id : Nat} (h : Q .normal a w) : Exit.inBlock id Q (.exit id) a w:=by simp [Exit.inBlock,h]
theorem Zr {K : Act → World → Prop} (h : Q .ret a w) : Exit.then K Q .ret a w:=h
theorem Z4 {id : Nat} (h : Q .ret a w) : Exit.inBlock id Q .ret a w:=h
theorem lkb {o : Option Value} {b c : Bool} (h : o = some (vT b)) (k : b = c) : o = some (vT c):=by rw [h,k]
theorem Zcj {X Y : Code} {x : Operand} (hE : Env n a e) (hx : opv e x = some (vT false)) (ht : Y.wp P Q a w) : (Code.cond x X Y).wp P Q a w:=wp_cond_false (hE.ev hx) ht

def Tr (P : Program) (w : World) (a : Act) (rv : ResultVar) (v : Value) : Prop :=
 match rv with
 | .tmp t=>a.tmps.getD t undef = v
 | .cell t ty=>(do loadVar ty (← asAddr (a.tmps.getD t undef)) : Sem Value).run P w = .ok v w
theorem Zl {t : Nat} {v : Value} (hE : Env n a e) (h : e.lookup t = some v) : Tr P w a (.tmp t) v:=hE.get _ _ h
theorem Ko {t ty b : Nat} {v : Value} {cs : List Value} {D : TypeDesc} {sz by_ : Nat} {z : List Value} (hE : Env n a e) (h : e.lookup t = some (ptr b 0)) (ht : Ty P ty D sz by_ z) (hD : Hd D = true) (hA : At w b 0 cs) (hl : cs.length = sz)
  (hv : v = .agg cs.toArray) : Tr P w a (.cell t ty) v:=by
 subst hv
 have hr:=run_loadCells_list (P:=P) w ⟨b,0,none⟩ cs hA.add
 rw [hl] at hr
 have hg:=hE.get _ _ h
 show (do loadVar ty (← asAddr (a.tmps.getD t undef)) : Sem Value).run P w = _
 rw [hg]
 simp [asAddr,loadVar,JL ht,hD,Va ht,hr]
def Zaf (tmps : Array Value) : ResultVar → Sem Value
 | .tmp t=>pure (tmps.getD t undef)
 | .cell a t=>do loadVar t (← asAddr (tmps.getD a undef))
theorem Uk {rv : ResultVar} {v : Value} (h : Tr P w a rv v) : (Zaf a.tmps rv).run P w = .ok v w:=by
 cases rv with
 | tmp t=>simp only [Tr] at h; simp [Zaf,h]
 | cell t ty=>exact h
theorem KH (fn : Func) (tmps : Array Value) : results fn tmps = (do let vs ← fn.results.mapM (Zaf tmps); pure (if h : vs.size = 1 then vs[0] else .tuple vs)):=by
 unfold results
 congr 1
theorem Yb {fn : Func} {R : Ending → World → Prop} {r1 : ResultVar} {v1 : Value} (hE : Env n a e) (hres : fn.results = #[r1]) (h1 : Tr P w a r1 v1) (hR : R (.returned v1) w) : bodyPost P fn R .ret a w:=by
 refine bodyPost_ret ?_ hE.df hR
 rw [KH,hres]
 simp [Uk h1]
theorem Z0 {fn : Func} {R : Ending → World → Prop} {r1 r2 : ResultVar} {v1 v2 : Value} (hE : Env n a e) (hres : fn.results = #[r1,r2]) (h1 : Tr P w a r1 v1) (h2 : Tr P w a r2 v2)
  (hR : R (.returned (.tuple [v1,v2].toArray)) w) : bodyPost P fn R .ret a w:=by
 refine bodyPost_ret ?_ hE.df hR
 rw [KH,hres]
 simp [Uk h1,Uk h2]
theorem KD {fn : Func} {R : Ending → World → Prop} {r1 r2 r3 : ResultVar} {v1 v2 v3 : Value} (hE : Env n a e) (hres : fn.results = #[r1,r2,r3]) (h1 : Tr P w a r1 v1) (h2 : Tr P w a r2 v2) (h3 : Tr P w a r3 v3)
  (hR : R (.returned (.tuple [v1,v2,v3].toArray)) w) : bodyPost P fn R .ret a w:=by
 refine bodyPost_ret ?_ hE.df hR
 rw [KH,hres]
 simp [Uk h1,Uk h2,Uk h3]
end

theorem B0 {P : Program} {t f off sz by_ : Nat} {fs : Array Field} {fd : Field} {D : TypeDesc} {z : List Value} (hu : P.underlying t = some (.struct fs)) (hf : fs[f]? = some fd) (ho : fd.offset = off) (ht : Ty P fd.type D sz by_ z) (hs : sz ≠ 0) : Fd P t f off:=by
 obtain ⟨i,v,h1,h2,_⟩:=ht.get
 exact ⟨fs,fd,i,hu,hf,ho,h1,by rw [h2]; exact hs⟩
theorem Qd {α : Type} [Rep α] {S : Nat → Prop} {w : World} {l : List α} {cs : List Value} {fp : List Nat} (h : Rep.sat S w l cs fp) : ∃ v,cs = [v]:=by
 obtain ⟨p,cap,rfl,_⟩:=h; exact ⟨_,rfl⟩
section
variable {w w' w0 : World} {St : Nat → Prop} {its : List Item}
theorem M.atk {b o : Nat} {cs : List Value} (h : M St w0 w its) (hA : At w0 b o cs) (hb : St b) : At w b o cs:=hA.loc (h.kept.block b hb)
end
def vidx {α : Type} {n : Nat} (v : Vector α n) (i : Int) : Option α:=if 0 ≤ i then v[i.toNat]? else none
def vset {α : Type} {n : Nat} (v : Vector α n) (i : Int) (x : α) : Option (Vector α n):=if 0 ≤ i ∧ i < n then some (v.setIfInBounds i.toNat x) else none
def app {α : Type} (bytes : Nat) (l m : List α) : Option (List α):=if (l.length + m.length) * bytes ≤ 140737488355328 then some (l ++ m) else none
theorem ZY {α : Type} {bytes : Nat} {l m r : List α} (h : app bytes l m = some r) : (l.length + m.length) * bytes ≤ 140737488355328 ∧ r = l ++ m:=by
 unfold app at h
 split at h
 ·rename_i h0; simp only [Option.some.injEq] at h; exact ⟨h0,h.symm⟩
 ·cases h
end
section
open Go

theorem ZO {p : Prop} (b : Bool) (h1 : b = true → p) (h2 : b = false → p) : p:=by cases b; exact h2 rfl; exact h1 rfl
def YI (x : Int) : Option Unit:=if 0 ≤ x then some () else none
theorem WA {x : Int} {u : Unit} (h : YI x = some u) : 0 ≤ x:=by
 unfold YI at h; split at h
 ·assumption
 ·cases h
def TB (x : Int) : Option Unit:=if x ≠ 0 then some () else none
theorem H8 {x : Int} {u : Unit} (h : TB x = some u) : x ≠ 0:=by
 unfold TB at h; split at h
 ·assumption
 ·cases h

def Steps (Ph : Nat → Oper → Prop) : Nat → List Oper → Prop
 | _,[]=>True
 | i,o :: r=>Ph i o ∧ Steps Ph (i + 1) r
def GUp (C : World → Prop) (Gs : List (Value → World → Prop)) : Prop:=∀ g ∈ Gs,∀ v w w',C w → Kept (Old w) w w' → g v w → g v w'
theorem Yr {α : Type} [Rep α] {S : Nat → Prop} {w : World} {l : List α} {v : Value} {i : Nat} {x : α} (h : Rep.sat S w l [v] []) (hi : l[i]? = some x) : S (sb v):=by
 obtain ⟨p,cap,hv,hc,hp⟩:=h
 simp only [List.cons.injEq,and_true] at hv
 have hil:=(List.getElem?_eq_some_iff.1 hi).1
 have hne : l ≠ []:=fun h=>by subst h; simp at hil
 cases p with
 | none=>exfalso; have:=hp.1; omega
 | some q =>
  obtain ⟨q1,q2,q3⟩:=q
  obtain ⟨h1,ecs,fpe,h2,h3,h4⟩:=hp
  rcases h4 with ⟨h4,_⟩ | ⟨h4,_⟩
  ·rw [hv]; exact h4 (by have:=List.length_pos_iff.2 hne; omega)
  ·cases h4
theorem zj {α : Type} [Rep α] {w : World} {S : Nat → Prop} : Rep.sat S w ([] : List α) [.slice none 0 0] []:=⟨none,0,rfl,Nat.le_refl _,rfl,rfl⟩
theorem JH : ∀ v ∈ [Value.slice none 0 0],v.oneCell' = true:=by intro v h; simp at h; subst h; rfl
theorem Aw {k : IntKind} {n : Int} : ∀ v ∈ [Value.int k n],v.oneCell' = true:=by intro v h; simp at h; subst h; rfl
theorem JE {α : Type} [Rep α] {w w' : World} {x : α} {cs : List Value} (h : Ro w x cs) (hk : Kept (Old w) w w') : Ro w' x cs :=
 Rep.ro (Rep.loc h fun b hb=>hk.block b (hb.elim (fun h=>by cases h) id)) fun b hb=>hb.elim (fun h=>by cases h) (fun hb=>Nat.lt_of_lt_of_le hb hk.size)
theorem y7 {w w' : World} {b o : Nat} {cs : List Value} (h : At w b o cs) (hk : Kept (Old w) w w') (hc : cs ≠ []) : At w' b o cs:=h.loc (hk.block b (h.lt hc))
theorem B4 {w w' : World} {b o : Nat} {cs : List Value} (h : At w b o cs) (hk : Kept (Old w) w w') (hc : cs ≠ []) : Old w' b:=Nat.lt_of_lt_of_le (h.lt hc) hk.size

section
variable {n : Nat} {a : Act} {e : List (Nat × Value)} {w w' : World} {P : Program} {ops : Array Oper} {rest : List Oper} {Q : Exit → Act → World → Prop}
variable {d : Nat} {ty t : TypeId} {pos : String} {af : Array Edge} {g : Option (Nat × Bool)} {x y : Operand} {v u : Value}
theorem ZP {X : Code} (Mid : Act → World → Prop) (h : X.wp P (Exit.then Mid Q) a w) (k : ∀ a w,Mid a w → Q .normal a w) : X.wp P Q a w :=
 wp_mono h fun ex a w hq=>by cases ex <;> first | exact k _ _ hq | exact hq
theorem A3 {fn : Fn} {cs : List Operand} {vs : List Value} (h : Env n a e) (hw : Goes ops ⟨some d,.makeFunc fn #[] cs.toArray,ty,pos,af,g⟩ a) (hd : d < n) (hxs : Ku e cs = some vs)
  (k : ∀ a,Env n a ((d,.func fn #[] vs.toArray) :: e) → wpList P ops Q rest a w) : wpList P ops Q (⟨some d,.makeFunc fn #[] cs.toArray,ty,pos,af,g⟩ :: rest) a w :=
 Xw h hw rfl hd (by
  simp only [execOp]
  have:=h.evs hxs
  simp [Instr.makeFunc,this]) k
theorem y6 {f : Nat} {fv : Operand} {q : List Value} {xs : List Operand} {ats : Array TypeId} {vs : List Value} {R : Value → World → Prop} (h : Env n a e) (hw : Goes ops ⟨some d,.call ⟨.value fv,xs.toArray,ats⟩,ty,pos,af,g⟩ a) (hd : d < n)
  (hfv : opv e fv = some (.func (.func f) #[] q.toArray)) (hxs : Ku e xs = some vs) (hf : Callable P f) (hc : Calls P f (vs ++ q).toArray w fun en w'=>∃ v,en = .returned v ∧ R v w')
  (k : ∀ v w' a,R v w' → Env n a ((d,v) :: e) → wpList P ops Q rest a w') : wpList P ops Q (⟨some d,.call ⟨.value fv,xs.toArray,ats⟩,ty,pos,af,g⟩ :: rest) a w :=
 Zch h hw hd hfv hxs hf (by simpa using hc) k
end

theorem Th {pre : List (List Value)} {seg d : List Value} {post : List (List Value)} {o : Nat} (hk : Km pre = o) (hl : d.length = seg.length) : o + d.length ≤ (cat (pre ++ seg :: post)).length:=by
 rw [U1,List.flatten_append,List.length_append,TU,hk,List.flatten_cons,List.length_append]; omega
theorem TT {seg : List Value} {k m N : Nat} (h : seg.length = m) (h2 : k + m ≤ N) : k + seg.length ≤ N:=by rw [h]; exact h2
theorem Y2 {α : Type} [Rep α] {S : Nat → Prop} {w : World} {l : List α} {v : Value} {fp : List Nat} (h : Rep.sat S w l [v] fp) : v.cells.toList = [v]:=by
 obtain ⟨p,cap,hv,_⟩:=h
 simp only [List.cons.injEq,and_true] at hv
 subst hv; rfl
end
section
open Go

def Vc (v : Value) (lo hi n : Nat) : Value :=
 match v with
 | .slice a _ cap=>.slice (if cap = lo then a else a.map (·.add (lo * n))) (hi - lo) (cap - lo)
 | v=>v
def slc {α : Type} (l : List α) (lo hi : Int) : Option (List α):=if 0 ≤ lo ∧ lo ≤ hi ∧ hi ≤ l.length then some ((l.take hi.toNat).drop lo.toNat) else none
theorem H0 {α : Type} {l r : List α} {lo hi : Int} (h : slc l lo hi = some r) : (0 ≤ lo ∧ lo ≤ hi ∧ hi ≤ l.length) ∧ r = (l.take hi.toNat).drop lo.toNat:=by
 unfold slc at h
 split at h
 ·rename_i h0; simp only [Option.some.injEq] at h; exact ⟨h0,h.symm⟩
 ·cases h
theorem Z1.cut {α : Type} [Rep α] {S : Nat → Prop} {w : World} : ∀ {l : List α} {cs : List Value} {lo : Nat},Z1 S w l cs [] → Z1 S w (l.drop lo) (cs.drop (lo * Rep.n α)) []
 | l,cs,0,h=>by simpa using h
 | [],cs,lo + 1,h=>by obtain ⟨rfl,_⟩:=h; exact ⟨by simp,rfl⟩
 | x :: l,cs,lo + 1,h=>by
  obtain ⟨c,cs',f,fp',rfl,hf,h1,h2⟩:=h
  obtain ⟨rfl,rfl⟩:=List.append_eq_nil_iff.1 hf.symm
  have:=Z1.cut (lo:=lo) h2
  have hlc:=Rep.len h1
  rw [List.drop_succ_cons,Nat.add_mul,Nat.one_mul,Nat.add_comm]
  rw [show Rep.n α + lo * Rep.n α = c.length + lo * Rep.n α by rw [hlc],List.drop_length_add_append]
  exact this
theorem Z1.pre {α : Type} [Rep α] {S : Nat → Prop} {w : World} : ∀ {l : List α} {cs : List Value} {k : Nat},Z1 S w l cs [] → Z1 S w (l.take k) (cs.take (k * Rep.n α)) []
 | l,cs,0,h=>by simp only [Nat.zero_mul,List.take_zero]; exact ⟨rfl,rfl⟩
 | [],cs,k + 1,h=>by obtain ⟨rfl,_⟩:=h; exact ⟨by simp,rfl⟩
 | x :: l,cs,k + 1,h=>by
  obtain ⟨c,cs',f,fp',rfl,hf,h1,h2⟩:=h
  obtain ⟨rfl,rfl⟩:=List.append_eq_nil_iff.1 hf.symm
  have:=Z1.pre (k:=k) h2
  have hlc:=Rep.len h1
  rw [List.take_succ_cons,Nat.add_mul,Nat.one_mul,Nat.add_comm]
  rw [show Rep.n α + k * Rep.n α = c.length + k * Rep.n α by rw [hlc],List.take_length_add_append]
  exact ⟨c,_,[],[],rfl,rfl,h1,this⟩
theorem AV {α : Type} [Rep α] {S : Nat → Prop} {w : World} {l r : List α} {v : Value} {lo hi : Int} (h : Rep.sat S w l [v] []) (hb : slc l lo hi = some r) : Rep.sat S w r [Vc v lo.toNat hi.toNat (Rep.n α)] []:=by
 obtain ⟨⟨h0,h1,h2⟩,rfl⟩:=H0 hb
 obtain ⟨p,cap,hv,hc,hp⟩:=h
 simp only [List.cons.injEq,and_true] at hv
 subst hv
 have hlen : (List.drop lo.toNat (List.take hi.toNat l)).length = hi.toNat - lo.toNat:=by simp; omega
 refine ⟨(if cap = lo.toNat then p else p.map (·.add (lo.toNat * Rep.n α))),cap - lo.toNat,by simp only [Vc,hlen],by rw [hlen]; omega,?_⟩
 cases p with
 | none =>
  obtain ⟨rfl,_⟩:=hp
  simp
 | some q =>
  obtain ⟨hs,ecs,fpe,k1,k2,k3⟩:=hp
  rcases k3 with ⟨k3,k4⟩ | ⟨k3,_⟩
  case inr=>cases k3
  subst k4
  by_cases hcl : cap = lo.toNat
  ·rw [if_pos hcl]
   have hnil : List.drop lo.toNat (List.take hi.toNat l) = []:=List.eq_nil_of_length_eq_zero (by rw [hlen]; omega)
   rw [hnil]
   refine ⟨fun h=>absurd (by omega) h,[],[],⟨rfl,rfl⟩,At.nil _ _ _,.inl ⟨fun h=>absurd (by omega) h,rfl⟩⟩
  ·rw [if_neg hcl]
   obtain ⟨q1,q2,q3⟩:=q
   have hs:=hs (by omega)
   simp only at hs
   subst hs
   simp only [Option.map_some]
   rw [Addr.add_lit]
   refine ⟨fun _=>rfl,(ecs.take (hi.toNat * Rep.n α)).drop (lo.toNat * Rep.n α),[],(k1.pre).cut,?_,.inl ⟨fun hne=>k3 (by omega),rfl⟩⟩
   ·intro i v hv
    rw [List.getElem?_drop,List.getElem?_take] at hv
    split at hv
    ·have:=k2 _ v hv
     rwa [← Nat.add_assoc] at this
    ·cases hv

section
variable {n : Nat} {a : Act} {e : List (Nat × Value)} {w w' : World} {P : Program} {ops : Array Oper} {rest : List Oper} {Q : Exit → Act → World → Prop}
variable {d : Nat} {ty t : TypeId} {pos : String} {af : Array Edge} {g : Option (Nat × Bool)} {x y : Operand} {v u : Value}
variable {St : Nat → Prop} {w0 : World} {its : List Item}

def yC (e : List (Nat × Value)) : Option Operand → Option (Option Value)
 | none=>some none
 | some x=>(opv e x).map some
theorem VW {x : Operand} (h : opv e x = some v) : yC e (some x) = some (some v):=by simp [yC,h]
theorem Env.evo (h : Env n a e) {x : Option Operand} {v : Option Value} (hx : yC e x = some v) : x.map a.eval = v:=by
 cases x with
 | none=>simpa [yC] using hx
 | some y =>
  simp only [yC,Option.map_eq_some_iff] at hx
  obtain ⟨u,h1,rfl⟩:=hx
  simp [h.ev h1]
def bnd (o : Option Value) (dflt : Int) : Option Int :=
 match o with
 | none=>some dflt
 | some (.int _ i)=>some i
 | _=>none
theorem QZ {α : Type} [Rep α] {S : Nat → Prop} {l r : List α} {fp : List Nat} {el sz by_ : Nat} {z : List Value} {D : TypeDesc} {lo hi : Option Operand} {vlo vhi : Option Value} {i j : Int}
  (h : Env n a e) (hw : Goes ops ⟨some d,.slice t x lo hi none,ty,pos,af,g⟩ a) (hd : d < n) (hx : opv e x = some v) (hlo : yC e lo = some vlo) (hhi : yC e hi = some vhi)
  (hi1 : bnd vlo 0 = some i) (hj1 : bnd vhi l.length = some j) (ht : P.underlying t = some (.slice el)) (he : Ty P el D sz by_ z) (hs : Rep.sat S w l [v] fp) (hb : slc l i j = some r)
  (k : ∀ a,Env n a ((d,Vc v i.toNat j.toNat sz) :: e) → wpList P ops Q rest a w) : wpList P ops Q (⟨some d,.slice t x lo hi none,ty,pos,af,g⟩ :: rest) a w:=by
 obtain ⟨⟨h0,h1,h2⟩,rfl⟩:=H0 hb
 obtain ⟨p,cap,hv,hc,hp⟩:=hs
 simp only [List.cons.injEq,and_true] at hv
 subst hv
 refine Xw h hw rfl hd (w':=w) ?_ k
 simp only [execOp,h.ev hx,h.evo hlo,h.evo hhi]
 have hsize:=Va he w
 have hlow : ∀ m : Nat,i ≤ m → (match vlo with | some v=>Instr.sliceBound v m .sliceB | none=>pure 0 : Sem Nat).run P w = .ok i.toNat w:=by
  intro m hm
  cases vlo with
  | none=>simp only [bnd,Option.some.injEq] at hi1; subst hi1; rfl
  | some u =>
   cases u <;> simp only [bnd] at hi1 <;> first | cases hi1 | skip
   simp [Instr.sliceBound,asIntOf,h0,hm]
 have hhigh : (match vhi with | some v=>Instr.sliceBound v cap .sliceAcap | none=>pure l.length : Sem Nat).run P w = .ok j.toNat w:=by
  cases vhi with
  | none=>simp only [bnd,Option.some.injEq] at hj1; subst hj1; simp
  | some u =>
   cases u <;> simp only [bnd] at hj1 <;> first | cases hj1 | skip
   have : (0 ≤ j ∧ j ≤ (cap : Int)):=by omega
   simp [Instr.sliceBound,asIntOf,this]
 have hbounds : (Instr.sliceBounds true l.length cap vlo vhi none).run P w = .ok (i.toNat,j.toNat,cap) w:=by
  have hl:=hlow j.toNat (by omega)
  cases vlo <;> cases vhi <;> simp_all [Instr.sliceBounds]
 simp [Instr.sliceAt,run_underlying ht,Instr.slice,hbounds,hsize,Vc]

theorem Zb7 {p q : Bool} (ht : P.underlying t = some .bool) : (Op.equal t (.bool p) (.bool q)).run P w = .ok (p == q) w:=by
 show (Op.equalIn (9999 + 1) t (.bool p) (.bool q)).run P w = _
 rw [Op.equalIn]
 simp only [Sem.run_bind,run_underlying ht,Result.andThen_ok,Sem.run_pure]
theorem s_neT {p q : Bool} {y' : TypeId} (h : Env n a e) (hw : Goes ops ⟨some d,.binOp .neq t x y y',ty,pos,af,g⟩ a) (hd : d < n) (hx : opv e x = some (vT p)) (hy : opv e y = some (vT q)) (ht : P.underlying t = some .bool)
  (k : ∀ a,Env n a ((d,vT (p != q)) :: e) → wpList P ops Q rest a w) : wpList P ops Q (⟨some d,.binOp .neq t x y y',ty,pos,af,g⟩ :: rest) a w :=
 Xw h hw rfl hd (by simp only [execOp,h.ev hx,h.ev hy]; simp only [eqGuard,binOp,Sem.run_bind,Zb7 ht,Result.andThen_ok,Sem.run_pure]; simp; cases p <;> cases q <;> rfl) k

theorem A8 : ∀ l : List UInt8,VN l = (l.map fun b=>Value.int .u8 b.toNat)
 | []=>rfl
 | x :: l=>by rw [VN,A8 l]; rfl
theorem yu (l : List UInt8) : Lib.bytesOf (l.map fun b=>(b.toNat : Int)) = l:=by
 unfold Lib.bytesOf
 rw [List.map_map]
 conv=>rhs; rw [← List.map_id l]
 apply List.map_congr_left
 intro b _
 simp
abbrev indexByte (l : List UInt8) (c : UInt8) : Int:=Lib.indexByte l c
theorem yT {S : Nat → Prop} {l : List UInt8} {fp : List Nat} {f : Nat} {fn : Func} {c : UInt8} {ats : Array TypeId} {xs : List Operand} (h : Env n a e) (hw : Goes ops ⟨some d,.call ⟨.value (.func f),xs.toArray,ats⟩,ty,pos,af,g⟩ a) (hd : d < n)
  (hxs : Ku e xs = some [v, vB c]) (hf : P.funcs[f]? = some fn) (hb : fn.body.isNone = true) (hn : (fn.name == "runtime.NumGoroutine") = false) (hnx : Extern.findNext fn = none) (hfd : Extern.find fn = some Extern.BytealgIndexByte.indexByte)
  (hs : Rep.sat S w l [v] fp) (k : ∀ a,Env n a ((d,vI (indexByte l c)) :: e) → wpList P ops Q rest a w) : wpList P ops Q (⟨some d,.call ⟨.value (.func f),xs.toArray,ats⟩,ty,pos,af,g⟩ :: rest) a w:=by
 refine Xw h hw rfl hd (w':=w) ?_ k
 have hr : (Extern.BytealgIndexByte.indexByte #[v,vB c]).run P w = .ok (vI (Lib.indexByte l c)) w:=by
  obtain ⟨p,cap,hv,hc,hp⟩:=hs
  simp only [List.cons.injEq,and_true] at hv
  subst hv
  cases p with
  | none =>
   have : l = []:=List.eq_nil_of_length_eq_zero (by have:=hp.1; omega)
   subst this
   exact Lib.run_indexByteNil (P:=P) w _ _ _
  | some q =>
   obtain ⟨h1,ecs,fpe,h2,h3,_⟩:=hp
   by_cases hl0 : l = []
   ·subst hl0
    exact Lib.run_indexByteString (P:=P) .empty (c.toNat : Int) w
   have h1:=h1 (by have:=List.length_pos_iff.2 hl0; omega)
   obtain ⟨q1,q2,q3⟩:=q
   simp only at h1
   subst h1
   obtain ⟨rfl,rfl⟩:=Wc.1 h2
   have:=Lib.run_indexByteSlice (P:=P) w q1 q2 l.length cap (l.map fun b=>(b.toNat : Int)) (by simp) (fun i hi=>by
    have:=h3 i (Value.int .u8 (l[i].toNat : Int)) (by rw [A8]; simp [hi])
    rw [this]
    simp [hi]) (c.toNat : Int)
   rw [yu] at this
   have hcc : (c.toNat : Int).toNat.toUInt8 = c:=by simp
   rw [hcc] at this
   exact this
 simp only [execOp,resolve,Act.eval]
 simp only [Deferred.ofValue,Sem.run_bind,pure,Sem.run,Result.andThen_ok,invoke]
 have hargs : (xs.toArray.map a.eval) = #[v,vB c]:=by simp [h.evs hxs]
 simp only [hargs,Array.append_empty]
 have:=run_callFunc_extern (P:=P) hf hn hb hnx hfd #[v,vB c] w
 simpa [hr] using this
end

section
variable {St : Nat → Prop} {w0 w : World} {its : List Item}
theorem M.pack1 {i1 it : Item} (h : M St w0 w (i1 :: its)) (hl : Loc St it) (hp : ∀ fp,i1 w fp → it w fp) : M St w0 w (it :: its):=by
 obtain ⟨h1,h2,fp,⟨f,f',rfl,_,k1,k2⟩,h4,h5⟩:=h
 exact ⟨h1,h2,_,⟨f,f',rfl,hl,hp f k1,k2⟩,h4,h5⟩
theorem M.addRo {α : Type} [Rep α] {S : Nat → Prop} {x : α} {cs : List Value} (h : M St w0 w its) (hS : ∀ b,S b → St b) (hx : Rep.sat S w x cs []) : M St w0 w (own S x cs :: its):=by
 obtain ⟨h1,h2,fp,h3,h4,h5⟩:=h
 exact ⟨h1,h2,fp,⟨[],fp,rfl,VS hS,hx,h3⟩,h4,h5⟩
end
section
variable {n : Nat} {a : Act} {e : List (Nat × Value)} {w w' : World} {P : Program} {ops : Array Oper} {rest : List Oper} {Q : Exit → Act → World → Prop}
variable {d : Nat} {ty t : TypeId} {pos : String} {af : Array Edge} {g : Option (Nat × Bool)} {x y : Operand} {v u : Value}
variable {St : Nat → Prop} {w0 : World} {its : List Item}
theorem V0 {α : Type} [Rep α] {S : Nat → Prop} {xs : List Operand} {el : TypeId} {D : TypeDesc} {by_ : Nat} {z seg : List Value} {xn : α}
  (h : Env n a e) (hM : M St w0 w (own S xn seg :: its)) (hS : ∀ b,S b → St b) (hw : Goes ops ⟨some d,.buildSlice t 1 (QL 0 xs).toArray,ty,pos,af,g⟩ a) (hd : d < n) (hxs : Ku e xs = some [u]) (hu : u.cells.toList = seg)
  (ht : P.underlying t = some (.slice el)) (he : Ty P el D (Rep.n α) by_ z) (hzl : z.length = Rep.n α) (hsmall : 1 * Rep.n α ≤ 16777216)
  (k : ∀ v' w a,M St w0 w (osl S [xn] v' :: its) → Env n a ((d,v') :: e) → wpList P ops Q rest a w) : wpList P ops Q (⟨some d,.buildSlice t 1 (QL 0 xs).toArray,ty,pos,af,g⟩ :: rest) a w:=by
 subst hu
 obtain ⟨fp0,hfp0,_⟩:=hM.head
 have hl0:=Rep.len hfp0
 exact TE (l:=[xn]) h hM hS hw hd hxs rfl rfl ht he hzl hsmall (fun fp hfp=>by
  have hfp : Rep.sat S w xn u.cells.toList fp:=hfp
  exact ⟨u.cells.toList,[],fp,[],by simp,by simp,hfp,rfl,rfl⟩) (fun v hv=>by simp at hv; subst hv; simpa using hl0) k
theorem X5.wk {α : Type} [Rep α] {S S' : Nat → Prop} {l : List α} {fp : List Nat} (h : X5 S w l v fp) (hS : ∀ b,S b → S' b) : X5 S' w l v fp:=by
 obtain ⟨p,cap,rfl,hc,h⟩:=h
 refine ⟨p,cap,rfl,hc,?_⟩
 rcases h with h | ⟨b,o,ecs,fpe,rfl,h1,h2,rfl,h3⟩
 ·exact .inl h
 ·exact .inr ⟨b,o,ecs,fpe,rfl,h1.wk hS,h2,rfl,h3⟩
theorem M.oslWk {α : Type} [Rep α] {S S' : Nat → Prop} {l : List α} (h : M St w0 w (osl S l v :: its)) (hS : ∀ b,S b → S' b) (hS' : ∀ b,S' b → St b) : M St w0 w (osl S' l v :: its) :=
 h.pack1 (VK hS') fun _ hp=>X5.wk hp hS
end
class Dat (α : Type) where
 bd : α → Prop
 sz : α → Nat

instance : Dat Int:=⟨fun x=>-9223372036854775808 ≤ x ∧ x ≤ 9223372036854775807,fun _=>1⟩
instance : Dat UInt8:=⟨fun _=>True,fun _=>1⟩
instance : Dat Bool:=⟨fun _=>True,fun _=>1⟩
instance : Dat Str:=⟨fun s=>s.l.length ≤ 9223372036854775807,fun s=>s.l.length + 1⟩
instance {α : Type} [Dat α] : Dat (List α):=⟨fun l=>l.length ≤ 9223372036854775807 ∧ ∀ x ∈ l,Dat.bd x,fun l=>(l.map Dat.sz).sum + 1⟩
instance {α : Type} [Dat α] {n : Nat} : Dat (Vector α n):=⟨fun l=>∀ x ∈ l.toList,Dat.bd x,fun l=>(l.toList.map Dat.sz).sum + 1⟩
instance {α β : Type} [Dat α] [Dat β] : Dat (α × β):=⟨fun x=>Dat.bd x.1 ∧ Dat.bd x.2,fun x=>Dat.sz x.1 + Dat.sz x.2⟩

end
section
open Go Go.ChangeShapes Go.WideShapes Go.ChangeAt Go.RowKit

def A7 (P : Program) (t : TypeId) (α : Type) [Rep α] [Dat α] : Prop :=
 ∀ (H : Type) (en : TypeId × Value → H) (w : World) (base : Nat) (held : Bool) (fuel : Nat) (cs : List Value) (x : DataW H × List MemPlace),
  DataW.trod en P w base (fun _=>true) held fuel t cs = some x → ∃ y : α,Ro w y cs ∧ Dat.bd y ∧ Dat.sz y ≤ Rows.uptoBulk x.1

section
variable {P : Program} {t e : TypeId}
theorem jS (ht : P.underlying t = some (.int .u8)) : A7 P t UInt8:=by
 intro H en w base held fuel cs x h
 obtain ⟨n,rfl,rfl,hw⟩:=DataW.trod_int ht h
 have hn : 0 ≤ n ∧ n ≤ 255:=by simpa [Lit.wf,IntKind.min,IntKind.max,IntKind.signed,IntKind.bits,Dat.bd] using hw
 refine ⟨UInt8.ofNat n.toNat,⟨?_,rfl⟩,trivial,Nat.le_refl _⟩
 have : ((UInt8.ofNat n.toNat).toNat : Int) = n:=by
  rw [UInt8.toNat_ofNat']; omega
 show [Value.int .u8 n] = [Value.int .u8 ((UInt8.ofNat n.toNat).toNat : Int)]
 rw [this]
theorem A2 {α : Type} [Rep α] [Dat α] (he : A7 P e α) {H : Type} {en : TypeId × Value → H} {w : World} {base : Nat} {held : Bool} {fuel : Nat} :
  ∀ (css : List (List Value)) (xs : List (DataW H × List MemPlace)),css.length = xs.length → (∀ (i : Nat) (c : List Value),css[i]? = some c → DataW.trod en P w base (fun _=>true) held fuel e c = xs[i]?) →
   ∃ l : List α,l.length = css.length ∧ Z1 (Old w) w l css.flatten [] ∧ (∀ y ∈ l,Dat.bd y) ∧ (l.map Dat.sz).sum ≤ Rows.uptoBulkAll (xs.map (·.1))
 | [],[],_,_=>⟨[],rfl,⟨rfl,rfl⟩,(fun _ h=>by cases h),Nat.le_refl _⟩
 | [],_ :: _,h,_=>by simp at h
 | _ :: _,[],h,_=>by simp at h
 | c :: css,x :: xs,h,hx=>by
  obtain ⟨y,h1,h2,h3⟩:=he H en w base held fuel c x (hx 0 c rfl)
  obtain ⟨l,k0,k1,k2,k3⟩:=A2 he css xs (by simpa using h) (fun i d hd=>hx (i + 1) d hd)
  refine ⟨y :: l,by simp [k0],⟨c,css.flatten,[],[],by simp,rfl,h1,k1⟩,?_,?_⟩
  ·intro z hz
   rcases List.mem_cons.1 hz with rfl | hz
   ·exact h2
   ·exact k2 z hz
  ·simp only [List.map_cons,List.sum_cons,Rows.uptoBulkAll]
   omega

theorem cells?_get {w : World} {base : Nat} {a : Addr} {n : Nat} {cs : List Value} (h : w.cells? base a n = some cs) : cs.length = n ∧ ∀ i,i < n → w.cell? (a.add i) = cs[i]?:=by
 unfold World.cells? at h
 split at h
 ·refine ⟨by simpa using mapM_some_length h,fun i hi=>?_⟩
  exact mapM_some_get h i i (by simp [hi])
 ·cases h
theorem cell?_spot {w : World} {a : Addr} {v : Value} (h : w.cell? a = some v) : a.spot = none ∧ Old w a.block:=by
 unfold World.cell? at h
 split at h
 ·rename_i hh
  split at h
  ·cases h
  ·rename_i hsp
   refine ⟨by simpa using hsp,?_⟩
   rcases Nat.lt_or_ge a.block w.heap.size with hb | hb
   ·exact hb
   ·simp [Array.getElem?_eq_none hb] at hh
 ·cases h

theorem kY {n : Nat} : ∀ (css : List (List Value)),(∀ d ∈ css,d.length = n) → ∀ {i j : Nat} {c : List Value},css[i]? = some c → j < n → css.flatten[i * n + j]? = c[j]?
 | [],_,i,j,c,h,_=>by simp at h
 | d :: css,hd,0,j,c,h,hj=>by
  simp only [List.getElem?_cons_zero,Option.some.injEq] at h
  subst h
  have:=hd d (by simp)
  rw [List.flatten_cons,Nat.zero_mul,Nat.zero_add,List.getElem?_append_left (by omega)]
 | d :: css,hd,i + 1,j,c,h,hj=>by
  have hdl:=hd d (by simp)
  have:=kY css (fun x hx=>hd x (by simp [hx])) (i:=i) (c:=c) (by simpa using h) hj
  rw [List.flatten_cons,Nat.add_mul,Nat.one_mul,List.getElem?_append_right (by omega),← this]
  congr 1
  omega
theorem jK {α : Type} [Rep α] [Dat α] (ht : P.underlying t = some (.slice e)) (he : A7 P e α) (hn : P.cellsOf e = Rep.n α) (h0 : 0 < Rep.n α) : A7 P t (List α):=by
 intro H en w base held fuel cs x h
 rcases DataW.trod_slice ht h with ⟨rfl,rfl⟩ | ⟨a,len,cap,elems,rest,n,_,rfl,rfl,hb,hl,hm,hlen,hel,hsp,hns⟩
 ·exact ⟨[],⟨none,0,rfl,Nat.le_refl _,rfl,rfl⟩,⟨by simp,fun _ h=>by cases h⟩,Nat.le_refl _⟩
 have hcell : ∀ i,i < len → ∃ c,w.cells? base (a.add (i * Rep.n α)) (Rep.n α) = some c ∧ DataW.trod en P w base (fun _=>true) held n e c = elems[i]?:=by
  intro i hi
  have:=hel i hi
  rw [hn,List.getElem?_eq_getElem (by omega)] at this
  obtain ⟨c,h1,h2⟩:=Option.bind_eq_some_iff.1 this
  exact ⟨c,h1,by rw [h2,List.getElem?_eq_getElem (by omega)]⟩
 obtain ⟨css,hcl,hcs⟩ : ∃ css : List (List Value),css.length = len ∧ ∀ (i : Nat) (c : List Value),css[i]? = some c → w.cells? base (a.add (i * Rep.n α)) (Rep.n α) = some c ∧ DataW.trod en P w base (fun _=>true) held n e c = elems[i]?:=by
  refine ⟨(List.range len).map fun i=>if hi : i < len then (hcell i hi).choose else [],by simp,fun i c hc=>?_⟩
  have hi : i < len:=by have:=(List.getElem?_eq_some_iff.1 hc).1; simpa using this
  simp [hi] at hc
  subst hc
  exact (hcell i hi).choose_spec
 obtain ⟨l,hll,hE,hbd,hsz⟩:=A2 he css elems (by omega) fun i c hc=>(hcs i c hc).2
 have hla : l.length = len:=by omega
 -- where the array lies
 have hspot2 : cap ≠ 0 → a.spot = none ∧ Old w a.block:=by
  intro hc
  by_cases hl0 : 0 < len
  ·obtain ⟨c,h1,_⟩:=hcell 0 hl0
   obtain ⟨k1,k2⟩:=cells?_get h1
   have:=k2 0 h0
   rw [List.getElem?_eq_getElem (by omega)] at this
   have:=cell?_spot this
   cases a
   simpa [Addr.add] using this
  ·have hl0 : len = 0:=by omega
   have:=(hsp rfl).2 0 (by omega)
   rw [hn,List.getElem?_eq_getElem (by have:=(hsp rfl).1; omega)] at this
   obtain ⟨c,h1,_⟩:=Option.bind_eq_some_iff.1 this
   obtain ⟨k1,k2⟩:=cells?_get h1
   have:=k2 0 h0
   rw [List.getElem?_eq_getElem (by omega)] at this
   have:=cell?_spot this
   cases a
   simpa [Addr.add,hl0] using this
 have hspot:=fun h=>(hspot2 h).1
 refine ⟨l,⟨some a,cap,by rw [hla],by omega,hspot,css.flatten,[],hE,?_,.inl ⟨?_,rfl⟩⟩,⟨by unfold maxLen at hm; omega,hbd⟩,?_⟩
 ·intro i v hv
  have hil : i < css.flatten.length:=(List.getElem?_eq_some_iff.1 hv).1
  have hfl : css.flatten.length = len * Rep.n α:=by rw [hE.len,hla]
  have hi : i / Rep.n α < len:=Nat.div_lt_of_lt_mul (by rw [Nat.mul_comm]; rwa [hfl] at hil)
  obtain ⟨c,hc⟩ : ∃ c,css[i / Rep.n α]? = some c:=⟨css[i / Rep.n α]'(by omega),by simp⟩
  obtain ⟨k1,k2⟩:=cells?_get (hcs _ c hc).1
  have hm':=k2 (i % Rep.n α) (Nat.mod_lt _ h0)
  have hsp0 : a.spot = none:=hspot (by have:=Nat.lt_of_le_of_lt (Nat.zero_le _) hi; omega)
  have hdm:=Nat.div_add_mod i (Rep.n α)
  have hval : css.flatten[i]? = c[i % Rep.n α]?:=by
   have:=kY (n:=Rep.n α) css (fun d hd=>by
    obtain ⟨j,hj⟩:=List.mem_iff_getElem?.1 hd
    exact (cells?_get (hcs j d hj).1).1) hc (Nat.mod_lt i h0)
   rw [← this]
   congr 1
   rw [Nat.mul_comm]; omega
  rw [hval] at hv
  rw [hv] at hm'
  obtain ⟨b,o,s⟩:=a
  simp only at hsp0
  subst hsp0
  rw [← hm']
  simp only [Addr.add_lit]
  congr 2
  rw [Nat.add_assoc]
  congr 1
  rw [Nat.mul_comm]; omega
 ·exact fun h=>(hspot2 h).2
 ·simp only [Dat.sz,Rows.uptoBulk]
  have : (l.map Dat.sz).sum ≤ Rows.uptoBulkAll (elems.map (·.1)):=hsz
  omega

def OpensF (P : Program) (fs : List Field) (o : Nat) (α : Type) [Rep α] [Dat α] : Prop :=
 ∀ (H : Type) (en : TypeId × Value → H) (w : World) (base : Nat) (held : Bool) (fuel : Nat) (cs : List Value) (xs : List (DataW H × List MemPlace)),cs.length = o + Rep.n α → xs.length = fs.length →
  (∀ (i : Nat) (f : Field),fs[i]? = some f → DataW.trod en P w base (fun _=>true) held fuel f.type ((cs.drop f.offset).take (P.cellsOf f.type)) = xs[i]?) →
   ∃ y : α,Ro w y (cs.drop o) ∧ Dat.bd y ∧ Dat.sz y ≤ Rows.uptoBulkAll (xs.map (·.1))
theorem Zby {H : Type} {en : TypeId × Value → H} {w : World} {α : Type} [Rep α] [Dat α] (ho : A7 P t α) {v : Value} {d : DataW H} {ps : List MemPlace} (hv : v.cells.toList = [v]) (h : DataW.Trod en P w 0 (fun _=>true) true t v d ps) :
  ∃ y : α,Ro w y [v] ∧ Dat.bd y ∧ Dat.sz y ≤ Rows.uptoBulk d:=by
 obtain ⟨fuel,h⟩:=h
 rw [hv] at h
 exact ho H en w 0 true fuel _ _ h
end

theorem Kept.below {w w' : World} (h : Kept (Old w) w w') : Below w.heap.size w w':=⟨h.os,h.tape,h.output,h.size,fun k hk=>h.block k hk⟩
theorem J3 {P : Program} {H : Type} {en : TypeId × Value → H} {W W' : World} (hl : laidOutB P = true) (hB : Below W.heap.size W W') : ∀ {ts : List TypeId} {vs : List Value} {ds : List (DataW H)} {ps : List MemPlace},
  (∀ t ∈ ts,P.readableRec t = true ∧ t < P.types.size) → (∀ x ∈ ps,x.block < W.heap.size) → DataW.TrodAll en P W 0 (fun _=>true) true ts vs ds ps → DataW.TrodAll en P W' 0 (fun b=>decide (b < W.heap.size)) true ts vs ds ps
 | [],_,_,_,_,_,h=>by
  obtain ⟨rfl,rfl,rfl⟩:=trodAll_nil h
  rfl
 | t :: ts,_,_,_,ht,hp,h=>by
  obtain ⟨v,vs,d,ds,p,q,rfl,rfl,rfl,h1,h2⟩:=trodAll_cons h
  obtain ⟨k1,k2⟩:=ht t (by simp)
  exact ⟨p,q,Below.trod hl k1 k2 h1 hB (fun x hx=>hp x (by simp [hx])),J3 hl hB (fun t h=>ht t (by simp [h])) (fun x hx=>hp x (by simp [hx])) h2,rfl⟩

theorem qR {P : Program} {H : Type} {en : TypeId × Value → H} {f : Func} {s : ChangeSpec} {tb : TypeId} {W W' : World} {args : Array Value} {ds : List (DataW H)} {before : List MemPlace} (hs : s.vars = []) (hW : DataW.Whole en P f.params.toList s.vars false W args.toList ds [] before)
  (hr : f.resultTypes = #[tb]) (htb : P.underlying tb = some .bool) (hfn : s.fn H (ds ++ []) = { results:=[.lit (.bool true)],args:=ds }) (hl : laidOutB P = true) (hts : ∀ t ∈ f.params.toList,P.readableRec t = true ∧ t < P.types.size) (hK : Kept (Old W) W W') :
  s.post en P f false true false false W args (.bool true) W':=by
 have hlt:=hW.lt
 have hW0:=hW
 obtain ⟨p,q,hA,hV,rfl,_,_⟩:=hW0
 rw [hs] at hV
 obtain ⟨_,rfl⟩:=trodVars_none hV
 refine ⟨ds,[],_,[],p,[],hW,?_,?_,?_,hK.below.frame _,fun h=>by cases h⟩
 ·rw [hfn,hr]
  exact trodAll_mk1 (shut_bool htb true)
 ·rw [hfn]
  exact J3 hl hK.below hts (fun x hx=>hlt x (by simpa using hx)) hA
 ·rw [hfn,hs]
  rfl
/-! ### Five and six arguments -/
end
section
open Go

abbrev Places (P : Program) (fs : List Field) (pl : List (Nat × Nat)) : Prop:=fs.mapM (fun f=>(P.info? f.type).map fun i=>(f.offset,i.size)) = some pl
abbrev FillTo (pl : List (Nat × Nat)) (z : List Value) (parts : List (Nat × Value)) (cs : List Value) : Prop:=Instr.fill (pl.toArray[·]?) z.toArray parts = some cs.toArray
theorem Wy {pl : List (Nat × Nat)} {z : List Value} : FillTo pl z [] z:=rfl
theorem YK {pl : List (Nat × Nat)} {pre : List (List Value)} {seg seg' : List Value} {post : List (List Value)} {rest : List (Nat × Value)} {i off size : Nat} {v : Value} {cs : List Value}
  (hi : pl[i]? = some (off,size)) (hk : Km pre = off) (hl : seg.length = size) (hl' : seg'.length = size) (hv : v.cells.toList = seg') (hr : FillTo pl (cat (pre ++ seg' :: post)) rest cs) :
  FillTo pl (cat (pre ++ seg :: post)) ((i,v) :: rest) cs:=by
 subst hv
 have hvs : v.cells.size = size:=by simpa using hl'
 have hfit : off + v.cells.toList.length ≤ (cat (pre ++ seg :: post)).length:=Th hk (by rw [hl',hl])
 have hfit2 : off + size ≤ (cat (pre ++ seg :: post)).length:=by rw [hl'] at hfit; exact hfit
 have hf:=KC v.cells.toList 0 off (cat (pre ++ seg :: post)).toArray (by simpa using hfit)
 have hz : v.cells.zipIdx.foldl (fun cs (c,j)=>cs.setIfInBounds (off + j) c) (cat (pre ++ seg :: post)).toArray = (YH (cat (pre ++ seg :: post)) off v.cells.toList).toArray:=by
  rw [← Array.foldl_toList,Array.toList_zipIdx]
  simpa using hf
 unfold FillTo
 rw [Instr.fill]
 simp only [List.getElem?_toArray,hi]
 rw [if_neg (by simp [hvs]; omega)]
 rw [hz,Wj hk (by rw [hl',hl])]
 have:=hr
 unfold FillTo at this
 simpa only [List.getElem?_toArray] using this
section
variable {n : Nat} {a : Act} {e : List (Nat × Value)} {w w' : World} {P : Program} {ops : Array Oper} {rest : List Oper} {Q : Exit → Act → World → Prop}
variable {d : Nat} {ty t : TypeId} {pos : String} {af : Array Edge} {g : Option (Nat × Bool)} {x y : Operand} {v u : Value}
variable {St : Nat → Prop} {w0 : World} {its : List Item}
theorem YY {fs : Array Field} {pl : List (Nat × Nat)} {parts : List (Nat × Operand)} {vs : List (Nat × Value)} {z cs : List Value} {sz by_ : Nat} (h : Env n a e) (hw : Goes ops ⟨some d,.build t parts.toArray,ty,pos,af,g⟩ a) (hd : d < n)
  (hxs : Ku e (parts.map (·.2)) = some (vs.map (·.2))) (hix : parts.map (·.1) = vs.map (·.1)) (ht : Ty P t (.struct fs) sz by_ z) (hp : Places P fs.toList pl) (hf : FillTo pl z vs cs)
  (k : ∀ a,Env n a ((d,.agg cs.toArray) :: e) → wpList P ops Q rest a w) : wpList P ops Q (⟨some d,.build t parts.toArray,ty,pos,af,g⟩ :: rest) a w:=by
 refine Xw h hw rfl hd (w':=w) ?_ k
 have hvals : (parts.map fun (p : Nat × Operand)=>(p.1,a.eval p.2)) = vs:=by
  have h1:=h.evs hxs
  rw [List.map_map] at h1
  apply List.ext_getElem?
  intro i
  have e1 : (parts.map (·.1))[i]? = (vs.map (·.1))[i]?:=by rw [hix]
  have e2 : (parts.map (a.eval ∘ fun (p : Nat × Operand)=>p.2))[i]? = (vs.map (·.2))[i]?:=by rw [h1]
  simp only [List.getElem?_map] at e1 e2 ⊢
  cases hp : parts[i]? with
  | none =>
   rw [hp] at e1
   cases hq : vs[i]? with
   | none=>rfl
   | some q=>rw [hq] at e1; simp at e1
  | some p =>
   rw [hp] at e1 e2
   cases hq : vs[i]? with
   | none=>rw [hq] at e1; simp at e1
   | some q =>
    rw [hq] at e1 e2
    simp only [Option.map_some,Option.some.injEq] at e1 e2 ⊢
    exact Prod.ext e1 e2
 have hb : P.built t vs = some cs.toArray:=by
  obtain ⟨i,zv,h1,h2,_,h3,h4⟩:=ht.get
  unfold Program.built
  rw [h1,ht.und]
  simp only [h3]
  rw [show fs.toList.mapM (fun f=>(P.info? f.type).map fun i=>(f.offset,i.size)) = some pl from hp]
  have h5 : zv.cells = z.toArray:=by rw [← h4]
  simp only [h5]
  exact hf
 simp only [execOp]
 have : (parts.toArray.map fun (p : Nat × Operand)=>(p.1,a.eval p.2)) = vs.toArray:=by rw [List.map_toArray,hvals]
 simp only [Sem.run_bind]
 rw [show (Instr.build t (parts.toArray.map fun (i,x)=>(i,a.eval x))).run P w = .ok (.agg cs.toArray) w from by
  have h2:=run_build (P:=P) w t (parts.toArray.map fun (i,x)=>(i,a.eval x)) cs.toArray (by
   have : (parts.toArray.map fun (i,x)=>(i,a.eval x)).toList = vs:=by simpa using hvals
   rw [this]; exact hb)
  exact h2]
 rfl
end


def opt (b : Bool) (it : Item) : Item:=fun w fp=>if b = true then it w fp else fp = []
def optL (mk : List (Nat × (Value → Item))) (D : Nat → Bool) (u : Nat → Value) : List Item:=mk.map fun p=>opt (D p.1) (p.2 (u p.1))
def US (D : Nat → Bool) (i : Nat) : Nat → Bool:=fun j=>if j = i then true else D j
theorem yY (it : Item) : opt true it = it:=by funext w fp; simp [opt]
theorem yk (it : Item) : opt false it = emp:=by funext w fp; simp [opt,emp]
section
variable {St : Nat → Prop} {w0 w : World} {its pre post : List Item} {it : Item} {b : Bool}
theorem M.sure (h : M St w0 w (pre ++ opt b it :: post)) (hb : b = true) : M St w0 w (pre ++ it :: post):=by subst hb; rwa [yY] at h
theorem M.push {pre post : List Item} (h : M St w0 w (it :: (pre ++ post))) : M St w0 w (pre ++ it :: post):=by
 obtain ⟨hk,hs,fp,⟨g1,g,rfl,l1,l2,k⟩,h2,h3⟩:=h
 obtain ⟨f,g2,rfl,k1,k2⟩:=WD.split k
 refine ⟨hk,hs,f ++ (g1 ++ g2),WD.append k1 ⟨g1,g2,rfl,l1,l2,k2⟩,?_,fun b hb=>h3 b (by simp at hb ⊢; grind)⟩
 refine (List.Perm.nodup_iff ?_).1 h2
 rw [← List.append_assoc,← List.append_assoc]
 exact List.Perm.append_right _ List.perm_append_comm
end

def DrawI2 (P : Program) (l hd tl : List Oper) (Q : Exit → Act → World → Prop) (n : Nat) (ts : List Nat) (e0 : List (Nat × Value)) (St : Nat → Prop) (w0 : World) (its : List Item) (mk : List (Nat × (Value → Item))) (G : Nat → Value → Prop) (listed : Array Bool) (a : Act) (w : World) : Prop :=
 ((∀ i,i < hd.length → dn listed i) ∧ ∃ k,k ≤ tl.length ∧ (∀ j,j < k → dn listed (hd.length + j)) ∧ (∀ j,k ≤ j → j < tl.length → ¬ dn listed (hd.length + j)) ∧ wpList P l.toArray Q (tl.drop k) a w) ∨
 ((¬ ∀ i,i < hd.length → dn listed i) ∧ (∀ j,hd.length ≤ j → ¬ dn listed j) ∧ ∃ u,Env n a (Qs ts 0 u e0) ∧ M St w0 w (its ++ optL mk (fun j=>listed.getD j false) u) ∧ ∀ j,dn listed j → G j (u j))

end
section
open Go

def asV (ag : Bool) (cs : List Value) : Value:=if ag = true then .agg cs.toArray else cs.headD undef
abbrev EqOk (P : Program) (t : TypeId) (k : Nat) (α : Type) [Flat α] [DecidableEq α] (ag : Bool) : Prop :=
 ∀ (d : Nat) (w : World) (x y : α),(Op.equalIn (d + k) t (asV ag (Flat.enc x)) (asV ag (Flat.enc y))).run P w = .ok (decide (x = y)) w
section
variable {P : Program} {t e : TypeId}
end
section
variable {n : Nat} {a : Act} {e : List (Nat × Value)} {w w' : World} {P : Program} {ops : Array Oper} {rest : List Oper} {Q : Exit → Act → World → Prop}
variable {d : Nat} {ty t : TypeId} {pos : String} {af : Array Edge} {g : Option (Nat × Bool)} {x y : Operand} {v u : Value}
variable {St : Nat → Prop} {w0 : World} {its : List Item}
theorem T5 {S : Nat → Prop} {l : List UInt8} {fp : List Nat} {src dst el : TypeId} (h : Env n a e) (hw : Goes ops ⟨some d,.convert src dst x,ty,pos,af,g⟩ a) (hd : d < n) (hx : opv e x = some v)
  (hs : P.underlying src = some (.slice el)) (he : P.underlying el = some (.int .u8)) (ht : P.underlying dst = some .string) (hsat : Rep.sat S w l [v] fp)
  (k : ∀ a,Env n a ((d,vS ⟨l⟩) :: e) → wpList P ops Q rest a w) : wpList P ops Q (⟨some d,.convert src dst x,ty,pos,af,g⟩ :: rest) a w:=by
 refine Xw h hw rfl hd (w':=w) ?_ k
 obtain ⟨p,cap,hv,hc,hp⟩:=hsat
 simp only [List.cons.injEq,and_true] at hv
 subst hv
 simp only [execOp,h.ev hx]
 cases p with
 | none =>
  have : l = []:=List.eq_nil_of_length_eq_zero (by have:=hp.1; omega)
  subst this
  simp only [Sem.run_bind,run_convert_bytes_string w src dst el none _ _ hs he ht]
  rfl
 | some q =>
  obtain ⟨h1,ecs,fpe,h2,h3,_⟩:=hp
  obtain ⟨rfl,rfl⟩:=Wc.1 h2
  have KM : ∀ j (hj : j < l.length),w.cell? (q.add j) = some (.int .u8 (l[j].toNat : Int)):=by
   intro j hj
   have hq:=h1 (by omega)
   obtain ⟨q1,q2,q3⟩:=q
   simp only at hq
   subst hq
   rw [Addr.add_lit]
   exact h3 j _ (by rw [A8]; simp [hj])
  simp only [Sem.run_bind,run_convert_bytes_back w src dst el q cap l hs he ht KM]
  rfl
theorem zx (s : Str) : (⟨s.l.toArray⟩ : ByteArray).toList = s.l:=by rw [ByteArray.toList_eq]
theorem yw {op : BinOp} {p q : Str} {y' : TypeId} (h : Env n a e) (hw : Goes ops ⟨some d,.binOp op t x y y',ty,pos,af,g⟩ a) (hd : d < n) (hx : opv e x = some (vS p)) (hy : opv e y = some (vS q)) {r : Value}
  (hr : ∀ w,(Op.stringOp op ⟨p.l.toArray⟩ ⟨q.l.toArray⟩).run P w = .ok r w)
  (k : ∀ a,Env n a ((d,r) :: e) → wpList P ops Q rest a w) : wpList P ops Q (⟨some d,.binOp op t x y y',ty,pos,af,g⟩ :: rest) a w :=
 Xw h hw rfl hd (by
  simp only [execOp,h.ev hx,h.ev hy]
  have hg : (eqGuard op t x y (vS p) (vS q)).run P w = .ok () w:=by cases op <;> simp [eqGuard]
  have hb : (binOp op t (vS p) (vS q)).run P w = .ok r w:=by
   have : binOp op t (vS p) (vS q) = Op.stringOp op ⟨p.l.toArray⟩ ⟨q.l.toArray⟩:=by cases op <;> rfl
   rw [this]; exact hr w
  simp only [Sem.run_bind,hg,hb,Result.andThen_ok]; rfl) k
theorem strEq {p q : Str} : (⟨p.l.toArray⟩ : ByteArray).toList == (⟨q.l.toArray⟩ : ByteArray).toList ↔ p = q:=by
 rw [zx,zx]
 obtain ⟨p⟩:=p; obtain ⟨q⟩:=q
 simp
theorem s_eqS {p q : Str} {y' : TypeId} (h : Env n a e) (hw : Goes ops ⟨some d,.binOp .eql t x y y',ty,pos,af,g⟩ a) (hd : d < n) (hx : opv e x = some (vS p)) (hy : opv e y = some (vS q))
  (k : ∀ a,Env n a ((d,vT (decide (p = q))) :: e) → wpList P ops Q rest a w) : wpList P ops Q (⟨some d,.binOp .eql t x y y',ty,pos,af,g⟩ :: rest) a w :=
 yw h hw hd hx hy (fun w=>by
  simp only [Op.stringOp,Sem.run_pure]
  congr 2
  rw [Bool.eq_iff_iff]; simp only [decide_eq_true_eq]; exact strEq) k
theorem s_neS {p q : Str} {y' : TypeId} (h : Env n a e) (hw : Goes ops ⟨some d,.binOp .neq t x y y',ty,pos,af,g⟩ a) (hd : d < n) (hx : opv e x = some (vS p)) (hy : opv e y = some (vS q))
  (k : ∀ a,Env n a ((d,vT (!decide (p = q))) :: e) → wpList P ops Q rest a w) : wpList P ops Q (⟨some d,.binOp .neq t x y y',ty,pos,af,g⟩ :: rest) a w :=
 yw h hw hd hx hy (fun w=>by
  simp only [Op.stringOp,Sem.run_pure]
  congr 3
  rw [Bool.eq_iff_iff]; simp only [decide_eq_true_eq]; exact strEq) k
def KP (p q : Str) : Option Str:=if p.l.length + q.l.length ≤ 140737488355328 then some ⟨p.l ++ q.l⟩ else none
theorem qA {p q r : Str} (h : KP p q = some r) : p.l.length + q.l.length ≤ 140737488355328 ∧ r = ⟨p.l ++ q.l⟩:=by
 unfold KP at h
 split at h
 ·rename_i h0; simp only [Option.some.injEq] at h; exact ⟨h0,h.symm⟩
 ·cases h
theorem Kk {p q r : Str} {y' : TypeId} (h : Env n a e) (hw : Goes ops ⟨some d,.binOp .add t x y y',ty,pos,af,g⟩ a) (hd : d < n) (hx : opv e x = some (vS p)) (hy : opv e y = some (vS q)) (hr : KP p q = some r)
  (k : ∀ a,Env n a ((d,vS r) :: e) → wpList P ops Q rest a w) : wpList P ops Q (⟨some d,.binOp .add t x y y',ty,pos,af,g⟩ :: rest) a w:=by
 obtain ⟨h1,rfl⟩:=qA hr
 exact yw h hw hd hx hy (fun w=>by
  have:=run_string_add_sum (P:=P) w ⟨p.l.toArray⟩ ⟨q.l.toArray⟩ (by simp [ByteArray.size]; omega)
  rw [this,ByteArray.mk_append_mk]) k
theorem Wi {s : Str} {K : IntKind} {i : Int} {c : UInt8} (h : Env n a e) (hw : Goes ops ⟨some d,.index t x y,ty,pos,af,g⟩ a) (hd : d < n) (hx : opv e x = some (vS s)) (hy : opv e y = some (.int K i)) (ht : P.underlying t = some .string) (hi : idx s.l i = some c)
  (k : ∀ a,Env n a ((d,vB c) :: e) → wpList P ops Q rest a w) : wpList P ops Q (⟨some d,.index t x y,ty,pos,af,g⟩ :: rest) a w:=by
 obtain ⟨⟨h0,h1⟩,h2⟩:=yW hi
 refine Xw h hw rfl hd (w':=w) ?_ k
 have hb : (⟨s.l.toArray⟩ : ByteArray)[i.toNat]? = some c:=by
  have hlt : i.toNat < (⟨s.l.toArray⟩ : ByteArray).size:=by simp [ByteArray.size]; omega
  rw [ByteArray.getElem?_lt' _ _ hlt]
  have hl : i.toNat < s.l.length:=by omega
  rw [List.getElem?_eq_getElem hl] at h2
  rw [← h2]
  show some (s.l.toArray[i.toNat]'(by simpa using hl)) = _
  simp
 simp only [execOp,h.ev hx,h.ev hy]
 simp [Instr.index,asIntOf,run_underlying ht,h0,hb]
def Kb (s : Str) (lo hi : Int) : Option Str:=if 0 ≤ lo ∧ lo ≤ hi ∧ hi ≤ s.l.length then some ⟨(s.l.take hi.toNat).drop lo.toNat⟩ else none
theorem qJ {s r : Str} {lo hi : Int} (h : Kb s lo hi = some r) : (0 ≤ lo ∧ lo ≤ hi ∧ hi ≤ s.l.length) ∧ r = ⟨(s.l.take hi.toNat).drop lo.toNat⟩:=by
 unfold Kb at h
 split at h
 ·rename_i h0; simp only [Option.some.injEq] at h; exact ⟨h0,h.symm⟩
 ·cases h
theorem VO {s r : Str} {lo hi : Option Operand} {vlo vhi : Option Value} {i j : Int}
  (h : Env n a e) (hw : Goes ops ⟨some d,.slice t x lo hi none,ty,pos,af,g⟩ a) (hd : d < n) (hx : opv e x = some (vS s)) (hlo : yC e lo = some vlo) (hhi : yC e hi = some vhi)
  (hi1 : bnd vlo 0 = some i) (hj1 : bnd vhi s.l.length = some j) (ht : P.underlying t = some .string) (hb : Kb s i j = some r)
  (k : ∀ a,Env n a ((d,vS r) :: e) → wpList P ops Q rest a w) : wpList P ops Q (⟨some d,.slice t x lo hi none,ty,pos,af,g⟩ :: rest) a w:=by
 obtain ⟨⟨h0,h1,h2⟩,rfl⟩:=qJ hb
 refine Xw h hw rfl hd (w':=w) ?_ k
 simp only [execOp,h.ev hx,h.evo hlo,h.evo hhi]
 have hsz : (⟨s.l.toArray⟩ : ByteArray).size = s.l.length:=by simp [ByteArray.size]
 have hlow : ∀ m : Nat,i ≤ m → (match vlo with | some v=>Instr.sliceBound v m .sliceB | none=>pure 0 : Sem Nat).run P w = .ok i.toNat w:=by
  intro m hm
  cases vlo with
  | none=>simp only [bnd,Option.some.injEq] at hi1; subst hi1; rfl
  | some u =>
   cases u <;> simp only [bnd] at hi1 <;> first | cases hi1 | skip
   simp [Instr.sliceBound,asIntOf,h0,hm]
 have hhigh : (match vhi with | some v=>Instr.sliceBound v s.l.length .sliceAlen | none=>pure s.l.length : Sem Nat).run P w = .ok j.toNat w:=by
  cases vhi with
  | none=>simp only [bnd,Option.some.injEq] at hj1; subst hj1; simp
  | some u =>
   cases u <;> simp only [bnd] at hj1 <;> first | cases hj1 | skip
   have : (0 ≤ j ∧ j ≤ (s.l.length : Int)):=by omega
   simp [Instr.sliceBound,asIntOf,this]
 have hbounds : (Instr.sliceBounds false s.l.length s.l.length vlo vhi none).run P w = .ok (i.toNat,j.toNat,s.l.length) w:=by
  have hl:=hlow j.toNat (by omega)
  cases vlo <;> cases vhi <;> simp_all [Instr.sliceBounds]
 have hx2 : (⟨s.l.toArray⟩ : ByteArray).extract i.toNat j.toNat = ⟨((s.l.take j.toNat).drop i.toNat).toArray⟩:=by
  rw [ByteArray.extract_mk]
  congr 2
  rw [List.drop_take]
 simp [Instr.sliceAt,run_underlying ht,Instr.slice,hsz,hbounds,hx2]
theorem At.sat {α : Type} [Flat α] {w : World} {b o : Nat} {m : Nat} {l : List α} (h : At w b o (VN l)) (hl : l.length = m) (h0 : 0 < Flat.n α) : Rep.sat (Old w) w l [.slice (some ⟨b,o,none⟩) m m] []:=by
 subst hl
 refine ⟨some ⟨b,o,none⟩,l.length,rfl,Nat.le_refl _,fun _=>rfl,VN l,[],Wc.2 ⟨rfl,rfl⟩,h,.inl ⟨fun hne=>?_,rfl⟩⟩
 by_cases hc : VN l = []
 ·exfalso
  have:=QT l
  rw [hc] at this
  have h1 : 0 < l.length:=by omega
  have h2:=Nat.mul_pos h1 h0
  simp only [List.length_nil] at this
  omega
 ·exact h.lt hc
theorem Env.yieldU (h : Env n a e) {j t : Nat} (hj : (ops[j]?).bind (·.dst) = some t) (ht : e.lookup t = some undef) : yielded ops a.tmps j = none:=by
 unfold yielded
 rw [hj]
 have:=h.get t _ ht
 rw [Array.getD_eq_getD_getElem?] at this
 cases hq : a.tmps[t]? with
 | none=>simp [hq]
 | some v=>rw [hq] at this; simp only [Option.getD_some] at this; subst this; simp [hq,undef]
theorem YR (h : Env n a e) {j t d : Nat} {b' : Bool} {x : Op} {ty : TypeId} {p : String} {af : Array Edge} (hj : (ops[j]?).bind (·.dst) = some t) (ht : e.lookup t = some undef)
  (hd : d < n) (k : ∀ a,Env n a ((d,undef) :: e) → wpList P ops Q rest a w) : wpList P ops Q (⟨some d,x,ty,p,af,some (j,b')⟩ :: rest) a w:=by
 unfold wpList
 rw [if_neg (by simp [Region.wanted,h.yieldU hj ht])]
 exact k _ (h.put hd _)
end
end
section
open Go

theorem At.set {w : World} {b o k : Nat} {row seg : List Value} {c : Array Value} {T : TypeId} {fz : Nat × Nat} (h : At w b o row) (hheap : w.heap[b]? = some (.cells c T fz)) (hk : k + seg.length ≤ row.length) (hrow : o + row.length ≤ c.size) :
  At (w.setCells b (o + k) seg) b o (YH row k seg):=by
 have hfit : o + k + seg.length ≤ c.size:=by omega
 have hh:=WU b T fz seg (o + k) w c hheap hfit
 intro j vv hv
 have hj:=(List.getElem?_eq_some_iff.1 hv).1
 rw [Us hk] at hj
 simp only [World.cell?,hh,Option.isSome_none,Bool.false_eq_true,if_false]
 rw [List.getElem?_toArray]
 have hrw : ∀ j,j < row.length → c.toList[o + j]? = row[j]?:=by
  intro j hj
  have:=h j _ (List.getElem?_eq_getElem hj)
  simp only [World.cell?,hheap,Option.isSome_none,Bool.false_eq_true,if_false] at this
  rw [List.getElem?_eq_getElem hj]
  simpa using this
 have hcl : c.toList.length = c.size:=by simp
 simp only [YH] at hv ⊢
 by_cases hj1 : j < k
 ·rw [List.getElem?_append_left (by simp; omega),List.getElem?_take,if_pos hj1] at hv
  rw [List.getElem?_append_left (by rw [List.length_take]; omega),List.getElem?_take,if_pos (by omega),hrw j hj]
  exact hv
 ·rw [List.getElem?_append_right (by simp; omega)] at hv
  rw [List.getElem?_append_right (by simp; omega)]
  have e1' : (List.take k row).length = k:=by rw [List.length_take]; omega
  have e2' : (List.take (o + k) c.toList).length = o + k:=by rw [List.length_take]; omega
  rw [e1'] at hv
  rw [e2',show o + j - (o + k) = j - k by omega]
  by_cases hj2 : j - k < seg.length
  ·rw [List.getElem?_append_left hj2] at hv ⊢; exact hv
  ·rw [List.getElem?_append_right (by omega),List.getElem?_drop] at hv ⊢
   rw [show o + k + seg.length + (j - k - seg.length) = o + j by omega,hrw j hj]
   rw [show k + seg.length + (j - k - seg.length) = j by omega] at hv
   exact hv
theorem Ae.set {w : World} {b o m b2 o2 : Nat} {seg : List Value} {c : Array Value} {T : TypeId} {fz : Nat × Nat} (h : Ae w b o m) (hheap : w.heap[b]? = some (.cells c T fz)) (h2 : b2 = b) (hfit : o2 + seg.length ≤ c.size) : Ae (w.setCells b2 o2 seg) b o m:=by
 subst h2
 obtain ⟨c',T',fz',h1,h3,h4⟩:=h
 rw [hheap] at h1
 simp only [Option.some.injEq,Obj.cells.injEq] at h1
 obtain ⟨rfl,rfl,rfl⟩:=h1
 refine ⟨_,T,fz,WU b2 T fz seg _ w c hheap hfit,?_,?_⟩
 ·rw [List.size_toArray,Us (by simpa using hfit)]; simpa using h3
 ·intro j hj
  rw [List.size_toArray,Us (by simpa using hfit)] at hj
  exact h4 j (by simpa using hj)

theorem HU {c d e' : List Value} {r s : List (List Value)} {f : List Value} (h : cat (c :: e' :: r) = cat (d :: f :: s)) (hl : c.length = d.length) : c = d ∧ cat (e' :: r) = cat (f :: s):=List.append_inj h hl

def Jk {α : Type} [Rep α] (S : Nat → Prop) (l : List α) (i : Nat) (v : Value) (cs : List Value) : Item:=fun w fp =>
 ∃ b o cap c1 c2 f1 f2,v = .slice (some ⟨b,o,none⟩) l.length cap ∧ l.length ≤ cap ∧ i < l.length ∧ c1.length = i * Rep.n α ∧ cs.length = Rep.n α ∧ Z1 S w (l.take i) c1 f1 ∧ Z1 S w (l.drop (i + 1)) c2 f2 ∧
  At w b o (c1 ++ (cs ++ c2)) ∧ Ae w b o (cap * Rep.n α) ∧ fp = b :: (f1 ++ f2)
section
variable {α : Type} [Rep α] {S St : Nat → Prop} {w w' w0 : World} {l : List α} {v : Value} {i : Nat} {x : α} {cs : List Value} {its : List Item}
theorem je (hS : ∀ b,S b → St b) : Loc St (Jk S l i v cs):=by
 rintro w w' fp ⟨b,o,cap,c1,c2,f1,f2,h1,h2,h3,h4,h5,h6,h7,h8,h9,rfl⟩ hb
 exact ⟨b,o,cap,c1,c2,f1,f2,h1,h2,h3,h4,h5,h6.loc (fun k hk=>hb k (by rcases hk with h | h; exact .inl (by simp [h]); exact .inr (hS k h))),h7.loc (fun k hk=>hb k (by rcases hk with h | h; exact .inl (by simp [h]); exact .inr (hS k h))),
  h8.loc (hb b (by simp)),h9.loc (hb b (by simp)),rfl⟩
theorem M.open1 (hM : M St w0 w (osl S l v :: its)) (hS : ∀ b,S b → St b) (hi : l[i]? = some x) : ∃ cs,M St w0 w (own S x cs :: Jk S l i v cs :: its) ∧ At w (sb v) (so v + i * Rep.n α) cs:=by
 obtain ⟨hk,hs,fp,⟨f,f',rfl,_,⟨p,cap,rfl,hcap,hO⟩,hr⟩,hnd,hlt⟩:=hM
 have hil:=(List.getElem?_eq_some_iff.1 hi).1
 rcases hO with ⟨rfl,_⟩ | ⟨b,o,ecs,fpe,rfl,k1,k2,rfl,k3⟩
 ·omega
 obtain ⟨c1,cc,c2,e1,ee,e2,rfl,rfl,q1,q2,q3,q4⟩:=k1.split hi
 have hcc:=Rep.len q3
 refine ⟨cc,⟨hk,hs,ee ++ ((b :: (e1 ++ e2)) ++ f'),⟨ee,_,rfl,VS hS,q3,b :: (e1 ++ e2),f',rfl,je hS,⟨b,o,cap,c1,c2,e1,e2,rfl,hcap,hil,q1,hcc,q2,q4,k2,k3,rfl⟩,hr⟩,?_,fun k hk=>hlt k (by simp at hk ⊢; grind)⟩,?_⟩
 ·refine (List.Perm.nodup_iff ?_).1 hnd
  have : (b :: (e1 ++ (ee ++ e2))) ++ f' = ((b :: e1) ++ ee) ++ (e2 ++ f'):=by simp
  rw [this]
  have h2 : ee ++ ((b :: (e1 ++ e2)) ++ f') = (ee ++ (b :: e1)) ++ (e2 ++ f'):=by simp
  rw [h2]
  exact List.Perm.append_right _ List.perm_append_comm
 ·have:=(At.append.1 (At.append.1 k2).2).1
  rw [q1] at this
  exact this
theorem M.close1 (hM : M St w0 w (own S x cs :: Jk S l i v cs :: its)) (hS : ∀ b,S b → St b) : M St w0 w (osl S (l.set i x) v :: its):=by
 obtain ⟨hk,hs,fp,⟨f,f',rfl,_,h1,g,g',rfl,_,⟨b,o,cap,c1,c2,f1,f2,rfl,h3,h4,h5,h6,h7,h8,h9,h10,rfl⟩,hr⟩,hnd,hlt⟩:=hM
 have h1 : Rep.sat S w x cs f:=h1
 refine ⟨hk,hs,(b :: (f1 ++ (f ++ f2))) ++ g',⟨b :: (f1 ++ (f ++ f2)),g',rfl,VK hS,⟨some ⟨b,o,Option.none⟩,cap,by simp,by simpa using h3,.inr ⟨b,o,_,_,rfl,Z1.join h4 h7 h1 h8,h9,rfl,h10⟩⟩,hr⟩,?_,fun k hk=>hlt k (by simp at hk ⊢; grind)⟩
 refine (List.Perm.nodup_iff ?_).1 hnd
 have : (b :: (f1 ++ (f ++ f2))) ++ g' = ((b :: f1) ++ f) ++ (f2 ++ g'):=by simp
 rw [this]
 have h2 : f ++ ((b :: (f1 ++ f2)) ++ g') = (f ++ (b :: f1)) ++ (f2 ++ g'):=by simp
 rw [h2]
 exact List.Perm.append_right _ List.perm_append_comm
theorem M.packL {m : List Item} {it : Item} (h : M St w0 w (m ++ its)) (hl : Loc St it) (hp : ∀ fp,WD St w m fp → it w fp) : M St w0 w (it :: its):=by
 obtain ⟨h1,h2,fp,h3,h4,h5⟩:=h
 obtain ⟨f,g,rfl,k1,k2⟩:=WD.split h3
 exact ⟨h1,h2,_,⟨f,g,rfl,hl,hp f k1,k2⟩,h4,h5⟩
theorem M.unpackL {m : List Item} {it : Item} (h : M St w0 w (it :: its)) (hp : ∀ fp,it w fp → WD St w m fp) : M St w0 w (m ++ its):=by
 obtain ⟨h1,h2,fp,⟨f,g,rfl,_,k1,k2⟩,h4,h5⟩:=h
 exact ⟨h1,h2,_,WD.append (hp f k1) k2,h4,h5⟩
theorem WD.one {it : Item} {fp : List Nat} (hl : Loc St it) (h : it w fp) : WD St w [it] fp:=⟨fp,[],by simp,hl,h,rfl⟩
theorem Zaa {fp : List Nat} (hs : Rep.sat NoB w l [v] fp) : X5 NoB w l v fp:=by
 obtain ⟨p,cap,hv,hc,hp⟩:=hs
 simp only [List.cons.injEq,and_true] at hv
 refine ⟨p,cap,hv,hc,?_⟩
 cases p with
 | none=>exact .inl ⟨hp.1,hp.2,trivial⟩
 | some q =>
  obtain ⟨q1,q2,q3⟩:=q
  obtain ⟨h1,ecs,fpe,h2,h3,h4⟩:=hp
  rcases h4 with ⟨h4,rfl⟩ | ⟨rfl,h4,h5⟩
  ·have hcap : cap = 0:=Classical.byContradiction fun hcap=>h4 hcap
   subst hcap
   have hl : l = []:=List.eq_nil_of_length_eq_zero (by omega)
   subst hl
   exact .inl ⟨rfl,h2.2,trivial⟩
  ·simp only at h5
   subst h5
   exact .inr ⟨q1,q2,ecs,fpe,rfl,h2,h3,rfl,h4⟩
theorem M.toOsl0 (h : M St w0 w (own NoB l [v] :: its)) : M St w0 w (osl NoB l v :: its):=h.pack1 (VK noB) fun _ k=>Zaa k
theorem M.toOsl (h : M St w0 w (own NoB l [v] :: its)) (hi : i < l.length) : M St w0 w (osl NoB l v :: its):=h.toOsl0
theorem M.toOwn (h : M St w0 w (osl S l v :: its)) (hS : ∀ b,S b → St b) : M St w0 w (own S l [v] :: its):=h.pack1 (VS hS) fun _ k=>X5.sat k
end
section
variable {n : Nat} {a : Act} {e : List (Nat × Value)} {w w' : World} {P : Program} {ops : Array Oper} {rest : List Oper} {Q : Exit → Act → World → Prop}
variable {d : Nat} {ty t : TypeId} {pos : String} {af : Array Edge} {g : Option (Nat × Bool)} {x y : Operand} {v u : Value}
variable {St : Nat → Prop} {w0 : World} {its : List Item}
theorem Zbw {α : Type} [Rep α] {S : Nat → Prop} {l : List α} {fp : List Nat} {el y' : TypeId} (h : Env n a e) (hw : Goes ops ⟨some d,.binOp .eql t x y y',ty,pos,af,g⟩ a) (hd : d < n) (hx : opv e x = some v) (hy : opv e y = some (.slice none 0 0)) (ht : P.underlying t = some (.slice el)) (hs : Rep.sat S w l [v] fp)
  (k : ∀ b a,(b = true → l = []) → Env n a ((d,vT b) :: e) → wpList P ops Q rest a w) : wpList P ops Q (⟨some d,.binOp .eql t x y y',ty,pos,af,g⟩ :: rest) a w:=by
 obtain ⟨p,cap,hv,hc,hp⟩:=hs
 simp only [List.cons.injEq,and_true] at hv
 subst hv
 have hr:=run_equal_slice_nil (P:=P) w t el p l.length cap ht
 have hgd : (eqGuard .eql t x y (.slice p l.length cap) (.slice none 0 0)).run P w = .ok () w:=by simp [eqGuard]
 have hb : (binOp .eql t (.slice p l.length cap) (.slice none 0 0)).run P w = .ok (vT p.isNone) w:=by
  simp only [binOp,Sem.run_bind,hr,Result.andThen_ok,Sem.run_pure]
 refine Xw h hw rfl hd (by simp only [execOp,h.ev hx,h.ev hy,Sem.run_bind,hgd,hb,Result.andThen_ok]; rfl) fun a ha=>k p.isNone a ?_ ha
 intro hn
 cases p with
 | none=>exact List.eq_nil_of_length_eq_zero (by have:=hp.1; omega)
 | some q=>simp at hn
end
end
section
open Go

theorem VQ {σ ρ τ : Type} {s : σ} {f : σ → Option τ} {g : ρ → Option τ} {r : τ} (h : (Fl.nx s : Fl σ ρ).el f g = some r) : f s = some r:=h
def tupGet (v : Value) (i : Nat) : Value:=match v with
 | .tuple vs=>vs.toList.getD i undef
 | _=>undef
def rawP (v : Value) (cs : List Value) : Item:=fun w fp=>∃ b,v = ptr b 0 ∧ raw b cs w fp
def cellI (there stored : Bool) (v : Value) (z c : List Value) : Item:=if there = true then (if stored = true then rawP v c else rawP v z) else Go.Proofs.YtfhhlkkhcoaapaaGreatDoor.emp
abbrev Gs:=List (List Nat × (List Value → Value → Prop))
abbrev Mk:=List (List Nat × (List Bool → List Value → Item))
def qL (mk : Mk) (D : Nat → Bool) (u : Nat → Value) : List Item:=mk.map fun p=>p.2 (p.1.map D) (p.1.map u)
def mkO (j : Nat) (f : Value → Item) : List Nat × (List Bool → List Value → Item):=([j],fun bs us=>opt (bs.headD false) (f (us.headD undef)))
def mkC (j s : Nat) (z c : List Value) : List Nat × (List Bool → List Value → Item):=([j,s],fun bs us=>cellI (bs.headD false) (bs.getD 1 false) (us.headD undef) z c)
def GOk (gs : Gs) (D : Nat → Bool) (u : Nat → Value) : Prop:=∀ j,D j = true → ∀ g,gs[j]? = some g → (∀ k ∈ g.1,D k = true) ∧ g.2 (g.1.map u) (u j)
theorem yP {D : Nat → Bool} {u : Nat → Value} {i : Nat} {v : Value} {l : List Nat} (h : i ∉ l) : l.map (US D i) = l.map D ∧ l.map (QO u i v) = l.map u:=by
 constructor <;> apply List.map_congr_left <;> intro k hk <;> have : k ≠ i:=(fun e=>h (e ▸ hk))
 ·simp [US,this]
 ·simp [QO,this]
theorem Az {mk : Mk} {D : Nat → Bool} {u : Nat → Value} {i : Nat} {v : Value} (hi : ∀ p ∈ mk,i ∉ p.1) : qL mk (US D i) (QO u i v) = qL mk D u:=by
 unfold qL
 apply List.map_congr_left
 intro p hp
 obtain ⟨h1,h2⟩:=yP (D:=D) (u:=u) (v:=v) (hi p hp)
 rw [h1,h2]
theorem GOk.upd {gs : Gs} {D : Nat → Bool} {u : Nat → Value} {i : Nat} {v : Value} (h : GOk gs D u) (hD : D i = false) (hi : ∀ g,gs[i]? = some g → (∀ k ∈ g.1,D k = true) ∧ g.2 (g.1.map u) v) : GOk gs (US D i) (QO u i v):=by
 have tr : ∀ k,D k = true → US D i k = true:=fun k hk=>by
  unfold US
  split
  ·rfl
  ·exact hk
 have nm : ∀ l : List Nat,(∀ k ∈ l,D k = true) → i ∉ l:=fun l hl hm=>by have:=hl i hm; rw [hD] at this; cases this
 intro j hj g hg
 by_cases hji : j = i
 ·subst hji
  obtain ⟨h1,h2⟩:=hi g hg
  refine ⟨fun k hk=>tr k (h1 k hk),?_⟩
  rw [(yP (D:=D) (u:=u) (v:=v) (nm _ h1)).2]
  simpa [QO] using h2
 ·have hj' : D j = true:=by unfold US at hj; rwa [if_neg hji] at hj
  obtain ⟨h1,h2⟩:=h j hj' g hg
  refine ⟨fun k hk=>tr k (h1 k hk),?_⟩
  rw [(yP (D:=D) (u:=u) (v:=v) (nm _ h1)).2]
  simpa [QO,hji] using h2
theorem allN {D : Nat → Bool} : ∀ k ∈ ([] : List Nat),D k = true:=fun _ h=>by cases h
theorem allC {D : Nat → Bool} {k : Nat} {ks : List Nat} (h : D k = true) (hs : ∀ k ∈ ks,D k = true) : ∀ j ∈ k :: ks,D j = true:=fun j hj=>by
 rcases List.mem_cons.1 hj with rfl | hj
 ·exact h
 ·exact hs j hj
theorem gok0 {gs : Gs} {u : Nat → Value} : GOk gs (fun _=>false) u:=fun _ h=>by cases h
def allI (St : Nat → Prop) (l : List Item) : Item:=fun w fp=>WD St w l fp
theorem Za9 {St : Nat → Prop} {l : List Item} : Loc St (allI St l):=fun _ _ _ h hb=>WD.loc h hb
section
variable {St : Nat → Prop} {w0 w : World} {its pre post : List Item} {mk mk1 mk2 : Mk} {D : Nat → Bool} {u : Nat → Value} {i s b : Nat} {v : Value} {z c : List Value}
theorem noti (h : (mk.all fun p=>p.1.all fun k=>k != i) = true) : ∀ p ∈ mk,i ∉ p.1:=by
 intro p hp hm
 have:=List.all_eq_true.1 (List.all_eq_true.1 h p hp) i hm
 simp at this
theorem M.qKeep (h : M St w0 w (its ++ qL mk D u)) (hi : (mk.all fun p=>p.1.all fun k=>k != i) = true) : M St w0 w (its ++ qL mk (US D i) (QO u i v)):=by
 rw [Az (noti hi)]; exact h
theorem yH {mk1 mk2 : Mk} {p : List Nat × (List Bool → List Value → Item)} : qL (mk1 ++ p :: mk2) D u = qL mk1 D u ++ (p.2 (p.1.map D) (p.1.map u) :: qL mk2 D u):=by simp [qL]
theorem M.qPut {p : List Nat × (List Bool → List Value → Item)} {it : Item} (h : M St w0 w (it :: (its ++ qL (mk1 ++ p :: mk2) D u))) (hi : ((mk1 ++ mk2).all fun p=>p.1.all fun k=>k != i) = true)
  (h1 : p.2 (p.1.map D) (p.1.map u) = Go.Proofs.YtfhhlkkhcoaapaaGreatDoor.emp) (h2 : p.2 (p.1.map (US D i)) (p.1.map (QO u i v)) = it) : M St w0 w (its ++ qL (mk1 ++ p :: mk2) (US D i) (QO u i v)):=by
 have hne:=noti hi
 rw [yH] at h ⊢
 rw [Az (fun p hp=>hne p (List.mem_append_left _ hp)),Az (fun p hp=>hne p (List.mem_append_right _ hp)),h2]
 rw [h1] at h
 have h3 : M St w0 w ((it :: (its ++ qL mk1 D u)) ++ Go.Proofs.YtfhhlkkhcoaapaaGreatDoor.emp :: qL mk2 D u):=by simpa using h
 have h4:=h3.pull.drop
 have h5 : M St w0 w (it :: ((its ++ qL mk1 D u) ++ qL mk2 D u)):=by simpa using h4
 simpa using M.push h5
theorem M.qFill {f : Value → Item} (h : M St w0 w (f v :: (its ++ qL (mk1 ++ mkO i f :: mk2) D u))) (hi : ((mk1 ++ mk2).all fun p=>p.1.all fun k=>k != i) = true) (hD : D i = false) :
  M St w0 w (its ++ qL (mk1 ++ mkO i f :: mk2) (US D i) (QO u i v)) :=
 M.qPut h hi (by simp [mkO,hD,yk]) (by simp [mkO,US,QO,yY])
end

def tog (b : Bool) (A B : Item) : Item:=if b = true then B else A
def mkT (s : Nat) (A B : Item) : List Nat × (List Bool → List Value → Item):=([s],fun bs _=>tog (bs.headD false) A B)
section
variable {St : Nat → Prop} {w0 w : World} {its pre post : List Item} {mk mk1 mk2 : Mk} {D : Nat → Bool} {u : Nat → Value} {s : Nat} {v : Value} {A B : Item}
theorem M.q0 (h : M St w0 w its) (u : Nat → Value) : M St w0 w (its ++ qL [] (fun _=>false) u):=by simpa [qL] using h
theorem M.qE {p : List Nat × (List Bool → List Value → Item)} (h : M St w0 w (its ++ qL mk (fun _=>false) u)) (he : ∀ us,p.2 (p.1.map fun _=>false) us = Go.Proofs.YtfhhlkkhcoaapaaGreatDoor.emp) : M St w0 w (its ++ qL (p :: mk) (fun _=>false) u):=by
 have : M St w0 w (Go.Proofs.YtfhhlkkhcoaapaaGreatDoor.emp :: (its ++ qL mk (fun _=>false) u)):=h.emp
 rw [← he (p.1.map u)] at this
 exact M.push this
theorem emO {j : Nat} {f : Value → Item} : ∀ us,(mkO j f).2 ((mkO j f).1.map fun _=>false) us = Go.Proofs.YtfhhlkkhcoaapaaGreatDoor.emp:=fun _=>by simp [mkO,yk]
theorem M.togA {b : Bool} (h : M St w0 w (pre ++ tog b A B :: post)) (hb : b = false) : M St w0 w (pre ++ A :: post):=by subst hb; exact h
theorem M.togB {b : Bool} (h : M St w0 w (pre ++ tog b A B :: post)) (hb : b = true) : M St w0 w (pre ++ B :: post):=by subst hb; exact h
end

def DrawI3 (P : Program) (l hd tl : List Oper) (Q : Exit → Act → World → Prop) (n : Nat) (ts : List Nat) (e0 : List (Nat × Value)) (I : (Nat → Bool) → (Nat → Value) → World → Prop) (listed : Array Bool) (a : Act) (w : World) : Prop :=
 ((∀ i,i < hd.length → dn listed i) ∧ ∃ k,k ≤ tl.length ∧ (∀ j,j < k → dn listed (hd.length + j)) ∧ (∀ j,k ≤ j → j < tl.length → ¬ dn listed (hd.length + j)) ∧ wpList P l.toArray Q (tl.drop k) a w) ∨
 ((¬ ∀ i,i < hd.length → dn listed i) ∧ (∀ j,hd.length ≤ j → ¬ dn listed j) ∧ ∃ u,Env n a (Qs ts 0 u e0) ∧ I (fun j=>listed.getD j false) u w)

theorem Zca {P : Program} {id : Nat} {hd tl : List Oper} {Q : Exit → Act → World → Prop} {a : Act} {w : World} {n : Nat} {e0 : List (Nat × Value)}
  (hm : P.follows .mixedOrders = true) (hE : Jb (hd ++ tl) 0 = true) (hT : k7 (hd ++ tl) hd.length = true)
  (ts : List Nat) (hn : ts.Nodup) (I : (Nat → Bool) → (Nat → Value) → World → Prop)
  (h0 : Env n a e0) (hM0 : ∀ u,I (fun _=>false) u w.drew)
  (hstep : ∀ (i : Nat) (o : Oper),hd[i]? = some o → ∀ a w (u : Nat → Value) (D : Nat → Bool),Env n a (Qs ts 0 u e0) → I D u w → D i = false → (∀ (j : Nat) (p : Oper) (e : Edge),hd[j]? = some p → e ∈ p.after.toList → Region.binds .any e = true → D j = true → D e.on = true) →
   (∀ (k : Nat) (e : Edge),o.after.toList[k]? = some e → Region.binds .any e = true → D e.on = true) →
   wpList P (hd ++ tl).toArray (nrm fun a' w'=>∃ v t,ts[i]? = some t ∧ Env n a' ((t,v) :: Qs ts 0 u e0) ∧ I (US D i) (QO u i v) w') [o] a w)
  (htail : ∀ a w u D,Env n a (Qs ts 0 u e0) → I D u w → (∀ j,j < hd.length → D j = true) → wpList P (hd ++ tl).toArray Q tl a w) :
  (Code.region id (hd ++ tl).toArray true).wp P Q a w:=by
 refine wp_region_any hm ?_
 generalize hl : hd ++ tl = l at *
 have hln : l.length = hd.length + tl.length:=by rw [← hl]; simp
 have hbl : (bef l []).length = l.length:=by
  have : ∀ (r : List Oper) (acc : List Nat),(bef r acc).length = acc.length + r.length:=by
   intro r; induction r with
   | nil=>intro acc; simp [bef]
   | cons o r ih=>intro acc; rw [bef,ih]; simp; omega
  rw [this]; simp
 have tailDone : ∀ listed i o,l[i]? = some o → hd.length ≤ i → jg l (dn listed) → (∀ e ∈ o.after.toList,Region.binds .any e = true → dn listed e.on) → ∀ j,j < i → dn listed j:=by
  intro listed i o hi hle hdc hp j hj
  have hil:=(List.getElem?_eq_some_iff.1 hi).1
  have hbit : ((bef l []).getD i 0).testBit j = true:=by
   unfold k7 at hT
   simp only [List.all_eq_true] at hT
   have:=hT i (by simpa using hil)
   simp only [Bool.or_eq_true,decide_eq_true_eq,List.all_eq_true] at this
   rcases this with h | h
   ·omega
   ·exact h j (by simpa using hj)
  exact y5 l l [] 0 rfl (by simp) (fun i hi=>absurd hi (Nat.not_lt_zero i)) i (by rw [hbl]; exact hil) (dn listed) hdc (fun o' e ho' he hb=>by rw [hi] at ho'; cases ho'; exact hp e he hb) j hbit
 have hfuel : ((List.range l.length).filter fun i=>!(Array.replicate l.toArray.size false).getD i false).length ≤ l.toArray.size:=by
  refine Nat.le_trans (List.length_filter_le _ _) ?_; simp
 have hnot0 : ∀ i,¬ dn (Array.replicate l.toArray.size false) i:=by
  intro i; unfold dn; rw [Array.getD_eq_getD_getElem?,Array.getElem?_replicate]; split <;> simp
 refine yO hE (DrawI3 P l hd tl Q n ts e0 I) ?_ ?_ _ _ _ _ (by simp) hfuel (fun i o e _ _ _ h=>absurd h (hnot0 i)) ?_
 ·intro listed i o a w hsz hi hnd hdc hp hI
  have hil:=(List.getElem?_eq_some_iff.1 hi).1
  by_cases hh : i < hd.length
  ·-- a head operation
   have hnall : ¬ ∀ i,i < hd.length → dn listed i:=fun h=>hnd (h i hh)
   obtain ⟨h,_⟩ | ⟨_,ht0,u,k1,k2⟩:=hI
   ·exact absurd h hnall
   have hio : hd[i]? = some o:=by rw [← hl] at hi; rwa [List.getElem?_append_left hh] at hi
   refine Zbp (by simpa using hi) ?_
   have hs:=hstep i o hio a w u (fun j=>listed.getD j false) k1 k2 (by simpa [dn] using hnd) (fun j p e hj he hb hdj=>hdc j p e (by rw [← hl,List.getElem?_append_left (List.getElem?_eq_some_iff.1 hj).1]; exact hj) he hb hdj) (fun k e hk hb=>hp e (List.mem_of_getElem? hk) hb)
   have hmono : ∀ (X Y : Act → World → Prop),(∀ a w,X a w → Y a w) → ∀ a w,wpList P l.toArray (nrm X) [o] a w → wpList P l.toArray (nrm Y) [o] a w:=by
    intro X Y hXY a w h
    unfold wpList at h ⊢
    split
    ·rename_i hw
     rw [if_pos hw] at h
     rcases h with h | ⟨_,a',w',h⟩
     ·exact .inl (Oper.wp_mono2 (fun _ _ h=>hXY _ _ h) (fun _ _ _ h=>h.elim) (fun ⟨_,_,h⟩=>h.elim) h)
     ·exact h.elim
    ·rename_i hw
     rw [if_neg hw] at h
     exact hXY _ _ h
   refine hmono _ _ ?_ a w hs
   rintro a' w' ⟨v,t,hti,hEnv,hM'⟩
   have hEnv':=hEnv.upd hn hti
   have hset : ∀ j,dn (listed.setIfInBounds i true) j ↔ (j = i ∨ dn listed j):=fun j=>zk (by omega)
   have hD : (fun j=>(listed.setIfInBounds i true).getD j false) = US (fun j=>listed.getD j false) i:=by
    funext j
    unfold US
    by_cases hj : j = i
    ·rw [if_pos hj]; exact (hset j).2 (.inl hj)
    ·rw [if_neg hj]
     rw [Bool.eq_iff_iff]
     exact (hset j).trans ⟨fun h=>h.resolve_left hj,.inr⟩
   have htn : ∀ j,hd.length ≤ j → ¬ dn (listed.setIfInBounds i true) j:=by
    intro j hj hd'
    rcases (hset j).1 hd' with rfl | hj'
    ·omega
    ·exact ht0 j hj hj'
   rw [← hD] at hM'
   by_cases hall : ∀ j,j < hd.length → dn (listed.setIfInBounds i true) j
   ·exact .inl ⟨hall,0,Nat.zero_le _,fun j hj=>by omega,fun j _ _=>htn _ (by omega),htail a' w' _ _ hEnv' hM' (fun j hj=>hall j hj)⟩
   ·exact .inr ⟨hall,htn,_,hEnv',hM'⟩
  ·have hdone:=tailDone listed i o hi (by omega) hdc hp
   have hall : ∀ j,j < hd.length → dn listed j:=fun j hj=>hdone j (by omega)
   obtain ⟨_,k,hk,k1,k2,k3⟩ | ⟨h,_⟩:=hI
   case inr=>exact absurd hall h
   have hki : hd.length + k = i:=by
    rcases Nat.lt_trichotomy (hd.length + k) i with h | h | h
    ·exact absurd (hdone _ h) (k2 k (Nat.le_refl _) (by omega))
    ·exact h
    ·exact absurd (by have:=k1 (i - hd.length) (by omega); rwa [show hd.length + (i - hd.length) = i by omega] at this) hnd
   have hto : tl[k]? = some o:=by
    rw [← hl] at hi
    rw [List.getElem?_append_right (by omega)] at hi
    rwa [show i - hd.length = k by omega] at hi
   have hdr : tl.drop k = o :: tl.drop (k + 1):=by
    rw [List.drop_eq_getElem_cons (List.getElem?_eq_some_iff.1 hto).1]
    congr 1
    exact (List.getElem?_eq_some_iff.1 hto).2
   rw [hdr] at k3
   refine wpOp_mono (fun a' w' hl=>?_) (qG (by simpa using hi) k3)
   have hset : ∀ j,dn (listed.setIfInBounds i true) j ↔ (j = i ∨ dn listed j):=fun j=>zk (by omega)
   have hall' : ∀ j,j < hd.length → dn (listed.setIfInBounds i true) j:=fun j hj=>(hset j).2 (.inr (hall j hj))
   refine .inl ⟨hall',k + 1,(List.getElem?_eq_some_iff.1 hto).1,fun j hj=>(hset _).2 ?_,fun j hj1 hj2 hd'=>?_,hl⟩
   ·rcases Nat.lt_or_ge j k with h | h
    ·exact .inr (k1 j h)
    ·exact .inl (by omega)
   ·rcases (hset _).1 hd' with h | h
    ·omega
    ·exact k2 j (by omega) hj2 h
 ·intro listed a w hsz hall hI
  have hall' : ∀ i,i < hd.length → dn listed i:=fun i hi=>hall i (by omega)
  obtain ⟨_,k,hk,k1,k2,k3⟩ | ⟨h,_⟩:=hI
  case inr=>exact absurd hall' h
  have : k = tl.length:=by
   rcases Nat.lt_or_ge k tl.length with h | h
   ·exact absurd (hall (hd.length + k) (by omega)) (k2 k (Nat.le_refl _) h)
   ·omega
  subst this
  rw [List.drop_length] at k3
  exact k3
 ·have hu : ∀ (r : List Nat) (j : Nat) (u : Nat → Value),(∀ k t,r[k]? = some t → u (j + k) = a.tmps.getD t undef) → Env n a (Qs r j u e0):=by
   intro r
   induction r with
   | nil=>intro j u _; exact h0
   | cons t r ih =>
    intro j u hu
    have h1:=ih (j + 1) u (fun k s hk=>by have:=hu (k + 1) s (by simpa using hk); rwa [show j + (k + 1) = j + 1 + k by omega] at this)
    refine ⟨h1.sz,h1.df,fun s x hs=>?_⟩
    simp only [Qs,List.lookup_cons] at hs
    by_cases hst : s = t
    ·subst hst
     simp at hs
     rw [← hs]
     exact (hu 0 s rfl).symm
    ·rw [show (s == t) = false by simpa using hst] at hs
     exact h1.get s x hs
  have hEnv : Env n a (Qs ts 0 (fun j=>a.tmps.getD (ts.getD j 0) undef) e0):=hu ts 0 _ (fun k t hk=>by simp [List.getD_eq_getElem?_getD,hk])
  have hDf : (fun j=>(Array.replicate l.toArray.size false).getD j false) = fun _=>false:=by
   funext j
   have:=hnot0 j
   unfold dn at this
   simpa using this
  by_cases hall : ∀ i,i < hd.length → dn (Array.replicate l.toArray.size false) i
  ·have hnil : hd.length = 0:=by
    rcases Nat.eq_zero_or_pos hd.length with h | h
    ·exact h
    ·exact absurd (hall 0 h) (hnot0 0)
   exact .inl ⟨hall,0,Nat.zero_le _,fun j hj=>by omega,fun j _ _=>hnot0 _,htail a _ _ _ hEnv (hM0 _) (fun j hj=>by omega)⟩
  ·refine .inr ⟨hall,fun j _=>hnot0 j,_,hEnv,?_⟩
   rw [hDf]
   exact hM0 _
end
section
open Go

abbrev FillA (sz : Nat) (z : List Value) (parts : List (Nat × Value)) (cs : List Value) : Prop:=Instr.fill (fun i=>some (i * sz,sz)) z.toArray parts = some cs.toArray
section
variable {n : Nat} {a : Act} {e : List (Nat × Value)} {w w' : World} {P : Program} {ops : Array Oper} {rest : List Oper} {Q : Exit → Act → World → Prop}
variable {d : Nat} {ty t : TypeId} {pos : String} {af : Array Edge} {g : Option (Nat × Bool)} {x y : Operand} {v u : Value}
theorem ki {parts : List (Nat × Operand)} {vs : List (Nat × Value)} (h : Env n a e) (hxs : Ku e (parts.map (·.2)) = some (vs.map (·.2))) (hix : parts.map (·.1) = vs.map (·.1)) :
  (parts.map fun (p : Nat × Operand)=>(p.1,a.eval p.2)) = vs:=by
 have h1:=h.evs hxs
 rw [List.map_map] at h1
 apply List.ext_getElem?
 intro i
 have e1 : (parts.map (·.1))[i]? = (vs.map (·.1))[i]?:=by rw [hix]
 have e2 : (parts.map (a.eval ∘ fun (p : Nat × Operand)=>p.2))[i]? = (vs.map (·.2))[i]?:=by rw [h1]
 simp only [List.getElem?_map] at e1 e2 ⊢
 cases hp : parts[i]? with
 | none =>
  rw [hp] at e1
  cases hq : vs[i]? with
  | none=>rfl
  | some q=>rw [hq] at e1; simp at e1
 | some p =>
  rw [hp] at e1 e2
  cases hq : vs[i]? with
  | none=>rw [hq] at e1; simp at e1
  | some q =>
   rw [hq] at e1 e2
   simp only [Option.map_some,Option.some.injEq] at e1 e2 ⊢
   exact Prod.ext e1 e2
theorem Zaq {el N : Nat} {parts : List (Nat × Operand)} {vs : List (Nat × Value)} {z cs ze : List Value} {sz by_ esz eby : Nat} {D De : TypeDesc} (h : Env n a e) (hw : Goes ops ⟨some d,.build t parts.toArray,ty,pos,af,g⟩ a) (hd : d < n)
  (hxs : Ku e (parts.map (·.2)) = some (vs.map (·.2))) (hix : parts.map (·.1) = vs.map (·.1)) (ht : Ty P t D sz by_ z) (hD : D = .array N el) (he : Ty P el De esz eby ze) (hf : FillA esz z vs cs)
  (k : ∀ a,Env n a ((d,.agg cs.toArray) :: e) → wpList P ops Q rest a w) : wpList P ops Q (⟨some d,.build t parts.toArray,ty,pos,af,g⟩ :: rest) a w:=by
 refine Xw h hw rfl hd (w':=w) ?_ k
 have hvals:=ki h hxs hix
 have hb : P.built t vs = some cs.toArray:=by
  obtain ⟨i,zv,h1,h2,_,h3,h4⟩:=ht.get
  obtain ⟨ie,_,k1,k2,_,_,_⟩:=he.get
  have hu:=ht.und
  rw [hD] at hu
  unfold Program.built
  rw [h1,hu]
  simp only [h3,k1,k2]
  have h5 : zv.cells = z.toArray:=by rw [← h4]
  simp only [h5]
  exact hf
 simp only [execOp]
 have : (parts.toArray.map fun (p : Nat × Operand)=>(p.1,a.eval p.2)) = vs.toArray:=by rw [List.map_toArray,hvals]
 simp only [Sem.run_bind]
 rw [show (Instr.build t (parts.toArray.map fun (i,x)=>(i,a.eval x))).run P w = .ok (.agg cs.toArray) w from by
  have h2:=run_build (P:=P) w t (parts.toArray.map fun (i,x)=>(i,a.eval x)) cs.toArray (by
   have : (parts.toArray.map fun (i,x)=>(i,a.eval x)).toList = vs:=by simpa using hvals
   rw [this]; exact hb)
  exact h2]
 rfl

theorem Yw {b o : Nat} (h : Env n a e) (hw : Goes ops ⟨some d,.nilCheck x,ty,pos,af,g⟩ a) (hd : d < n) (hx : opv e x = some (ptr b o))
  (k : ∀ a,Env n a ((d,ptr b o) :: e) → wpList P ops Q rest a w) : wpList P ops Q (⟨some d,.nilCheck x,ty,pos,af,g⟩ :: rest) a w :=
 Xw h hw rfl hd (by simp only [execOp,h.ev hx]; rfl) k
end
section
variable {n : Nat} {a : Act} {e : List (Nat × Value)} {w w' : World} {P : Program} {ops : Array Oper} {rest : List Oper} {Q : Exit → Act → World → Prop}
variable {d : Nat} {ty t : TypeId} {pos : String} {af : Array Edge} {g : Option (Nat × Bool)} {x y : Operand} {v u : Value}
end
structure Ref (α : Type) where
 v : α
 deriving DecidableEq,Inhabited
instance {α : Type} [Dat α] : Dat (Ref α):=⟨fun x=>Dat.bd x.v,fun x=>Dat.sz x.v + 1⟩
def RefSat {α : Type} [Rep α] (S : Nat → Prop) (w : World) (x : Ref α) (cs : List Value) (fp : List Nat) : Prop :=
 ∃ b ds fpe,cs = [ptr b 0] ∧ Rep.sat S w x.v ds fpe ∧ At w b 0 ds ∧ ((S b ∧ fp = fpe) ∨ (fp = b :: fpe ∧ ∃ T,w.heap[b]? = some (.cells ds.toArray T (0,0))))
instance {α : Type} [Rep α] : Rep (Ref α) where
 n:=1
 sat:=RefSat
 len:=by rintro S w x cs fp ⟨b,ds,fpe,rfl,_⟩; rfl
 loc:=by
  rintro S w w' x cs fp ⟨b,ds,fpe,rfl,h1,h2,h3⟩ hb
  rcases h3 with ⟨h3,rfl⟩ | ⟨rfl,T,h3⟩
  ·exact ⟨b,ds,fp,rfl,Rep.loc h1 hb,h2.loc (hb _ (.inr h3)),.inl ⟨h3,rfl⟩⟩
  ·exact ⟨b,ds,fpe,rfl,Rep.loc h1 (fun b h=>hb b (by simp; grind)),h2.loc (hb _ (by simp)),.inr ⟨rfl,T,by rw [hb _ (by simp)]; exact h3⟩⟩
 ro:=by
  rintro S S' w x cs fp ⟨b,ds,fpe,rfl,h1,h2,h3⟩ hb
  rcases h3 with ⟨h3,rfl⟩ | ⟨rfl,T,h3⟩
  ·exact ⟨b,ds,[],rfl,Rep.ro h1 hb,h2,.inl ⟨hb _ (.inr h3),rfl⟩⟩
  ·exact ⟨b,ds,[],rfl,Rep.ro h1 (fun b h=>hb b (by simp; grind)),h2,.inl ⟨hb _ (by simp),rfl⟩⟩
 wk:=by
  rintro S S' w x cs fp ⟨b,ds,fpe,rfl,h1,h2,h3⟩ hb
  rcases h3 with ⟨h3,rfl⟩ | ⟨rfl,T,h3⟩
  ·exact ⟨b,ds,fp,rfl,Rep.wk h1 hb,h2,.inl ⟨hb _ h3,rfl⟩⟩
  ·exact ⟨b,ds,fpe,rfl,Rep.wk h1 hb,h2,.inr ⟨rfl,T,h3⟩⟩
 lt:=by
  rintro S w x cs fp ⟨b,ds,fpe,rfl,h1,h2,h3⟩ c hc
  rcases h3 with ⟨h3,rfl⟩ | ⟨rfl,T,h3⟩
  ·exact Rep.lt h1 c hc
  ·rcases List.mem_cons.1 hc with rfl | hc
   ·rcases Nat.lt_or_ge c w.heap.size with h | h
    ·exact h
    ·rw [Array.getElem?_eq_none h] at h3; cases h3
   ·exact Rep.lt h1 c hc
 cell:=by
  rintro S w x cs fp ⟨b,ds,fpe,rfl,_⟩ v hv
  simp at hv; subst hv; rfl
section
variable {α : Type} [Rep α] {S : Nat → Prop} {w w0 : World} {x : Ref α} {fp : List Nat} {u : Value} {St : Nat → Prop} {its : List Item} {b : Nat} {ds : List Value}
end
end
end Go.Proofs.YtfhhlkkhcoaapaaGreatDoor
