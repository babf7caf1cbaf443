/- The walk library: what this claim needs of it. -/
import Derived.Test.YtpjogonponkbmaaK1
set_option linter.unusedVariables false
set_option linter.unusedSectionVars false
namespace Go.Proofs.Ytpjogonponkbmaa
open Go

section
variable {n : Nat} {a : Act} {e : List (Nat × Value)} {w w' : World} {P : Program} {ops : Array Oper} {rest : List Oper} {Q : Exit → Act → World → Prop}
variable {d : Nat} {ty t : TypeId} {pos : String} {af : Array Edge} {g : Option (Nat × Bool)} {x y : Operand} {v u : Value}
variable {St : Nat → Prop} {w0 : World} {its : List Item}

def Q7 {α : Type} [Rep α] (w : World) : List α → List Value → Prop
 | [],[]=>True
 | x :: l,v :: vs=>Ro w x [v] ∧ Q7 w l vs
 | _,_=>False
theorem Q7.elems {α : Type} [Rep α] {w : World} : ∀ {l : List α} {vs : List Value},Q7 w l vs → ZA (Old w) w l vs []
 | [],[],_=>⟨rfl,rfl⟩
 | _ :: _,v :: vs,h=>⟨[v],vs,[],[],rfl,rfl,h.1,Q7.elems h.2⟩
 | [],_ :: _,h=>h.elim
 | _ :: _,[],h=>h.elim
def toArr {α : Type} (N : Nat) (l : List α) : Option (Vector α N):=if h : N ≤ l.length then some ⟨(l.take N).toArray,by simp [h]⟩ else none
theorem ZA.takeF {α : Type} [Rep α] {S : Nat → Prop} {w : World} : ∀ {l : List α} {cs : List Value} {fp : List Nat} (k : Nat),ZA S w l cs fp → ∃ f g,fp = f ++ g ∧ ZA S w (l.take k) (cs.take (k * Rep.n α)) f
 | l,cs,fp,0,h=>⟨[],fp,rfl,by simp [ZA]⟩
 | [],cs,fp,k + 1,h=>by obtain ⟨rfl,rfl⟩:=h; exact ⟨[],[],rfl,by simp [ZA]⟩
 | x :: l,cs,fp,k + 1,h=>by
  obtain ⟨c,cs',f,fp',rfl,rfl,h1,h2⟩:=h
  obtain ⟨f1,g1,rfl,h3⟩:=ZA.takeF k h2
  refine ⟨f ++ f1,g1,by simp,?_⟩
  rw [List.take_succ_cons,Nat.add_mul,Nat.one_mul,Nat.add_comm,show Rep.n α + k * Rep.n α = c.length + k * Rep.n α by rw [Rep.len h1],List.take_length_add_append]
  exact ⟨c,_,f,f1,rfl,rfl,h1,h3⟩
theorem Yx.cut {α : Type} [Rep α] {S : Nat → Prop} {l r : List α} {fp : List Nat} {j : Int} (h : Yx S w l v fp) (hb : slc l 0 j = some r) : ∃ fp',Yx S w r (WZ v (0 : Int).toNat j.toNat (Rep.n α)) fp' ∧ fp'.Sublist fp:=by
 obtain ⟨⟨_,h1,h2⟩,rfl⟩:=Tr hb
 obtain ⟨p,cap,rfl,hc,h⟩:=h
 have e0 : (0 : Int).toNat = 0:=rfl
 have hlen : ((l.take j.toNat).drop 0).length = j.toNat:=by simp; omega
 rw [e0,List.drop_zero] at *
 rcases h with ⟨rfl,rfl,hp⟩ | ⟨b,o,ecs,fpe,rfl,k1,k2,rfl,k3⟩
 ·have : j.toNat = 0:=by omega
  rw [this] at *
  refine ⟨[],⟨p,0,by simp [WZ],by simp,.inl ⟨rfl,rfl,hp⟩⟩,List.nil_sublist _⟩
 ·obtain ⟨f,g,rfl,k4⟩:=ZA.takeF j.toNat k1
  have hadd : (if cap = 0 then some (⟨b,o,none⟩ : Addr) else some ((⟨b,o,none⟩ : Addr).add (0 * Rep.n α))) = some ⟨b,o,none⟩:=by
   split
   ·rfl
   ·rw [Addr.add_lit]; simp
  refine ⟨b :: f,⟨some ⟨b,o,none⟩,cap,?_,by rw [hlen]; omega,.inr ⟨b,o,_,f,rfl,k4,fun i c hi=>k2 i c ?_,rfl,k3⟩⟩,by simp⟩
  ·simp only [WZ,Option.map_some,hlen,Nat.sub_zero,hadd]
  ·rw [List.getElem?_take] at hi
   split at hi
   ·exact hi
   ·cases hi
theorem M.cut {α : Type} [Rep α] {S : Nat → Prop} {l r : List α} {j : Int} (hM : M St w0 w (osl S l v :: its)) (hS : ∀ b,S b → St b) (hb : slc l 0 j = some r) : M St w0 w (osl S r (WZ v (0 : Int).toNat j.toNat (Rep.n α)) :: its):=by
 refine hM.turn (new:=[osl S r _]) rfl rfl rfl (Nat.le_refl _) ?_
 intro fp hfp _ hnd
 obtain ⟨fp',h1,h2⟩:=Yx.cut hfp hb
 exact ⟨fun _ _ _=>rfl,fp',⟨fp',[],by simp,XJ hS,h1,rfl⟩,h2.nodup hnd,fun b hb=>.inl (h2.subset hb)⟩

end
section
variable {n : Nat} {a : Act} {e : List (Nat × Value)} {w w' : World} {P : Program} {ops : Array Oper} {rest : List Oper} {Q : Exit → Act → World → Prop}
variable {d : Nat} {ty t : TypeId} {pos : String} {af : Array Edge} {g : Option (Nat × Bool)} {x y : Operand} {v u : Value}
variable {St : Nat → Prop} {w0 : World} {its : List Item}
def LitSat {α : Type} [Rep α] (S : Nat → Prop) (w : World) : List α → List Value → Prop
 | [],[]=>True
 | x :: l,v :: vs=>Rep.sat S w x [v] [] ∧ LitSat S w l vs
 | _,_=>False
end
end Go.Proofs.Ytpjogonponkbmaa
namespace Go.Proofs.Ytpjogonponkbmaa
open Go

def litP (v : Value) (m : Nat) (vs : List Value) : Item:=fun w fp=>∃ b,v = .slice (some ⟨b,0,none⟩) m m ∧ raw b vs w fp
def mkL (i : Nat) (ds : List Nat) (m : Nat) (f : List Value → List Value) : List Nat × (List Bool → List Value → Item):=(i :: ds,fun bs us=>opt (bs.headD false) (litP (us.headD undef) m (f us.tail)))
section
variable {St : Nat → Prop} {w0 w : World} {its pre post : List Item} {mk : Mk} {D : Nat → Bool} {u : Nat → Value} {i k m b : Nat} {ds : List Nat} {v : Value} {vs : List Value} {f : List Value → List Value}
end

def prm (a b : Bool) (x y : Item) : Item:=if b = true then y else opt a x
def mkP (j i : Nat) (f g : Value → Item) : List Nat × (List Bool → List Value → Item):=([j,i],fun bs us=>prm (bs.headD false) (bs.getD 1 false) (f (us.headD undef)) (g (us.getD 1 undef)))
section
variable {St : Nat → Prop} {w0 w : World} {its pre post : List Item} {mk1 mk2 : Mk} {D : Nat → Bool} {u : Nat → Value} {i j : Nat} {v : Value} {a b : Bool} {x y : Item} {f g : Value → Item}
end
def mkD (i s k : Nat) (z : List Value) (f : Value → List Value) : List Nat × (List Bool → List Value → Item):=([i,s,k],fun bs us=>cellI (bs.headD false) (bs.getD 1 false) (us.headD undef) z (f (us.getD 2 undef)))
section
variable {St : Nat → Prop} {w0 w : World} {its : List Item} {mk1 mk2 : Mk} {D : Nat → Bool} {u : Nat → Value} {i s k b : Nat} {v : Value} {z c c' : List Value} {f : Value → List Value}
end
theorem bix {α β : Type} {l : List α} {i : Int} {f : α → Option β} {r : β} (h : (idx l i).bind f = some r) : ∃ x,((0 ≤ i ∧ i < l.length) ∧ l[i.toNat]? = some x) ∧ f x = some r:=by
 obtain ⟨x,e,h⟩:=bind_some h
 exact ⟨x,KP e,h⟩
theorem ois {α : Type} {x y : α} (h : some x = some y) : y = x:=(Option.some.inj h).symm
theorem nbl {a b : Nat} (h : Nat.ble a b = true) : a ≤ b:=Nat.le_of_ble_eq_true h
theorem ld {d n : Nat} (h : d < n:=by decide) : d < n:=h
def cmpB : List UInt8 → List UInt8 → Int
 | [],[]=>0
 | [],_ :: _=>-1
 | _ :: _,[]=>1
 | x :: l,y :: m=>if x < y then -1 else if y < x then 1 else cmpB l m
section
variable {n : Nat} {a : Act} {e : List (Nat × Value)} {w w' : World} {P : Program} {ops : Array Oper} {rest : List Oper} {Q : Exit → Act → World → Prop}
variable {d : Nat} {ty t : TypeId} {pos : String} {af : Array Edge} {g : Option (Nat × Bool)} {x y : Operand} {v u : Value}
end
end Go.Proofs.Ytpjogonponkbmaa
namespace Go.Proofs.Ytpjogonponkbmaa
open Go

def mget {κ α : Type} [DecidableEq κ] : List (κ × α) → κ → Option α
 | [],_=>none
 | p :: m,k=>if p.1 = k then some p.2 else mget m k
def mset {κ α : Type} [DecidableEq κ] : List (κ × α) → κ → α → List (κ × α)
 | [],k,x=>[(k,x)]
 | p :: m,k,x=>if p.1 = k then (k,x) :: m else p :: mset m k x
def mfind {κ : Type} [DecidableEq κ] : List κ → List MapEntry → Nat → κ → Option (Nat × Value)
 | x :: ks,e :: es,i,k=>if x = k then some (i,e.val) else mfind ks es (i + 1) k
 | _,_,_,_=>none
structure KeyOk (P : Program) (t : TypeId) {κ : Type} [DecidableEq κ] (kv : κ → Value) : Prop where
 check : ∀ (e : Bool) (w : World) (k : κ),(Instr.checkKey e 10000 t (kv k)).run P w = .ok () w
 find : ∀ (w : World) (k : κ) (ks : List κ) (es : List MapEntry),es.map (·.key) = ks.map kv → (Instr.findKey t (kv k) es).run P w = .ok (mfind ks es 0 k) w
 same : ∀ k,Instr.sameBits 10000 (kv k) (kv k) = true
def Vf {κ α : Type} [Rep α] (kv : κ → Value) (S : Nat → Prop) (w : World) : List (κ × α) → List MapEntry → List Nat → Prop
 | [],es,fp=>es = [] ∧ fp = []
 | p :: m,es,fp=>∃ e es' f fp',es = e :: es' ∧ fp = f ++ fp' ∧ e.key = kv p.1 ∧ Rep.sat S w p.2 [e.val] f ∧ Vf kv S w m es' fp'
def mapI {κ α : Type} [Rep α] (kv : κ → Value) (S : Nat → Prop) (m : List (κ × α)) (b : Nat) : Item:=fun w fp =>
 ∃ es clock fpe,w.heap[b]? = some (.map es clock) ∧ Vf kv S w m es.toList fpe ∧ fp = b :: fpe
section
variable {κ α : Type} [Rep α] {kv : κ → Value} {S St : Nat → Prop} {w w' w0 : World}
theorem Vf.keys : ∀ {m : List (κ × α)} {es : List MapEntry} {fp : List Nat},Vf kv S w m es fp → es.map (·.key) = (m.map (·.1)).map kv
 | [],_,_,h=>by rw [h.1]; rfl
 | p :: m,_,_,h=>by
  obtain ⟨e,es',f,fp',rfl,_,h1,_,h2⟩:=h
  simp [h1,Vf.keys h2]
theorem Vf.loc : ∀ {m : List (κ × α)} {es : List MapEntry} {fp : List Nat},Vf kv S w m es fp → (∀ b,(b ∈ fp ∨ S b) → w'.heap[b]? = w.heap[b]?) → Vf kv S w' m es fp
 | [],_,_,h,_=>h
 | p :: m,_,_,h,hb=>by
  obtain ⟨e,es',f,fp',rfl,rfl,h1,h2,h3⟩:=h
  exact ⟨e,es',f,fp',rfl,rfl,h1,Rep.loc h2 (fun b h=>hb b (by simp; grind)),Vf.loc h3 (fun b h=>hb b (by simp; grind))⟩
theorem Vf.lt : ∀ {m : List (κ × α)} {es : List MapEntry} {fp : List Nat},Vf kv S w m es fp → ∀ b ∈ fp,b < w.heap.size
 | [],_,_,h,b,hb=>by rw [h.2] at hb; cases hb
 | p :: m,_,_,h,b,hb=>by
  obtain ⟨e,es',f,fp',rfl,rfl,h1,h2,h3⟩:=h
  rcases List.mem_append.1 hb with hb | hb
  ·exact Rep.lt h2 b hb
  ·exact Vf.lt h3 b hb
end
section
variable {κ α : Type} [DecidableEq κ] [Rep α] {kv : κ → Value} {S St : Nat → Prop} {w w' w0 : World} {its : List Item}
omit [DecidableEq κ] in
end
section
variable {n : Nat} {a : Act} {e : List (Nat × Value)} {w w' : World} {P : Program} {ops : Array Oper} {rest : List Oper} {Q : Exit → Act → World → Prop}
variable {d : Nat} {ty t kt el : TypeId} {pos : String} {af : Array Edge} {g : Option (Nat × Bool)} {x y z : Operand} {v u : Value}
variable {St S : Nat → Prop} {w0 : World} {its pre post : List Item} {κ α : Type} [DecidableEq κ] [Rep α] {kv : κ → Value} {m : List (κ × α)} {b : Nat}
omit [DecidableEq κ] in
end
end Go.Proofs.Ytpjogonponkbmaa
namespace Go.Proofs.Ytpjogonponkbmaa
open Go
section
open Go.RowKit
def UN {α : Type} (f : Nat → α) (k : Nat) : List α:=(List.range k).map f
theorem Kr {α : Type} (f : Nat → α) (k : Nat) : UN f (k + 1) = UN f k ++ [f k]:=by simp [UN,List.range_succ]
theorem Qw {α : Type} (f : Nat → α) (k : Nat) : (UN f k).length = k:=by simp [UN]
def KpB (n₀ Bs : Nat) (W W' : World) : Prop:=Below n₀ W W' ∧ W'.heap[Bs]? = W.heap[Bs]?
theorem KpB.trans {n₀ Bs : Nat} {A B C : World} (h : KpB n₀ Bs A B) (k : KpB n₀ Bs B C) : KpB n₀ Bs A C:=⟨h.1.trans k.1,k.2.trans h.2⟩
def Th (zs : List UInt8) (k : Nat) : Int × UInt8:=((zs.length : Int) - 1 - k,(zs[zs.length - 1 - k]?.getD 0))
theorem Kq (zs : List UInt8) : (UN (Th zs) zs.length).map (·.2) = zs.reverse:=by
 apply List.ext_getElem
 ·simp [UN]
 ·intro i h1 h2
  have hi : i < zs.length:=by simpa [UN] using h1
  have hj : zs.length - 1 - i < zs.length:=by omega
  simp [UN,Th,List.getElem?_eq_getElem hj]
def Byts (n₀ : Nat) (W : World) (p : Option Addr) (zs : List UInt8) : Prop :=
 zs = [] ∨ ∃ b off,p = some ⟨b,off,none⟩ ∧ b < n₀ ∧ ∀ j,j < zs.length → W.cell? ⟨b,off + j,none⟩ = some (.int .u8 (zs[j]?.getD 0).toNat)
theorem Byts.below {n₀ : Nat} {A B : World} (h : Below n₀ A B) {p : Option Addr} {zs : List UInt8} : Byts n₀ A p zs → Byts n₀ B p zs
 | .inl e=>.inl e
 | .inr ⟨b,off,e,hb,hc⟩=>.inr ⟨b,off,e,hb,fun j hj=>(h.cell (p:=⟨b,off + j,none⟩) hb).trans (hc j hj)⟩
theorem KeptB {w W : World} (h : Kept (Old w) w W) {n : Nat} (hn : n ≤ w.heap.size) : Below n w W:=⟨h.os,h.tape,h.output,h.size,fun k hk=>h.block k (Nat.lt_of_lt_of_le hk hn)⟩
theorem KeptF {w W : World} (h : Kept (Old w) w W) (B : Nat) : KeepsFrom B w W:=⟨h.size,fun k o _ hk _=>(h.block k (Array.getElem?_eq_some_iff.1 hk).1).trans hk⟩
theorem Kb : ∀ (l : List UInt8) (j : Nat),j < l.length → (Xb l)[j]? = some (.int .u8 (l[j]?.getD 0).toNat)
 | [],j,h=>by simp at h
 | x :: l,0,_=>rfl
 | x :: l,j + 1,h=>by simpa [Xb,Flat.enc] using Kb l j (by simpa using h)
theorem Je {w : World} {l : List UInt8} {v : Value} (h : Ro w l [v]) : ∃ p cap,v = .slice p l.length cap ∧ Byts w.heap.size w p l:=by
 obtain ⟨p,cap,hv,hc,hp⟩:=h
 simp only [List.cons.injEq,and_true] at hv
 refine ⟨p,cap,hv,?_⟩
 by_cases hl : l = []
 ·exact .inl hl
 cases p with
 | none=>exact absurd (List.eq_nil_of_length_eq_zero (by have:=hp.1; omega)) hl
 | some q =>
  obtain ⟨q1,q2,q3⟩:=q
  obtain ⟨h1,ecs,fpe,h2,h3,h4⟩:=hp
  have h1:=h1 (by have:=List.length_pos_iff.2 hl; omega)
  simp only at h1
  subst h1
  obtain ⟨rfl,rfl⟩:=Yt.1 h2
  refine .inr ⟨q1,q2,rfl,?_,fun j hj=>h3 j _ ?_⟩
  ·rcases h4 with ⟨h4,_⟩ | ⟨h4,_⟩
   ·exact h4 hl
   ·cases h4
  ·exact Kb l j hj
end
end Go.Proofs.Ytpjogonponkbmaa
