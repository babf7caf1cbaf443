/- The walk library: what this claim needs of it. -/
import Derived.Test.YtpjogonponkbmaaK1
set_option linter.unusedVariables false
set_option linter.unusedSectionVars false
namespace Go.Proofs.Ytpjogonponkbmaa
open Go

def litP (v : Value) (m : Nat) (vs : List Value) : Item:=fun w fp=>∃ b,v = .slice (some ⟨b,0,none⟩) m m ∧ raw b vs w fp
def mkL (i : Nat) (ds : List Nat) (m : Nat) (f : List Value → List Value) : List Nat × (List Bool → List Value → Item):=(i :: ds,fun bs us=>opt (bs.headD false) (litP (us.headD undef) m (f us.tail)))
section
variable {St : Nat → Prop} {w0 w : World} {its pre post : List Item} {mk : Mk} {D : Nat → Bool} {u : Nat → Value} {i k m b : Nat} {ds : List Nat} {v : Value} {vs : List Value} {f : List Value → List Value}
end

def prm (a b : Bool) (x y : Item) : Item:=if b = true then y else opt a x
def mkP (j i : Nat) (f g : Value → Item) : List Nat × (List Bool → List Value → Item):=([j,i],fun bs us=>prm (bs.headD false) (bs.getD 1 false) (f (us.headD undef)) (g (us.getD 1 undef)))
section
variable {St : Nat → Prop} {w0 w : World} {its pre post : List Item} {mk1 mk2 : Mk} {D : Nat → Bool} {u : Nat → Value} {i j : Nat} {v : Value} {a b : Bool} {x y : Item} {f g : Value → Item}
end
def mkD (i s k : Nat) (z : List Value) (f : Value → List Value) : List Nat × (List Bool → List Value → Item):=([i,s,k],fun bs us=>cellI (bs.headD false) (bs.getD 1 false) (us.headD undef) z (f (us.getD 2 undef)))
section
variable {St : Nat → Prop} {w0 w : World} {its : List Item} {mk1 mk2 : Mk} {D : Nat → Bool} {u : Nat → Value} {i s k b : Nat} {v : Value} {z c c' : List Value} {f : Value → List Value}
end
theorem bix {α β : Type} {l : List α} {i : Int} {f : α → Option β} {r : β} (h : (idx l i).bind f = some r) : ∃ x,((0 ≤ i ∧ i < l.length) ∧ l[i.toNat]? = some x) ∧ f x = some r:=by
 obtain ⟨x,e,h⟩:=bind_some h
 exact ⟨x,Qw e,h⟩
theorem ois {α : Type} {x y : α} (h : some x = some y) : y = x:=(Option.some.inj h).symm
theorem nbl {a b : Nat} (h : Nat.ble a b = true) : a ≤ b:=Nat.le_of_ble_eq_true h
theorem ld {d n : Nat} (h : d < n:=by decide) : d < n:=h
def cmpB : List UInt8 → List UInt8 → Int
 | [],[]=>0
 | [],_ :: _=>-1
 | _ :: _,[]=>1
 | x :: l,y :: m=>if x < y then -1 else if y < x then 1 else cmpB l m
section
variable {n : Nat} {a : Act} {e : List (Nat × Value)} {w w' : World} {P : Program} {ops : Array Oper} {rest : List Oper} {Q : Exit → Act → World → Prop}
variable {d : Nat} {ty t : TypeId} {pos : String} {af : Array Edge} {g : Option (Nat × Bool)} {x y : Operand} {v u : Value}
end
end Go.Proofs.Ytpjogonponkbmaa
namespace Go.Proofs.Ytpjogonponkbmaa
open Go

def mget {κ α : Type} [DecidableEq κ] : List (κ × α) → κ → Option α
 | [],_=>none
 | p :: m,k=>if p.1 = k then some p.2 else mget m k
def mset {κ α : Type} [DecidableEq κ] : List (κ × α) → κ → α → List (κ × α)
 | [],k,x=>[(k,x)]
 | p :: m,k,x=>if p.1 = k then (k,x) :: m else p :: mset m k x
def mfind {κ : Type} [DecidableEq κ] : List κ → List MapEntry → Nat → κ → Option (Nat × Value)
 | x :: ks,e :: es,i,k=>if x = k then some (i,e.val) else mfind ks es (i + 1) k
 | _,_,_,_=>none
structure KeyOk (P : Program) (t : TypeId) {κ : Type} [DecidableEq κ] (kv : κ → Value) : Prop where
 check : ∀ (e : Bool) (w : World) (k : κ),(Instr.checkKey e 10000 t (kv k)).run P w = .ok () w
 find : ∀ (w : World) (k : κ) (ks : List κ) (es : List MapEntry),es.map (·.key) = ks.map kv → (Instr.findKey t (kv k) es).run P w = .ok (mfind ks es 0 k) w
 same : ∀ k,Instr.sameBits 10000 (kv k) (kv k) = true
def Wi {κ α : Type} [Rep α] (kv : κ → Value) (S : Nat → Prop) (w : World) : List (κ × α) → List MapEntry → List Nat → Prop
 | [],es,fp=>es = [] ∧ fp = []
 | p :: m,es,fp=>∃ e es' f fp',es = e :: es' ∧ fp = f ++ fp' ∧ e.key = kv p.1 ∧ Rep.sat S w p.2 [e.val] f ∧ Wi kv S w m es' fp'
def mapI {κ α : Type} [Rep α] (kv : κ → Value) (S : Nat → Prop) (m : List (κ × α)) (b : Nat) : Item:=fun w fp =>
 ∃ es clock fpe,w.heap[b]? = some (.map es clock) ∧ Wi kv S w m es.toList fpe ∧ fp = b :: fpe
section
variable {κ α : Type} [Rep α] {kv : κ → Value} {S St : Nat → Prop} {w w' w0 : World}
theorem Wi.keys : ∀ {m : List (κ × α)} {es : List MapEntry} {fp : List Nat},Wi kv S w m es fp → es.map (·.key) = (m.map (·.1)).map kv
 | [],_,_,h=>by rw [h.1]; rfl
 | p :: m,_,_,h=>by
  obtain ⟨e,es',f,fp',rfl,_,h1,_,h2⟩:=h
  simp [h1,Wi.keys h2]
theorem Wi.loc : ∀ {m : List (κ × α)} {es : List MapEntry} {fp : List Nat},Wi kv S w m es fp → (∀ b,(b ∈ fp ∨ S b) → w'.heap[b]? = w.heap[b]?) → Wi kv S w' m es fp
 | [],_,_,h,_=>h
 | p :: m,_,_,h,hb=>by
  obtain ⟨e,es',f,fp',rfl,rfl,h1,h2,h3⟩:=h
  exact ⟨e,es',f,fp',rfl,rfl,h1,Rep.loc h2 (fun b h=>hb b (by simp; grind)),Wi.loc h3 (fun b h=>hb b (by simp; grind))⟩
theorem Wi.lt : ∀ {m : List (κ × α)} {es : List MapEntry} {fp : List Nat},Wi kv S w m es fp → ∀ b ∈ fp,b < w.heap.size
 | [],_,_,h,b,hb=>by rw [h.2] at hb; cases hb
 | p :: m,_,_,h,b,hb=>by
  obtain ⟨e,es',f,fp',rfl,rfl,h1,h2,h3⟩:=h
  rcases List.mem_append.1 hb with hb | hb
  ·exact Rep.lt h2 b hb
  ·exact Wi.lt h3 b hb
end
section
variable {κ α : Type} [DecidableEq κ] [Rep α] {kv : κ → Value} {S St : Nat → Prop} {w w' w0 : World} {its : List Item}
omit [DecidableEq κ] in
end
section
variable {n : Nat} {a : Act} {e : List (Nat × Value)} {w w' : World} {P : Program} {ops : Array Oper} {rest : List Oper} {Q : Exit → Act → World → Prop}
variable {d : Nat} {ty t kt el : TypeId} {pos : String} {af : Array Edge} {g : Option (Nat × Bool)} {x y z : Operand} {v u : Value}
variable {St S : Nat → Prop} {w0 : World} {its pre post : List Item} {κ α : Type} [DecidableEq κ] [Rep α] {kv : κ → Value} {m : List (κ × α)} {b : Nat}
omit [DecidableEq κ] in
end
end Go.Proofs.Ytpjogonponkbmaa
namespace Go.Proofs.Ytpjogonponkbmaa
open Go
section
open Go.RowKit
def VC {α : Type} (f : Nat → α) (k : Nat) : List α:=(List.range k).map f
theorem T3 {α : Type} (f : Nat → α) (k : Nat) : VC f (k + 1) = VC f k ++ [f k]:=by simp [VC,List.range_succ]
theorem UR {α : Type} (f : Nat → α) (k : Nat) : (VC f k).length = k:=by simp [VC]
def KpB (n₀ Bs : Nat) (W W' : World) : Prop:=Below n₀ W W' ∧ W'.heap[Bs]? = W.heap[Bs]?
theorem KpB.trans {n₀ Bs : Nat} {A B C : World} (h : KpB n₀ Bs A B) (k : KpB n₀ Bs B C) : KpB n₀ Bs A C:=⟨h.1.trans k.1,k.2.trans h.2⟩
def VZ (zs : List UInt8) (k : Nat) : Int × UInt8:=((zs.length : Int) - 1 - k,(zs[zs.length - 1 - k]?.getD 0))
theorem T4 (zs : List UInt8) : (VC (VZ zs) zs.length).map (·.2) = zs.reverse:=by
 apply List.ext_getElem
 ·simp [VC]
 ·intro i h1 h2
  have hi : i < zs.length:=by simpa [VC] using h1
  have hj : zs.length - 1 - i < zs.length:=by omega
  simp [VC,VZ,List.getElem?_eq_getElem hj]
def Byts (n₀ : Nat) (W : World) (p : Option Addr) (zs : List UInt8) : Prop :=
 zs = [] ∨ ∃ b off,p = some ⟨b,off,none⟩ ∧ b < n₀ ∧ ∀ j,j < zs.length → W.cell? ⟨b,off + j,none⟩ = some (.int .u8 (zs[j]?.getD 0).toNat)
theorem Byts.below {n₀ : Nat} {A B : World} (h : Below n₀ A B) {p : Option Addr} {zs : List UInt8} : Byts n₀ A p zs → Byts n₀ B p zs
 | .inl e=>.inl e
 | .inr ⟨b,off,e,hb,hc⟩=>.inr ⟨b,off,e,hb,fun j hj=>(h.cell (p:=⟨b,off + j,none⟩) hb).trans (hc j hj)⟩
theorem KeptB {w W : World} (h : Kept (Old w) w W) {n : Nat} (hn : n ≤ w.heap.size) : Below n w W:=⟨h.os,h.tape,h.output,h.size,fun k hk=>h.block k (Nat.lt_of_lt_of_le hk hn)⟩
theorem KeptF {w W : World} (h : Kept (Old w) w W) (B : Nat) : KeepsFrom B w W:=⟨h.size,fun k o _ hk _=>(h.block k (Array.getElem?_eq_some_iff.1 hk).1).trans hk⟩
theorem TB : ∀ (l : List UInt8) (j : Nat),j < l.length → (YF l)[j]? = some (.int .u8 (l[j]?.getD 0).toNat)
 | [],j,h=>by simp at h
 | x :: l,0,_=>rfl
 | x :: l,j + 1,h=>by simpa [YF,Flat.enc] using TB l j (by simpa using h)
theorem QJ {w : World} {l : List UInt8} {v : Value} (h : Ro w l [v]) : ∃ p cap,v = .slice p l.length cap ∧ Byts w.heap.size w p l:=by
 obtain ⟨p,cap,hv,hc,hp⟩:=h
 simp only [List.cons.injEq,and_true] at hv
 refine ⟨p,cap,hv,?_⟩
 by_cases hl : l = []
 ·exact .inl hl
 cases p with
 | none=>exact absurd (List.eq_nil_of_length_eq_zero (by have:=hp.1; omega)) hl
 | some q =>
  obtain ⟨q1,q2,q3⟩:=q
  obtain ⟨h1,ecs,fpe,h2,h3,h4⟩:=hp
  have h1:=h1 (by have:=List.length_pos_iff.2 hl; omega)
  simp only at h1
  subst h1
  obtain ⟨rfl,rfl⟩:=Z9.1 h2
  refine .inr ⟨q1,q2,rfl,?_,fun j hj=>h3 j _ ?_⟩
  ·rcases h4 with ⟨h4,_⟩ | ⟨h4,_⟩
   ·exact h4 hl
   ·cases h4
  ·exact TB l j hj
end
end Go.Proofs.Ytpjogonponkbmaa
