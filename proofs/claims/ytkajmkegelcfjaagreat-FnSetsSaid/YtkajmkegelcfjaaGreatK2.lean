/- The walk library: what this claim needs of it. -/
import Derived.Test.YtkajmkegelcfjaaGreatK1
set_option linter.unusedVariables false
set_option linter.unusedSimpArgs false
set_option linter.unusedSectionVars false
namespace Go.Proofs.YtkajmkegelcfjaaGreat
open Go

section
variable {n : Nat} {a : Act} {e : List (Nat × Value)} {w w' : World} {P : Program} {ops : Array Oper} {rest : List Oper} {Q : Exit → Act → World → Prop}
variable {d : Nat} {ty t : TypeId} {pos : String} {af : Array Edge} {g : Option (Nat × Bool)} {x y : Operand} {v u : Value}
variable {St : Nat → Prop} {w0 : World} {its : List Item}

def jw {α : Type} [Rep α] (w : World) : List α → List Value → Prop
 | [],[]=>True
 | x :: l,v :: vs=>Ro w x [v] ∧ jw w l vs
 | _,_=>False
theorem jw.elems {α : Type} [Rep α] {w : World} : ∀ {l : List α} {vs : List Value},jw w l vs → Yb (Old w) w l vs []
 | [],[],_=>⟨rfl,rfl⟩
 | _ :: _,v :: vs,h=>⟨[v],vs,[],[],rfl,rfl,h.1,jw.elems h.2⟩
 | [],_ :: _,h=>h.elim
 | _ :: _,[],h=>h.elim
def toArr {α : Type} (N : Nat) (l : List α) : Option (Vector α N):=if h : N ≤ l.length then some ⟨(l.take N).toArray,by simp [h]⟩ else none
theorem Yb.takeF {α : Type} [Rep α] {S : Nat → Prop} {w : World} : ∀ {l : List α} {cs : List Value} {fp : List Nat} (k : Nat),Yb S w l cs fp → ∃ f g,fp = f ++ g ∧ Yb S w (l.take k) (cs.take (k * Rep.n α)) f
 | l,cs,fp,0,h=>⟨[],fp,rfl,by simp [Yb]⟩
 | [],cs,fp,k + 1,h=>by obtain ⟨rfl,rfl⟩:=h; exact ⟨[],[],rfl,by simp [Yb]⟩
 | x :: l,cs,fp,k + 1,h=>by
  obtain ⟨c,cs',f,fp',rfl,rfl,h1,h2⟩:=h
  obtain ⟨f1,g1,rfl,h3⟩:=Yb.takeF k h2
  refine ⟨f ++ f1,g1,by simp,?_⟩
  rw [List.take_succ_cons,Nat.add_mul,Nat.one_mul,Nat.add_comm,show Rep.n α + k * Rep.n α = c.length + k * Rep.n α by rw [Rep.len h1],List.take_length_add_append]
  exact ⟨c,_,f,f1,rfl,rfl,h1,h3⟩
theorem Ta.cut {α : Type} [Rep α] {S : Nat → Prop} {l r : List α} {fp : List Nat} {j : Int} (h : Ta S w l v fp) (hb : slc l 0 j = some r) : ∃ fp',Ta S w r (Vh v (0 : Int).toNat j.toNat (Rep.n α)) fp' ∧ fp'.Sublist fp:=by
 obtain ⟨⟨_,h1,h2⟩,rfl⟩:=Hz hb
 obtain ⟨p,cap,rfl,hc,h⟩:=h
 have e0 : (0 : Int).toNat = 0:=rfl
 have hlen : ((l.take j.toNat).drop 0).length = j.toNat:=by simp; omega
 rw [e0,List.drop_zero] at *
 rcases h with ⟨rfl,rfl,hp⟩ | ⟨b,o,ecs,fpe,rfl,k1,k2,rfl,k3⟩
 ·have : j.toNat = 0:=by omega
  rw [this] at *
  refine ⟨[],⟨p,0,by simp [Vh],by simp,.inl ⟨rfl,rfl,hp⟩⟩,List.nil_sublist _⟩
 ·obtain ⟨f,g,rfl,k4⟩:=Yb.takeF j.toNat k1
  have hadd : (if cap = 0 then some (⟨b,o,none⟩ : Addr) else some ((⟨b,o,none⟩ : Addr).add (0 * Rep.n α))) = some ⟨b,o,none⟩:=by
   split
   ·rfl
   ·rw [Addr.add_lit]; simp
  refine ⟨b :: f,⟨some ⟨b,o,none⟩,cap,?_,by rw [hlen]; omega,.inr ⟨b,o,_,f,rfl,k4,fun i c hi=>k2 i c ?_,rfl,k3⟩⟩,by simp⟩
  ·simp only [Vh,Option.map_some,hlen,Nat.sub_zero,hadd]
  ·rw [List.getElem?_take] at hi
   split at hi
   ·exact hi
   ·cases hi
theorem M.cut {α : Type} [Rep α] {S : Nat → Prop} {l r : List α} {j : Int} (hM : M St w0 w (osl S l v :: its)) (hS : ∀ b,S b → St b) (hb : slc l 0 j = some r) : M St w0 w (osl S r (Vh v (0 : Int).toNat j.toNat (Rep.n α)) :: its):=by
 refine hM.turn (new:=[osl S r _]) rfl rfl rfl (Nat.le_refl _) ?_
 intro fp hfp _ hnd
 obtain ⟨fp',h1,h2⟩:=Ta.cut hfp hb
 exact ⟨fun _ _ _=>rfl,fp',⟨fp',[],by simp,QQ hS,h1,rfl⟩,h2.nodup hnd,fun b hb=>.inl (h2.subset hb)⟩

end
theorem qo (p q : Int) (h : 0 ≤ q) : shV .shr .u64 p q = some (vU (Kh p q)):=by simp [shV,Int.not_lt.2 h,Kh,IntKind.bits]
section
variable {n : Nat} {a : Act} {e : List (Nat × Value)} {w w' : World} {P : Program} {ops : Array Oper} {rest : List Oper} {Q : Exit → Act → World → Prop}
variable {d : Nat} {ty t : TypeId} {pos : String} {af : Array Edge} {g : Option (Nat × Bool)} {x y : Operand} {v u : Value}
variable {St : Nat → Prop} {w0 : World} {its : List Item}
def LitSat {α : Type} [Rep α] (S : Nat → Prop) (w : World) : List α → List Value → Prop
 | [],[]=>True
 | x :: l,v :: vs=>Rep.sat S w x [v] [] ∧ LitSat S w l vs
 | _,_=>False
end
end Go.Proofs.YtkajmkegelcfjaaGreat
namespace Go.Proofs.YtkajmkegelcfjaaGreat
open Go

def litP (v : Value) (m : Nat) (vs : List Value) : Item:=fun w fp=>∃ b,v = .slice (some ⟨b,0,none⟩) m m ∧ raw b vs w fp
def mkL (i : Nat) (ds : List Nat) (m : Nat) (f : List Value → List Value) : List Nat × (List Bool → List Value → Item):=(i :: ds,fun bs us=>opt (bs.headD false) (litP (us.headD undef) m (f us.tail)))
section
variable {St : Nat → Prop} {w0 w : World} {its pre post : List Item} {mk : Mk} {D : Nat → Bool} {u : Nat → Value} {i k m b : Nat} {ds : List Nat} {v : Value} {vs : List Value} {f : List Value → List Value}
end

def prm (a b : Bool) (x y : Item) : Item:=if b = true then y else opt a x
def mkP (j i : Nat) (f g : Value → Item) : List Nat × (List Bool → List Value → Item):=([j,i],fun bs us=>prm (bs.headD false) (bs.getD 1 false) (f (us.headD undef)) (g (us.getD 1 undef)))
section
variable {St : Nat → Prop} {w0 w : World} {its pre post : List Item} {mk1 mk2 : Mk} {D : Nat → Bool} {u : Nat → Value} {i j : Nat} {v : Value} {a b : Bool} {x y : Item} {f g : Value → Item}
end
def mkD (i s k : Nat) (z : List Value) (f : Value → List Value) : List Nat × (List Bool → List Value → Item):=([i,s,k],fun bs us=>J8 (bs.headD false) (bs.getD 1 false) (us.headD undef) z (f (us.getD 2 undef)))
section
variable {St : Nat → Prop} {w0 w : World} {its : List Item} {mk1 mk2 : Mk} {D : Nat → Bool} {u : Nat → Value} {i s k b : Nat} {v : Value} {z c c' : List Value} {f : Value → List Value}
end
theorem flq {α : Type} [Flat α] {x y : α} : (Flat.enc x).length = (Flat.enc y).length:=(Flat.len x).trans (Flat.len y).symm
theorem zle {a b : Nat} (h : a = b) : 0 + a ≤ b:=by omega
theorem bvx {α β : Type} {N : Nat} {v : Vector α N} {i : Int} {f : α → Option β} {r : β} (h : (ZB v i).bind f = some r) : ∃ x,((0 ≤ i ∧ i < N) ∧ v.toList[i.toNat]? = some x) ∧ f x = some r:=by
 obtain ⟨x,e,h⟩:=bind_some h
 exact ⟨x,kF e,h⟩
theorem bix {α β : Type} {l : List α} {i : Int} {f : α → Option β} {r : β} (h : (idx l i).bind f = some r) : ∃ x,((0 ≤ i ∧ i < l.length) ∧ l[i.toNat]? = some x) ∧ f x = some r:=by
 obtain ⟨x,e,h⟩:=bind_some h
 exact ⟨x,qy e,h⟩
theorem ois {α : Type} {x y : α} (h : some x = some y) : y = x:=(Option.some.inj h).symm
theorem nbl {a b : Nat} (h : Nat.ble a b = true) : a ≤ b:=Nat.le_of_ble_eq_true h
theorem ld {d n : Nat} (h : d < n:=by decide) : d < n:=h
def cmpB : List UInt8 → List UInt8 → Int
 | [],[]=>0
 | [],_ :: _=>-1
 | _ :: _,[]=>1
 | x :: l,y :: m=>if x < y then -1 else if y < x then 1 else cmpB l m
section
variable {n : Nat} {a : Act} {e : List (Nat × Value)} {w w' : World} {P : Program} {ops : Array Oper} {rest : List Oper} {Q : Exit → Act → World → Prop}
variable {d : Nat} {ty t : TypeId} {pos : String} {af : Array Edge} {g : Option (Nat × Bool)} {x y : Operand} {v u : Value}
end
end Go.Proofs.YtkajmkegelcfjaaGreat
namespace Go.Proofs.YtkajmkegelcfjaaGreat
open Go

theorem zv_of {P : Program} {t : TypeId} {v : Value} (h : (P.info? t).bind (·.zero) = some v) (w : World) : (zeroValue t).run P w = .ok v w:=by
 obtain ⟨i,h1,h2⟩:=Option.bind_eq_some_iff.1 h
 simp [zeroValue,typeInfo,h1,h2]
def mget {κ α : Type} [DecidableEq κ] : List (κ × α) → κ → Option α
 | [],_=>none
 | p :: m,k=>if p.1 = k then some p.2 else mget m k
def mset {κ α : Type} [DecidableEq κ] : List (κ × α) → κ → α → List (κ × α)
 | [],k,x=>[(k,x)]
 | p :: m,k,x=>if p.1 = k then (k,x) :: m else p :: mset m k x
def kX {κ : Type} [DecidableEq κ] : List κ → List MapEntry → Nat → κ → Option (Nat × Value)
 | x :: ks,e :: es,i,k=>if x = k then some (i,e.val) else kX ks es (i + 1) k
 | _,_,_,_=>none
structure KeyOk (P : Program) (t : TypeId) {κ : Type} [DecidableEq κ] (kv : κ → Value) : Prop where
 check : ∀ (e : Bool) (w : World) (k : κ),(Instr.checkKey e 10000 t (kv k)).run P w = .ok () w
 find : ∀ (w : World) (k : κ) (ks : List κ) (es : List MapEntry),es.map (·.key) = ks.map kv → (Instr.findKey t (kv k) es).run P w = .ok (kX ks es 0 k) w
 same : ∀ k,Instr.sameBits 10000 (kv k) (kv k) = true
structure ElOk {α : Type} (S : Nat → Prop) (E : World → α → Value → List Nat → Prop) : Prop where
 loc : ∀ {w w' : World} {x : α} {u : Value} {f : List Nat},E w x u f → (∀ b,(b ∈ f ∨ S b) → w'.heap[b]? = w.heap[b]?) → E w' x u f
 lt : ∀ {w : World} {x : α} {u : Value} {f : List Nat},E w x u f → ∀ b ∈ f,b < w.heap.size
def satE {α : Type} [Rep α] (S : Nat → Prop) : World → α → Value → List Nat → Prop:=fun w x u f=>Rep.sat S w x [u] f
def oslE {α : Type} [Rep α] (S : Nat → Prop) : World → List α → Value → List Nat → Prop:=fun w l u f=>Ta S w l u f
def Ql {κ α : Type} (kv : κ → Value) (E : World → α → Value → List Nat → Prop) (w : World) : List (κ × α) → List MapEntry → List Nat → Prop
 | [],es,fp=>es = [] ∧ fp = []
 | p :: m,es,fp=>∃ e es' f fp',es = e :: es' ∧ fp = f ++ fp' ∧ e.key = kv p.1 ∧ E w p.2 e.val f ∧ Ql kv E w m es' fp'
def K6 (es : List MapEntry) (clock : Nat) : Prop:=es.Pairwise (fun a b=>a.born < b.born) ∧ ∀ e ∈ es,e.born < clock
def mapI {κ α : Type} (kv : κ → Value) (E : World → α → Value → List Nat → Prop) (m : List (κ × α)) (b : Nat) : Item:=fun w fp =>
 ∃ es clock fpe,w.heap[b]? = some (.map es clock) ∧ Ql kv E w m es.toList fpe ∧ K6 es.toList clock ∧ fp = b :: fpe
def mapH {κ α : Type} [DecidableEq κ] (kv : κ → Value) (E : World → α → Value → List Nat → Prop) (m : List (κ × α)) (k : κ) (u : Value) (b st : Nat) : Item:=fun w fp =>
 ∃ es clock m1 m2 es1 e es2 f1 f2,w.heap[b]? = some (.map es clock) ∧ es.toList = es1 ++ e :: es2 ∧ Ql kv E w m1 es1 f1 ∧ Ql kv E w m2 es2 f2 ∧ e.key = kv k ∧ e.born = st ∧ e.val = u ∧ K6 es.toList clock ∧
  (∀ x,mset m k x = m1 ++ (k,x) :: m2) ∧ fp = b :: (f1 ++ f2)
section
variable {κ α : Type} {kv : κ → Value} {S St : Nat → Prop} {E : World → α → Value → List Nat → Prop} {w w' w0 : World}
theorem Ql.keys : ∀ {m : List (κ × α)} {es : List MapEntry} {fp : List Nat},Ql kv E w m es fp → es.map (·.key) = (m.map (·.1)).map kv
 | [],_,_,h=>by rw [h.1]; rfl
 | p :: m,_,_,h=>by
  obtain ⟨e,es',f,fp',rfl,_,h1,_,h2⟩:=h
  simp [h1,Ql.keys h2]
theorem Ql.loc (hE : ElOk S E) : ∀ {m : List (κ × α)} {es : List MapEntry} {fp : List Nat},Ql kv E w m es fp → (∀ b,(b ∈ fp ∨ S b) → w'.heap[b]? = w.heap[b]?) → Ql kv E w' m es fp
 | [],_,_,h,_=>h
 | p :: m,_,_,h,hb=>by
  obtain ⟨e,es',f,fp',rfl,rfl,h1,h2,h3⟩:=h
  exact ⟨e,es',f,fp',rfl,rfl,h1,hE.loc h2 (fun b h=>hb b (by simp; grind)),Ql.loc hE h3 (fun b h=>hb b (by simp; grind))⟩
end
section
variable {κ α : Type} [DecidableEq κ] {kv : κ → Value} {S St : Nat → Prop} {E : World → α → Value → List Nat → Prop} {w w' w0 : World} {its : List Item}
omit [DecidableEq κ] in
theorem Ql.app : ∀ {m1 m2 : List (κ × α)} {es1 es2 : List MapEntry} {f1 f2 : List Nat},Ql kv E w m1 es1 f1 → Ql kv E w m2 es2 f2 → Ql kv E w (m1 ++ m2) (es1 ++ es2) (f1 ++ f2)
 | [],_,_,_,_,_,h,k=>by obtain ⟨rfl,rfl⟩:=h; exact k
 | p :: m,_,_,_,_,_,h,k=>by
  obtain ⟨e,es',f,fp',rfl,rfl,h1,h2,h3⟩:=h
  exact ⟨e,es' ++ _,f,fp' ++ _,by simp,by simp,h1,h2,Ql.app h3 k⟩
theorem K6.push {es : List MapEntry} {clock : Nat} (h : K6 es clock) (k u : Value) : K6 (es ++ [{ key:=k,val:=u,born:=clock }]) (clock + 1):=by
 refine ⟨List.pairwise_append.2 ⟨h.1,by simp,fun a ha b hb=>?_⟩,fun e he=>?_⟩
 ·simp at hb; subst hb; exact h.2 a ha
 ·rcases List.mem_append.1 he with he | he
  ·have:=h.2 e he; omega
  ·simp at he; subst he; exact Nat.lt_succ_self _
theorem K6.put {es1 es2 : List MapEntry} {e e' : MapEntry} {clock : Nat} (h : K6 (es1 ++ e :: es2) clock) (hb : e'.born = e.born) : K6 (es1 ++ e' :: es2) clock:=by
 obtain ⟨h1,h2⟩:=h
 rw [List.pairwise_append,List.pairwise_cons] at h1
 obtain ⟨a1,⟨a2,a3⟩,a4⟩:=h1
 refine ⟨List.pairwise_append.2 ⟨a1,List.pairwise_cons.2 ⟨fun b hb'=>by rw [hb]; exact a2 b hb',a3⟩,fun a ha b hb'=>?_⟩,fun q hq=>?_⟩
 ·rcases List.mem_cons.1 hb' with rfl | hb'
  ·rw [hb]; exact a4 a ha e (by simp)
  ·exact a4 a ha b (by simp [hb'])
 ·rcases List.mem_append.1 hq with hq | hq
  ·exact h2 q (by simp [hq])
  ·rcases List.mem_cons.1 hq with rfl | hq
   ·rw [hb]; exact h2 e (by simp)
   ·exact h2 q (by simp [hq])
omit [DecidableEq κ] in
end
section
variable {n : Nat} {a : Act} {e : List (Nat × Value)} {w w' : World} {P : Program} {ops : Array Oper} {rest : List Oper} {Q : Exit → Act → World → Prop}
variable {d : Nat} {ty t kt el : TypeId} {pos : String} {af : Array Edge} {g : Option (Nat × Bool)} {x y z : Operand} {v u : Value}
variable {St S : Nat → Prop} {w0 : World} {its pre post : List Item} {κ α : Type} {kv : κ → Value} {m : List (κ × α)} {b : Nat} {E : World → α → Value → List Nat → Prop}
variable [DecidableEq κ]
def zL {α : Type} (m : List (κ × α)) (k : κ) (b : Nat) (v : Value) (w : World) : Prop:=∃ es clock,w.heap[b]? = some (.map es clock) ∧ v = ((kX (m.map (·.1)) es.toList 0 k).map (·.2)).getD (.slice none 0 0)
def mapV {α : Type} (kv : κ → Value) (E : World → List α → Value → List Nat → Prop) (m : List (κ × List α)) (l : List α) (v : Value) (b : Nat) : Item:=fun w fp=>mapI kv E m b w fp ∧ ∃ k,zL m k b v w ∧ l = (mget m k).getD []
theorem zL.keep {m : List (κ × α)} {k : κ} (h : zL m k b v w) (hk : Kept (Old w) w w') : zL m k b v w':=by
 obtain ⟨es,c,h1,h2⟩:=h
 exact ⟨es,c,(hk.block b (Array.getElem?_eq_some_iff.1 h1).1).trans h1,h2⟩
end
end Go.Proofs.YtkajmkegelcfjaaGreat
namespace Go.Proofs.YtkajmkegelcfjaaGreat
open Go
section
open Go.RowKit
def upto {α : Type} (f : Nat → α) (k : Nat) : List α:=(List.range k).map f
def KpB (n₀ Bs : Nat) (W W' : World) : Prop:=Below n₀ W W' ∧ W'.heap[Bs]? = W.heap[Bs]?
theorem KpB.trans {n₀ Bs : Nat} {A B C : World} (h : KpB n₀ Bs A B) (k : KpB n₀ Bs B C) : KpB n₀ Bs A C:=⟨h.1.trans k.1,k.2.trans h.2⟩
def backF (zs : List UInt8) (k : Nat) : Int × UInt8:=((zs.length : Int) - 1 - k,(zs[zs.length - 1 - k]?.getD 0))
def Byts (n₀ : Nat) (W : World) (p : Option Addr) (zs : List UInt8) : Prop :=
 zs = [] ∨ ∃ b off,p = some ⟨b,off,none⟩ ∧ b < n₀ ∧ ∀ j,j < zs.length → W.cell? ⟨b,off + j,none⟩ = some (.int .u8 (zs[j]?.getD 0).toNat)
theorem Byts.below {n₀ : Nat} {A B : World} (h : Below n₀ A B) {p : Option Addr} {zs : List UInt8} : Byts n₀ A p zs → Byts n₀ B p zs
 | .inl e=>.inl e
 | .inr ⟨b,off,e,hb,hc⟩=>.inr ⟨b,off,e,hb,fun j hj=>(h.cell (p:=⟨b,off + j,none⟩) hb).trans (hc j hj)⟩
end
end Go.Proofs.YtkajmkegelcfjaaGreat
namespace Go.Proofs.YtkajmkegelcfjaaGreat
open Go
section
variable {P : Program} {St : Nat → Prop} {w0 w : World} {its : List Item} {n : Nat} {a : Act} {e : List (Nat × Value)} {ops : Array Oper} {rest : List Oper} {Q : Exit → Act → World → Prop} {v : Value} {x : Operand} {t ty : TypeId} {pos : String} {af : Array Edge} {g : Option (Nat × Bool)}
theorem BN {α : Type} [Flat α] {l l' : List α} {k : Nat} {seg : List Value} {fp : List Nat} (hO : Ta NoB w l v fp) (hlen : l'.length = l.length) (he : Yu l' = Yj (Yu l) k seg) (hfit : k + seg.length ≤ (Yu l).length) (hne : 0 < l.length) (hc : ∀ v ∈ seg,v.oneCell' = true) :
  (storeCells ⟨sb v,so v + k,none⟩ seg).run P w = .ok () (w.setCells (sb v) (so v + k) seg) ∧ fp = [sb v] ∧ Ta NoB (w.setCells (sb v) (so v + k) seg) l' v [sb v] ∧
   (∃ c T fz,w.heap[sb v]? = some (.cells c T fz) ∧ so v + (Yu l).length ≤ c.size ∧ ∀ i,i < c.size → ¬ (fz.1 ≤ i ∧ i < fz.2)):=by
 obtain ⟨p,cap,rfl,hcap,hO⟩:=hO
 rcases hO with ⟨rfl,_⟩ | ⟨b,o,ecs,fpe,rfl,k1,k2,rfl,k3⟩
 ·omega
 obtain ⟨rfl,rfl⟩:=X8.1 k1
 obtain ⟨c,T,fz,hheap,hsize,hfz⟩:=k3
 have hsb : sb (.slice (some ⟨b,o,none⟩) l.length cap) = b:=rfl
 have hso : so (.slice (some ⟨b,o,none⟩) l.length cap) = o:=rfl
 rw [hsb,hso]
 have hel:=Va l
 have hcl : o + (Yu l).length ≤ c.size:=by
  have h1 : l.length * Flat.n α ≤ cap * Rep.n α:=Nat.mul_le_mul_right _ hcap
  rw [hel]; omega
 have hfit2 : o + k + seg.length ≤ c.size:=by omega
 have hst:=Kr (P:=P) (o:=o + k) (vs:=seg) hheap hfit2 hfz hc
 refine ⟨hst,rfl,⟨some ⟨b,o,none⟩,cap,by rw [hlen],by omega,.inr ⟨b,o,Yu l',[],rfl,X8.2 ⟨rfl,rfl⟩,?_,rfl,?_⟩⟩,c,T,fz,hheap,hcl,hfz⟩
 ·have hh:=XA b T fz seg (o + k) w c hheap hfit2
  intro j vv hv
  have hj:=(List.getElem?_eq_some_iff.1 hv).1
  rw [he,Ve hfit] at hj
  simp only [World.cell?,hh,Option.isSome_none,Bool.false_eq_true,if_false]
  rw [List.getElem?_toArray]
  have hrow : ∀ j,j < (Yu l).length → c.toList[o + j]? = (Yu l)[j]?:=by
   intro j hj
   have:=k2 j _ (List.getElem?_eq_getElem hj)
   simp only [World.cell?,hheap,Option.isSome_none,Bool.false_eq_true,if_false] at this
   rw [List.getElem?_eq_getElem hj]
   simpa using this
  rw [he] at hv
  simp only [Yj] at hv ⊢
  have hclen : o + (Yu l).length ≤ c.toList.length:=by simpa using hcl
  by_cases hj1 : j < k
  ·rw [List.getElem?_append_left (by simp; omega),List.getElem?_take,if_pos hj1] at hv
   rw [List.getElem?_append_left (by simp at hclen ⊢; omega),List.getElem?_take,if_pos (by omega),hrow j hj]
   exact hv
  ·rw [List.getElem?_append_right (by simp; omega)] at hv
   rw [List.getElem?_append_right (by simp; omega)]
   have e1 : (List.take k (Yu l)).length = k:=by simp; omega
   have e2 : (List.take (o + k) c.toList).length = o + k:=by simp at hclen ⊢; omega
   rw [e1] at hv
   rw [e2,show o + j - (o + k) = j - k by omega]
   by_cases hj2 : j - k < seg.length
   ·rw [List.getElem?_append_left hj2] at hv ⊢; exact hv
   ·rw [List.getElem?_append_right (by omega),List.getElem?_drop] at hv ⊢
    rw [show o + k + seg.length + (j - k - seg.length) = o + j by omega,hrow j hj]
    rw [show k + seg.length + (j - k - seg.length) = j by omega] at hv
    exact hv
 ·refine ⟨_,T,fz,XA b T fz seg _ w c hheap hfit2,?_,?_⟩
  ·rw [List.size_toArray,Ve (by simpa using hfit2)]; simpa using hsize
  ·intro j hj
   rw [List.size_toArray,Ve (by simpa using hfit2)] at hj
   exact hfz j (by simpa using hj)
theorem M.setRow (P : Program) {α : Type} [Flat α] {l l' : List α} {k : Nat} {seg : List Value} (hM : M St w0 w (osl NoB l v :: its)) (hlen : l'.length = l.length) (he : Yu l' = Yj (Yu l) k seg) (hfit : k + seg.length ≤ (Yu l).length) (hne : 0 < l.length) (hc : ∀ v ∈ seg,v.oneCell' = true) :
  M St w0 (w.setCells (sb v) (so v + k) seg) (osl NoB l' v :: its):=by
 refine M.turn (new:=[osl NoB l' v]) hM (Yg _ _ _ _).1 (Yg _ _ _ _).2.1 (Yg _ _ _ _).2.2 (by rw [U4]; exact Nat.le_refl _) ?_
 intro fp hfp hlt hnd
 obtain ⟨_,rfl,hO,_⟩:=BN (P:=P) hfp hlen he hfit hne hc
 exact ⟨fun b hb _=>Uy _ _ (by simpa using hb) _ _ _,[sb v],⟨[sb v],[],rfl,QQ noB,hO,rfl⟩,by simp,fun b hb=>.inl hb⟩
def clr {α : Type} (l : List α) (i : Int) (z : α) : Option (List α):=if 0 ≤ i ∧ i < l.length then some (l.take i.toNat ++ List.replicate (l.length - i.toNat) z) else none
theorem yE {α : Type} [Flat α] {z : α} {zv : Value} (hz : Flat.enc z = [zv]) : ∀ m,Yu (List.replicate m z) = List.replicate m zv
 | 0=>rfl
 | m + 1=>by rw [List.replicate_succ,List.replicate_succ]; show Flat.enc z ++ Yu _ = _; rw [hz,yE hz m]; rfl
theorem qd {α : Type} [Flat α] {l l' : List α} {zero : α} {zv : Value} {el : TypeId} {i : Int} (h : Env n a e) (hM : M St w0 w (osl NoB l v :: its)) (hw : Goes ops ⟨none,.call ⟨.builtin .clear,[x].toArray,[t].toArray⟩,ty,pos,af,g⟩ a)
  (hx : opv e x = some (Vh v i.toNat (l.length : Int).toNat 1)) (ht : P.underlying t = some (.slice el)) (hz : ∀ w,(zeroValue el).run P w = .ok zv w) (hzv : Flat.enc zero = [zv]) (hcl : zv.cells = #[zv]) (h1 : zv.oneCell' = true) (hn : Flat.n α = 1) (hl : clr l i zero = some l')
  (k : ∀ w a,M St w0 w (osl NoB l' v :: its) → Env n a e → wpList P ops Q rest a w) : wpList P ops Q (⟨none,.call ⟨.builtin .clear,[x].toArray,[t].toArray⟩,ty,pos,af,g⟩ :: rest) a w:=by
 unfold clr at hl
 split at hl
 ·rename_i hi
  obtain ⟨i,rfl⟩ : ∃ j : Nat,i = j:=⟨i.toNat,by omega⟩
  have hi : i < l.length:=by omega
  obtain rfl:=Option.some.inj hl
  simp only [Int.toNat_natCast] at hx k
  have hel:=Va l
  rw [hn,Nat.mul_one] at hel
  have het : Yu (l.take i) = (Yu l).take i:=by
   have e2 : Yu l = Yu (l.take i) ++ Yu (l.drop i):=by rw [← T6,List.take_append_drop]
   have e3 : (Yu (l.take i)).length = i:=by rw [Va,hn,List.length_take]; omega
   rw [e2,List.take_left' e3]
  have he : Yu (l.take i ++ List.replicate (l.length - i) zero) = Yj (Yu l) i (List.replicate (l.length - i) zv):=by
   rw [T6,yE hzv,het]
   unfold Yj
   rw [List.length_replicate,List.drop_eq_nil_of_le (by omega),List.append_nil]
  have hseg : ∀ v ∈ List.replicate (l.length - i) zv,v.oneCell' = true:=fun u hu=>by rw [List.eq_of_mem_replicate hu]; exact h1
  have hlen : (l.take i ++ List.replicate (l.length - i) zero).length = l.length:=by simp; omega
  have hfit : i + (List.replicate (l.length - i) zv).length ≤ (Yu l).length:=by simp; omega
  obtain ⟨fp0,hfp0,_⟩:=hM.head
  obtain ⟨hr,_,_,c,T,fz,hheap,hsz,hfz⟩:=BN (P:=P) hfp0 hlen he hfit (by omega) hseg
  have hM':=M.setRow P hM hlen he hfit (by omega) hseg
  obtain ⟨p,cap,rfl,hcap,hO⟩:=hfp0
  rcases hO with ⟨rfl,_⟩ | ⟨b,o,ecs,fpe,rfl,k1,k2,rfl,k3⟩
  ·omega
  have hsb : sb (.slice (some ⟨b,o,none⟩) l.length cap) = b:=rfl
  have hso : so (.slice (some ⟨b,o,none⟩) l.length cap) = o:=rfl
  rw [hsb,hso] at hr hM'
  rw [hsb] at hheap; rw [hso] at hsz
  have hx' : opv e x = some (.slice (some ⟨b,o + i,none⟩) (l.length - i) (cap - i)):=by
   rw [hx]
   simp only [Vh,show ¬ cap = i by omega,if_false,Option.map_some,Nat.mul_one,Addr.add_lit]
  have hrun:=Lib.run_clear_slice (P:=P) w t el ty zv ht hz hcl h1 b (o + i) (l.length - i) (cap - i) (by omega) (fun j hj=>by
   have : o + i + j < c.size:=by omega
   simp [World.cell?,hheap,this]) (fun j hj=>by
   simp only [World.frozen?,hheap]
   have:=hfz (o + i + j) (by omega)
   simp only [Bool.and_eq_false_iff,decide_eq_false_iff_not]
   omega)
  have hr2 : (execOp a.eval ⟨none,.call ⟨.builtin .clear,[x].toArray,[t].toArray⟩,ty,pos,af,g⟩).run P w = .ok (.value (.tuple #[])) (w.setCells b (o + i) (List.replicate (l.length - i) zv)):=by
   simp only [execOp,resolve]
   simp [invoke,builtin,h.ev hx',hrun,Result.andThen]
  unfold wpList
  rw [if_pos hw]
  refine .inl ?_
  unfold Oper.wp
  rw [hr2,Oper.upon_value]
  exact k _ _ hM' h
 ·cases hl
end
end Go.Proofs.YtkajmkegelcfjaaGreat
namespace Go.Proofs.YtkajmkegelcfjaaGreat
open Go
section
variable {n : Nat} {a : Act} {e : List (Nat × Value)} {w w' : World} {P : Program} {ops : Array Oper} {rest : List Oper} {Q : Exit → Act → World → Prop}
variable {d : Nat} {ty t : TypeId} {pos : String} {af : Array Edge} {g : Option (Nat × Bool)} {p q : Operand}
theorem s_max {t' : TypeId} {x y : Int} (h : Env n a e) (hw : Goes ops ⟨some d,.call ⟨.builtin .max,[p,q].toArray,[t,t'].toArray⟩,ty,pos,af,g⟩ a) (hd : d < n) (hp : opv e p = some (vI x)) (hq : opv e q = some (vI y))
  (k : ∀ a,Env n a ((d,vI (if y > x then y else x)) :: e) → wpList P ops Q rest a w) : wpList P ops Q (⟨some d,.call ⟨.builtin .max,[p,q].toArray,[t,t'].toArray⟩,ty,pos,af,g⟩ :: rest) a w:=by
 exact Vd h hw rfl hd (by
  simp only [execOp,resolve]
  simp [invoke,builtin,Builtin.max_,Builtin.max2,h.ev hp,h.ev hq]) k
end
section
variable {St : Nat → Prop} {w0 w : World} {its m r : List Item} {mk mk1 mk2 : Mk} {D : Nat → Bool} {u : Nat → Value} {s : Nat} {v : Value} {A B : Item}
theorem tg1 {b : Bool} (h : b = true) : tog b A B = B:=by subst h; rfl
theorem tg0 {b : Bool} (h : b = false) : tog b A B = A:=by subst h; rfl
theorem Ah {i j : Nat} (h : D j = true) : YW D i j = true:=by unfold YW; by_cases e : j = i <;> simp [e,h]
theorem JH {i : Nat} : YW D i i = true:=by simp [YW]
theorem yS {i j : Nat} (h : D j = false) (hne : j ≠ i) : YW D i j = false:=by unfold YW; rw [if_neg hne]; exact h
theorem M.tailP (h : M St w0 w (m ++ r)) : M St w0 w (m ++ [allI St r]):=by
 obtain ⟨h1,h2,fp,h3,h4,h5⟩:=h
 obtain ⟨f,g,rfl,k1,k2⟩:=Wi.split h3
 exact ⟨h1,h2,_,Wi.append k1 (Wi.one qc k2),h4,h5⟩
theorem M.tailU (h : M St w0 w (m ++ [allI St r])) : M St w0 w (m ++ r):=by
 obtain ⟨h1,h2,fp,h3,h4,h5⟩:=h
 obtain ⟨f,g,rfl,k1,g1,g2,rfl,_,k2,e⟩:=Wi.split h3
 cases e
 rw [List.append_nil] at h4 h5
 exact ⟨h1,h2,_,Wi.append k1 k2,h4,h5⟩
theorem M.qS {p : List Nat × (List Bool → List Value → Item)} (h : M St w0 w ((A :: its) ++ qL mk (fun _=>false) u)) (e : ∀ us,p.2 (p.1.map fun _=>false) us = A) : M St w0 w (its ++ qL (p :: mk) (fun _=>false) u):=by
 have h' : M St w0 w (A :: (its ++ qL mk (fun _=>false) u)):=h
 rw [← e (p.1.map u)] at h'
 exact M.push h'
theorem M.qTogS {p : List Nat × (List Bool → List Value → Item)} (h : M St w0 w (B :: (its ++ (qL mk1 D u ++ qL mk2 D u)))) (hi : ((mk1 ++ mk2).all fun p=>p.1.all fun k=>k != s) = true)
  (e : p.2 (p.1.map (YW D s)) (p.1.map (Th u s v)) = B) : M St w0 w (its ++ qL (mk1 ++ p :: mk2) (YW D s) (Th u s v)):=by
 have hne':=noti hi
 rw [zH,KH (fun p hp=>hne' p (List.mem_append_left _ hp)),KH (fun p hp=>hne' p (List.mem_append_right _ hp)),e]
 have h5 : M St w0 w (B :: ((its ++ qL mk1 D u) ++ qL mk2 D u)):=by simpa using h
 simpa using M.push h5
end
section
variable {n : Nat} {a : Act} {e : List (Nat × Value)} {w : World} {P : Program}
theorem zS {fn : Func} {R : Ending → World → Prop} {r1 r2 r3 r4 r5 : ResultVar} {v1 v2 v3 v4 v5 : Value} (hE : Env n a e) (hres : fn.results = #[r1,r2,r3,r4,r5]) (h1 : ZX P w a r1 v1) (h2 : ZX P w a r2 v2) (h3 : ZX P w a r3 v3) (h4 : ZX P w a r4 v4) (h5 : ZX P w a r5 v5)
  (hR : R (.returned (.tuple [v1,v2,v3,v4,v5].toArray)) w) : bodyPost P fn R .ret a w:=by
 refine bodyPost_ret ?_ hE.df hR
 rw [TR,hres]
 simp [Xq h1,Xq h2,Xq h3,Xq h4,Xq h5]
end
class CL (l : List (List Value)) (n : outParam Nat) : Prop where
 h : T9 l = n
instance cl_nil : CL [] 0:=⟨rfl⟩
instance cl_one {v : Value} {r : List (List Value)} {m : Nat} [h : CL r m] : CL ([v] :: r) (1 + m):=⟨by rw [T9,h.h]; rfl⟩
instance cl_enc {α : Type} [Flat α] {x : α} {r : List (List Value)} {m : Nat} [h : CL r m] : CL (Flat.enc x :: r) (Flat.n α + m):=⟨by rw [T9,h.h,Flat.len]⟩
instance cl_cat {l r : List (List Value)} {n m : Nat} [k : CL l n] [h : CL r m] : CL (cat l :: r) (n + m):=⟨by rw [T9,h.h,zB k.h]⟩
theorem ya : ∀ a b : List (List Value),T9 (a ++ b) = T9 a + T9 b
 | [],b=>by simp [T9]
 | c :: a,b=>by rw [List.cons_append,T9,T9,ya a b,Nat.add_assoc]
instance cl_app {a b : List (List Value)} {n m : Nat} [h : CL a n] [k : CL b m] : CL (a ++ b) (n + m):=⟨by rw [ya,h.h,k.h]⟩
theorem ck {l : List (List Value)} {n : Nat} [h : CL l n] : T9 l = n:=h.h
theorem cq {l : List (List Value)} {n : Nat} [h : CL l n] : (cat l).length = n:=zB h.h
theorem kq {P : Program} {l : Array Oper} {w : World} {n t i : Nat} {a : Act} {e : List (Nat × Value)} {v : Value} {ts : List Nat} {G : Value → World → Prop} (h1 : ts[i]? = some t) (hE : Env n a ((t,v) :: e)) (g : G v w) :
  wpList P l (nrm fun a' w'=>Kept (Old w) w w' ∧ ∃ v t,ts[i]? = some t ∧ Env n a' ((t,v) :: e) ∧ G v w') [] a w:=⟨Kept.refl _ _,_,_,h1,hE,g⟩
theorem M.rawAt0 {St : Nat → Prop} {w0 w : World} {b : Nat} {cs : List Value} {r : List Item} (h : M St w0 w (raw b cs :: r)) : At w b 0 cs:=M.rawAt (pre:=[]) h
theorem M.pull1 {St : Nat → Prop} {w0 w : World} {it : Item} {r : List Item} {a0 : Item} (h : M St w0 w (a0 :: it :: r)) : M St w0 w (it :: a0 :: r):=M.pull (pre:=[a0]) h
theorem M.rawAt1 {St : Nat → Prop} {w0 w : World} {b : Nat} {cs : List Value} {r : List Item} {a0 : Item} (h : M St w0 w (a0 :: raw b cs :: r)) : At w b 0 cs:=M.rawAt (pre:=[a0]) h
theorem M.pull2 {St : Nat → Prop} {w0 w : World} {it : Item} {r : List Item} {a0 a1 : Item} (h : M St w0 w (a0 :: a1 :: it :: r)) : M St w0 w (it :: a0 :: a1 :: r):=M.pull (pre:=[a0,a1]) h
theorem M.rawAt2 {St : Nat → Prop} {w0 w : World} {b : Nat} {cs : List Value} {r : List Item} {a0 a1 : Item} (h : M St w0 w (a0 :: a1 :: raw b cs :: r)) : At w b 0 cs:=M.rawAt (pre:=[a0,a1]) h
theorem M.pull3 {St : Nat → Prop} {w0 w : World} {it : Item} {r : List Item} {a0 a1 a2 : Item} (h : M St w0 w (a0 :: a1 :: a2 :: it :: r)) : M St w0 w (it :: a0 :: a1 :: a2 :: r):=M.pull (pre:=[a0,a1,a2]) h
theorem M.rawAt3 {St : Nat → Prop} {w0 w : World} {b : Nat} {cs : List Value} {r : List Item} {a0 a1 a2 : Item} (h : M St w0 w (a0 :: a1 :: a2 :: raw b cs :: r)) : At w b 0 cs:=M.rawAt (pre:=[a0,a1,a2]) h
theorem M.pull4 {St : Nat → Prop} {w0 w : World} {it : Item} {r : List Item} {a0 a1 a2 a3 : Item} (h : M St w0 w (a0 :: a1 :: a2 :: a3 :: it :: r)) : M St w0 w (it :: a0 :: a1 :: a2 :: a3 :: r):=M.pull (pre:=[a0,a1,a2,a3]) h
theorem M.rawAt4 {St : Nat → Prop} {w0 w : World} {b : Nat} {cs : List Value} {r : List Item} {a0 a1 a2 a3 : Item} (h : M St w0 w (a0 :: a1 :: a2 :: a3 :: raw b cs :: r)) : At w b 0 cs:=M.rawAt (pre:=[a0,a1,a2,a3]) h
theorem M.pull5 {St : Nat → Prop} {w0 w : World} {it : Item} {r : List Item} {a0 a1 a2 a3 a4 : Item} (h : M St w0 w (a0 :: a1 :: a2 :: a3 :: a4 :: it :: r)) : M St w0 w (it :: a0 :: a1 :: a2 :: a3 :: a4 :: r):=M.pull (pre:=[a0,a1,a2,a3,a4]) h
theorem M.pull6 {St : Nat → Prop} {w0 w : World} {it : Item} {r : List Item} {a0 a1 a2 a3 a4 a5 : Item} (h : M St w0 w (a0 :: a1 :: a2 :: a3 :: a4 :: a5 :: it :: r)) : M St w0 w (it :: a0 :: a1 :: a2 :: a3 :: a4 :: a5 :: r):=M.pull (pre:=[a0,a1,a2,a3,a4,a5]) h
theorem M.pull7 {St : Nat → Prop} {w0 w : World} {it : Item} {r : List Item} {a0 a1 a2 a3 a4 a5 a6 : Item} (h : M St w0 w (a0 :: a1 :: a2 :: a3 :: a4 :: a5 :: a6 :: it :: r)) : M St w0 w (it :: a0 :: a1 :: a2 :: a3 :: a4 :: a5 :: a6 :: r):=M.pull (pre:=[a0,a1,a2,a3,a4,a5,a6]) h
theorem M.pull8 {St : Nat → Prop} {w0 w : World} {it : Item} {r : List Item} {a0 a1 a2 a3 a4 a5 a6 a7 : Item} (h : M St w0 w (a0 :: a1 :: a2 :: a3 :: a4 :: a5 :: a6 :: a7 :: it :: r)) : M St w0 w (it :: a0 :: a1 :: a2 :: a3 :: a4 :: a5 :: a6 :: a7 :: r):=M.pull (pre:=[a0,a1,a2,a3,a4,a5,a6,a7]) h
abbrev Rt (w0 : World) (x : Value) : Ending → World → Prop:=fun en w'=>∃ v,en = .returned v ∧ (v = x ∧ Kept (Old w0) w0 w')
theorem kr1 {n : Nat} {a : Act} {e : List (Nat × Value)} {w w0 : World} {P : Program} {fn : Func} {t : Nat} {v : Value} (hE : Env n a e) (hres : fn.results = #[.tmp t]) (h : e.lookup t = some v) (hk : Kept (Old w0) w0 w) : bodyPost P fn (Rt w0 v) .ret a w :=
 Z2 hE hres (ZF hE h) ⟨_,rfl,rfl,hk⟩
theorem st23 {Ph : Nat → Oper → Prop} {o0 o1 o2 o3 o4 o5 o6 o7 o8 o9 o10 o11 o12 o13 o14 o15 o16 o17 o18 o19 o20 o21 o22 : Oper} (h0 : Ph 0 o0) (h1 : Ph 1 o1) (h2 : Ph 2 o2) (h3 : Ph 3 o3) (h4 : Ph 4 o4) (h5 : Ph 5 o5) (h6 : Ph 6 o6) (h7 : Ph 7 o7) (h8 : Ph 8 o8) (h9 : Ph 9 o9) (h10 : Ph 10 o10) (h11 : Ph 11 o11) (h12 : Ph 12 o12) (h13 : Ph 13 o13) (h14 : Ph 14 o14) (h15 : Ph 15 o15) (h16 : Ph 16 o16) (h17 : Ph 17 o17) (h18 : Ph 18 o18) (h19 : Ph 19 o19) (h20 : Ph 20 o20) (h21 : Ph 21 o21) (h22 : Ph 22 o22) : ∀ i o,([o0,o1,o2,o3,o4,o5,o6,o7,o8,o9,o10,o11,o12,o13,o14,o15,o16,o17,o18,o19,o20,o21,o22] : List Oper)[i]? = some o → Ph i o:=yj (ZC h0 (ZC h1 (ZC h2 (ZC h3 (ZC h4 (ZC h5 (ZC h6 (ZC h7 (ZC h8 (ZC h9 (ZC h10 (ZC h11 (ZC h12 (ZC h13 (ZC h14 (ZC h15 (ZC h16 (ZC h17 (ZC h18 (ZC h19 (ZC h20 (ZC h21 (ZC h22 zc)))))))))))))))))))))))
theorem gu23 {C : World → Prop} {u0 u1 u2 u3 u4 u5 u6 u7 u8 u9 u10 u11 u12 u13 u14 u15 u16 u17 u18 u19 u20 u21 u22 : Value} : GUp C [(fun v _=>v = u0),(fun v _=>v = u1),(fun v _=>v = u2),(fun v _=>v = u3),(fun v _=>v = u4),(fun v _=>v = u5),(fun v _=>v = u6),(fun v _=>v = u7),(fun v _=>v = u8),(fun v _=>v = u9),(fun v _=>v = u10),(fun v _=>v = u11),(fun v _=>v = u12),(fun v _=>v = u13),(fun v _=>v = u14),(fun v _=>v = u15),(fun v _=>v = u16),(fun v _=>v = u17),(fun v _=>v = u18),(fun v _=>v = u19),(fun v _=>v = u20),(fun v _=>v = u21),(fun v _=>v = u22)]:=(Xp (Xp (Xp (Xp (Xp (Xp (Xp (Xp (Xp (Xp (Xp (Xp (Xp (Xp (Xp (Xp (Xp (Xp (Xp (Xp (Xp (Xp (Xp gupN)))))))))))))))))))))))
theorem cbm {P : Program} {f : Nat} {fn : Func} {c : Code} (h : P.funcs[f]? = some fn) (h2 : (fn.name == "runtime.NumGoroutine") = false := by decide) (h3 : fn.body = some c := by rfl) : Callable P f := ⟨_, _, h, h2, h3⟩
theorem ce {n : Nat} {e : List (Nat × Value)} {P : Program} {w : World} {f : Nat} {fn : Func} {c : Code} {vs : List Value} {R : Ending → World → Prop} (hf : P.funcs[f]? = some fn) (k : ∀ a,Env n a e → c.wp P (bodyPost P fn R) a w)
  (hb : fn.body = some c:=by rfl) (hn : fn.ntmps = n:=by rfl) (hl : vs.length ≤ n:=by exact nbl rfl) (he : HI 0 vs = e:=by rfl) : Calls P f vs.toArray w R:=Zaq hf hb hn hl he k
theorem qm {P : Program} {l : Array Oper} {n d i : Nat} {ts : List Nat} {e0 : List (Nat × Value)} {x : Operand} {v : Value} {ty : TypeId} {pos : String} {af : Array Edge} {G : Value → World → Prop} {C : World → Prop} {H : (Nat → Value) → World → Prop}
  (hx : ∀ u,opv (UP ts 0 u e0) x = some v:=by exact fun _=>rfl) (ht : ts[i]? = some d:=by rfl) (g : ∀ w,G v w:=by exact fun _=>rfl) (hd : d < n:=by decide) :
  ∀ a w (u : Nat → Value),Env n a (UP ts 0 u e0) → C w → H u w → wpList P l (nrm fun a' w'=>Kept (Old w) w w' ∧ ∃ v t,ts[i]? = some t ∧ Env n a' ((t,v) :: UP ts 0 u e0) ∧ G v w') [⟨some d,.move x,ty,pos,af,none⟩] a w :=
 fun _ w u hE _ _=>Zj hE Za hd (hx u) fun _ hE=>kq ht hE (g w)
section
variable {n : Nat} {a : Act} {e : List (Nat × Value)} {w w' : World} {P : Program} {ops : Array Oper} {rest : List Oper} {Q : Exit → Act → World → Prop} {d : Nat} {ty ty' : TypeId} {pos : String} {af : Array Edge} {g : Option (Nat × Bool)} {x y z : Operand} {v : Value}
theorem Zd  (h : Env n a e) (hx : opv e x = some v) (k : ∀ a,Env n a ((d,v) :: e) → wpList P ops Q rest a w) (hd : d < n:=by decide) : wpList P ops Q (⟨some d,.move x,ty,pos,af,none⟩ :: rest) a w :=
 Zj h Za hd hx k
theorem Zc  (h : Env n a e) (hx : opv e x = some v) (k : ∀ a,Env n a ((d,v) :: e) → wpList P ops Q rest a w) (hd : d < n:=by decide) : wpList P ops Q (⟨some d,.assign x,ty,pos,af,none⟩ :: rest) a w :=
 U6 h Za hd hx k
theorem ZW  (h : Env n a e) (hx : opv e x = some (vT true)) (hy : opv e y = some v) (k : ∀ a,Env n a ((d,v) :: e) → wpList P ops Q rest a w) (hd : d < n:=by decide) : wpList P ops Q (⟨some d,.pick x y z,ty,pos,af,none⟩ :: rest) a w :=
 KC h Za hd hx hy k
theorem Z7  (h : Env n a e) (hx : opv e x = some (vT false)) (hz : opv e z = some v) (k : ∀ a,Env n a ((d,v) :: e) → wpList P ops Q rest a w) (hd : d < n:=by decide) : wpList P ops Q (⟨some d,.pick x y z,ty,pos,af,none⟩ :: rest) a w :=
 Bx h Za hd hx hz k
theorem Zl {op : BinOp} {t2 : TypeId} {K : IntKind} {p q : Int} (h : Env n a e) (hx : opv e x = some (.int K p)) (hy : opv e y = some (.int K q)) (hv : Qq op K p q = some v) (k : ∀ a,Env n a ((d,v) :: e) → wpList P ops Q rest a w) (hd : d < n:=by decide) : wpList P ops Q (⟨some d,.binOp op ty' x y t2,ty,pos,af,none⟩ :: rest) a w :=
 Yk h Za hd hx hy hv k
theorem TH {p : Bool} (h : Env n a e) (hx : opv e x = some (vT p)) (k : ∀ a,Env n a ((d,vT (!p)) :: e) → wpList P ops Q rest a w) (hd : d < n:=by decide) : wpList P ops Q (⟨some d,.unOp .not ty' x,ty,pos,af,none⟩ :: rest) a w :=
 Q0 h Za hd hx k
end
section
variable {n : Nat} {a : Act} {e : List (Nat × Value)} {w w' : World} {P : Program} {ops : Array Oper} {rest : List Oper} {Q : Exit → Act → World → Prop} {d : Nat} {ty t : TypeId} {pos : String} {af : Array Edge} {g : Option (Nat × Bool)} {x y : Operand} {v : Value} {St : Nat → Prop} {w0 : World} {its : List Item}
theorem Zs {D : TypeDesc} {sz by_ : Nat} {z : List Value} (h : Env n a e) (hM : M St w0 w its) (ht : Ty P t D sz by_ z) (k : ∀ b w a,M St w0 w (raw b z :: its) → Env n a ((d,ptr b 0) :: e) → wpList P ops Q rest a w) (hd : d < n:=by decide) : wpList P ops Q (⟨some d,.alloc t,ty,pos,af,none⟩ :: rest) a w :=
 Zax h hM Za hd ht k
theorem ZR {D : TypeDesc} {sz by_ : Nat} {z : List Value} {b o : Nat} (h : Env n a e) (hx : opv e x = some (ptr b o)) (ht : Ty P t D sz by_ z) (hD : Q1 D = false) (hA : At w b o [v]) (k : ∀ a,Env n a ((d,v) :: e) → wpList P ops Q rest a w) (hd : d < n:=by decide) : wpList P ops Q (⟨some d,.load t x,ty,pos,af,none⟩ :: rest) a w :=
 Z0 h Za hd hx ht hD hA k
theorem Zk {D : TypeDesc} {sz by_ : Nat} {z : List Value} {b o : Nat} {cs : List Value} (h : Env n a e) (hx : opv e x = some (ptr b o)) (ht : Ty P t D sz by_ z) (hD : Q1 D = true) (hA : At w b o cs) (hl : cs.length = sz) (k : ∀ a,Env n a ((d,.agg cs.toArray) :: e) → wpList P ops Q rest a w) (hd : d < n:=by decide) : wpList P ops Q (⟨some d,.load t x,ty,pos,af,none⟩ :: rest) a w :=
 YE h Za hd hx ht hD hA hl k
theorem ZJ {f off b o : Nat} (h : Env n a e) (hx : opv e x = some (ptr b o)) (hf : Fd P t f off) (k : ∀ a,Env n a ((d,ptr b (o + off)) :: e) → wpList P ops Q rest a w) (hd : d < n:=by decide) : wpList P ops Q (⟨some d,.fieldAddr t x f,ty,pos,af,none⟩ :: rest) a w :=
 ZP h Za hd hx hf k
theorem Zw {N el sz by_ b o : Nat} {z : List Value} {D : TypeDesc} {K : IntKind} {i : Int} (h : Env n a e) (hx : opv e x = some (ptr b o)) (hy : opv e y = some (.int K i)) (ht : P.underlying t = some (.array N el)) (he : Ty P el D sz by_ z) (hi : 0 ≤ i ∧ i < N) (k : ∀ a,Env n a ((d,ptr b (o + i.toNat * sz)) :: e) → wpList P ops Q rest a w) (hd : d < n:=by decide) : wpList P ops Q (⟨some d,.indexAddr t x y,ty,pos,af,none⟩ :: rest) a w :=
 ZA h Za hd hx hy ht he hi k
theorem XM {α : Type} [Rep α] {S : Nat → Prop} {l : List α} {fp : List Nat} {el sz by_ : Nat} {z : List Value} {D : TypeDesc} {K : IntKind} {i : Int} (h : Env n a e) (hx : opv e x = some v) (hy : opv e y = some (.int K i)) (ht : P.underlying t = some (.slice el)) (he : Ty P el D sz by_ z) (hs : Rep.sat S w l [v] fp) (hi : 0 ≤ i ∧ i < l.length) (k : ∀ a,Env n a ((d,ptr (sb v) (so v + i.toNat * sz)) :: e) → wpList P ops Q rest a w) (hd : d < n:=by decide) : wpList P ops Q (⟨some d,.indexAddr t x y,ty,pos,af,none⟩ :: rest) a w :=
 X7 h Za hd hx hy ht he hs hi k
theorem Wm {α : Type} [Rep α] {S : Nat → Prop} {l : List α} {fp : List Nat} {el : TypeId} (h : Env n a e) (hx : opv e x = some v) (ht : P.underlying t = some (.slice el)) (hs : Rep.sat S w l [v] fp) (k : ∀ a,Env n a ((d,vI l.length) :: e) → wpList P ops Q rest a w) (hd : d < n:=by decide) : wpList P ops Q (⟨some d,.call ⟨.builtin .len,[x].toArray,[t].toArray⟩,ty,pos,af,none⟩ :: rest) a w :=
 AE h Za hd hx ht hs k
theorem Zo {f : Nat} {xs : List Operand} {ats : Array TypeId} {vs : List Value} {R : Value → World → Prop} (h : Env n a e) (hxs : KP e xs = some vs) (hf : Callable P f) (hc : Calls P f vs.toArray w fun en w'=>∃ v,en = .returned v ∧ R v w') (k : ∀ v w' a,R v w' → Env n a ((d,v) :: e) → wpList P ops Q rest a w') (hd : d < n:=by decide) : wpList P ops Q (⟨some d,.call ⟨.value (.func f),xs.toArray,ats⟩,ty,pos,af,none⟩ :: rest) a w :=
 YD h Za hd hxs hf hc k
end
end Go.Proofs.YtkajmkegelcfjaaGreat
namespace Go.Proofs.YtkajmkegelcfjaaGreat
open Go
section
variable {n : Nat} {a : Act} {e : List (Nat × Value)} {w w' : World} {P : Program} {ops : Array Oper} {rest : List Oper} {Q : Exit → Act → World → Prop}
variable {d : Nat} {ty t : TypeId} {pos : String} {af : Array Edge} {g : Option (Nat × Bool)} {p q : Operand}
end
def mkU (i : Nat) (A : Item) (f : Value → Item) : List Nat × (List Bool → List Value → Item):=([i],fun bs us=>tog (bs.headD false) A (f (us.headD undef)))
def mkW (s k b : Nat) (z : List Value) (f : Value → List Value) : List Nat × (List Bool → List Value → Item):=([s,k],fun bs us=>tog (bs.headD false) (raw b z) (raw b (f (us.getD 1 undef))))
def chn : List (Bool × Item) → Item
 | []=>Go.Proofs.YtkajmkegelcfjaaGreat.emp
 | (b,x) :: r=>if b = true then x else chn r
def chz : List (Nat × (Value → Item)) → List Bool → List Value → List (Bool × Item)
 | p :: l,b :: bs,v :: us=>(b,p.2 v) :: chz l bs us
 | _,_,_=>[]
def mkN (l : List (Nat × (Value → Item))) : List Nat × (List Bool → List Value → Item):=(l.map (·.1),fun bs us=>chn (chz l bs us))
section
variable {St : Nat → Prop} {w0 w : World} {its pre post : List Item} {mk1 mk2 : Mk} {D : Nat → Bool} {u : Nat → Value} {b : Bool} {A B X : Item} {p : List Nat × (List Bool → List Value → Item)} {r : List (Bool × Item)}
abbrev Off (D : Nat → Bool) (l : List (Nat × (Value → Item))) : Prop:=∀ p ∈ l,D p.1 = false
end
end Go.Proofs.YtkajmkegelcfjaaGreat
namespace Go.Proofs.YtkajmkegelcfjaaGreat
open Go
inductive Ent where
 | p0 (v : Value)
 | pl (ds : List Nat) (f : List Value → Value)
 | mk (pr : Value → Prop)
def Ent.g : Ent → List Nat × (List Value → Value → Prop)
 | .p0 x=>([],fun _ v=>v = x)
 | .pl ds f=>(ds,fun us v=>v = f us)
 | .mk pr=>([],fun _ v=>pr v)
def Ent.v (u : Nat → Value) (j : Nat) : Ent → Value
 | .p0 x=>x
 | .pl ds f=>f (ds.map u)
 | .mk _=>u j
def Ent.p (u : Nat → Value) (j t : Nat) : Ent → Nat × Value
 | .p0 x=>(t,x)
 | .pl ds f=>(t,f (ds.map u))
 | .mk _=>(t,u j)
theorem Ent.p_eq {u : Nat → Value} {j t : Nat} : ∀ {x : Ent},x.p u j t = (t,x.v u j)
 | .p0 _=>rfl
 | .pl _ _=>rfl
 | .mk _=>rfl
def HE (ts : List Nat) (i : Nat) (acc : List Ent) (u : Nat → Value) : List Edge → List (Nat × Value)
 | []=>[]
 | e :: r=>cond (Region.binds .any e && decide (e.on < i)) (match ts[e.on]?,acc[i - 1 - e.on]? with
   | some t,some x=>x.p u e.on t :: HE ts i acc u r
   | _,_=>HE ts i acc u r) (HE ts i acc u r)
def AB (ts : List Nat) (u : Nat → Value) : List Ent → Nat → List (Nat × Value)
 | x :: F,i + 1=>(match ts[i]? with | some t=>x.p u i t | none=>(0,undef)) :: AB ts u F i
 | _,_=>[]
theorem yx {ts : List Nat} {i : Nat} {acc : List Ent} {u : Nat → Value} : ∀ {es : List Edge} {p : Nat × Value},p ∈ HE ts i acc u es → ∃ e ∈ es,Region.binds .any e = true ∧ e.on < i ∧ ∃ x,ts[e.on]? = some p.1 ∧ acc[i - 1 - e.on]? = some x ∧ p.2 = x.v u e.on
 | [],p,h=>by cases h
 | e :: r,p,h=>by
  have tl : p ∈ HE ts i acc u r → ∃ e' ∈ e :: r,Region.binds .any e' = true ∧ e'.on < i ∧ ∃ x,ts[e'.on]? = some p.1 ∧ acc[i - 1 - e'.on]? = some x ∧ p.2 = x.v u e'.on:=fun h=>by
   obtain ⟨e',h1,h2⟩:=yx h
   exact ⟨e',by simp [h1],h2⟩
  unfold HE at h
  cases hb : (Region.binds .any e && decide (e.on < i))
  ·rw [hb] at h; exact tl h
  ·rw [hb] at h
   simp only [cond_true] at h
   simp only [Bool.and_eq_true,decide_eq_true_eq] at hb
   split at h
   ·rename_i t x h1 h2
    rcases List.mem_cons.1 h with rfl | h
    ·rw [Ent.p_eq]
     exact ⟨e,by simp,hb.1,hb.2,x,h1,h2,rfl⟩
    ·exact tl h
   ·exact tl h
theorem Ab {l : List (Nat × Value)} {s : Nat} {x : Value} (h : l.lookup s = some x) : (s,x) ∈ l:=by
 induction l with
 | nil=>cases h
 | cons p l ih =>
  obtain ⟨t,v⟩:=p
  rw [List.lookup_cons] at h
  by_cases hst : s = t
  ·subst hst; simp at h; subst h; simp
  ·rw [show (s == t) = false by simpa using hst] at h
   exact List.mem_cons_of_mem _ (ih h)
theorem JI {X Y : List (Nat × Value)} {s : Nat} : (X ++ Y).lookup s = match X.lookup s with | some x=>some x | none=>Y.lookup s:=by
 induction X with
 | nil=>rfl
 | cons p X ih =>
  obtain ⟨t,v⟩:=p
  rw [List.cons_append,List.lookup_cons,List.lookup_cons]
  cases (s == t)
  ·exact ih
  ·rfl
theorem Env.pre {n : Nat} {a : Act} {X Y : List (Nat × Value)} (h : Env n a Y) (hX : ∀ p ∈ X,Y.lookup p.1 = some p.2) : Env n a (X ++ Y):=by
 refine ⟨h.sz,h.df,fun s v hs=>?_⟩
 rw [JI] at hs
 cases hx : X.lookup s with
 | none=>rw [hx] at hs; exact h.get s v hs
 | some x =>
  rw [hx] at hs
  cases hs
  exact h.get s v (hX _ (Ab hx))
theorem Env.unpre {n : Nat} {a : Act} {X Y : List (Nat × Value)} {t : Nat} {v : Value} (h : Env n a ((t,v) :: (X ++ Y))) (hX : ∀ p ∈ X,Y.lookup p.1 = some p.2) : Env n a ((t,v) :: Y):=by
 refine ⟨h.sz,h.df,fun s x hs=>h.get s x ?_⟩
 rw [List.lookup_cons] at hs ⊢
 cases hst : (s == t)
 ·rw [hst] at hs
  simp only at hs ⊢
  rw [JI]
  cases hx : X.lookup s with
  | none=>exact hs
  | some y =>
   have:=hX _ (Ab hx)
   simp only at this
   rw [this] at hs
   exact hs
 ·rw [hst] at hs; exact hs
theorem Jd {P : Program} {ops : Array Oper} {o : Oper} {X Y : Act → World → Prop} {a : Act} {w : World} (h : wpList P ops (nrm X) [o] a w) (hXY : ∀ a w,X a w → Y a w) : wpList P ops (nrm Y) [o] a w:=by
 unfold wpList at h ⊢
 split
 ·rename_i hw
  rw [if_pos hw] at h
  rcases h with h | ⟨_,a',w',h⟩
  ·exact .inl (Oper.wp_mono2 (fun _ _ h=>hXY _ _ h) (fun _ _ _ h=>h.elim) (fun ⟨_,_,h⟩=>h.elim) h)
  ·exact h.elim
 ·rename_i hw
  rw [if_neg hw] at h
  exact hXY _ _ h
structure QC (n : Nat) (ts : List Nat) (e0 : List (Nat × Value)) (St : Nat → Prop) (w0 : World) (its : List Item) (mk : Mk) (hd : List Oper) (i : Nat) (acc : List Ent) (o : Oper) (a : Act) (w : World) (u : Nat → Value) (D : Nat → Bool) : Prop where
 E : Env n a (HE ts i acc u o.after.toList ++ UP ts 0 u e0)
 M : M St w0 w (its ++ qL mk D u)
 G : GOk (acc.reverse.map Ent.g) D u
 F : D i = false
 c : ∀ (j : Nat) (p : Oper) (e : Edge),hd[j]? = some p → e ∈ p.after.toList → Region.binds .any e = true → D j = true → D e.on = true
 p : ∀ (k : Nat) (e : Edge),o.after.toList[k]? = some e → Region.binds .any e = true → D e.on = true
section
variable (P : Program) (ops : Array Oper) (n : Nat) (ts : List Nat) (e0 : List (Nat × Value)) (St : Nat → Prop) (w0 : World) (its : List Item) (mk : Mk) (hd : List Oper)
def QOk (i : Nat) (acc : List Ent) (o : Oper) (x : Ent) : Prop :=
 ∀ a w (u : Nat → Value) (D : Nat → Bool),QC n ts e0 St w0 its mk hd i acc o a w u D → wpList P ops (nrm fun a' w'=>∃ v t,ts[i]? = some t ∧ Env n a' ((t,v) :: (HE ts i acc u o.after.toList ++ UP ts 0 u e0)) ∧
  ((∀ k ∈ x.g.1,D k = true) ∧ x.g.2 (x.g.1.map u) v) ∧ M St w0 w' (its ++ qL mk (YW D i) (Th u i v))) [o] a w
def QS : Nat → List Oper → List Ent → List Ent → Prop
 | _,[],acc,F=>F = acc
 | i,o :: r,acc,F=>∃ x,QOk P ops n ts e0 St w0 its mk hd i acc o x ∧ QS (i + 1) r (x :: acc) F
end
section
variable {P : Program} {ops : Array Oper} {n : Nat} {ts : List Nat} {e0 : List (Nat × Value)} {St : Nat → Prop} {w0 : World} {its : List Item} {mk : Mk} {hd : List Oper} {i : Nat} {acc F : List Ent} {o : Oper} {r : List Oper}
theorem QS.pre : ∀ {r : List Oper} {i : Nat} {acc F : List Ent},acc.length = i → QS P ops n ts e0 St w0 its mk hd i r acc F → F.length = i + r.length ∧ F.drop r.length = acc ∧ ∀ k o,r[k]? = some o → ∃ x,F.reverse[i + k]? = some x ∧ ∃ A,A.reverse = F.reverse.take (i + k) ∧ A.length = i + k ∧ QOk P ops n ts e0 St w0 its mk hd (i + k) A o x
 | [],i,acc,F,hi,h=>by
  obtain rfl : F = acc:=h
  exact ⟨by simpa using hi,by simp,fun i o h=>by simp at h⟩
 | p :: r,i,acc,F,hi,⟨x,h1,h2⟩=>by
  obtain ⟨k1,k2,k3⟩:=QS.pre (by simp [hi]) h2
  have hrev : F.reverse.take (i + 1) = acc.reverse ++ [x]:=by
   have : F.reverse = (F.drop r.length).reverse ++ (F.take r.length).reverse:=by rw [← List.reverse_append,List.take_append_drop]
   rw [this,k2,List.reverse_cons,List.take_append_of_le_length (by simp [hi])]
   rw [List.take_of_length_le (by simp [hi])]
  refine ⟨by simp only [List.length_cons]; omega,?_,fun k o hk=>?_⟩
  ·have:=congrArg (List.drop 1) k2
   rw [List.drop_drop] at this
   simpa [Nat.add_comm] using this
  ·cases k with
   | zero =>
    simp at hk; subst hk
    refine ⟨x,?_,acc,?_,by simpa using hi,h1⟩
    ·have h5 : (F.reverse.take (i + 1))[i]? = some x:=by rw [hrev,List.getElem?_append_right (by simp [hi])]; simp [hi]
     rw [List.getElem?_take_of_lt (by omega)] at h5
     simpa using h5
    ·have h6:=congrArg (List.take i) hrev
     rw [List.take_take,Nat.min_eq_left (by omega)] at h6
     rw [Nat.add_zero,h6,List.take_append_of_le_length (by simp [hi])]
     exact (List.take_of_length_le (by simp [hi])).symm
   | succ k =>
    obtain ⟨y,h3,h4⟩:=k3 k o (by simpa using hk)
    have e : i + (k + 1) = i + 1 + k:=by omega
    rw [e]
    exact ⟨y,h3,h4⟩
theorem qs0 : QS P ops n ts e0 St w0 its mk hd i [] acc acc:=rfl
theorem qsP {v : Value} (h : ∀ {a w} {u : Nat → Value} {D : Nat → Bool},QC n ts e0 St w0 its mk hd i acc o a w u D → wpList P ops (nrm fun a' w'=>Kept (Old w) w w' ∧ ∃ t,ts[i]? = some t ∧ Env n a' ((t,v) :: (HE ts i acc u o.after.toList ++ UP ts 0 u e0))) [o] a w)
  (k : QS P ops n ts e0 St w0 its mk hd (i + 1) r (.p0 v :: acc) F) (hi : (mk.all fun p=>p.1.all fun k=>k != i) = true:=by rfl) : QS P ops n ts e0 St w0 its mk hd i (o :: r) acc F:=by
 refine ⟨.p0 v,fun a w u D x=>Jd (h x) ?_,k⟩
 rintro a' w' ⟨hK,t,ht,hE⟩
 exact ⟨v,t,ht,hE,⟨(fun k h=>by cases h),rfl⟩,M.qKeep (x.M.keep hK) hi⟩
theorem qsD {ds : List Nat} {f : List Value → Value} (h : ∀ {a w} {u : Nat → Value} {D : Nat → Bool},QC n ts e0 St w0 its mk hd i acc o a w u D → wpList P ops (nrm fun a' w'=>Kept (Old w) w w' ∧ (∀ k ∈ ds,D k = true) ∧ ∃ t,ts[i]? = some t ∧ Env n a' ((t,f (ds.map u)) :: (HE ts i acc u o.after.toList ++ UP ts 0 u e0))) [o] a w)
  (k : QS P ops n ts e0 St w0 its mk hd (i + 1) r (.pl ds f :: acc) F) (hi : (mk.all fun p=>p.1.all fun k=>k != i) = true:=by rfl) : QS P ops n ts e0 St w0 its mk hd i (o :: r) acc F:=by
 refine ⟨.pl ds f,fun a w u D x=>Jd (h x) ?_,k⟩
 rintro a' w' ⟨hK,hd',t,ht,hE⟩
 exact ⟨_,t,ht,hE,⟨hd',rfl⟩,M.qKeep (x.M.keep hK) hi⟩
theorem qsM {pr : Value → Prop} (h : ∀ {a w} {u : Nat → Value} {D : Nat → Bool},QC n ts e0 St w0 its mk hd i acc o a w u D → wpList P ops (nrm fun a' w'=>∃ v t,ts[i]? = some t ∧ Env n a' ((t,v) :: (HE ts i acc u o.after.toList ++ UP ts 0 u e0)) ∧ M St w0 w' (its ++ qL mk (YW D i) (Th u i v)) ∧ pr v) [o] a w)
  (k : QS P ops n ts e0 St w0 its mk hd (i + 1) r (.mk pr :: acc) F) : QS P ops n ts e0 St w0 its mk hd i (o :: r) acc F:=by
 refine ⟨.mk pr,fun a w u D x=>Jd (h x) ?_,k⟩
 rintro a' w' ⟨v,t,ht,hE,hM,hp⟩
 exact ⟨v,t,ht,hE,⟨(fun k h=>by cases h),hp⟩,hM⟩
theorem qsV {v : Value} (h : ∀ {a w} {u : Nat → Value} {D : Nat → Bool},QC n ts e0 St w0 its mk hd i acc o a w u D → wpList P ops (nrm fun a' w'=>∃ t,ts[i]? = some t ∧ Env n a' ((t,v) :: (HE ts i acc u o.after.toList ++ UP ts 0 u e0)) ∧ M St w0 w' (its ++ qL mk (YW D i) (Th u i v))) [o] a w)
  (k : QS P ops n ts e0 St w0 its mk hd (i + 1) r (.p0 v :: acc) F) : QS P ops n ts e0 St w0 its mk hd i (o :: r) acc F:=by
 refine ⟨.p0 v,fun a w u D x=>Jd (h x) ?_,k⟩
 rintro a' w' ⟨t,ht,hE,hM⟩
 exact ⟨v,t,ht,hE,⟨(fun k h=>by cases h),rfl⟩,hM⟩
theorem Ent.eq {x : Ent} {u : Nat → Value} {j : Nat} (h : x.g.2 (x.g.1.map u) (u j)) : u j = x.v u j:=by
 cases x with
 | p0 v=>exact h
 | pl ds f=>exact h
 | mk pr=>rfl
theorem Env.setq {a : Act} {e : List (Nat × Value)} {t : Nat} {x y : Value} (h : Env n a e) (hl : e.lookup t = some x) (hq : x = y) : Env n a ((t,y) :: e):=by
 subst hq
 exact Env.pre (X:=[(t,x)]) h fun p hp=>by
  simp only [List.mem_singleton] at hp
  subst hp; exact hl
theorem yy {u : Nat → Value} {s : Nat} {y : Value} : ∀ {F : List Ent} {m : Nat},m ≤ ts.length → F.length = m → (s,y) ∈ AB ts u F m → ∃ (i : Nat) (x : Ent),ts[i]? = some s ∧ F.reverse[i]? = some x ∧ y = x.v u i
 | [],m,_,hl,h=>by simp [AB] at h
 | x :: F,0,_,hl,h=>by simp at hl
 | x :: F,m + 1,hm,hl,h=>by
  rw [AB] at h
  have ht : ts[m]? = some ts[m]:=List.getElem?_eq_getElem (by omega)
  rw [ht] at h
  have hFl : F.length = m:=by simpa using hl
  rcases List.mem_cons.1 h with h | h
  ·simp only at h
   rw [Ent.p_eq] at h
   cases h
   refine ⟨m,x,ht,?_,rfl⟩
   rw [List.reverse_cons,List.getElem?_append_right (by simp [hFl])]
   simp [hFl]
  ·obtain ⟨i,z,h1,h2,h3⟩:=yy (by omega) hFl h
   refine ⟨i,z,h1,?_,h3⟩
   have:=(List.getElem?_eq_some_iff.1 h2).1
   rw [List.reverse_cons,List.getElem?_append_left this]
   exact h2
theorem AX {u : Nat → Value} {s : Nat} : ∀ {F : List Ent} {m : Nat},m ≤ ts.length → F.length = m → (AB ts u F m).lookup s = none → ∀ i,i < m → ts[i]? ≠ some s
 | [],m,_,hl,_=>fun i hi=>by simp at hl; omega
 | x :: F,0,_,hl,_=>by simp at hl
 | x :: F,m + 1,hm,hl,hn=>fun i hi hs=>by
  rw [AB] at hn
  have ht : ts[m]? = some ts[m]:=List.getElem?_eq_getElem (by omega)
  rw [ht] at hn
  simp only at hn
  rw [Ent.p_eq,List.lookup_cons] at hn
  by_cases hst : s = ts[m]
  ·rw [show (s == ts[m]) = true by simpa using hst] at hn; cases hn
  ·rw [show (s == ts[m]) = false by simpa using hst] at hn
   by_cases him : i = m
   ·subst him; rw [ht] at hs; exact hst (by simpa using hs.symm)
   ·exact AX (by omega) (by simpa using hl) hn i (by omega) hs
theorem Env.fin {a : Act} {u : Nat → Value} (h : Env n a (AB ts u F ts.length ++ UP ts 0 u e0)) (hl : F.length = ts.length) : Env n a (AB ts u F ts.length ++ e0):=by
 refine ⟨h.sz,h.df,fun s v hs=>h.get s v ?_⟩
 rw [JI] at hs ⊢
 cases hx : (AB ts u F ts.length).lookup s with
 | some x=>rw [hx] at hs; exact hs
 | none =>
  rw [hx] at hs
  simp only at hs ⊢
  rw [Ai ts 0 s u e0 (fun hm=>by
   obtain ⟨i,hi⟩:=List.mem_iff_getElem?.1 hm
   exact AX (Nat.le_refl _) hl hx i (List.getElem?_eq_some_iff.1 hi).1 hi)]
  exact hs
theorem Wk {id : Nat} {Q : Exit → Act → World → Prop} {a : Act} {w : World} (ts : List Nat)
  (hm : P.follows .mixedOrders = true) (hE : Kv ops.toList 0 = true) (hT : zd ops.toList ts.length = true) (hn : ts.Nodup) (hlen : Nat.ble ts.length ops.toList.length = true)
  (h0 : Env n a e0) (hM0 : ∀ u,M St w0 w.drew (its ++ qL mk (fun _=>false) u))
  (hS : QS P ops n ts e0 St w0 its mk (ops.toList.take ts.length) 0 (ops.toList.take ts.length) [] F)
  (htail : ∀ a w u D,Env n a (AB ts u F ts.length ++ e0) → M St w0 w (its ++ qL mk D u) → GOk (F.reverse.map Ent.g) D u → (∀ j,j < ts.length → D j = true) → wpList P ops Q (ops.toList.drop ts.length) a w) :
  (Code.region id ops true).wp P Q a w:=by
 have hops : (ops.toList.take ts.length ++ ops.toList.drop ts.length).toArray = ops:=by rw [List.take_append_drop,Array.toArray_toList]
 have hl : ops.toList.take ts.length ++ ops.toList.drop ts.length = ops.toList:=List.take_append_drop _ _
 obtain ⟨k1,_,k3⟩:=QS.pre (acc:=[]) (i:=0) rfl hS
 simp only [Nat.zero_add] at k1 k3
 have hlen:=Nat.le_of_ble_eq_true hlen
 have hhl : (ops.toList.take ts.length).length = ts.length:=by rw [List.length_take,Nat.min_eq_left hlen]
 have key:=Zad (P:=P) (id:=id) (hd:=ops.toList.take ts.length) (tl:=ops.toList.drop ts.length) (Q:=Q) (a:=a) (w:=w) (n:=n) (e0:=e0) hm (by rw [hl]; exact hE) (by rw [hl,hhl]; exact hT) ts hn
  (fun D u w=>M St w0 w (its ++ qL mk D u) ∧ GOk (F.reverse.map Ent.g) D u) h0 (fun u=>⟨hM0 u,gok0⟩) ?_ ?_
 ·rw [hops] at key; exact key
 ·intro i o hi a w u D hEnv hI hD hdc hp
  rw [hops]
  obtain ⟨x,hx,A,hA,hAl,hok⟩:=k3 i o hi
  have hat : ∀ j,j < i → ∀ y,A[i - 1 - j]? = some y → F.reverse[j]? = some y:=fun j hj y hy=>by
   have h5 : A.reverse[j]? = some y:=by
    rw [List.getElem?_reverse (by omega),hAl]
    rw [← hy]
   rw [hA,List.getElem?_take_of_lt (by omega)] at h5
   exact h5
  have hX : ∀ p ∈ HE ts i A u o.after.toList,(UP ts 0 u e0).lookup p.1 = some p.2:=by
   intro p hp'
   obtain ⟨e,he,hb,hei,y,h1,h2,h3⟩:=yx hp'
   obtain ⟨k,hk⟩:=List.mem_iff_getElem?.1 he
   have hDe:=hp k e hk hb
   have h6:=(hI.2 e.on hDe y.g (by rw [List.getElem?_map,hat e.on hei y h2]; rfl)).2
   rw [Hr ts 0 e.on p.1 u e0 hn h1,h3,Nat.zero_add,Ent.eq h6]
  refine Jd (hok a w u D ⟨hEnv.pre hX,hI.1,?_,hD,hdc,hp⟩) ?_
  ·intro j hj g hg
   refine hI.2 j hj g ?_
   rw [List.getElem?_map] at hg ⊢
   rw [hA] at hg
   cases hz : (F.reverse.take i)[j]? with
   | none=>rw [hz] at hg; cases hg
   | some z =>
    have h5:=(List.getElem?_eq_some_iff.1 hz).1
    have h6 : j < i:=by simp at h5; omega
    rw [hz] at hg
    rw [List.getElem?_take_of_lt h6] at hz
    rw [hz]
    exact hg
  ·rintro a' w' ⟨v,t,ht,hE',hg,hM'⟩
   exact ⟨v,t,ht,hE'.unpre hX,hM',hI.2.upd hD fun g hgi=>by
    rw [List.getElem?_map,hx] at hgi
    cases hgi
    exact hg⟩
 ·intro a w u D hEnv hI hall
  rw [hops]
  rw [hhl] at hall
  have hFl : F.length = ts.length:=by rw [k1,hhl]
  refine htail a w u D ((hEnv.pre ?_).fin hFl) hI.1 hI.2 hall
  rintro ⟨s,y⟩ hs
  obtain ⟨i,x,h1,h2,h3⟩:=yy (Nat.le_refl _) hFl hs
  have hil:=(List.getElem?_eq_some_iff.1 h1).1
  have h6:=(hI.2 i (hall i hil) x.g (by rw [List.getElem?_map,h2]; rfl)).2
  rw [Hr ts 0 i s u e0 hn h1,h3,Nat.zero_add]
  simp only
  rw [Ent.eq h6]
theorem Yl {id : Nat} {Q : Exit → Act → World → Prop} {a : Act} {w : World} (ts : List Nat)
  (hm : P.follows .mixedOrders = true) (hE : Kv ops.toList 0 = true) (hT : zd ops.toList ts.length = true) (hn : ts.Nodup) (hlen : Nat.ble ts.length ops.toList.length = true)
  (h0 : Env n a e0) (hM : M St w0 w its)
  (hS : QS P ops n ts e0 St w0 its [] (ops.toList.take ts.length) 0 (ops.toList.take ts.length) [] F)
  (htail : ∀ a w u,Env n a (AB ts u F ts.length ++ e0) → M St w0 w its → wpList P ops Q (ops.toList.drop ts.length) a w) :
  (Code.region id ops true).wp P Q a w :=
 Wk ts hm hE hT hn hlen h0 (fun u=>M.q0 hM.drew u) hS fun a w u D hE hM _ _=>htail a w u hE (by simpa [qL] using hM)
end
theorem VH {hd : List Oper} {D : Nat → Bool} {j k : Nat} {p : Oper} {e : Edge} (c : ∀ (j : Nat) (p : Oper) (e : Edge),hd[j]? = some p → e ∈ p.after.toList → Region.binds .any e = true → D j = true → D e.on = true) (hj : hd[j]? = some p) (he : p.after.toList[k]? = some e) (hb : Region.binds .any e = true) (h : D e.on = false) : D j = false :=
 Bool.eq_false_iff.2 fun hx=>Bool.noConfusion (h.symm.trans (c j p e hj (List.mem_of_getElem? he) hb hx))
section
variable {St : Nat → Prop} {w0 w : World} {its pre post : List Item}
theorem M.openCellT {a b : Bool} {v : Value} {z c : List Value} (h : M St w0 w (pre ++ J8 a b v z c :: post)) (ha : a = true) (hb : b = true) : ∃ b',v = ptr b' 0 ∧ M St w0 w (raw b' c :: (pre ++ post)):=by
 have:=M.openCell h ha
 subst hb
 exact this
theorem M.openCellF {a b : Bool} {v : Value} {z c : List Value} (h : M St w0 w (pre ++ J8 a b v z c :: post)) (ha : a = true) (hb : b = false) : ∃ b',v = ptr b' 0 ∧ M St w0 w (raw b' z :: (pre ++ post)):=by
 have:=M.openCell h ha
 subst hb
 exact this
def SatI {α : Type} [Rep α] (it : Item) (l : List α) (u : Value) : Prop:=∀ w fp,it w fp → Rep.sat NoB w l [u] fp
end
theorem kr0 {P : Program} {l : Array Oper} {w : World} {n t : Nat} {e : List (Nat × Value)} {v : Value} {ti : Option Nat} (h1 : ti = some t) :
  ∀ a,Env n a ((t,v) :: e) → wpList P l (nrm fun a' w'=>Kept (Old w) w w' ∧ ∃ t,ti = some t ∧ Env n a' ((t,v) :: e)) [] a w:=fun _ hE=>⟨Kept.refl _ _,_,h1,hE⟩
theorem kc {P : Program} {l : Array Oper} {w : World} {n t : Nat} {e : List (Nat × Value)} {x : Value} {ti : Option Nat} (h1 : ti = some t) :
  ∀ v w' a,(v = x ∧ Kept (Old w) w w') → Env n a ((t,v) :: e) → wpList P l (nrm fun a' w'=>Kept (Old w) w w' ∧ ∃ t,ti = some t ∧ Env n a' ((t,x) :: e)) [] a w':=fun _ _ _ ⟨hv,hK⟩ hE=>⟨hK,_,h1,hv ▸ hE⟩
section
variable {n : Nat} {a : Act} {e : List (Nat × Value)} {w : World} {P : Program} {ops : Array Oper} {rest : List Oper} {Q : Exit → Act → World → Prop} {d : Nat} {ty t : TypeId} {pos : String} {af : Array Edge} {g : Option (Nat × Bool)} {x : Operand}
theorem Ku {src dst : TypeId} {p : UInt8} {D : TypeDesc} (h : Env n a e) (hw : Goes ops ⟨some d,.convert src dst x,ty,pos,af,g⟩ a) (hd : d < n) (hx : opv e x = some (vB p))
  (hs : P.underlying src = some D) (ht : P.underlying dst = some (.int .i64)) (k : ∀ a,Env n a ((d,vI (bI p)) :: e) → wpList P ops Q rest a w) : wpList P ops Q (⟨some d,.convert src dst x,ty,pos,af,g⟩ :: rest) a w :=
 Q4 h hw hd hx hs ht fun a hE=>by rw [jO] at hE; exact k a hE
theorem jj {src dst : TypeId} {p : UInt8} {D : TypeDesc} (h : Env n a e) (hw : Goes ops ⟨some d,.convert src dst x,ty,pos,af,g⟩ a) (hd : d < n) (hx : opv e x = some (vB p))
  (hs : P.underlying src = some D) (ht : P.underlying dst = some (.int .u64)) (k : ∀ a,Env n a ((d,.int .u64 (bI p)) :: e) → wpList P ops Q rest a w) : wpList P ops Q (⟨some d,.convert src dst x,ty,pos,af,g⟩ :: rest) a w :=
 Q4 h hw hd hx hs ht fun a hE=>by rw [y2] at hE; exact k a hE
theorem YX {src dst : TypeId} {J : IntKind} {p : Int} {D : TypeDesc} (h : Env n a e) (hw : Goes ops ⟨some d,.convert src dst x,ty,pos,af,g⟩ a) (hd : d < n) (hx : opv e x = some (.int J p))
  (hs : P.underlying src = some D) (ht : P.underlying dst = some (.int .u8)) (k : ∀ a,Env n a ((d,vB (ZH p)) :: e) → wpList P ops Q rest a w) : wpList P ops Q (⟨some d,.convert src dst x,ty,pos,af,g⟩ :: rest) a w :=
 Q4 h hw hd hx hs ht fun a hE=>by rw [HJ] at hE; exact k a hE
end
end Go.Proofs.YtkajmkegelcfjaaGreat
namespace Go.Proofs.YtkajmkegelcfjaaGreat
open Go
section
variable {α : Type} [Rep α] {S St : Nat → Prop} {w w' w0 : World} {l : List α} {v : Value} {i : Nat} {x : α} {cs : List Value} {its pre post : List Item}
end
section
variable {n : Nat} {a : Act} {e : List (Nat × Value)} {w w' : World} {P : Program} {ops : Array Oper} {rest : List Oper} {Q : Exit → Act → World → Prop}
variable {d : Nat} {ty t : TypeId} {pos : String} {af : Array Edge} {g : Option (Nat × Bool)} {x y : Operand} {v u : Value}
variable {St : Nat → Prop} {w0 : World} {its pre post : List Item}
end
theorem k_ret6 {n : Nat} {a : Act} {e : List (Nat × Value)} {w : World} {P : Program} {fn : Func} {R : Ending → World → Prop} {r1 r2 r3 r4 r5 r6 : ResultVar} {v1 v2 v3 v4 v5 v6 : Value} (hE : Env n a e) (hres : fn.results = #[r1,r2,r3,r4,r5,r6]) (h1 : ZX P w a r1 v1) (h2 : ZX P w a r2 v2) (h3 : ZX P w a r3 v3) (h4 : ZX P w a r4 v4) (h5 : ZX P w a r5 v5) (h6 : ZX P w a r6 v6)
  (hR : R (.returned (.tuple [v1,v2,v3,v4,v5,v6].toArray)) w) : bodyPost P fn R .ret a w:=by
 refine bodyPost_ret ?_ hE.df hR
 rw [TR,hres]
 simp [Xq h1,Xq h2,Xq h3,Xq h4,Xq h5,Xq h6]
end Go.Proofs.YtkajmkegelcfjaaGreat
