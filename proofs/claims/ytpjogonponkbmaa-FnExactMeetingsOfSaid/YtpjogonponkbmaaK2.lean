/- The walk library: what this claim needs of it. -/
import Derived.Test.YtpjogonponkbmaaK1
set_option linter.unusedVariables false
set_option linter.unusedSimpArgs false
set_option linter.unusedSectionVars false
namespace Go.Proofs.Ytpjogonponkbmaa
open Go

abbrev FillA (sz : Nat) (z : List Value) (parts : List (Nat × Value)) (cs : List Value) : Prop:=Instr.fill (fun i=>some (i * sz,sz)) z.toArray parts = some cs.toArray
theorem Yr {sz : Nat} {z : List Value} : FillA sz z [] z:=rfl
theorem TU {α : Type} [Flat α] {N : Nat} {v : Vector α N} {rest : List (Nat × Value)} {i : Nat} {u : Value} {x : α} {cs : List Value} {sz : Nat}
  (hs : sz = Flat.n α) (hi : i < N) (hv : u.cells.toList = Flat.enc x) (hr : FillA sz (Flat.enc (v.setIfInBounds i x)) rest cs) : FillA sz (Flat.enc v) ((i,u) :: rest) cs:=by
 subst hs
 have hi' : (0 : Int) ≤ (i : Int) ∧ (i : Int) < N:=⟨by omega,by omega⟩
 have hus : u.cells.size = Flat.n α:=by
  have:=congrArg List.length hv
  simpa [Flat.len] using this
 have hfit : i * Flat.n α + u.cells.toList.length ≤ (Flat.enc v).length:=by
  have:=ZI (v:=v) (x:=x) hi'
  rw [hv]
  simpa using this
 have hf:=V4 u.cells.toList 0 (i * Flat.n α) (Flat.enc v).toArray (by simpa using hfit)
 have hz : u.cells.zipIdx.foldl (fun cs (c,j)=>cs.setIfInBounds (i * Flat.n α + j) c) (Flat.enc v).toArray = (Z7 (Flat.enc v) (i * Flat.n α) u.cells.toList).toArray:=by
  rw [← Array.foldl_toList,Array.toList_zipIdx]
  simpa using hf
 have hsp:=KM (HQ (v:=v) (x:=x) hi')
 unfold FillA
 rw [Instr.fill]
 simp only []
 rw [if_neg (by
  have h1 : i * Flat.n α + u.cells.size ≤ (Flat.enc v).length:=by simpa using hfit
  simp [hus] at h1 ⊢
  omega)]
 rw [hz,hv]
 have e : ((i : Int)).toNat = i:=rfl
 rw [e] at hsp
 rw [hsp]
 exact hr
section
variable {n : Nat} {a : Act} {e : List (Nat × Value)} {w w' : World} {P : Program} {ops : Array Oper} {rest : List Oper} {Q : Exit → Act → World → Prop}
variable {d : Nat} {ty t : TypeId} {pos : String} {af : Array Edge} {g : Option (Nat × Bool)} {x y : Operand} {v u : Value}
theorem Hx {parts : List (Nat × Operand)} {vs : List (Nat × Value)} (h : Env n a e) (hxs : UZ e (parts.map (·.2)) = some (vs.map (·.2))) (hix : parts.map (·.1) = vs.map (·.1)) :
  (parts.map fun (p : Nat × Operand)=>(p.1,a.eval p.2)) = vs:=by
 have h1:=h.evs hxs
 rw [List.map_map] at h1
 apply List.ext_getElem?
 intro i
 have e1 : (parts.map (·.1))[i]? = (vs.map (·.1))[i]?:=by rw [hix]
 have e2 : (parts.map (a.eval ∘ fun (p : Nat × Operand)=>p.2))[i]? = (vs.map (·.2))[i]?:=by rw [h1]
 simp only [List.getElem?_map] at e1 e2 ⊢
 cases hp : parts[i]? with
 | none =>
  rw [hp] at e1
  cases hq : vs[i]? with
  | none=>rfl
  | some q=>rw [hq] at e1; simp at e1
 | some p =>
  rw [hp] at e1 e2
  cases hq : vs[i]? with
  | none=>rw [hq] at e1; simp at e1
  | some q =>
   rw [hq] at e1 e2
   simp only [Option.map_some,Option.some.injEq] at e1 e2 ⊢
   exact Prod.ext e1 e2
theorem YP {el N : Nat} {parts : List (Nat × Operand)} {vs : List (Nat × Value)} {z cs ze : List Value} {sz by_ esz eby : Nat} {D De : TypeDesc} (h : Env n a e) (hw : Goes ops ⟨some d,.build t parts.toArray,ty,pos,af,g⟩ a) (hd : d < n)
  (hxs : UZ e (parts.map (·.2)) = some (vs.map (·.2))) (hix : parts.map (·.1) = vs.map (·.1)) (ht : Ty P t D sz by_ z) (hD : D = .array N el) (he : Ty P el De esz eby ze) (hf : FillA esz z vs cs)
  (k : ∀ a,Env n a ((d,.agg cs.toArray) :: e) → wpList P ops Q rest a w) : wpList P ops Q (⟨some d,.build t parts.toArray,ty,pos,af,g⟩ :: rest) a w:=by
 refine Xt h hw rfl hd (w':=w) ?_ k
 have hvals:=Hx h hxs hix
 have hb : P.built t vs = some cs.toArray:=by
  obtain ⟨i,zv,h1,h2,_,h3,h4⟩:=ht.get
  obtain ⟨ie,_,k1,k2,_,_,_⟩:=he.get
  have hu:=ht.und
  rw [hD] at hu
  unfold Program.built
  rw [h1,hu]
  simp only [h3,k1,k2]
  have h5 : zv.cells = z.toArray:=by rw [← h4]
  simp only [h5]
  exact hf
 simp only [execOp]
 have : (parts.toArray.map fun (p : Nat × Operand)=>(p.1,a.eval p.2)) = vs.toArray:=by rw [List.map_toArray,hvals]
 simp only [Sem.run_bind]
 rw [show (Instr.build t (parts.toArray.map fun (i,x)=>(i,a.eval x))).run P w = .ok (.agg cs.toArray) w from by
  have h2:=run_build (P:=P) w t (parts.toArray.map fun (i,x)=>(i,a.eval x)) cs.toArray (by
   have : (parts.toArray.map fun (i,x)=>(i,a.eval x)).toList = vs:=by simpa using hvals
   rw [this]; exact hb)
  exact h2]
 rfl

theorem enc_at {α : Type} [Flat α] {N i : Nat} {v : Vector α N} {x : α} (hi : v.toList[i]? = some x) : ∃ c1 c2,Flat.enc v = c1 ++ (Flat.enc x ++ c2) ∧ c1.length = i * Flat.n α:=by
 refine ⟨Yy (v.toList.take i),Yy (v.toList.drop (i + 1)),VH hi,?_⟩
 rw [Wv,List.length_take,Nat.min_eq_left (Nat.le_of_lt (List.getElem?_eq_some_iff.1 hi).1)]
theorem VT {α : Type} [Flat α] {N el sz by_ : Nat} {z : List Value} {De : TypeDesc} {K : IntKind} {i : Int} {v : Vector α N} {x0 : α} (h : Env n a e) (hw : Goes ops ⟨some d,.index t x y,ty,pos,af,g⟩ a) (hd : d < n)
  (hx : opv e x = some (.agg (Flat.enc v).toArray)) (hy : opv e y = some (.int K i)) (ht : P.underlying t = some (.array N el)) (he : Ty P el De sz by_ z) (hD : US De = false) (hs : sz = Flat.n α) (hi : (0 ≤ i ∧ i < N) ∧ v.toList[i.toNat]? = some x0) (hu : Flat.enc x0 = [u])
  (k : ∀ a,Env n a ((d,u) :: e) → wpList P ops Q rest a w) : wpList P ops Q (⟨some d,.index t x y,ty,pos,af,g⟩ :: rest) a w:=by
 obtain ⟨c1,c2,e1,e2⟩:=enc_at hi.2
 subst hs
 have hg : (Flat.enc v)[i.toNat * Flat.n α]? = some u:=by
  rw [e1,hu,← e2]
  simp
 exact Xt h hw rfl hd (by
  simp only [execOp,h.ev hx,h.ev hy]
  simp [Instr.index,asIntOf,run_underlying ht,hi.1,YU he,part,Uw he,hD,hg]) k
theorem Yx {b o : Nat} (h : Env n a e) (hw : Goes ops ⟨some d,.nilCheck x,ty,pos,af,g⟩ a) (hd : d < n) (hx : opv e x = some (ptr b o))
  (k : ∀ a,Env n a ((d,ptr b o) :: e) → wpList P ops Q rest a w) : wpList P ops Q (⟨some d,.nilCheck x,ty,pos,af,g⟩ :: rest) a w :=
 Xt h hw rfl hd (by simp only [execOp,h.ev hx]; rfl) k
end
theorem BM {α : Type} [Flat α] {N b : Nat} {w : World} {v : Vector α N} (h : At w b 0 (Flat.enc v)) : Rep.sat (fun c=>c = b) w v.toList [.slice (some ⟨b,0,none⟩) N N] []:=by
 refine ⟨some ⟨b,0,none⟩,N,by simp,by simp,fun _=>rfl,Flat.enc v,[],?_,h,.inl ⟨fun _=>rfl,rfl⟩⟩
 show ZS _ w v.toList (Yy v.toList) []
 generalize v.toList = l
 induction l with
 | nil=>exact ⟨rfl,rfl⟩
 | cons x l ih=>exact ⟨_,_,[],[],rfl,rfl,⟨rfl,rfl⟩,ih⟩
section
variable {n : Nat} {a : Act} {e : List (Nat × Value)} {w w' : World} {P : Program} {ops : Array Oper} {rest : List Oper} {Q : Exit → Act → World → Prop}
variable {d : Nat} {ty t : TypeId} {pos : String} {af : Array Edge} {g : Option (Nat × Bool)} {x y : Operand} {v u : Value}
theorem VR {N el sz by_ b : Nat} {z : List Value} {D : TypeDesc} {K : IntKind} {i : Int} (h : Env n a e) (hw : Goes ops ⟨some d,.indexAddr t x y,ty,pos,af,g⟩ a) (hd : d < n)
  (hx : opv e x = some (.slice (some ⟨b,0,none⟩) N N)) (hy : opv e y = some (.int K i)) (ht : P.underlying t = some (.slice el)) (he : Ty P el D sz by_ z) (hi : 0 ≤ i ∧ i < N)
  (k : ∀ a,Env n a ((d,ptr b (0 + i.toNat * sz)) :: e) → wpList P ops Q rest a w) : wpList P ops Q (⟨some d,.indexAddr t x y,ty,pos,af,g⟩ :: rest) a w :=
 Xt h hw rfl hd (by
  simp only [execOp,h.ev hx,h.ev hy]
  simp [Instr.indexAt,asIntOf,run_underlying ht,Instr.sureAddr,hi,YU he,Addr.add_lit]) k
end
theorem k_ret0 {n : Nat} {a : Act} {e : List (Nat × Value)} {w : World} {P : Program} {fn : Func} {R : Ending → World → Prop} (hE : Env n a e) (hres : fn.results = #[]) (hR : R (.returned (.tuple [].toArray)) w) : bodyPost P fn R .ret a w:=by
 refine bodyPost_ret ?_ hE.df hR
 rw [TG,hres]
 simp
theorem Ab {n : Nat} {a : Act} {e : List (Nat × Value)} {w : World} {P : Program} {fn : Func} {R : Ending → World → Prop} (hE : Env n a e) (hres : fn.results = #[]) (hR : R (.returned (.tuple [].toArray)) w) : bodyPost P fn R .normal a w:=k_ret0 hE hres hR
structure Ref (α : Type) where
 v : α
 deriving DecidableEq,Inhabited
instance {α : Type} [Dat α] : Dat (Ref α):=⟨fun x=>Dat.bd x.v,fun x=>Dat.sz x.v + 1⟩
def RefSat {α : Type} [Rep α] (S : Nat → Prop) (w : World) (x : Ref α) (cs : List Value) (fp : List Nat) : Prop :=
 ∃ b ds fpe,cs = [ptr b 0] ∧ Rep.sat S w x.v ds fpe ∧ At w b 0 ds ∧ ((S b ∧ fp = fpe) ∨ (fp = b :: fpe ∧ ∃ T,w.heap[b]? = some (.cells ds.toArray T (0,0))))
instance {α : Type} [Rep α] : Rep (Ref α) where
 n:=1
 sat:=RefSat
 len:=by rintro S w x cs fp ⟨b,ds,fpe,rfl,_⟩; rfl
 loc:=by
  rintro S w w' x cs fp ⟨b,ds,fpe,rfl,h1,h2,h3⟩ hb
  rcases h3 with ⟨h3,rfl⟩ | ⟨rfl,T,h3⟩
  ·exact ⟨b,ds,fp,rfl,Rep.loc h1 hb,h2.loc (hb _ (.inr h3)),.inl ⟨h3,rfl⟩⟩
  ·exact ⟨b,ds,fpe,rfl,Rep.loc h1 (fun b h=>hb b (by simp; grind)),h2.loc (hb _ (by simp)),.inr ⟨rfl,T,by rw [hb _ (by simp)]; exact h3⟩⟩
 ro:=by
  rintro S S' w x cs fp ⟨b,ds,fpe,rfl,h1,h2,h3⟩ hb
  rcases h3 with ⟨h3,rfl⟩ | ⟨rfl,T,h3⟩
  ·exact ⟨b,ds,[],rfl,Rep.ro h1 hb,h2,.inl ⟨hb _ (.inr h3),rfl⟩⟩
  ·exact ⟨b,ds,[],rfl,Rep.ro h1 (fun b h=>hb b (by simp; grind)),h2,.inl ⟨hb _ (by simp),rfl⟩⟩
 wk:=by
  rintro S S' w x cs fp ⟨b,ds,fpe,rfl,h1,h2,h3⟩ hb
  rcases h3 with ⟨h3,rfl⟩ | ⟨rfl,T,h3⟩
  ·exact ⟨b,ds,fp,rfl,Rep.wk h1 hb,h2,.inl ⟨hb _ h3,rfl⟩⟩
  ·exact ⟨b,ds,fpe,rfl,Rep.wk h1 hb,h2,.inr ⟨rfl,T,h3⟩⟩
 lt:=by
  rintro S w x cs fp ⟨b,ds,fpe,rfl,h1,h2,h3⟩ c hc
  rcases h3 with ⟨h3,rfl⟩ | ⟨rfl,T,h3⟩
  ·exact Rep.lt h1 c hc
  ·rcases List.mem_cons.1 hc with rfl | hc
   ·rcases Nat.lt_or_ge c w.heap.size with h | h
    ·exact h
    ·rw [Array.getElem?_eq_none h] at h3; cases h3
   ·exact Rep.lt h1 c hc
 cell:=by
  rintro S w x cs fp ⟨b,ds,fpe,rfl,_⟩ v hv
  simp at hv; subst hv; rfl
section
variable {α : Type} [Rep α] {S : Nat → Prop} {w w0 : World} {x : Ref α} {fp : List Nat} {u : Value} {St : Nat → Prop} {its : List Item} {b : Nat} {ds : List Value}
theorem Jl (h : Rep.sat S w x [u] fp) : u.cells.toList = [u]:=by obtain ⟨b,ds,fpe,e,_⟩:=h; obtain rfl:=(List.cons.inj e).1; rfl
theorem Ko {cs : List Value} (h : Rep.sat S w x cs fp) : ∃ v,cs = [v]:=by obtain ⟨b,ds,fpe,e,_⟩:=h; exact ⟨_,e⟩
theorem Wc (h : Rep.sat S w x [u] []) : ∃ b ds,u = ptr b 0 ∧ Rep.sat S w x.v ds [] ∧ At w b 0 ds ∧ S b:=by
 obtain ⟨b,ds,fpe,e,h1,h2,h3⟩:=h
 rcases h3 with ⟨h3,rfl⟩ | ⟨h3,_⟩
 ·exact ⟨b,ds,(List.cons.inj e).1,h1,h2,h3⟩
 ·cases h3
theorem M.toRef {x : α} {S : Nat → Prop} (h : M St w0 w (raw b ds :: own S x ds :: its)) (hS : ∀ b,S b → St b) : M St w0 w (own S (⟨x⟩ : Ref α) [ptr b 0] :: its) :=
 h.pack2 (Qc hS) fun f g h1 h2=>by
  obtain ⟨rfl,T,h3⟩:=h1
  exact ⟨b,ds,g,rfl,h2,At.of_heap h3,.inr ⟨rfl,T,h3⟩⟩
theorem M.toRefF {α : Type} [Flat α] {x : α} (h : M St w0 w (raw b (Flat.enc x) :: its)) : M St w0 w (own NoB (⟨x⟩ : Ref α) [ptr b 0] :: its) :=
 h.pack1 (Qc fun _ h=>h.elim) fun f h1=>by
  obtain ⟨rfl,T,h3⟩:=h1
  exact ⟨b,Flat.enc x,[],rfl,⟨rfl,rfl⟩,At.of_heap h3,.inr ⟨rfl,T,h3⟩⟩
end
end Go.Proofs.Ytpjogonponkbmaa
namespace Go.Proofs.Ytpjogonponkbmaa
open Go

section
variable {n : Nat} {a : Act} {e : List (Nat × Value)} {w w' : World} {P : Program} {ops : Array Oper} {rest : List Oper} {Q : Exit → Act → World → Prop}
variable {d : Nat} {ty t : TypeId} {pos : String} {af : Array Edge} {g : Option (Nat × Bool)} {x y : Operand} {v u : Value}
variable {St : Nat → Prop} {w0 : World} {its : List Item}

def LitOk {α : Type} [Rep α] (w : World) : List α → List Value → Prop
 | [],[]=>True
 | x :: l,v :: vs=>Ro w x [v] ∧ LitOk w l vs
 | _,_=>False
def toArr {α : Type} (N : Nat) (l : List α) : Option (Vector α N):=if h : N ≤ l.length then some ⟨(l.take N).toArray,by simp [h]⟩ else none
theorem ZS.takeF {α : Type} [Rep α] {S : Nat → Prop} {w : World} : ∀ {l : List α} {cs : List Value} {fp : List Nat} (k : Nat),ZS S w l cs fp → ∃ f g,fp = f ++ g ∧ ZS S w (l.take k) (cs.take (k * Rep.n α)) f
 | l,cs,fp,0,h=>⟨[],fp,rfl,by simp [ZS]⟩
 | [],cs,fp,k + 1,h=>by obtain ⟨rfl,rfl⟩:=h; exact ⟨[],[],rfl,by simp [ZS]⟩
 | x :: l,cs,fp,k + 1,h=>by
  obtain ⟨c,cs',f,fp',rfl,rfl,h1,h2⟩:=h
  obtain ⟨f1,g1,rfl,h3⟩:=ZS.takeF k h2
  refine ⟨f ++ f1,g1,by simp,?_⟩
  rw [List.take_succ_cons,Nat.add_mul,Nat.one_mul,Nat.add_comm,show Rep.n α + k * Rep.n α = c.length + k * Rep.n α by rw [Rep.len h1],List.take_length_add_append]
  exact ⟨c,_,f,f1,rfl,rfl,h1,h3⟩
theorem X8.cut {α : Type} [Rep α] {S : Nat → Prop} {l r : List α} {fp : List Nat} {j : Int} (h : X8 S w l v fp) (hb : slc l 0 j = some r) : ∃ fp',X8 S w r (Ws v (0 : Int).toNat j.toNat (Rep.n α)) fp' ∧ fp'.Sublist fp:=by
 obtain ⟨⟨_,h1,h2⟩,rfl⟩:=Qn hb
 obtain ⟨p,cap,rfl,hc,h⟩:=h
 have e0 : (0 : Int).toNat = 0:=rfl
 have hlen : ((l.take j.toNat).drop 0).length = j.toNat:=by simp; omega
 rw [e0,List.drop_zero] at *
 rcases h with ⟨rfl,rfl,hp⟩ | ⟨b,o,ecs,fpe,rfl,k1,k2,rfl,k3⟩
 ·have : j.toNat = 0:=by omega
  rw [this] at *
  refine ⟨[],⟨p,0,by simp [Ws],by simp,.inl ⟨rfl,rfl,hp⟩⟩,List.nil_sublist _⟩
 ·obtain ⟨f,g,rfl,k4⟩:=ZS.takeF j.toNat k1
  have hadd : (if cap = 0 then some (⟨b,o,none⟩ : Addr) else some ((⟨b,o,none⟩ : Addr).add (0 * Rep.n α))) = some ⟨b,o,none⟩:=by
   split
   ·rfl
   ·rw [Addr.add_lit]; simp
  refine ⟨b :: f,⟨some ⟨b,o,none⟩,cap,?_,by rw [hlen]; omega,.inr ⟨b,o,_,f,rfl,k4,fun i c hi=>k2 i c ?_,rfl,k3⟩⟩,by simp⟩
  ·simp only [Ws,Option.map_some,hlen,Nat.sub_zero,hadd]
  ·rw [List.getElem?_take] at hi
   split at hi
   ·exact hi
   ·cases hi
theorem M.cut {α : Type} [Rep α] {S : Nat → Prop} {l r : List α} {j : Int} (hM : M St w0 w (osl S l v :: its)) (hS : ∀ b,S b → St b) (hb : slc l 0 j = some r) : M St w0 w (osl S r (Ws v (0 : Int).toNat j.toNat (Rep.n α)) :: its):=by
 refine hM.turn (new:=[osl S r _]) rfl rfl rfl (Nat.le_refl _) ?_
 intro fp hfp _ hnd
 obtain ⟨fp',h1,h2⟩:=X8.cut hfp hb
 exact ⟨fun _ _ _=>rfl,fp',⟨fp',[],by simp,VJ hS,h1,rfl⟩,h2.nodup hnd,fun b hb=>.inl (h2.subset hb)⟩

end
section
variable {n : Nat} {a : Act} {e : List (Nat × Value)} {w w' : World} {P : Program} {ops : Array Oper} {rest : List Oper} {Q : Exit → Act → World → Prop}
variable {d : Nat} {ty t : TypeId} {pos : String} {af : Array Edge} {g : Option (Nat × Bool)} {x y : Operand} {v u : Value}
variable {St : Nat → Prop} {w0 : World} {its : List Item}
def LitSat {α : Type} [Rep α] (S : Nat → Prop) (w : World) : List α → List Value → Prop
 | [],[]=>True
 | x :: l,v :: vs=>Rep.sat S w x [v] [] ∧ LitSat S w l vs
 | _,_=>False
end
end Go.Proofs.Ytpjogonponkbmaa
namespace Go.Proofs.Ytpjogonponkbmaa
open Go

def litP (v : Value) (m : Nat) (vs : List Value) : Item:=fun w fp=>∃ b,v = .slice (some ⟨b,0,none⟩) m m ∧ raw b vs w fp
def mkL (i : Nat) (ds : List Nat) (m : Nat) (f : List Value → List Value) : List Nat × (List Bool → List Value → Item):=(i :: ds,fun bs us=>opt (bs.headD false) (litP (us.headD undef) m (f us.tail)))
section
variable {St : Nat → Prop} {w0 w : World} {its pre post : List Item} {mk : Mk} {D : Nat → Bool} {u : Nat → Value} {i k m b : Nat} {ds : List Nat} {v : Value} {vs : List Value} {f : List Value → List Value}
end

def prm (a b : Bool) (x y : Item) : Item:=if b = true then y else opt a x
def mkP (j i : Nat) (f g : Value → Item) : List Nat × (List Bool → List Value → Item):=([j,i],fun bs us=>prm (bs.headD false) (bs.getD 1 false) (f (us.headD undef)) (g (us.getD 1 undef)))
section
variable {St : Nat → Prop} {w0 w : World} {its pre post : List Item} {mk1 mk2 : Mk} {D : Nat → Bool} {u : Nat → Value} {i j : Nat} {v : Value} {a b : Bool} {x y : Item} {f g : Value → Item}
end
def mkD (i s k : Nat) (z : List Value) (f : Value → List Value) : List Nat × (List Bool → List Value → Item):=([i,s,k],fun bs us=>T6 (bs.headD false) (bs.getD 1 false) (us.headD undef) z (f (us.getD 2 undef)))
section
variable {St : Nat → Prop} {w0 w : World} {its : List Item} {mk1 mk2 : Mk} {D : Nat → Bool} {u : Nat → Value} {i s k b : Nat} {v : Value} {z c c' : List Value} {f : Value → List Value}
end
theorem flq {α : Type} [Flat α] {x y : α} : (Flat.enc x).length = (Flat.enc y).length:=(Flat.len x).trans (Flat.len y).symm
theorem zle {a b : Nat} (h : a = b) : 0 + a ≤ b:=by omega
theorem bvx {α β : Type} {N : Nat} {v : Vector α N} {i : Int} {f : α → Option β} {r : β} (h : (Zs v i).bind f = some r) : ∃ x,((0 ≤ i ∧ i < N) ∧ v.toList[i.toNat]? = some x) ∧ f x = some r:=by
 obtain ⟨x,e,h⟩:=bind_some h
 exact ⟨x,Bl e,h⟩
theorem bix {α β : Type} {l : List α} {i : Int} {f : α → Option β} {r : β} (h : (idx l i).bind f = some r) : ∃ x,((0 ≤ i ∧ i < l.length) ∧ l[i.toNat]? = some x) ∧ f x = some r:=by
 obtain ⟨x,e,h⟩:=bind_some h
 exact ⟨x,Bx e,h⟩
theorem ois {α : Type} {x y : α} (h : some x = some y) : y = x:=(Option.some.inj h).symm
theorem nbl {a b : Nat} (h : Nat.ble a b = true) : a ≤ b:=Nat.le_of_ble_eq_true h
theorem ld {d n : Nat} (h : d < n:=by decide) : d < n:=h
def cmpB : List UInt8 → List UInt8 → Int
 | [],[]=>0
 | [],_ :: _=>-1
 | _ :: _,[]=>1
 | x :: l,y :: m=>if x < y then -1 else if y < x then 1 else cmpB l m
section
variable {n : Nat} {a : Act} {e : List (Nat × Value)} {w w' : World} {P : Program} {ops : Array Oper} {rest : List Oper} {Q : Exit → Act → World → Prop}
variable {d : Nat} {ty t : TypeId} {pos : String} {af : Array Edge} {g : Option (Nat × Bool)} {x y : Operand} {v u : Value}
end
end Go.Proofs.Ytpjogonponkbmaa
namespace Go.Proofs.Ytpjogonponkbmaa
open Go

theorem zv_of {P : Program} {t : TypeId} {v : Value} (h : (P.info? t).bind (·.zero) = some v) (w : World) : (zeroValue t).run P w = .ok v w:=by
 obtain ⟨i,h1,h2⟩:=Option.bind_eq_some_iff.1 h
 simp [zeroValue,typeInfo,h1,h2]
def VG {κ α : Type} [DecidableEq κ] : List (κ × α) → κ → Option α
 | [],_=>none
 | p :: m,k=>if p.1 = k then some p.2 else VG m k
def Tw {κ α : Type} [DecidableEq κ] : List (κ × α) → κ → α → List (κ × α)
 | [],k,x=>[(k,x)]
 | p :: m,k,x=>if p.1 = k then (k,x) :: m else p :: Tw m k x
def Vm {κ : Type} [DecidableEq κ] : List κ → List MapEntry → Nat → κ → Option (Nat × Value)
 | x :: ks,e :: es,i,k=>if x = k then some (i,e.val) else Vm ks es (i + 1) k
 | _,_,_,_=>none
structure KeyOk (P : Program) (t : TypeId) {κ : Type} [DecidableEq κ] (kv : κ → Value) : Prop where
 check : ∀ (e : Bool) (w : World) (k : κ),(Instr.checkKey e 10000 t (kv k)).run P w = .ok () w
 find : ∀ (w : World) (k : κ) (ks : List κ) (es : List MapEntry),es.map (·.key) = ks.map kv → (Instr.findKey t (kv k) es).run P w = .ok (Vm ks es 0 k) w
 same : ∀ k,Instr.sameBits 10000 (kv k) (kv k) = true
theorem Q5 {P : Program} {t k0 : Nat} {κ : Type} [Flat κ] [DecidableEq κ] (hq : EqOk P t k0 κ true) (hk : k0 ≤ 10000) (w : World) : ∀ (ks : List κ) (es : List MapEntry) (i : Nat) (k : κ),es.map (·.key) = ks.map (fun x=>Value.agg (Flat.enc x).toArray) →
  (Instr.findAsking t (.agg (Flat.enc k).toArray) es i).run P w = .ok (Vm ks es i k) w
 | [],[],_,_,_=>by simp [Instr.findAsking,Vm]
 | [],_ :: _,_,_,h=>by simp at h
 | _ :: _,[],_,_,h=>by simp at h
 | x :: ks,e :: es,i,k,h=>by
  simp only [List.map_cons,List.cons.injEq] at h
  have he:=hq (10000 - k0) w k x
  rw [show 10000 - k0 + k0 = 10000 by omega] at he
  have he' : (Op.equal t (.agg (Flat.enc k).toArray) (.agg (Flat.enc x).toArray)).run P w = .ok (decide (k = x)) w:=he
  unfold Instr.findAsking
  rw [h.1]
  simp only [Sem.run_bind,he',Result.andThen_ok,Vm]
  by_cases hx : x = k
  ·subst hx; simp
  ·have h2 : ¬ k = x:=fun h=>hx h.symm
   rw [if_neg hx]
   simp only [h2,decide_false,Bool.false_eq_true,if_false]
   exact Q5 hq hk w ks es (i + 1) k h.2
theorem Q1 {P : Program} {t e by_ k0 n : Nat} {D : TypeDesc} {z : List Value} (ht : P.underlying t = some (.array n e)) (hu : P.underlying e = some (.int .u8)) (he : Ty P e D 1 by_ z) (hD : US D = false) (hq : EqOk P t k0 (Vector UInt8 n) true) (hk : k0 ≤ 10000) :
  KeyOk P t (fun x : Vector UInt8 n=>Value.agg (Flat.enc x).toArray) where
 check:=fun em w k=>by
  show (Instr.checkKey em (9999 + 1) t (.agg (Flat.enc k).toArray)).run P w = _
  rw [Instr.checkKey]
  simp only [Sem.run_bind,run_underlying ht,Result.andThen_ok,Std.Legacy.Range.forIn_eq_forIn_range',Std.Legacy.Range.size,Nat.sub_zero,Nat.add_one_sub_one,Nat.div_one]
  have each : ∀ j ∈ List.range' 0 n,∃ b : UInt8,(part e (Flat.enc k).toArray (j * 1)).run P w = .ok (vB b) w:=by
   intro j hj
   have hj' : j < n:=by simpa using hj
   have hg : k.toList[j]? = some k[j]:=by simp [hj']
   exact ⟨k[j],QC (α:=UInt8) he (ag:=false) hD (fun _=>rfl) hg w⟩
  generalize List.range' 0 n = is at each
  induction is with
  | nil=>simp
  | cons j is ih =>
   obtain ⟨b,p1⟩:=each j (by simp)
   have p2 : (Instr.checkKey em 9999 e (vB b)).run P w = .ok () w:=MapKept.run_checkKey hu (by first | trivial | rfl | simp [MapKept.IsKey]) em 9998
   simp only [List.forIn_cons,Sem.run_bind,YU he,Result.andThen_ok,p1,p2,Sem.run_pure]
   exact ih (fun y hy=>each y (by simp [hy]))
 find:=fun w k ks es h=>by
  unfold Instr.findKey
  simp only [Sem.run_bind,run_underlying ht,Result.andThen_ok]
  cases es with
  | nil =>
   have : ks = []:=by simpa using h.symm
   subst this
   simp [Instr.findNow,Vm]
  | cons e0 es =>
   cases ks with
   | nil=>simp at h
   | cons x ks =>
    have h1 : e0.key = Value.agg (Flat.enc x).toArray:=(List.cons.inj h).1
    have hn : Instr.findNow (.array n e) (.agg (Flat.enc k).toArray) (e0 :: es) 0 = none:=by
     unfold Instr.findNow
     rw [h1]
     rfl
    simp only [hn]
    exact Q5 hq hk w (x :: ks) (e0 :: es) 0 k h
 same:=fun k=>by
  show Instr.sameBits (9999 + 1) (.agg (Flat.enc k).toArray) (.agg (Flat.enc k).toArray) = true
  rw [Instr.sameBits]
  simp only [BEq.rfl,Bool.true_and,List.all_eq_true]
  rintro ⟨x,y⟩ hm
  have hxy : x = y ∧ x ∈ Flat.enc k:=by
   obtain ⟨i,hi,he⟩:=List.mem_iff_getElem.1 hm
   simp only [List.getElem_zip,Prod.mk.injEq] at he
   obtain ⟨rfl,rfl⟩:=he
   exact ⟨rfl,by simp⟩
  obtain ⟨rfl,hx⟩:=hxy
  have : ∃ b : UInt8,x = vB b:=by
   have key : ∀ (l : List UInt8),x ∈ Yy l → ∃ b : UInt8,x = vB b:=by
    intro l
    induction l with
    | nil=>intro h; cases h
    | cons b l ih =>
     intro h
     rcases List.mem_append.1 h with h | h
     ·exact ⟨b,by simpa [Flat.enc] using h⟩
     ·exact ih h
   exact key k.toList hx
  obtain ⟨b,rfl⟩:=this
  show (IntKind.u8 == IntKind.u8 && (b.toNat : Int) == (b.toNat : Int)) = true
  simp
structure ElOk {α : Type} (S : Nat → Prop) (E : World → α → Value → List Nat → Prop) : Prop where
 loc : ∀ {w w' : World} {x : α} {u : Value} {f : List Nat},E w x u f → (∀ b,(b ∈ f ∨ S b) → w'.heap[b]? = w.heap[b]?) → E w' x u f
 lt : ∀ {w : World} {x : α} {u : Value} {f : List Nat},E w x u f → ∀ b ∈ f,b < w.heap.size
def satE {α : Type} [Rep α] (S : Nat → Prop) : World → α → Value → List Nat → Prop:=fun w x u f=>Rep.sat S w x [u] f
def Uu {α : Type} [Rep α] (S : Nat → Prop) : World → List α → Value → List Nat → Prop:=fun w l u f=>X8 S w l u f
theorem Ts {α : Type} [Rep α] {S : Nat → Prop} : ElOk (α:=List α) S (Uu S):=⟨fun h hb=>X8.loc h hb,fun h=>Rep.lt (X8.sat h)⟩
def Vr {κ α : Type} (kv : κ → Value) (E : World → α → Value → List Nat → Prop) (w : World) : List (κ × α) → List MapEntry → List Nat → Prop
 | [],es,fp=>es = [] ∧ fp = []
 | p :: m,es,fp=>∃ e es' f fp',es = e :: es' ∧ fp = f ++ fp' ∧ e.key = kv p.1 ∧ E w p.2 e.val f ∧ Vr kv E w m es' fp'
def Tf (es : List MapEntry) (clock : Nat) : Prop:=es.Pairwise (fun a b=>a.born < b.born) ∧ ∀ e ∈ es,e.born < clock
def Tx {κ α : Type} (kv : κ → Value) (E : World → α → Value → List Nat → Prop) (m : List (κ × α)) (b : Nat) : Item:=fun w fp =>
 ∃ es clock fpe,w.heap[b]? = some (.map es clock) ∧ Vr kv E w m es.toList fpe ∧ Tf es.toList clock ∧ fp = b :: fpe
def mapH {κ α : Type} [DecidableEq κ] (kv : κ → Value) (E : World → α → Value → List Nat → Prop) (m : List (κ × α)) (k : κ) (u : Value) (b st : Nat) : Item:=fun w fp =>
 ∃ es clock m1 m2 es1 e es2 f1 f2,w.heap[b]? = some (.map es clock) ∧ es.toList = es1 ++ e :: es2 ∧ Vr kv E w m1 es1 f1 ∧ Vr kv E w m2 es2 f2 ∧ e.key = kv k ∧ e.born = st ∧ e.val = u ∧ Tf es.toList clock ∧
  (∀ x,Tw m k x = m1 ++ (k,x) :: m2) ∧ fp = b :: (f1 ++ f2)
section
variable {κ α : Type} {kv : κ → Value} {S St : Nat → Prop} {E : World → α → Value → List Nat → Prop} {w w' w0 : World}
theorem Vr.keys : ∀ {m : List (κ × α)} {es : List MapEntry} {fp : List Nat},Vr kv E w m es fp → es.map (·.key) = (m.map (·.1)).map kv
 | [],_,_,h=>by rw [h.1]; rfl
 | p :: m,_,_,h=>by
  obtain ⟨e,es',f,fp',rfl,_,h1,_,h2⟩:=h
  simp [h1,Vr.keys h2]
theorem Vr.loc (hE : ElOk S E) : ∀ {m : List (κ × α)} {es : List MapEntry} {fp : List Nat},Vr kv E w m es fp → (∀ b,(b ∈ fp ∨ S b) → w'.heap[b]? = w.heap[b]?) → Vr kv E w' m es fp
 | [],_,_,h,_=>h
 | p :: m,_,_,h,hb=>by
  obtain ⟨e,es',f,fp',rfl,rfl,h1,h2,h3⟩:=h
  exact ⟨e,es',f,fp',rfl,rfl,h1,hE.loc h2 (fun b h=>hb b (by simp; grind)),Vr.loc hE h3 (fun b h=>hb b (by simp; grind))⟩
theorem TY (hE : ElOk S E) {m : List (κ × α)} {b : Nat} (hS : ∀ b,S b → St b) : Loc St (Tx kv E m b):=by
 rintro w w' fp ⟨es,c,fpe,h1,h2,h3,rfl⟩ hb
 exact ⟨es,c,fpe,by rw [hb b (by simp)]; exact h1,h2.loc hE (fun k hk=>hb k (by rcases hk with h | h; exact .inl (by simp [h]); exact .inr (hS k h))),h3,rfl⟩
theorem KL [DecidableEq κ] (hE : ElOk S E) {m : List (κ × α)} {b st : Nat} {k : κ} {u : Value} (hS : ∀ b,S b → St b) : Loc St (mapH kv E m k u b st):=by
 rintro w w' fp ⟨es,c,m1,m2,es1,e,es2,f1,f2,h1,h2,h3,h4,h5,h6,h7,h8,h9,rfl⟩ hb
 exact ⟨es,c,m1,m2,es1,e,es2,f1,f2,by rw [hb b (by simp)]; exact h1,h2,h3.loc hE (fun k hk=>hb k (by rcases hk with h | h; exact .inl (by simp [h]); exact .inr (hS k h))),h4.loc hE (fun k hk=>hb k (by rcases hk with h | h; exact .inl (by simp [h]); exact .inr (hS k h))),h5,h6,h7,h8,h9,rfl⟩
end
section
variable {κ α : Type} [DecidableEq κ] {kv : κ → Value} {S St : Nat → Prop} {E : World → α → Value → List Nat → Prop} {w w' w0 : World} {its : List Item}
theorem QY : ∀ (ks : List κ) (es : List MapEntry) (i : Nat) (k : κ),Vm ks es (i + 1) k = (Vm ks es i k).map fun p=>(p.1 + 1,p.2)
 | [],_,_,_=>by simp [Vm]
 | _ :: _,[],_,_=>by simp [Vm]
 | x :: ks,e :: es,i,k=>by
  unfold Vm
  by_cases h : x = k
  ·simp [h]
  ·simp [h,QY ks es (i + 1) k]
theorem UK (k : κ) : ∀ {m : List (κ × α)} {es : List MapEntry} {fp : List Nat},Vr kv E w m es fp →
  (VG m k = none ∧ Vm (m.map (·.1)) es 0 k = none ∧ ∀ x,Tw m k x = m ++ [(k,x)]) ∨
  ∃ m1 x0 m2 es1 e es2 f1 f f2,VG m k = some x0 ∧ Vm (m.map (·.1)) es 0 k = some (es1.length,e.val) ∧ es = es1 ++ e :: es2 ∧ fp = f1 ++ (f ++ f2) ∧ Vr kv E w m1 es1 f1 ∧ e.key = kv k ∧ E w x0 e.val f ∧ Vr kv E w m2 es2 f2 ∧
   (∀ x,Tw m k x = m1 ++ (k,x) :: m2) ∧ m = m1 ++ (k,x0) :: m2
 | [],_,_,h=>by obtain ⟨rfl,rfl⟩:=h; exact .inl ⟨rfl,rfl,fun _=>rfl⟩
 | p :: m,_,_,h=>by
  obtain ⟨e,es',f,fp',rfl,rfl,h1,h2,h3⟩:=h
  by_cases hk : p.1 = k
  ·refine .inr ⟨[],p.2,m,[],e,es',[],f,fp',by simp [VG,hk],by simp [Vm,hk],rfl,rfl,⟨rfl,rfl⟩,by rw [h1,hk],h2,h3,fun x=>by simp [Tw,hk],by rw [← hk]; rfl⟩
  ·have hf : Vm ((p :: m).map (·.1)) (e :: es') 0 k = (Vm (m.map (·.1)) es' 0 k).map fun q=>(q.1 + 1,q.2):=by
    rw [← QY]; simp [Vm,hk]
   rcases UK k h3 with ⟨g1,g2,g3⟩ | ⟨m1,x0,m2,es1,e',es2,f1,f',f2,g1,g2,rfl,rfl,g3,g4,g5,g6,g7,g8⟩
   ·exact .inl ⟨by simp [VG,hk,g1],by rw [hf,g2]; rfl,fun x=>by simp [Tw,hk,g3]⟩
   ·exact .inr ⟨p :: m1,x0,m2,e :: es1,e',es2,f ++ f1,f',f2,by simp [VG,hk,g1],by rw [hf,g2]; simp,rfl,by simp,⟨e,es1,f,f1,rfl,rfl,h1,h2,g3⟩,g4,g5,g6,fun x=>by simp [Tw,hk,g7],by rw [g8]; rfl⟩
omit [DecidableEq κ] in
theorem Vr.app : ∀ {m1 m2 : List (κ × α)} {es1 es2 : List MapEntry} {f1 f2 : List Nat},Vr kv E w m1 es1 f1 → Vr kv E w m2 es2 f2 → Vr kv E w (m1 ++ m2) (es1 ++ es2) (f1 ++ f2)
 | [],_,_,_,_,_,h,k=>by obtain ⟨rfl,rfl⟩:=h; exact k
 | p :: m,_,_,_,_,_,h,k=>by
  obtain ⟨e,es',f,fp',rfl,rfl,h1,h2,h3⟩:=h
  exact ⟨e,es' ++ _,f,fp' ++ _,by simp,by simp,h1,h2,Vr.app h3 k⟩
theorem Tf.push {es : List MapEntry} {clock : Nat} (h : Tf es clock) (k u : Value) : Tf (es ++ [{ key:=k,val:=u,born:=clock }]) (clock + 1):=by
 refine ⟨List.pairwise_append.2 ⟨h.1,by simp,fun a ha b hb=>?_⟩,fun e he=>?_⟩
 ·simp at hb; subst hb; exact h.2 a ha
 ·rcases List.mem_append.1 he with he | he
  ·have:=h.2 e he; omega
  ·simp at he; subst he; exact Nat.lt_succ_self _
theorem Tf.put {es1 es2 : List MapEntry} {e e' : MapEntry} {clock : Nat} (h : Tf (es1 ++ e :: es2) clock) (hb : e'.born = e.born) : Tf (es1 ++ e' :: es2) clock:=by
 obtain ⟨h1,h2⟩:=h
 rw [List.pairwise_append,List.pairwise_cons] at h1
 obtain ⟨a1,⟨a2,a3⟩,a4⟩:=h1
 refine ⟨List.pairwise_append.2 ⟨a1,List.pairwise_cons.2 ⟨fun b hb'=>by rw [hb]; exact a2 b hb',a3⟩,fun a ha b hb'=>?_⟩,fun q hq=>?_⟩
 ·rcases List.mem_cons.1 hb' with rfl | hb'
  ·rw [hb]; exact a4 a ha e (by simp)
  ·exact a4 a ha b (by simp [hb'])
 ·rcases List.mem_append.1 hq with hq | hq
  ·exact h2 q (by simp [hq])
  ·rcases List.mem_cons.1 hq with rfl | hq
   ·rw [hb]; exact h2 e (by simp)
   ·exact h2 q (by simp [hq])
theorem Jb {es : Array MapEntry} {es1 es2 : List MapEntry} {e : MapEntry} (g : MapEntry → MapEntry) (h : es.toList = es1 ++ e :: es2) : (es.modify es1.length g).toList = es1 ++ g e :: es2:=by
 rw [Array.toList_modify,h]
 clear h
 induction es1 with
 | nil=>rfl
 | cons x es1 ih=>simpa using ih
theorem get_at {es : Array MapEntry} {es1 es2 : List MapEntry} {e : MapEntry} (h : es.toList = es1 ++ e :: es2) : es[es1.length]? = some e:=by
 rw [← Array.getElem?_toList,h,List.getElem?_append_right (Nat.le_refl _)]; simp
omit [DecidableEq κ] in
theorem M.mapNew (hE : ElOk S E) (hM : M St w0 w its) (hS : ∀ b,S b → St b) : M St w0 (w.alloc (.map #[] 0)) (Tx kv E ([] : List (κ × α)) w.heap.size :: its) :=
 hM.addS (new:=[_]) (Kept.alloc _ _) ⟨[w.heap.size],⟨[w.heap.size],[],rfl,TY hE hS,⟨#[],0,[],Vw _ _,⟨rfl,rfl⟩,⟨by simp,by simp⟩,rfl⟩,rfl⟩,by simp,fun b hb=>by simp at hb; subst hb; simp⟩
theorem M.mapTurn {it : Item} {new : List Item} {b : Nat} {o : Obj} (hM : M St w0 w (it :: its)) (hin : ∀ fp,it w fp → b ∈ fp)
  (hn : ∀ fp,it w fp → fp.Nodup → (∀ q ∈ fp,¬ St q ∧ q < w.heap.size) → ∃ fp',XN St { w with heap:=w.heap.setIfInBounds b o } new fp' ∧ fp'.Nodup ∧ ∀ q ∈ fp',q ∈ fp) : M St w0 { w with heap:=w.heap.setIfInBounds b o } (new ++ its) :=
 hM.turn (new:=new) rfl rfl rfl (by simp) fun fp h1 h2 h3=>by
  obtain ⟨fp',k1,k2,k3⟩:=hn fp h1 h3 h2
  exact ⟨fun q hq _=>by simp [show ¬ b = q from fun e=>hq (e ▸ hin fp h1)],fp',k1,k2,fun q hq=>.inl (k3 q hq)⟩
theorem K0 (w : World) (b : Nat) (o : Obj) (h : b < w.heap.size) : ({ w with heap:=w.heap.setIfInBounds b o } : World).heap[b]? = some o:=by simp [h]
theorem WQ (w : World) {b q : Nat} (o : Obj) (h : q ≠ b) : ({ w with heap:=w.heap.setIfInBounds b o } : World).heap[q]? = w.heap[q]?:=by simp [Ne.symm h]
end
section
variable {n : Nat} {a : Act} {e : List (Nat × Value)} {w w' : World} {P : Program} {ops : Array Oper} {rest : List Oper} {Q : Exit → Act → World → Prop}
variable {d : Nat} {ty t kt el : TypeId} {pos : String} {af : Array Edge} {g : Option (Nat × Bool)} {x y z : Operand} {v u : Value}
variable {St S : Nat → Prop} {w0 : World} {its pre post : List Item} {κ α : Type} {kv : κ → Value} {m : List (κ × α)} {b : Nat} {E : World → α → Value → List Nat → Prop}
theorem Bj (kv : κ → Value) (hE : ElOk S E) (h : Env n a e) (hM : M St w0 w its) (hS : ∀ b,S b → St b) (hw : Goes ops ⟨some d,.makeMap t none,ty,pos,af,g⟩ a) (hd : d < n)
  (k : ∀ b w a,M St w0 w (Tx kv E ([] : List (κ × α)) b :: its) → Env n a ((d,.map (some b)) :: e) → wpList P ops Q rest a w) : wpList P ops Q (⟨some d,.makeMap t none,ty,pos,af,g⟩ :: rest) a w :=
 Xt h hw rfl hd (v:=.map (some w.heap.size)) (w':=w.alloc (.map #[] 0)) (by simp only [execOp,Option.map_none]; simp only [Sem.run_bind,show (Instr.makeMap t none).run P w = .ok (.map (some w.heap.size)) (w.alloc (.map #[] 0)) from rfl]; rfl) fun a ha=>k _ _ _ (hM.mapNew hE hS) ha
variable [DecidableEq κ]
def Ug {α : Type} (m : List (κ × α)) (k : κ) (b : Nat) (v : Value) (w : World) : Prop:=∃ es clock,w.heap[b]? = some (.map es clock) ∧ v = ((Vm (m.map (·.1)) es.toList 0 k).map (·.2)).getD (.slice none 0 0)
def mapV {α : Type} (kv : κ → Value) (E : World → List α → Value → List Nat → Prop) (m : List (κ × List α)) (l : List α) (v : Value) (b : Nat) : Item:=fun w fp=>Tx kv E m b w fp ∧ ∃ k,Ug m k b v w ∧ l = (VG m k).getD []
theorem Ug.keep {m : List (κ × α)} {k : κ} (h : Ug m k b v w) (hk : Kept (Old w) w w') : Ug m k b v w':=by
 obtain ⟨es,c,h1,h2⟩:=h
 exact ⟨es,c,(hk.block b (Array.getElem?_eq_some_iff.1 h1).1).trans h1,h2⟩
theorem gupK {C : World → Prop} {m : List (κ × α)} {k : κ} {r : List (Value → World → Prop)} (h : GUp C r) : GUp C ((fun v w=>Ug m k b v w) :: r):=by
 intro g hg
 rcases List.mem_cons.1 hg with rfl | hg
 ·intro v w w' _ hk hv; exact hv.keep hk
 ·exact h g hg
theorem M.lookRo {α : Type} [Rep α] {m : List (κ × List α)} {k : κ} (hM : M St w0 w (pre ++ Tx kv (Uu NoB) m b :: post)) (hl : Ug m k b v w) : Ro w ((VG m k).getD []) [v]:=by
 obtain ⟨fp,⟨es,clock,fpe,h1,h2,h3,rfl⟩,hlt⟩:=hM.get
 obtain ⟨es',c',h4,rfl⟩:=hl
 rw [h1] at h4
 simp only [Option.some.injEq,Obj.map.injEq] at h4
 obtain ⟨rfl,rfl⟩:=h4
 rcases UK k h2 with ⟨g1,g2,_⟩ | ⟨m1,x0,m2,es1,e,es2,f1,f,f2,g1,g2,g3,rfl,g4,g5,g6,_,_,_⟩
 ·rw [g1,g2]; exact ro_nil
 ·rw [g1,g2]; exact Rep.ro (X8.sat g6) fun c hc=>hc.elim (fun h=>hlt c (by simp [h])) (fun h=>h.elim)
theorem M.see {α : Type} {E : World → List α → Value → List Nat → Prop} (hE : ElOk S E) (hS : ∀ b,S b → St b) {m : List (κ × List α)} {k : κ} (hM : M St w0 w (pre ++ Tx kv E m b :: post)) (hl : Ug m k b v w) : M St w0 w (mapV kv E m ((VG m k).getD []) v b :: (pre ++ post)):=by
 refine hM.pull.pack1 (fun w w' fp h hb=>⟨TY hE hS _ _ _ h.1 hb,?_⟩) fun fp h=>⟨h,k,hl,rfl⟩
 obtain ⟨k',⟨es,c,h1,h2⟩,h3⟩:=h.2
 obtain ⟨_,_,fpe,_,_,_,rfl⟩:=h.1
 exact ⟨k',⟨es,c,by rw [hb b (by simp)]; exact h1,h2⟩,h3⟩
theorem M.unsee {α : Type} {E : World → List α → Value → List Nat → Prop} (hE : ElOk S E) (hS : ∀ b,S b → St b) {m : List (κ × List α)} {l : List α} (hM : M St w0 w (mapV kv E m l v b :: its)) : M St w0 w (Tx kv E m b :: its):=hM.pack1 (TY hE hS) fun _ h=>h.1
theorem M.seeRo {α : Type} [Rep α] {m : List (κ × List α)} {l : List α} (hM : M St w0 w (pre ++ mapV kv (Uu NoB) m l v b :: post)) : Ro w l [v]:=by
 obtain ⟨fp,h,_⟩:=hM.get
 obtain ⟨k,h2,rfl⟩:=h.2
 exact M.lookRo (pre:=[]) (kv:=kv) ((hM.pull).unsee Ts noB) h2
theorem Bi {α : Type} [Rep α] {m : List (κ × List α)} {k : κ} (hk : KeyOk P kt kv) (h : Env n a e) (hM : M St w0 w (pre ++ Tx kv (Uu NoB) m b :: post)) (hw : Goes ops ⟨some d,.lookup t x y false,ty,pos,af,g⟩ a) (hd : d < n)
  (hx : opv e x = some (.map (some b))) (hy : opv e y = some (kv k)) (ht : P.underlying t = some (.map kt el)) (hz : (zeroValue el).run P w = .ok (.slice none 0 0) w)
  (K : ∀ v a,Ug m k b v w → Env n a ((d,v) :: e) → wpList P ops Q rest a w) : wpList P ops Q (⟨some d,.lookup t x y false,ty,pos,af,g⟩ :: rest) a w:=by
 obtain ⟨fp,⟨es,clock,fpe,h1,h2,h3,rfl⟩,hlt⟩:=hM.get
 have hf:=hk.find w k (m.map (·.1)) es.toList h2.keys
 have hc:=hk.check es.isEmpty w k
 have hr : (Instr.lookup t (.map (some b)) (kv k) false).run P w = .ok (((Vm (m.map (·.1)) es.toList 0 k).map (·.2)).getD (.slice none 0 0)) w:=by
  cases hq : Vm (m.map (·.1)) es.toList 0 k with
  | none=>rw [hq] at hf; simp [Instr.lookup,run_underlying ht,MapKept.run_getObj_map h1,hc,hf,hz]
  | some p=>rw [hq] at hf; simp [Instr.lookup,run_underlying ht,MapKept.run_getObj_map h1,hc,hf]
 exact Xt h hw rfl hd (by simp only [execOp,h.ev hx,h.ev hy]; simp [hr]) fun a ha=>K _ a ⟨es,clock,h1,rfl⟩ ha
theorem HK {α : Type} [Rep α] {m : List (κ × List α)} {k : κ} (hk : KeyOk P kt kv) (h : Env n a e) (hM : M St w0 w (Tx kv (Uu NoB) m b :: its)) (hw : Goes ops ⟨some d,.mapEntry t x y,ty,pos,af,g⟩ a) (hd : d < n)
  (hx : opv e x = some (.map (some b))) (hy : opv e y = some (kv k)) (ht : P.underlying t = some (.map kt el)) (hz : ∀ w,(zeroValue el).run P w = .ok (.slice none 0 0) w)
  (K : ∀ v (st : Nat) w a,M St w0 w (osl NoB ((VG m k).getD []) v :: mapH kv (Uu NoB) m k v b st :: its) → Env n a ((d,.tuple [v,vI st].toArray) :: e) → wpList P ops Q rest a w) : wpList P ops Q (⟨some d,.mapEntry t x y,ty,pos,af,g⟩ :: rest) a w:=by
 have hE : ElOk (α:=List α) NoB (Uu NoB):=Ts
 obtain ⟨fq,⟨es,clock,fpe,h2,h3,hst,_⟩,_⟩:=hM.head
 have hbl : b < w.heap.size:=(Array.getElem?_eq_some_iff.1 h2).1
 have hf:=hk.find w k (m.map (·.1)) es.toList h3.keys
 have hc:=hk.check false w k
 rcases UK k h3 with ⟨g1,g2,g3⟩ | ⟨m1,x0,m2,es1,e0,es2,f1,f,f2,g1,g2,g3,rfl,g4,g5,g6,g7,g8,g9⟩
 ·rw [g2] at hf
  have hset:=MapKept.run_setObj_map (P:=P) (.map (es.push { key:=kv k,val:=.slice none 0 0,born:=clock }) (clock + 1)) h2
  refine Xt h hw rfl hd (v:=.tuple [.slice none 0 0,vI clock].toArray) (w':={ w with heap:=w.heap.setIfInBounds b (.map (es.push { key:=kv k,val:=.slice none 0 0,born:=clock }) (clock + 1)) }) (by simp only [execOp,h.ev hx,h.ev hy]; simp [Instr.mapEntry,run_underlying ht,MapKept.run_getObj_map h2,hc,hf,hz,hset,goInt]) fun a ha=>K _ clock _ _ ?_ ha
  rw [g1]
  refine hM.mapTurn (new:=[_,_]) (fun fp ⟨es0,c0,f0,_,_,_,e0⟩=>by rw [e0]; simp) ?_
  rintro fp ⟨es0,c0,f0,k2,k3,k4,rfl⟩ hnd hlt
  rw [h2] at k2
  simp only [Option.some.injEq,Obj.map.injEq] at k2
  obtain ⟨rfl,rfl⟩:=k2
  obtain ⟨n4,n5⟩:=List.nodup_cons.1 hnd
  refine ⟨b :: f0,⟨[],b :: f0,rfl,VJ noB,⟨none,0,rfl,Nat.le_refl _,.inl ⟨rfl,rfl,fun q h=>by cases h⟩⟩,b :: f0,[],by simp,KL hE noB,⟨_,_,m,[],es.toList,{ key:=kv k,val:=.slice none 0 0,born:=clock },[],f0,[],K0 w b _ hbl,by simp,k3.loc hE fun q hq=>WQ w _ ?_,⟨rfl,rfl⟩,rfl,rfl,rfl,by simpa using k4.push (kv k) (.slice none 0 0),g3,by simp⟩,rfl⟩,hnd,fun q hq=>hq⟩
  rcases hq with h | h
  ·exact fun e=>n4 (e ▸ h)
  ·exact h.elim
 ·rw [g2] at hf
  have hget:=get_at g3
  have hset:=MapKept.run_setObj_map (P:=P) (.map (es.modify es1.length fun e=>{ e with key:=kv k }) clock) h2
  have hstay : (Instr.keyThatStays (kv k) (kv k)).run P w = .ok (kv k) w:=by simp [Instr.keyThatStays,hk.same k]
  have hmod:=Jb (fun e=>{ e with key:=kv k }) g3
  refine Xt h hw rfl hd (v:=.tuple [e0.val,vI e0.born].toArray) (w':={ w with heap:=w.heap.setIfInBounds b (.map (es.modify es1.length fun e=>{ e with key:=kv k }) clock) }) (by simp only [execOp,h.ev hx,h.ev hy]; simp [Instr.mapEntry,run_underlying ht,MapKept.run_getObj_map h2,hc,hf,hget,g5,hstay,hset,goInt]) fun a ha=>K _ e0.born _ _ ?_ ha
  rw [g1]
  refine hM.mapTurn (new:=[_,_]) (fun fp ⟨es0,c0,f0,_,_,_,e0⟩=>by rw [e0]; simp) ?_
  rintro fp ⟨es0,c0,f0,k2,k3,k4,rfl⟩ hnd hlt
  rw [h2] at k2
  simp only [Option.some.injEq,Obj.map.injEq] at k2
  obtain ⟨rfl,rfl⟩:=k2
  obtain ⟨n4,n5⟩:=List.nodup_cons.1 hnd
  rcases UK k k3 with ⟨q1,_,_⟩ | ⟨m1',x0',m2',es1',e',es2',f1',f',f2',q1,q2,q3,rfl,q4,q5,q6,q7,q8,q9⟩
  ·rw [g1] at q1; cases q1
  ·have hlen : es1.length = es1'.length:=by rw [g2] at q2; simpa using (congrArg (Option.map Prod.fst) q2)
   obtain ⟨rfl,hee⟩:=List.append_inj (g3.symm.trans q3) hlen
   simp only [List.cons.injEq] at hee
   obtain ⟨rfl,rfl⟩:=hee
   rw [g1] at q1
   simp only [Option.some.injEq] at q1
   subst q1
   have hne : ∀ q,(q ∈ f1' ∨ q ∈ f' ∨ q ∈ f2') → q ≠ b:=fun q hq e=>n4 (by subst e; simp; grind)
   have hst2:=k4
   rw [q3] at hst2
   refine ⟨f' ++ (b :: (f1' ++ f2')),⟨f',_,rfl,VJ noB,X8.loc q6 fun q hq=>WQ w _ (hne q (by rcases hq with h | h; exact .inr (.inl h); exact h.elim)),b :: (f1' ++ f2'),[],by simp,KL hE noB,⟨_,clock,m1',m2',es1,{ e0 with key:=kv k },es2,f1',f2',K0 w b _ hbl,hmod,q4.loc hE fun q hq=>WQ w _ (hne q (by rcases hq with h | h; exact .inl h; exact h.elim)),q7.loc hE fun q hq=>WQ w _ (hne q (by rcases hq with h | h; exact .inr (.inr h); exact h.elim)),rfl,rfl,rfl,by rw [hmod]; exact hst2.put rfl,q8,rfl⟩,rfl⟩,?_,fun q hq=>by simp at hq ⊢; grind⟩
   refine (List.Perm.nodup_iff ?_).1 hnd
   have e1 : b :: (f1' ++ (f' ++ f2')) = ((b :: f1') ++ f') ++ f2':=by simp
   have e2 : f' ++ (b :: (f1' ++ f2')) = (f' ++ (b :: f1')) ++ f2':=by simp
   rw [e1,e2]
   exact List.Perm.append_right _ List.perm_append_comm
theorem Js {α : Type} [Rep α] {m : List (κ × List α)} {l : List α} {k : κ} {st : Nat} (h : Env n a e) (hM : M St w0 w (osl NoB l u :: mapH kv (Uu NoB) m k v b st :: its)) (hw : Goes ops ⟨none,.entryStore t x y z,ty,pos,af,g⟩ a)
  (hx : opv e x = some (.map (some b))) (hy : opv e y = some (vI st)) (hzv : opv e z = some u)
  (K : ∀ w a,M St w0 w (Tx kv (Uu NoB) (Tw m k l) b :: its) → Env n a e → wpList P ops Q rest a w) : wpList P ops Q (⟨none,.entryStore t x y z,ty,pos,af,g⟩ :: rest) a w:=by
 have hE : ElOk (α:=List α) NoB (Uu NoB):=Ts
 obtain ⟨fq,⟨es,clock,m1,m2,es1,e0,es2,f1,f2,h2,h3,h4,h5,h6,h7,h8,h9,h10,_⟩,_⟩:=(show M St w0 w ([osl NoB l u] ++ mapH kv (Uu NoB) m k v b st :: its) from hM).get
 have hbl : b < w.heap.size:=(Array.getElem?_eq_some_iff.1 h2).1
 have hfi : es.findIdx? (fun e=>(e.born : Int) == (st : Int)) = some es1.length:=by
  have e0' : es.findIdx? (fun e=>(e.born : Int) == (st : Int)) = es.toList.findIdx? (fun e=>(e.born : Int) == (st : Int)):=by cases es; simp
  rw [e0',h3,List.findIdx?_append]
  have hp:=h9.1
  rw [h3,List.pairwise_append] at hp
  have hno : es1.findIdx? (fun e=>(e.born : Int) == (st : Int)) = none:=by
   rw [List.findIdx?_eq_none_iff]
   intro q hq
   have:=hp.2.2 q hq e0 (by simp)
   simp only [beq_eq_false_iff_ne,ne_eq]
   omega
  rw [hno,List.findIdx?_cons]
  simp [h7]
 have hset:=MapKept.run_setObj_map (P:=P) (.map (es.modify es1.length fun e=>{ e with val:=u }) clock) h2
 have hmod:=Jb (fun e=>{ e with val:=u }) h3
 have hint : (asInt (vI st)).run P w = .ok (st : Int) w:=by simp [asInt,asIntOf]
 refine HA h hw rfl (w':={ w with heap:=w.heap.setIfInBounds b (.map (es.modify es1.length fun e=>{ e with val:=u }) clock) }) (by simp only [execOp,h.ev hx,h.ev hy,h.ev hzv]; simp [Instr.entryStore,MapKept.run_getObj_map h2,hint,hfi,hset]) fun a ha=>K _ _ ?_ ha
 have hM2 : M St w0 w ((fun w fp=>∃ f1 f2,fp = f1 ++ f2 ∧ X8 NoB w l u f1 ∧ mapH kv (Uu NoB) m k v b st w f2) :: its):=hM.packL (m:=[_,_]) (fun w w' fp ⟨f1,f2,e,k1,k2⟩ hb=>⟨f1,f2,e,X8.loc k1 (fun b h=>hb b (by subst e; rcases h with h | h; exact .inl (by simp [h]); exact h.elim)),KL hE noB _ _ _ k2 (fun b h=>hb b (by subst e; rcases h with h | h; exact .inl (by simp [h]); exact .inr h))⟩)
  (fun fp ⟨f1,_,e,_,k1,f2,_,e2,_,k2,e3⟩=>⟨f1,f2,by rw [e,e2,e3]; simp,k1,k2⟩)
 refine hM2.mapTurn (new:=[_]) (fun fp ⟨f1,f2,e,_,es',c',m1',m2',es1',e',es2',g1,g2,_,_,_,_,_,_,_,_,_,e0⟩=>by rw [e,e0]; simp) ?_
 rintro fp ⟨p1,p2,rfl,k1,es',c',m1',m2',es1',e',es2',g1,g2,j1,j2,j3,j4,j5,j6,j7,j8,j9,rfl⟩ hnd hlt
 rw [h2] at j1
 simp only [Option.some.injEq,Obj.map.injEq] at j1
 obtain ⟨rfl,rfl⟩:=j1
 obtain ⟨n1,n2,n3⟩:=List.nodup_append.1 hnd
 obtain ⟨n4,n5⟩:=List.nodup_cons.1 n2
 obtain ⟨n6,n7,n8⟩:=List.nodup_append.1 n5
 have hlen : es1.length = es1'.length:=by
  have hfi' : es.findIdx? (fun e=>(e.born : Int) == (st : Int)) = some es1'.length:=by
   have e0' : es.findIdx? (fun e=>(e.born : Int) == (st : Int)) = es.toList.findIdx? (fun e=>(e.born : Int) == (st : Int)):=by cases es; simp
   rw [e0',j2,List.findIdx?_append]
   have hp:=j8.1
   rw [j2,List.pairwise_append] at hp
   have hno : es1'.findIdx? (fun e=>(e.born : Int) == (st : Int)) = none:=by
    rw [List.findIdx?_eq_none_iff]
    intro q hq
    have:=hp.2.2 q hq e' (by simp)
    simp only [beq_eq_false_iff_ne,ne_eq]
    omega
   rw [hno,List.findIdx?_cons]
   simp [j6]
  rw [hfi] at hfi'
  simpa using hfi'
 obtain ⟨rfl,hee⟩:=List.append_inj (h3.symm.trans j2) hlen
 simp only [List.cons.injEq] at hee
 obtain ⟨rfl,rfl⟩:=hee
 have hne : ∀ q,(q ∈ p1 ∨ q ∈ g1 ∨ q ∈ g2) → q ≠ b:=by
  rintro q (h | h | h) rfl
  ·exact n3 q h q (by simp) rfl
  ·exact n4 (by simp [h])
  ·exact n4 (by simp [h])
 refine ⟨b :: (g1 ++ (p1 ++ g2)),⟨_,[],by simp,TY hE noB,⟨_,clock,g1 ++ (p1 ++ g2),K0 w b _ hbl,?_,by rw [hmod]; rw [h3] at h9; exact h9.put rfl,rfl⟩,rfl⟩,?_,fun q hq=>by simp at hq ⊢; grind⟩
 ·rw [hmod,j9]
  refine (j3.loc hE fun q hq=>WQ w _ (hne q (by rcases hq with h | h; exact .inr (.inl h); exact h.elim))).app (m2:=(k,l) :: m2') ⟨_,es2,p1,g2,rfl,rfl,j5,X8.loc k1 fun q hq=>WQ w _ (hne q (by rcases hq with h | h; exact .inl h; exact h.elim)),j4.loc hE fun q hq=>WQ w _ (hne q (by rcases hq with h | h; exact .inr (.inr h); exact h.elim))⟩
 ·refine List.nodup_cons.2 ⟨fun h=>?_,List.nodup_append.2 ⟨n6,List.nodup_append.2 ⟨n1,n7,fun p hp q hq=>n3 p hp q (by simp [hq])⟩,fun p hp q hq=>?_⟩⟩
  ·simp only [List.mem_append] at h
   rcases h with h | h | h
   ·exact hne b (.inr (.inl h)) rfl
   ·exact hne b (.inl h) rfl
   ·exact hne b (.inr (.inr h)) rfl
  ·rcases List.mem_append.1 hq with h | h
   ·exact fun e=>n3 q h p (by simp [hp]) e.symm
   ·exact n8 p hp q h
end
end Go.Proofs.Ytpjogonponkbmaa
namespace Go.Proofs.Ytpjogonponkbmaa
open Go
section
open Go.RowKit
def upto {α : Type} (f : Nat → α) (k : Nat) : List α:=(List.range k).map f
def KpB (n₀ Bs : Nat) (W W' : World) : Prop:=Below n₀ W W' ∧ W'.heap[Bs]? = W.heap[Bs]?
theorem KpB.trans {n₀ Bs : Nat} {A B C : World} (h : KpB n₀ Bs A B) (k : KpB n₀ Bs B C) : KpB n₀ Bs A C:=⟨h.1.trans k.1,k.2.trans h.2⟩
def backF (zs : List UInt8) (k : Nat) : Int × UInt8:=((zs.length : Int) - 1 - k,(zs[zs.length - 1 - k]?.getD 0))
def Byts (n₀ : Nat) (W : World) (p : Option Addr) (zs : List UInt8) : Prop :=
 zs = [] ∨ ∃ b off,p = some ⟨b,off,none⟩ ∧ b < n₀ ∧ ∀ j,j < zs.length → W.cell? ⟨b,off + j,none⟩ = some (.int .u8 (zs[j]?.getD 0).toNat)
theorem Byts.below {n₀ : Nat} {A B : World} (h : Below n₀ A B) {p : Option Addr} {zs : List UInt8} : Byts n₀ A p zs → Byts n₀ B p zs
 | .inl e=>.inl e
 | .inr ⟨b,off,e,hb,hc⟩=>.inr ⟨b,off,e,hb,fun j hj=>(h.cell (p:=⟨b,off + j,none⟩) hb).trans (hc j hj)⟩
end
end Go.Proofs.Ytpjogonponkbmaa
