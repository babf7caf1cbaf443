/- The walk library: what this claim needs of it. -/
import Derived.Test.YtpjogonponkbmaaK1
set_option linter.unusedVariables false
set_option linter.unusedSectionVars false
namespace Go.Proofs.Ytpjogonponkbmaa
open Go

abbrev FillA (sz : Nat) (z : List Value) (parts : List (Nat × Value)) (cs : List Value) : Prop:=Instr.fill (fun i=>some (i * sz,sz)) z.toArray parts = some cs.toArray
theorem YB {sz : Nat} {z : List Value} : FillA sz z [] z:=rfl
theorem VY {α : Type} [Flat α] {N : Nat} {v : Vector α N} {rest : List (Nat × Value)} {i : Nat} {u : Value} {x : α} {cs : List Value} {sz : Nat}
  (hs : sz = Flat.n α) (hi : i < N) (hv : u.cells.toList = Flat.enc x) (hr : FillA sz (Flat.enc (v.setIfInBounds i x)) rest cs) : FillA sz (Flat.enc v) ((i,u) :: rest) cs:=by
 subst hs
 have hi' : (0 : Int) ≤ (i : Int) ∧ (i : Int) < N:=⟨by omega,by omega⟩
 have hus : u.cells.size = Flat.n α:=by
  have:=congrArg List.length hv
  simpa [Flat.len] using this
 have hfit : i * Flat.n α + u.cells.toList.length ≤ (Flat.enc v).length:=by
  have:=ZE (v:=v) (x:=x) hi'
  rw [hv]
  simpa using this
 have hf:=Vo u.cells.toList 0 (i * Flat.n α) (Flat.enc v).toArray (by simpa using hfit)
 have hz : u.cells.zipIdx.foldl (fun cs (c,j)=>cs.setIfInBounds (i * Flat.n α + j) c) (Flat.enc v).toArray = (Z0 (Flat.enc v) (i * Flat.n α) u.cells.toList).toArray:=by
  rw [← Array.foldl_toList,Array.toList_zipIdx]
  simpa using hf
 have hsp:=QV (J0 (v:=v) (x:=x) hi')
 unfold FillA
 rw [Instr.fill]
 simp only []
 rw [if_neg (by
  have h1 : i * Flat.n α + u.cells.size ≤ (Flat.enc v).length:=by simpa using hfit
  simp [hus] at h1 ⊢
  omega)]
 rw [hz,hv]
 have e : ((i : Int)).toNat = i:=rfl
 rw [e] at hsp
 rw [hsp]
 exact hr
section
variable {n : Nat} {a : Act} {e : List (Nat × Value)} {w w' : World} {P : Program} {ops : Array Oper} {rest : List Oper} {Q : Exit → Act → World → Prop}
variable {d : Nat} {ty t : TypeId} {pos : String} {af : Array Edge} {g : Option (Nat × Bool)} {x y : Operand} {v u : Value}
theorem Jq {parts : List (Nat × Operand)} {vs : List (Nat × Value)} (h : Env n a e) (hxs : Ue e (parts.map (·.2)) = some (vs.map (·.2))) (hix : parts.map (·.1) = vs.map (·.1)) :
  (parts.map fun (p : Nat × Operand)=>(p.1,a.eval p.2)) = vs:=by
 have h1:=h.evs hxs
 rw [List.map_map] at h1
 apply List.ext_getElem?
 intro i
 have e1 : (parts.map (·.1))[i]? = (vs.map (·.1))[i]?:=by rw [hix]
 have e2 : (parts.map (a.eval ∘ fun (p : Nat × Operand)=>p.2))[i]? = (vs.map (·.2))[i]?:=by rw [h1]
 simp only [List.getElem?_map] at e1 e2 ⊢
 cases hp : parts[i]? with
 | none =>
  rw [hp] at e1
  cases hq : vs[i]? with
  | none=>rfl
  | some q=>rw [hq] at e1; simp at e1
 | some p =>
  rw [hp] at e1 e2
  cases hq : vs[i]? with
  | none=>rw [hq] at e1; simp at e1
  | some q =>
   rw [hq] at e1 e2
   simp only [Option.map_some,Option.some.injEq] at e1 e2 ⊢
   exact Prod.ext e1 e2
theorem Y8 {el N : Nat} {parts : List (Nat × Operand)} {vs : List (Nat × Value)} {z cs ze : List Value} {sz by_ esz eby : Nat} {D De : TypeDesc} (h : Env n a e) (hw : Goes ops ⟨some d,.build t parts.toArray,ty,pos,af,g⟩ a) (hd : d < n)
  (hxs : Ue e (parts.map (·.2)) = some (vs.map (·.2))) (hix : parts.map (·.1) = vs.map (·.1)) (ht : Ty P t D sz by_ z) (hD : D = .array N el) (he : Ty P el De esz eby ze) (hf : FillA esz z vs cs)
  (k : ∀ a,Env n a ((d,.agg cs.toArray) :: e) → wpList P ops Q rest a w) : wpList P ops Q (⟨some d,.build t parts.toArray,ty,pos,af,g⟩ :: rest) a w:=by
 refine Xg h hw rfl hd (w':=w) ?_ k
 have hvals:=Jq h hxs hix
 have hb : P.built t vs = some cs.toArray:=by
  obtain ⟨i,zv,h1,h2,_,h3,h4⟩:=ht.get
  obtain ⟨ie,_,k1,k2,_,_,_⟩:=he.get
  have hu:=ht.und
  rw [hD] at hu
  unfold Program.built
  rw [h1,hu]
  simp only [h3,k1,k2]
  have h5 : zv.cells = z.toArray:=by rw [← h4]
  simp only [h5]
  exact hf
 simp only [execOp]
 have : (parts.toArray.map fun (p : Nat × Operand)=>(p.1,a.eval p.2)) = vs.toArray:=by rw [List.map_toArray,hvals]
 simp only [Sem.run_bind]
 rw [show (Instr.build t (parts.toArray.map fun (i,x)=>(i,a.eval x))).run P w = .ok (.agg cs.toArray) w from by
  have h2:=run_build (P:=P) w t (parts.toArray.map fun (i,x)=>(i,a.eval x)) cs.toArray (by
   have : (parts.toArray.map fun (i,x)=>(i,a.eval x)).toList = vs:=by simpa using hvals
   rw [this]; exact hb)
  exact h2]
 rfl

theorem enc_at {α : Type} [Flat α] {N i : Nat} {v : Vector α N} {x : α} (hi : v.toList[i]? = some x) : ∃ c1 c2,Flat.enc v = c1 ++ (Flat.enc x ++ c2) ∧ c1.length = i * Flat.n α:=by
 refine ⟨YU (v.toList.take i),YU (v.toList.drop (i + 1)),Vu hi,?_⟩
 rw [Wh,List.length_take,Nat.min_eq_left (Nat.le_of_lt (List.getElem?_eq_some_iff.1 hi).1)]
theorem Vy {α : Type} [Flat α] {N el sz by_ : Nat} {z : List Value} {De : TypeDesc} {K : IntKind} {i : Int} {v : Vector α N} {x0 : α} (h : Env n a e) (hw : Goes ops ⟨some d,.index t x y,ty,pos,af,g⟩ a) (hd : d < n)
  (hx : opv e x = some (.agg (Flat.enc v).toArray)) (hy : opv e y = some (.int K i)) (ht : P.underlying t = some (.array N el)) (he : Ty P el De sz by_ z) (hD : Qs De = false) (hs : sz = Flat.n α) (hi : (0 ≤ i ∧ i < N) ∧ v.toList[i.toNat]? = some x0) (hu : Flat.enc x0 = [u])
  (k : ∀ a,Env n a ((d,u) :: e) → wpList P ops Q rest a w) : wpList P ops Q (⟨some d,.index t x y,ty,pos,af,g⟩ :: rest) a w:=by
 obtain ⟨c1,c2,e1,e2⟩:=enc_at hi.2
 subst hs
 have hg : (Flat.enc v)[i.toNat * Flat.n α]? = some u:=by
  rw [e1,hu,← e2]
  simp
 exact Xg h hw rfl hd (by
  simp only [execOp,h.ev hx,h.ev hy]
  simp [Instr.index,asIntOf,run_underlying ht,hi.1,Y9 he,part,Uz he,hD,hg]) k
theorem Xd {b o : Nat} (h : Env n a e) (hw : Goes ops ⟨some d,.nilCheck x,ty,pos,af,g⟩ a) (hd : d < n) (hx : opv e x = some (ptr b o))
  (k : ∀ a,Env n a ((d,ptr b o) :: e) → wpList P ops Q rest a w) : wpList P ops Q (⟨some d,.nilCheck x,ty,pos,af,g⟩ :: rest) a w :=
 Xg h hw rfl hd (by simp only [execOp,h.ev hx]; rfl) k
end
theorem HM {α : Type} [Flat α] {N b : Nat} {w : World} {v : Vector α N} (h : At w b 0 (Flat.enc v)) : Rep.sat (fun c=>c = b) w v.toList [.slice (some ⟨b,0,none⟩) N N] []:=by
 refine ⟨some ⟨b,0,none⟩,N,by simp,by simp,fun _=>rfl,Flat.enc v,[],?_,h,.inl ⟨fun _=>rfl,rfl⟩⟩
 show ZM _ w v.toList (YU v.toList) []
 generalize v.toList = l
 induction l with
 | nil=>exact ⟨rfl,rfl⟩
 | cons x l ih=>exact ⟨_,_,[],[],rfl,rfl,⟨rfl,rfl⟩,ih⟩
section
variable {n : Nat} {a : Act} {e : List (Nat × Value)} {w w' : World} {P : Program} {ops : Array Oper} {rest : List Oper} {Q : Exit → Act → World → Prop}
variable {d : Nat} {ty t : TypeId} {pos : String} {af : Array Edge} {g : Option (Nat × Bool)} {x y : Operand} {v u : Value}
theorem Vd {N el sz by_ b : Nat} {z : List Value} {D : TypeDesc} {K : IntKind} {i : Int} (h : Env n a e) (hw : Goes ops ⟨some d,.indexAddr t x y,ty,pos,af,g⟩ a) (hd : d < n)
  (hx : opv e x = some (.slice (some ⟨b,0,none⟩) N N)) (hy : opv e y = some (.int K i)) (ht : P.underlying t = some (.slice el)) (he : Ty P el D sz by_ z) (hi : 0 ≤ i ∧ i < N)
  (k : ∀ a,Env n a ((d,ptr b (0 + i.toNat * sz)) :: e) → wpList P ops Q rest a w) : wpList P ops Q (⟨some d,.indexAddr t x y,ty,pos,af,g⟩ :: rest) a w :=
 Xg h hw rfl hd (by
  simp only [execOp,h.ev hx,h.ev hy]
  simp [Instr.indexAt,asIntOf,run_underlying ht,Instr.sureAddr,hi,Y9 he,Addr.add_lit]) k
end
theorem k_ret0 {n : Nat} {a : Act} {e : List (Nat × Value)} {w : World} {P : Program} {fn : Func} {R : Ending → World → Prop} (hE : Env n a e) (hres : fn.results = #[]) (hR : R (.returned (.tuple [].toArray)) w) : bodyPost P fn R .ret a w:=by
 refine bodyPost_ret ?_ hE.df hR
 rw [V2,hres]
 simp
theorem Bv {n : Nat} {a : Act} {e : List (Nat × Value)} {w : World} {P : Program} {fn : Func} {R : Ending → World → Prop} (hE : Env n a e) (hres : fn.results = #[]) (hR : R (.returned (.tuple [].toArray)) w) : bodyPost P fn R .normal a w:=k_ret0 hE hres hR
structure Ref (α : Type) where
 v : α
 deriving DecidableEq,Inhabited
instance {α : Type} [Dat α] : Dat (Ref α):=⟨fun x=>Dat.bd x.v,fun x=>Dat.sz x.v + 1⟩
def RefSat {α : Type} [Rep α] (S : Nat → Prop) (w : World) (x : Ref α) (cs : List Value) (fp : List Nat) : Prop :=
 ∃ b ds fpe,cs = [ptr b 0] ∧ Rep.sat S w x.v ds fpe ∧ At w b 0 ds ∧ ((S b ∧ fp = fpe) ∨ (fp = b :: fpe ∧ ∃ T,w.heap[b]? = some (.cells ds.toArray T (0,0))))
instance {α : Type} [Rep α] : Rep (Ref α) where
 n:=1
 sat:=RefSat
 len:=by rintro S w x cs fp ⟨b,ds,fpe,rfl,_⟩; rfl
 loc:=by
  rintro S w w' x cs fp ⟨b,ds,fpe,rfl,h1,h2,h3⟩ hb
  rcases h3 with ⟨h3,rfl⟩ | ⟨rfl,T,h3⟩
  ·exact ⟨b,ds,fp,rfl,Rep.loc h1 hb,h2.loc (hb _ (.inr h3)),.inl ⟨h3,rfl⟩⟩
  ·exact ⟨b,ds,fpe,rfl,Rep.loc h1 (fun b h=>hb b (by simp; grind)),h2.loc (hb _ (by simp)),.inr ⟨rfl,T,by rw [hb _ (by simp)]; exact h3⟩⟩
 ro:=by
  rintro S S' w x cs fp ⟨b,ds,fpe,rfl,h1,h2,h3⟩ hb
  rcases h3 with ⟨h3,rfl⟩ | ⟨rfl,T,h3⟩
  ·exact ⟨b,ds,[],rfl,Rep.ro h1 hb,h2,.inl ⟨hb _ (.inr h3),rfl⟩⟩
  ·exact ⟨b,ds,[],rfl,Rep.ro h1 (fun b h=>hb b (by simp; grind)),h2,.inl ⟨hb _ (by simp),rfl⟩⟩
 wk:=by
  rintro S S' w x cs fp ⟨b,ds,fpe,rfl,h1,h2,h3⟩ hb
  rcases h3 with ⟨h3,rfl⟩ | ⟨rfl,T,h3⟩
  ·exact ⟨b,ds,fp,rfl,Rep.wk h1 hb,h2,.inl ⟨hb _ h3,rfl⟩⟩
  ·exact ⟨b,ds,fpe,rfl,Rep.wk h1 hb,h2,.inr ⟨rfl,T,h3⟩⟩
 lt:=by
  rintro S w x cs fp ⟨b,ds,fpe,rfl,h1,h2,h3⟩ c hc
  rcases h3 with ⟨h3,rfl⟩ | ⟨rfl,T,h3⟩
  ·exact Rep.lt h1 c hc
  ·rcases List.mem_cons.1 hc with rfl | hc
   ·rcases Nat.lt_or_ge c w.heap.size with h | h
    ·exact h
    ·rw [Array.getElem?_eq_none h] at h3; cases h3
   ·exact Rep.lt h1 c hc
 cell:=by
  rintro S w x cs fp ⟨b,ds,fpe,rfl,_⟩ v hv
  simp at hv; subst hv; rfl
section
variable {α : Type} [Rep α] {S : Nat → Prop} {w w0 : World} {x : Ref α} {fp : List Nat} {u : Value} {St : Nat → Prop} {its : List Item} {b : Nat} {ds : List Value}
theorem TP (h : Rep.sat S w x [u] fp) : u.cells.toList = [u]:=by obtain ⟨b,ds,fpe,e,_⟩:=h; obtain rfl:=(List.cons.inj e).1; rfl
theorem Uy {cs : List Value} (h : Rep.sat S w x cs fp) : ∃ v,cs = [v]:=by obtain ⟨b,ds,fpe,e,_⟩:=h; exact ⟨_,e⟩
theorem WX (h : Rep.sat S w x [u] []) : ∃ b ds,u = ptr b 0 ∧ Rep.sat S w x.v ds [] ∧ At w b 0 ds ∧ S b:=by
 obtain ⟨b,ds,fpe,e,h1,h2,h3⟩:=h
 rcases h3 with ⟨h3,rfl⟩ | ⟨h3,_⟩
 ·exact ⟨b,ds,(List.cons.inj e).1,h1,h2,h3⟩
 ·cases h3
theorem M.toRef {x : α} {S : Nat → Prop} (h : M St w0 w (raw b ds :: own S x ds :: its)) (hS : ∀ b,S b → St b) : M St w0 w (own S (⟨x⟩ : Ref α) [ptr b 0] :: its) :=
 h.pack2 (U5 hS) fun f g h1 h2=>by
  obtain ⟨rfl,T,h3⟩:=h1
  exact ⟨b,ds,g,rfl,h2,At.of_heap h3,.inr ⟨rfl,T,h3⟩⟩
theorem M.toRefF {α : Type} [Flat α] {x : α} (h : M St w0 w (raw b (Flat.enc x) :: its)) : M St w0 w (own NoB (⟨x⟩ : Ref α) [ptr b 0] :: its) :=
 h.pack1 (U5 fun _ h=>h.elim) fun f h1=>by
  obtain ⟨rfl,T,h3⟩:=h1
  exact ⟨b,Flat.enc x,[],rfl,⟨rfl,rfl⟩,At.of_heap h3,.inr ⟨rfl,T,h3⟩⟩
end
end Go.Proofs.Ytpjogonponkbmaa
namespace Go.Proofs.Ytpjogonponkbmaa
open Go

section
variable {n : Nat} {a : Act} {e : List (Nat × Value)} {w w' : World} {P : Program} {ops : Array Oper} {rest : List Oper} {Q : Exit → Act → World → Prop}
variable {d : Nat} {ty t : TypeId} {pos : String} {af : Array Edge} {g : Option (Nat × Bool)} {x y : Operand} {v u : Value}
variable {St : Nat → Prop} {w0 : World} {its : List Item}

def LitOk {α : Type} [Rep α] (w : World) : List α → List Value → Prop
 | [],[]=>True
 | x :: l,v :: vs=>Ro w x [v] ∧ LitOk w l vs
 | _,_=>False
def toArr {α : Type} (N : Nat) (l : List α) : Option (Vector α N):=if h : N ≤ l.length then some ⟨(l.take N).toArray,by simp [h]⟩ else none
theorem ZM.takeF {α : Type} [Rep α] {S : Nat → Prop} {w : World} : ∀ {l : List α} {cs : List Value} {fp : List Nat} (k : Nat),ZM S w l cs fp → ∃ f g,fp = f ++ g ∧ ZM S w (l.take k) (cs.take (k * Rep.n α)) f
 | l,cs,fp,0,h=>⟨[],fp,rfl,by simp [ZM]⟩
 | [],cs,fp,k + 1,h=>by obtain ⟨rfl,rfl⟩:=h; exact ⟨[],[],rfl,by simp [ZM]⟩
 | x :: l,cs,fp,k + 1,h=>by
  obtain ⟨c,cs',f,fp',rfl,rfl,h1,h2⟩:=h
  obtain ⟨f1,g1,rfl,h3⟩:=ZM.takeF k h2
  refine ⟨f ++ f1,g1,by simp,?_⟩
  rw [List.take_succ_cons,Nat.add_mul,Nat.one_mul,Nat.add_comm,show Rep.n α + k * Rep.n α = c.length + k * Rep.n α by rw [Rep.len h1],List.take_length_add_append]
  exact ⟨c,_,f,f1,rfl,rfl,h1,h3⟩
theorem W5.cut {α : Type} [Rep α] {S : Nat → Prop} {l r : List α} {fp : List Nat} {j : Int} (h : W5 S w l v fp) (hb : slc l 0 j = some r) : ∃ fp',W5 S w r (Wf v (0 : Int).toNat j.toNat (Rep.n α)) fp' ∧ fp'.Sublist fp:=by
 obtain ⟨⟨_,h1,h2⟩,rfl⟩:=Te hb
 obtain ⟨p,cap,rfl,hc,h⟩:=h
 have e0 : (0 : Int).toNat = 0:=rfl
 have hlen : ((l.take j.toNat).drop 0).length = j.toNat:=by simp; omega
 rw [e0,List.drop_zero] at *
 rcases h with ⟨rfl,rfl,hp⟩ | ⟨b,o,ecs,fpe,rfl,k1,k2,rfl,k3⟩
 ·have : j.toNat = 0:=by omega
  rw [this] at *
  refine ⟨[],⟨p,0,by simp [Wf],by simp,.inl ⟨rfl,rfl,hp⟩⟩,List.nil_sublist _⟩
 ·obtain ⟨f,g,rfl,k4⟩:=ZM.takeF j.toNat k1
  have hadd : (if cap = 0 then some (⟨b,o,none⟩ : Addr) else some ((⟨b,o,none⟩ : Addr).add (0 * Rep.n α))) = some ⟨b,o,none⟩:=by
   split
   ·rfl
   ·rw [Addr.add_lit]; simp
  refine ⟨b :: f,⟨some ⟨b,o,none⟩,cap,?_,by rw [hlen]; omega,.inr ⟨b,o,_,f,rfl,k4,fun i c hi=>k2 i c ?_,rfl,k3⟩⟩,by simp⟩
  ·simp only [Wf,Option.map_some,hlen,Nat.sub_zero,hadd]
  ·rw [List.getElem?_take] at hi
   split at hi
   ·exact hi
   ·cases hi
theorem M.cut {α : Type} [Rep α] {S : Nat → Prop} {l r : List α} {j : Int} (hM : M St w0 w (osl S l v :: its)) (hS : ∀ b,S b → St b) (hb : slc l 0 j = some r) : M St w0 w (osl S r (Wf v (0 : Int).toNat j.toNat (Rep.n α)) :: its):=by
 refine hM.turn (new:=[osl S r _]) rfl rfl rfl (Nat.le_refl _) ?_
 intro fp hfp _ hnd
 obtain ⟨fp',h1,h2⟩:=W5.cut hfp hb
 exact ⟨fun _ _ _=>rfl,fp',⟨fp',[],by simp,V0 hS,h1,rfl⟩,h2.nodup hnd,fun b hb=>.inl (h2.subset hb)⟩

end
section
variable {n : Nat} {a : Act} {e : List (Nat × Value)} {w w' : World} {P : Program} {ops : Array Oper} {rest : List Oper} {Q : Exit → Act → World → Prop}
variable {d : Nat} {ty t : TypeId} {pos : String} {af : Array Edge} {g : Option (Nat × Bool)} {x y : Operand} {v u : Value}
variable {St : Nat → Prop} {w0 : World} {its : List Item}
def LitSat {α : Type} [Rep α] (S : Nat → Prop) (w : World) : List α → List Value → Prop
 | [],[]=>True
 | x :: l,v :: vs=>Rep.sat S w x [v] [] ∧ LitSat S w l vs
 | _,_=>False
end
end Go.Proofs.Ytpjogonponkbmaa
namespace Go.Proofs.Ytpjogonponkbmaa
open Go

def litP (v : Value) (m : Nat) (vs : List Value) : Item:=fun w fp=>∃ b,v = .slice (some ⟨b,0,none⟩) m m ∧ raw b vs w fp
def mkL (i : Nat) (ds : List Nat) (m : Nat) (f : List Value → List Value) : List Nat × (List Bool → List Value → Item):=(i :: ds,fun bs us=>opt (bs.headD false) (litP (us.headD undef) m (f us.tail)))
section
variable {St : Nat → Prop} {w0 w : World} {its pre post : List Item} {mk : Mk} {D : Nat → Bool} {u : Nat → Value} {i k m b : Nat} {ds : List Nat} {v : Value} {vs : List Value} {f : List Value → List Value}
end

def prm (a b : Bool) (x y : Item) : Item:=if b = true then y else opt a x
def mkP (j i : Nat) (f g : Value → Item) : List Nat × (List Bool → List Value → Item):=([j,i],fun bs us=>prm (bs.headD false) (bs.getD 1 false) (f (us.headD undef)) (g (us.getD 1 undef)))
section
variable {St : Nat → Prop} {w0 w : World} {its pre post : List Item} {mk1 mk2 : Mk} {D : Nat → Bool} {u : Nat → Value} {i j : Nat} {v : Value} {a b : Bool} {x y : Item} {f g : Value → Item}
end
def mkD (i s k : Nat) (z : List Value) (f : Value → List Value) : List Nat × (List Bool → List Value → Item):=([i,s,k],fun bs us=>U3 (bs.headD false) (bs.getD 1 false) (us.headD undef) z (f (us.getD 2 undef)))
section
variable {St : Nat → Prop} {w0 w : World} {its : List Item} {mk1 mk2 : Mk} {D : Nat → Bool} {u : Nat → Value} {i s k b : Nat} {v : Value} {z c c' : List Value} {f : Value → List Value}
end
theorem flq {α : Type} [Flat α] {x y : α} : (Flat.enc x).length = (Flat.enc y).length:=(Flat.len x).trans (Flat.len y).symm
theorem zle {a b : Nat} (h : a = b) : 0 + a ≤ b:=by omega
theorem bvx {α β : Type} {N : Nat} {v : Vector α N} {i : Int} {f : α → Option β} {r : β} (h : (Zq v i).bind f = some r) : ∃ x,((0 ≤ i ∧ i < N) ∧ v.toList[i.toNat]? = some x) ∧ f x = some r:=by
 obtain ⟨x,e,h⟩:=bind_some h
 exact ⟨x,Hf e,h⟩
theorem bix {α β : Type} {l : List α} {i : Int} {f : α → Option β} {r : β} (h : (idx l i).bind f = some r) : ∃ x,((0 ≤ i ∧ i < l.length) ∧ l[i.toNat]? = some x) ∧ f x = some r:=by
 obtain ⟨x,e,h⟩:=bind_some h
 exact ⟨x,HX e,h⟩
theorem ois {α : Type} {x y : α} (h : some x = some y) : y = x:=(Option.some.inj h).symm
theorem nbl {a b : Nat} (h : Nat.ble a b = true) : a ≤ b:=Nat.le_of_ble_eq_true h
theorem ld {d n : Nat} (h : d < n:=by decide) : d < n:=h
def cmpB : List UInt8 → List UInt8 → Int
 | [],[]=>0
 | [],_ :: _=>-1
 | _ :: _,[]=>1
 | x :: l,y :: m=>if x < y then -1 else if y < x then 1 else cmpB l m
section
variable {n : Nat} {a : Act} {e : List (Nat × Value)} {w w' : World} {P : Program} {ops : Array Oper} {rest : List Oper} {Q : Exit → Act → World → Prop}
variable {d : Nat} {ty t : TypeId} {pos : String} {af : Array Edge} {g : Option (Nat × Bool)} {x y : Operand} {v u : Value}
end
end Go.Proofs.Ytpjogonponkbmaa
namespace Go.Proofs.Ytpjogonponkbmaa
open Go

theorem zv_of {P : Program} {t : TypeId} {v : Value} (h : (P.info? t).bind (·.zero) = some v) (w : World) : (zeroValue t).run P w = .ok v w:=by
 obtain ⟨i,h1,h2⟩:=Option.bind_eq_some_iff.1 h
 simp [zeroValue,typeInfo,h1,h2]
def WZ {κ α : Type} [DecidableEq κ] : List (κ × α) → κ → Option α
 | [],_=>none
 | p :: m,k=>if p.1 = k then some p.2 else WZ m k
def V1 {κ α : Type} [DecidableEq κ] : List (κ × α) → κ → α → List (κ × α)
 | [],k,x=>[(k,x)]
 | p :: m,k,x=>if p.1 = k then (k,x) :: m else p :: V1 m k x
def Xj {κ : Type} [DecidableEq κ] : List κ → List MapEntry → Nat → κ → Option (Nat × Value)
 | x :: ks,e :: es,i,k=>if x = k then some (i,e.val) else Xj ks es (i + 1) k
 | _,_,_,_=>none
structure KeyOk (P : Program) (t : TypeId) {κ : Type} [DecidableEq κ] (kv : κ → Value) : Prop where
 check : ∀ (e : Bool) (w : World) (k : κ),(Instr.checkKey e 10000 t (kv k)).run P w = .ok () w
 find : ∀ (w : World) (k : κ) (ks : List κ) (es : List MapEntry),es.map (·.key) = ks.map kv → (Instr.findKey t (kv k) es).run P w = .ok (Xj ks es 0 k) w
 same : ∀ k,Instr.sameBits 10000 (kv k) (kv k) = true
theorem T2 {K : IntKind} : ∀ (ks : List Int) (es : List MapEntry) (i : Nat) (k : Int),es.map (·.key) = ks.map (Value.int K) → Instr.findNow (.int K) (.int K k) es i = some (Xj ks es i k)
 | [],[],_,_,_=>rfl
 | [],_ :: _,_,_,h=>by simp at h
 | _ :: _,[],_,_,h=>by simp at h
 | x :: ks,e :: es,i,k,h=>by
  simp only [List.map_cons,List.cons.injEq] at h
  unfold Instr.findNow
  rw [h.1]
  simp only [Instr.sameNow,if_true,Xj]
  by_cases hx : x = k
  ·subst hx; simp
  ·have : (k == x) = false:=by simpa using fun h=>hx h.symm
   rw [this,if_neg hx]
   exact T2 ks es (i + 1) k h.2
theorem Kj {P : Program} {t : TypeId} {K : IntKind} (h : P.underlying t = some (.int K)) : KeyOk P t (Value.int K) where
 check:=fun e w k=>MapKept.run_checkKey h (by first | trivial | rfl | simp [MapKept.IsKey]) e 9999
 find:=fun w k ks es he=>by simp [Instr.findKey,run_underlying h,T2 ks es 0 k he]
 same:=fun k=>by show (K == K && k == k) = true; simp

def W4 {κ α : Type} [Rep α] (kv : κ → Value) (S : Nat → Prop) (w : World) : List (κ × α) → List MapEntry → List Nat → Prop
 | [],es,fp=>es = [] ∧ fp = []
 | p :: m,es,fp=>∃ e es' f fp',es = e :: es' ∧ fp = f ++ fp' ∧ e.key = kv p.1 ∧ Rep.sat S w p.2 [e.val] f ∧ W4 kv S w m es' fp'
def Qh {κ α : Type} [Rep α] (kv : κ → Value) (S : Nat → Prop) (m : List (κ × α)) (b : Nat) : Item:=fun w fp =>
 ∃ es clock fpe,w.heap[b]? = some (.map es clock) ∧ W4 kv S w m es.toList fpe ∧ fp = b :: fpe
section
variable {κ α : Type} [Rep α] {kv : κ → Value} {S St : Nat → Prop} {w w' w0 : World}
theorem W4.keys : ∀ {m : List (κ × α)} {es : List MapEntry} {fp : List Nat},W4 kv S w m es fp → es.map (·.key) = (m.map (·.1)).map kv
 | [],_,_,h=>by rw [h.1]; rfl
 | p :: m,_,_,h=>by
  obtain ⟨e,es',f,fp',rfl,_,h1,_,h2⟩:=h
  simp [h1,W4.keys h2]
theorem W4.loc : ∀ {m : List (κ × α)} {es : List MapEntry} {fp : List Nat},W4 kv S w m es fp → (∀ b,(b ∈ fp ∨ S b) → w'.heap[b]? = w.heap[b]?) → W4 kv S w' m es fp
 | [],_,_,h,_=>h
 | p :: m,_,_,h,hb=>by
  obtain ⟨e,es',f,fp',rfl,rfl,h1,h2,h3⟩:=h
  exact ⟨e,es',f,fp',rfl,rfl,h1,Rep.loc h2 (fun b h=>hb b (by simp; grind)),W4.loc h3 (fun b h=>hb b (by simp; grind))⟩
theorem W4.lt : ∀ {m : List (κ × α)} {es : List MapEntry} {fp : List Nat},W4 kv S w m es fp → ∀ b ∈ fp,b < w.heap.size
 | [],_,_,h,b,hb=>by rw [h.2] at hb; cases hb
 | p :: m,_,_,h,b,hb=>by
  obtain ⟨e,es',f,fp',rfl,rfl,h1,h2,h3⟩:=h
  rcases List.mem_append.1 hb with hb | hb
  ·exact Rep.lt h2 b hb
  ·exact W4.lt h3 b hb
theorem KW {m : List (κ × α)} {b : Nat} (hS : ∀ b,S b → St b) : Loc St (Qh kv S m b):=by
 rintro w w' fp ⟨es,c,fpe,h1,h2,rfl⟩ hb
 exact ⟨es,c,fpe,by rw [hb b (by simp)]; exact h1,h2.loc (fun k hk=>hb k (by rcases hk with h | h; exact .inl (by simp [h]); exact .inr (hS k h))),rfl⟩
theorem Kk [DecidableEq κ] : ∀ {m : List (κ × α)} {es : List MapEntry} {fp : List Nat} {i : Nat} {k : κ},W4 kv S w m es fp →
  (WZ m k = none ∧ Xj (m.map (·.1)) es i k = none) ∨ ∃ j x e,WZ m k = some x ∧ es[j]? = some e ∧ Xj (m.map (·.1)) es i k = some (i + j,e.val) ∧ (m.map (·.1))[j]? = some k
 | [],_,_,_,_,_=>.inl ⟨rfl,rfl⟩
 | p :: m,_,_,i,k,h=>by
  obtain ⟨e,es',f,fp',rfl,rfl,h1,h2,h3⟩:=h
  by_cases hk : p.1 = k
  ·exact .inr ⟨0,p.2,e,by simp [WZ,hk],rfl,by simp [Xj,hk],by simp [hk]⟩
  ·rcases Kk (i:=i + 1) (k:=k) h3 with ⟨g1,g2⟩ | ⟨j,x,e',g1,g2,g3,g4⟩
   ·exact .inl ⟨by simp [WZ,hk,g1],by simp [Xj,hk,g2]⟩
   ·exact .inr ⟨j + 1,x,e',by simp [WZ,hk,g1],by simpa using g2,by simp [Xj,hk,g3]; omega,by simpa using g4⟩
end
section
variable {κ α : Type} [DecidableEq κ] [Rep α] {kv : κ → Value} {S St : Nat → Prop} {w w' w0 : World} {its : List Item}
theorem Um : ∀ (ks : List κ) (es : List MapEntry) (i : Nat) (k : κ),Xj ks es (i + 1) k = (Xj ks es i k).map fun p=>(p.1 + 1,p.2)
 | [],_,_,_=>by simp [Xj]
 | _ :: _,[],_,_=>by simp [Xj]
 | x :: ks,e :: es,i,k=>by
  unfold Xj
  by_cases h : x = k
  ·simp [h]
  ·simp [h,Um ks es (i + 1) k]
theorem Km {x : α} {u : Value} {f0 : List Nat} {k : κ} {clock : Nat} (hx : Rep.sat S w x [u] f0) : ∀ {m : List (κ × α)} {es : List MapEntry} {fp : List Nat},W4 kv S w m es fp →
  (Xj (m.map (·.1)) es 0 k = none → W4 kv S w (V1 m k x) (es ++ [{ key:=kv k,val:=u,born:=clock }]) (fp ++ f0)) ∧
  ∀ j v,Xj (m.map (·.1)) es 0 k = some (j,v) → ∃ e,es[j]? = some e ∧ e.key = kv k ∧ ∃ f1 f f2,fp = f1 ++ (f ++ f2) ∧ W4 kv S w (V1 m k x) (es.set j { e with key:=kv k,val:=u }) (f1 ++ (f0 ++ f2))
 | [],_,_,h=>by
  obtain ⟨rfl,rfl⟩:=h
  exact ⟨fun _=>⟨_,[],f0,[],rfl,by simp,rfl,hx,rfl,rfl⟩,fun j v h=>by simp [Xj] at h⟩
 | p :: m,_,_,h=>by
  obtain ⟨e,es',f,fp',rfl,rfl,h1,h2,h3⟩:=h
  obtain ⟨i1,i2⟩:=Km (clock:=clock) (k:=k) hx h3
  by_cases hk : p.1 = k
  ·refine ⟨fun hn=>by simp [Xj,hk] at hn,fun j v hj=>?_⟩
   simp only [List.map_cons,Xj,hk,if_true,Option.some.injEq,Prod.mk.injEq] at hj
   obtain ⟨rfl,rfl⟩:=hj
   refine ⟨e,rfl,by rw [h1,hk],[],f,fp',rfl,?_⟩
   simp only [V1,hk,if_true]
   exact ⟨_,es',f0,fp',rfl,rfl,rfl,hx,h3⟩
  ·have hf : Xj ((p :: m).map (·.1)) (e :: es') 0 k = (Xj (m.map (·.1)) es' 0 k).map fun q=>(q.1 + 1,q.2):=by
    rw [← Um]; simp [Xj,hk]
   rw [hf]
   refine ⟨fun hn=>?_,fun j v hj=>?_⟩
   ·rw [Option.map_eq_none_iff] at hn
    simp only [V1,hk,if_false]
    exact ⟨e,_,f,_,rfl,by simp,h1,h2,i1 hn⟩
   ·cases hq : Xj (m.map (·.1)) es' 0 k with
    | none=>rw [hq] at hj; simp at hj
    | some q =>
     rw [hq] at hj
     simp only [Option.map_some,Option.some.injEq,Prod.mk.injEq] at hj
     obtain ⟨rfl,rfl⟩:=hj
     obtain ⟨e',g1,g2,f1,f',f2,rfl,g3⟩:=i2 q.1 q.2 hq
     refine ⟨e',by simpa using g1,g2,f ++ f1,f',f2,by simp,?_⟩
     simp only [V1,hk,if_false,List.set_cons_succ]
     exact ⟨e,_,f,_,rfl,by simp,h1,h2,g3⟩
omit [DecidableEq κ] in
theorem M.mapNew (hM : M St w0 w its) (hS : ∀ b,S b → St b) : M St w0 (w.alloc (.map #[] 0)) (Qh kv S ([] : List (κ × α)) w.heap.size :: its) :=
 hM.addS (new:=[_]) (Kept.alloc _ _) ⟨[w.heap.size],⟨[w.heap.size],[],rfl,KW hS,⟨#[],0,[],Wr _ _,⟨rfl,rfl⟩,rfl⟩,rfl⟩,by simp,fun b hb=>by simp at hb; subst hb; simp⟩
end
section
variable {n : Nat} {a : Act} {e : List (Nat × Value)} {w w' : World} {P : Program} {ops : Array Oper} {rest : List Oper} {Q : Exit → Act → World → Prop}
variable {d : Nat} {ty t kt el : TypeId} {pos : String} {af : Array Edge} {g : Option (Nat × Bool)} {x y z : Operand} {v u : Value}
variable {St S : Nat → Prop} {w0 : World} {its pre post : List Item} {κ α : Type} [DecidableEq κ] [Rep α] {kv : κ → Value} {m : List (κ × α)} {b : Nat}
omit [DecidableEq κ] in
theorem Hm (kv : κ → Value) (h : Env n a e) (hM : M St w0 w its) (hS : ∀ b,S b → St b) (hw : Goes ops ⟨some d,.makeMap t none,ty,pos,af,g⟩ a) (hd : d < n)
  (k : ∀ b w a,M St w0 w (Qh kv S ([] : List (κ × α)) b :: its) → Env n a ((d,.map (some b)) :: e) → wpList P ops Q rest a w) : wpList P ops Q (⟨some d,.makeMap t none,ty,pos,af,g⟩ :: rest) a w :=
 Xg h hw rfl hd (v:=.map (some w.heap.size)) (w':=w.alloc (.map #[] 0)) (by simp only [execOp,Option.map_none]; simp only [Sem.run_bind,show (Instr.makeMap t none).run P w = .ok (.map (some w.heap.size)) (w.alloc (.map #[] 0)) from rfl]; rfl) fun a ha=>k _ _ _ (hM.mapNew hS) ha
theorem HQ (hk : KeyOk P kt kv) (ht : P.underlying t = some (.map kt el)) (hM : M St w0 w (pre ++ Qh kv S m b :: post)) (k : κ) (zv : Value) (hz : (zeroValue el).run P w = .ok zv w) (ok : Bool) :
  ∃ v,(Instr.lookup t (.map (some b)) (kv k) ok).run P w = .ok (if ok then .tuple #[v,.bool (WZ m k).isSome] else v) w ∧
   ((WZ m k = none ∧ v = zv) ∨ ∃ x fp,WZ m k = some x ∧ Rep.sat S w x [v] fp ∧ ∀ c ∈ fp,c < w.heap.size):=by
 obtain ⟨fp,⟨es,clock,fpe,h1,h2,rfl⟩,hlt⟩:=hM.get
 have hf:=hk.find w k (m.map (·.1)) es.toList h2.keys
 have hc:=hk.check es.isEmpty w k
 have hE : ∀ {m : List (κ × α)} {es : List MapEntry} {fp : List Nat} (j : Nat) (x : α) (e : MapEntry),W4 kv S w m es fp → WZ m k = some x → Xj (m.map (·.1)) es 0 k = some (j,e.val) → es[j]? = some e → ∃ f,Rep.sat S w x [e.val] f ∧ ∀ c ∈ f,c ∈ fp:=by
  intro m
  induction m with
  | nil=>intro es fp j x e _ h _ _; simp [WZ] at h
  | cons p m ih =>
   intro es fp j x e h g1 g2 g3
   obtain ⟨e0,es',f,fp',rfl,rfl,q1,q2,q3⟩:=h
   by_cases hp : p.1 = k
   ·simp only [WZ,hp,if_true,Option.some.injEq] at g1
    simp only [List.map_cons,Xj,hp,if_true,Option.some.injEq,Prod.mk.injEq] at g2
    obtain ⟨rfl,g2⟩:=g2
    subst g1
    exact ⟨f,g2 ▸ q2,fun c hc=>by simp [hc]⟩
   ·simp only [WZ,hp,if_false] at g1
    have : Xj ((p :: m).map (·.1)) (e0 :: es') 0 k = (Xj (m.map (·.1)) es' 0 k).map fun q=>(q.1 + 1,q.2):=by
     rw [← Um]; simp [Xj,hp]
    rw [this] at g2
    cases hq : Xj (m.map (·.1)) es' 0 k with
    | none=>rw [hq] at g2; simp at g2
    | some q =>
     rw [hq] at g2
     simp only [Option.map_some,Option.some.injEq,Prod.mk.injEq] at g2
     obtain ⟨rfl,g2⟩:=g2
     obtain ⟨f',r1,r2⟩:=ih q.1 x e q3 g1 (by rw [hq,← g2]) (by simpa using g3)
     exact ⟨f',r1,fun c hc=>by simp [r2 c hc]⟩
 rcases Kk (i:=0) (k:=k) h2 with ⟨g1,g2⟩ | ⟨j,x,e0,g1,g2,g3,g4⟩
 ·refine ⟨zv,?_,.inl ⟨g1,rfl⟩⟩
  rw [g2] at hf
  cases ok <;> simp [Instr.lookup,run_underlying ht,MapKept.run_getObj_map h1,hc,hf,hz,g1]
 ·rw [Nat.zero_add] at g3
  obtain ⟨f,r1,r2⟩:=hE j x e0 h2 g1 g3 g2
  refine ⟨e0.val,?_,.inr ⟨x,f,g1,r1,fun c hc=>hlt c (by simp [r2 c hc])⟩⟩
  rw [g3] at hf
  cases ok <;> simp [Instr.lookup,run_underlying ht,MapKept.run_getObj_map h1,hc,hf,g1]
theorem JR {α : Type} [Flat α] {m : List (κ × α)} {vv : α → Value} {zero : α} {k : κ} (hk : KeyOk P kt kv) (h : Env n a e) (hM : M St w0 w (pre ++ Qh kv NoB m b :: post)) (hw : Goes ops ⟨some d,.lookup t x y true,ty,pos,af,g⟩ a) (hd : d < n)
  (hx : opv e x = some (.map (some b))) (hy : opv e y = some (kv k)) (ht : P.underlying t = some (.map kt el)) (hv : ∀ x : α,Flat.enc x = [vv x]) (hz : (zeroValue el).run P w = .ok (vv zero) w)
  (K : ∀ a,Env n a ((d,.tuple [vv ((WZ m k).getD zero),vT (WZ m k).isSome].toArray) :: e) → wpList P ops Q rest a w) : wpList P ops Q (⟨some d,.lookup t x y true,ty,pos,af,g⟩ :: rest) a w:=by
 obtain ⟨v,hr,hv2⟩:=HQ hk ht hM k _ hz true
 have e1 : v = vv ((WZ m k).getD zero):=by
  rcases hv2 with ⟨g1,rfl⟩ | ⟨x,fp,g1,g2,_⟩
  ·rw [g1]; rfl
  ·obtain ⟨g2,_⟩:=VC.1 g2
   rw [hv] at g2
   rw [g1]
   simpa using g2
 subst e1
 exact Xg h hw rfl hd (by simp only [execOp,h.ev hx,h.ev hy]; simp [hr]) K
theorem M.mapSet {x : α} {k : κ} (hM : M St w0 w (own S x [u] :: Qh kv S m b :: its)) (hS : ∀ b,S b → St b) (hk : KeyOk P kt kv) (ht : P.underlying t = some (.map kt el)) :
  ∃ w',(Instr.mapUpdate t (.map (some b)) (kv k) u).run P w = .ok () w' ∧ M St w0 w' (Qh kv S (V1 m k x) b :: its):=by
 -- the two items as one
 obtain ⟨hk0,hs0,fp,⟨f1,f',rfl,_,h1,f2,f3,rfl,_,⟨es,clock,fpe,h2,h3,rfl⟩,hr⟩,hnd,hlt⟩:=hM
 have h1 : Rep.sat S w x [u] f1:=h1
 have hf:=hk.find w k (m.map (·.1)) es.toList h3.keys
 have hc:=hk.check false w k
 obtain ⟨i1,i2⟩:=Km (clock:=clock) (k:=k) h1 h3
 have hbl : b < w.heap.size:=(Array.getElem?_eq_some_iff.1 h2).1
 obtain ⟨n1,n2,n3⟩:=List.nodup_append.1 hnd
 obtain ⟨n4,n5,n6⟩:=List.nodup_append.1 n2
 obtain ⟨n7,n8⟩:=List.nodup_cons.1 n4
 -- what the update leaves
 have fin : ∀ (es' : Array MapEntry) (c : Nat) (fq : List Nat),W4 kv S w (V1 m k x) es'.toList fq → fq.Nodup → (∀ q ∈ fq,q ∈ f1 ∨ q ∈ fpe) → (setObj b (.map es' c)).run P w = .ok () { w with heap:=w.heap.setIfInBounds b (.map es' c) } →
   M St w0 { w with heap:=w.heap.setIfInBounds b (.map es' c) } (Qh kv S (V1 m k x) b :: its):=by
  intro es' c fq hm hn hq _
  have hb0 : b ∉ fq:=fun h=>by
   rcases hq b h with h | h
   ·exact n3 b h b (by simp) rfl
   ·exact n7 h
  have hoth : ∀ q,q ≠ b → ({ w with heap:=w.heap.setIfInBounds b (.map es' c) } : World).heap[q]? = w.heap[q]?:=fun q hq=>by simp [Array.getElem?_setIfInBounds,Ne.symm hq]
  have hnb : ∀ q,St q → q ≠ b:=fun q hq e=>by subst e; exact (hlt q (by simp)).1 hq
  refine ⟨hk0.trans ⟨rfl,rfl,rfl,by simp,fun q hq=>hoth q (hnb q hq)⟩,hs0,(b :: fq) ++ f3,⟨b :: fq,f3,rfl,KW hS,⟨es',c,fq,by simp [hbl],hm.loc fun q hq'=>hoth q ?_,rfl⟩,XD.loc hr fun q hq'=>hoth q ?_⟩,?_,?_⟩
  ·rcases hq' with h | h
   ·exact fun e=>hb0 (e ▸ h)
   ·exact hnb q (hS q h)
  ·rcases hq' with h | h
   ·exact fun e=>n6 b (by simp) q h e.symm
   ·exact hnb q h
  ·refine List.nodup_append.2 ⟨List.nodup_cons.2 ⟨hb0,hn⟩,n5,fun p hp q hq' e=>?_⟩
   subst e
   rcases List.mem_cons.1 hp with rfl | hp
   ·exact n6 p (by simp) p hq' rfl
   ·rcases hq p hp with h | h
    ·exact n3 p h p (by simp [hq']) rfl
    ·exact n6 p (by simp [h]) p hq' rfl
  ·intro q hq'
   have : q ∈ f1 ++ ((b :: fpe) ++ f3):=by
    simp only [List.mem_append,List.mem_cons] at hq' ⊢
    rcases hq' with (rfl | h) | h
    ·simp
    ·rcases hq q h with h | h <;> simp [h]
    ·simp [h]
   exact ⟨(hlt q this).1,by simpa using (hlt q this).2⟩
 cases hq : Xj (m.map (·.1)) es.toList 0 k with
 | none =>
  rw [hq] at hf
  have hset:=MapKept.run_setObj_map (P:=P) (.map (es.push { key:=kv k,val:=u,born:=clock }) (clock + 1)) h2
  refine ⟨_,by simp [Instr.mapUpdate,run_underlying ht,MapKept.run_getObj_map h2,hc,hf,hset],fin _ _ (fpe ++ f1) ?_ ?_ ?_ hset⟩
  ·simpa using i1 hq
  ·exact List.nodup_append.2 ⟨n8,n1,fun p hp q hq' e=>by subst e; exact n3 p hq' p (by simp [hp]) rfl⟩
  ·intro q hq'; rcases List.mem_append.1 hq' with h | h
   ·exact .inr h
   ·exact .inl h
 | some p =>
  obtain ⟨j,v⟩:=p
  rw [hq] at hf
  obtain ⟨e0,g1,g2,fa,fb,fc,rfl,g3⟩:=i2 j v hq
  have hget : es[j]? = some e0:=by simpa using g1
  have hset:=MapKept.run_setObj_map (P:=P) (.map (es.modify j fun e=>{ e with key:=kv k,val:=u }) clock) h2
  have hstay : (Instr.keyThatStays (kv k) (kv k)).run P w = .ok (kv k) w:=by simp [Instr.keyThatStays,hk.same k]
  refine ⟨_,by simp [Instr.mapUpdate,run_underlying ht,MapKept.run_getObj_map h2,hc,hf,hget,g2,hstay,hset],fin _ _ (fa ++ (f1 ++ fc)) ?_ ?_ ?_ hset⟩
  ·have : (es.modify j fun e=>{ e with key:=kv k,val:=u }).toList = es.toList.set j { e0 with key:=kv k,val:=u }:=by
    apply List.ext_getElem?
    intro i
    simp only [Array.getElem?_toList,Array.getElem?_modify,List.getElem?_set]
    by_cases hij : j = i
    ·subst hij
     obtain ⟨h5,h6⟩:=Array.getElem?_eq_some_iff.1 hget
     simp [h5,h6]
    ·simp [hij]
   rw [this]; exact g3
  ·obtain ⟨k1,k2,k3⟩:=List.nodup_append.1 n8
   obtain ⟨k4,k5,k6⟩:=List.nodup_append.1 k2
   refine List.nodup_append.2 ⟨k1,List.nodup_append.2 ⟨n1,k5,fun p hp q hq' e=>by subst e; exact n3 p hp p (by simp [hq']) rfl⟩,fun p hp q hq' e=>?_⟩
   subst e
   rcases List.mem_append.1 hq' with h | h
   ·exact n3 p h p (by simp [hp]) rfl
   ·exact k3 p hp p (by simp [h]) rfl
  ·intro q hq'
   simp only [List.mem_append] at hq' ⊢
   rcases hq' with h | h | h
   ·exact .inr (.inl h)
   ·exact .inl h
   ·exact .inr (.inr (.inr h))
theorem KM {α : Type} [Flat α] {m : List (κ × α)} {vv : α → Value} {c : α} {k : κ} (hk : KeyOk P kt kv) (h : Env n a e) (hM : M St w0 w (Qh kv NoB m b :: its)) (hw : Goes ops ⟨none,.mapUpdate t x y z,ty,pos,af,g⟩ a)
  (hx : opv e x = some (.map (some b))) (hy : opv e y = some (kv k)) (hzv : opv e z = some (vv c)) (ht : P.underlying t = some (.map kt el)) (hv : ∀ x : α,Flat.enc x = [vv x])
  (K : ∀ w a,M St w0 w (Qh kv NoB (V1 m k c) b :: its) → Env n a e → wpList P ops Q rest a w) : wpList P ops Q (⟨none,.mapUpdate t x y z,ty,pos,af,g⟩ :: rest) a w:=by
 have hM2 : M St w0 w (own NoB c [vv c] :: Qh kv NoB m b :: its):=hM.addRo noB (VC.2 ⟨(hv c).symm,rfl⟩)
 obtain ⟨w',hr,hM'⟩:=hM2.mapSet (k:=k) noB hk ht
 exact JM h hw rfl (w':=w') (by simp only [execOp,h.ev hx,h.ev hy,h.ev hzv]; simp [hr]) fun a ha=>K _ _ hM' ha
end
end Go.Proofs.Ytpjogonponkbmaa
namespace Go.Proofs.Ytpjogonponkbmaa
open Go
section
open Go.RowKit
def upto {α : Type} (f : Nat → α) (k : Nat) : List α:=(List.range k).map f
def KpB (n₀ Bs : Nat) (W W' : World) : Prop:=Below n₀ W W' ∧ W'.heap[Bs]? = W.heap[Bs]?
theorem KpB.trans {n₀ Bs : Nat} {A B C : World} (h : KpB n₀ Bs A B) (k : KpB n₀ Bs B C) : KpB n₀ Bs A C:=⟨h.1.trans k.1,k.2.trans h.2⟩
def backF (zs : List UInt8) (k : Nat) : Int × UInt8:=((zs.length : Int) - 1 - k,(zs[zs.length - 1 - k]?.getD 0))
def Byts (n₀ : Nat) (W : World) (p : Option Addr) (zs : List UInt8) : Prop :=
 zs = [] ∨ ∃ b off,p = some ⟨b,off,none⟩ ∧ b < n₀ ∧ ∀ j,j < zs.length → W.cell? ⟨b,off + j,none⟩ = some (.int .u8 (zs[j]?.getD 0).toNat)
theorem Byts.below {n₀ : Nat} {A B : World} (h : Below n₀ A B) {p : Option Addr} {zs : List UInt8} : Byts n₀ A p zs → Byts n₀ B p zs
 | .inl e=>.inl e
 | .inr ⟨b,off,e,hb,hc⟩=>.inr ⟨b,off,e,hb,fun j hj=>(h.cell (p:=⟨b,off + j,none⟩) hb).trans (hc j hj)⟩
end
end Go.Proofs.Ytpjogonponkbmaa
