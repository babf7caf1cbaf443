/- The walk library: what this claim needs of it. -/
import Derived.Test.YtkajmkegelcfjaaK1
set_option linter.unusedVariables false
set_option linter.unusedSimpArgs false
set_option linter.unusedSectionVars false
namespace Go.Proofs.Ytkajmkegelcfjaa
open Go

section
variable {n : Nat} {a : Act} {e : List (Nat × Value)} {w w' : World} {P : Program} {ops : Array Oper} {rest : List Oper} {Q : Exit → Act → World → Prop}
variable {d : Nat} {ty t : TypeId} {pos : String} {af : Array Edge} {g : Option (Nat × Bool)} {x y : Operand} {v u : Value}
variable {St : Nat → Prop} {w0 : World} {its : List Item}

theorem flat1 : ∀ {vs : List Value},(∀ v ∈ vs,v.cells.toList = [v]) → (vs.map (·.cells.toList)).flatten = vs
 | [],_=>rfl
 | v :: vs,h=>by rw [List.map_cons,List.flatten_cons,h v (by simp),flat1 (fun u hu=>h u (by simp [hu]))]; rfl
theorem Hb {xs : List Operand} {vs : List Value} {m el by_ : Nat} {D : TypeDesc} {z : List Value}
  (h : Env n a e) (hM : M St w0 w its) (hw : Goes ops ⟨some d,.buildSlice t m (Tz 0 xs).toArray,ty,pos,af,g⟩ a) (hd : d < n) (hxs : T0 e xs = some vs) (hm : vs.length = m)
  (ht : P.underlying t = some (.slice el)) (he : Ty P el D 1 by_ z) (hsmall : m ≤ 16777216) (hcell : ∀ v ∈ vs,v.cells.toList = [v])
  (k : ∀ b w a,M St w0 w (raw b vs :: its) → Env n a ((d,.slice (some ⟨b,0,none⟩) m m) :: e) → wpList P ops Q rest a w) : wpList P ops Q (⟨some d,.buildSlice t m (Tz 0 xs).toArray,ty,pos,af,g⟩ :: rest) a w:=by
 have hsz:=XZ he
 obtain ⟨zv,hzv,hzc⟩:=TH he w
 have hc1 : ∀ v ∈ vs,v.cells.size = 1:=fun v hv=>by have:=congrArg List.length (hcell v hv); simpa using this
 have hnum:=h.numbered xs 0 vs hxs
 have hsub : ∀ cs : Array Value,cs.size = m * 1 → Instr.fill (fun i=>some (i * 1,1)) cs (numbered 0 vs) = some vs.toArray:=by
  intro cs hcs
  rw [Ho 1 _ (fun _=>rfl) vs 0 cs hc1 (by simp [hm,hcs])]
  congr 2
  rw [Nat.zero_mul,flat1 hcell]
  exact Zh (by simp [hcs,hm])
 have hrun : (Instr.buildSlice t m ((Tz 0 xs).toArray.map fun (i,x)=>(i,a.eval x))).run P w = .ok (.slice (some ⟨w.heap.size,0,none⟩) m m) (w.alloc (.cells vs.toArray el)):=by
  have hparts : ((Tz 0 xs).toArray.map fun (i,x)=>(i,a.eval x)).toList = numbered 0 vs:=by simpa using hnum
  have hlim : ¬ (m * 1 > 2 ^ 24):=by omega
  have hfill : ∀ zz : Array Value,Instr.fill (fun i=>some (i * 1,1)) ((Array.range (m * 1)).map (zz[· % zz.size]!)) (numbered 0 vs) = some vs.toArray:=fun zz=>hsub _ (by simp)
  unfold Instr.buildSlice
  simp only [Sem.run_bind,run_underlying ht,Result.andThen_ok,hsz,if_neg hlim,hparts]
  by_cases h0 : m * 1 = 0
  ·simp only [if_pos h0,pure_bind]
   rw [hfill]
   simp [newRow]
  ·simp only [if_neg h0,pure_bind,Sem.run_bind,hzv,Result.andThen_ok]
   rw [hfill]
   simp [newRow]
 exact Xp h hw rfl hd (v:=.slice (some ⟨w.heap.size,0,none⟩) m m) (w':=w.alloc (.cells vs.toArray el)) (by simp only [execOp]; simp only [Sem.run_bind,hrun]; rfl) fun a ha=>k _ _ _ (hM.alloc vs el) ha
def AP {α : Type} [Rep α] (w : World) : List α → List Value → Prop
 | [],[]=>True
 | x :: l,v :: vs=>Ro w x [v] ∧ AP w l vs
 | _,_=>False
theorem AP.elems {α : Type} [Rep α] {w : World} : ∀ {l : List α} {vs : List Value},AP w l vs → Z0 (Old w) w l vs []
 | [],[],_=>⟨rfl,rfl⟩
 | _ :: _,v :: vs,h=>⟨[v],vs,[],[],rfl,rfl,h.1,AP.elems h.2⟩
 | [],_ :: _,h=>h.elim
 | _ :: _,[],h=>h.elim
theorem M.rawLt {b : Nat} {cs : List Value} {pre post : List Item} (h : M St w0 w (pre ++ raw b cs :: post)) : b < w.heap.size:=by
 obtain ⟨fp,⟨rfl,_⟩,h1⟩:=h.get
 exact h1 b (by simp)
theorem yv {α : Type} [Rep α] {l : List α} {vs : List Value} {b m : Nat} (hA : At w b 0 vs) (hb : b < w.heap.size) (h : AP w l vs) (hm : l.length = m) : Ro w l [.slice (some ⟨b,0,none⟩) m m]:=by
 subst hm
 exact ⟨some ⟨b,0,none⟩,l.length,rfl,Nat.le_refl _,fun _=>rfl,vs,[],h.elems,hA,.inl ⟨fun _=>hb,rfl⟩⟩

def Tt {α : Type} (N : Nat) (l : List α) : Option (Vector α N):=if h : N ≤ l.length then some ⟨(l.take N).toArray,by simp [h]⟩ else none
theorem Tn {α : Type} {N : Nat} {l : List α} {v : Vector α N} (h : Tt N l = some v) : N ≤ l.length ∧ v.toList = l.take N:=by
 unfold Tt at h
 split at h
 ·rename_i h0
  simp only [Option.some.injEq] at h
  subst h
  exact ⟨h0,rfl⟩
 ·cases h
theorem JG {α : Type} [Rep α] {S : Nat → Prop} {l : List α} {fp : List Nat} {N el : Nat} (h : Env n a e) (hw : Goes ops ⟨some d,.sliceToArrayPointer t x,ty,pos,af,g⟩ a) (hd : d < n) (hx : opv e x = some v)
  (ht : P.underlying t = some (.array N el)) (hs : Rep.sat S w l [v] fp) (hN : N ≤ l.length) (h0 : 0 < N)
  (k : ∀ a,Env n a ((d,ptr (sb v) (so v)) :: e) → wpList P ops Q rest a w) : wpList P ops Q (⟨some d,.sliceToArrayPointer t x,ty,pos,af,g⟩ :: rest) a w:=by
 obtain ⟨p,cap,hv,hc,hp⟩:=hs
 simp only [List.cons.injEq,and_true] at hv
 subst hv
 refine Xp h hw rfl hd (w':=w) ?_ k
 have hlt : ¬ (l.length < N):=by omega
 cases p with
 | none=>have:=hp.1; omega
 | some q =>
  obtain ⟨h1,_⟩:=hp
  obtain ⟨q1,q2,q3⟩:=q
  have h1:=h1 (by omega)
  simp only at h1
  subst h1
  simp only [execOp,h.ev hx]
  simp [Instr.arrayAt,run_underlying ht,hlt,sb,so]
theorem H1 {α : Type} [Flat α] : ∀ (l : List α) (k : Nat),Xs (l.take k) = (Xs l).take (k * Flat.n α)
 | [],k=>by simp [Xs]
 | x :: l,0=>by simp [Xs]
 | x :: l,k + 1=>by
  rw [List.take_succ_cons,Xs,Xs,H1 l k,Nat.add_mul,Nat.one_mul,Nat.add_comm]
  rw [← Flat.len x,List.take_length_add_append]
theorem BF {α : Type} [Flat α] {S : Nat → Prop} {l : List α} {fp : List Nat} {N : Nat} {X : Vector α N} (hs : Rep.sat S w l [v] fp) (hX : Tt N l = some X) (h0 : 0 < N) : At w (sb v) (so v) (Flat.enc X):=by
 obtain ⟨hN,hl⟩:=Tn hX
 obtain ⟨p,cap,hv,hc,hp⟩:=hs
 simp only [List.cons.injEq,and_true] at hv
 subst hv
 cases p with
 | none=>have:=hp.1; omega
 | some q =>
  obtain ⟨h1,ecs,fpe,h2,h3,_⟩:=hp
  obtain ⟨rfl,_⟩:=WS.1 h2
  have h1:=h1 (by omega)
  obtain ⟨q1,q2,q3⟩:=q
  simp only at h1
  subst h1
  show At w q1 q2 (Xs X.toList)
  rw [hl,H1]
  intro i c hi
  refine h3 i c ?_
  rw [List.getElem?_take] at hi
  split at hi
  ·exact hi
  ·cases hi

theorem Z0.takeF {α : Type} [Rep α] {S : Nat → Prop} {w : World} : ∀ {l : List α} {cs : List Value} {fp : List Nat} (k : Nat),Z0 S w l cs fp → ∃ f g,fp = f ++ g ∧ Z0 S w (l.take k) (cs.take (k * Rep.n α)) f
 | l,cs,fp,0,h=>⟨[],fp,rfl,by simp [Z0]⟩
 | [],cs,fp,k + 1,h=>by obtain ⟨rfl,rfl⟩:=h; exact ⟨[],[],rfl,by simp [Z0]⟩
 | x :: l,cs,fp,k + 1,h=>by
  obtain ⟨c,cs',f,fp',rfl,rfl,h1,h2⟩:=h
  obtain ⟨f1,g1,rfl,h3⟩:=Z0.takeF k h2
  refine ⟨f ++ f1,g1,by simp,?_⟩
  rw [List.take_succ_cons,Nat.add_mul,Nat.one_mul,Nat.add_comm,show Rep.n α + k * Rep.n α = c.length + k * Rep.n α by rw [Rep.len h1],List.take_length_add_append]
  exact ⟨c,_,f,f1,rfl,rfl,h1,h3⟩
theorem Ue.cut {α : Type} [Rep α] {S : Nat → Prop} {l r : List α} {fp : List Nat} {j : Int} (h : Ue S w l v fp) (hb : slc l 0 j = some r) : ∃ fp',Ue S w r (ZO v (0 : Int).toNat j.toNat (Rep.n α)) fp' ∧ fp'.Sublist fp:=by
 obtain ⟨⟨_,h1,h2⟩,rfl⟩:=Kl hb
 obtain ⟨p,cap,rfl,hc,h⟩:=h
 have e0 : (0 : Int).toNat = 0:=rfl
 have hlen : ((l.take j.toNat).drop 0).length = j.toNat:=by simp; omega
 rw [e0,List.drop_zero] at *
 rcases h with ⟨rfl,rfl,hp⟩ | ⟨b,o,ecs,fpe,rfl,k1,k2,rfl,k3⟩
 ·have : j.toNat = 0:=by omega
  rw [this] at *
  refine ⟨[],⟨p,0,by simp [ZO],by simp,.inl ⟨rfl,rfl,hp⟩⟩,List.nil_sublist _⟩
 ·obtain ⟨f,g,rfl,k4⟩:=Z0.takeF j.toNat k1
  have hadd : (if cap = 0 then some (⟨b,o,none⟩ : Addr) else some ((⟨b,o,none⟩ : Addr).add (0 * Rep.n α))) = some ⟨b,o,none⟩:=by
   split
   ·rfl
   ·rw [Addr.add_lit]; simp
  refine ⟨b :: f,⟨some ⟨b,o,none⟩,cap,?_,by rw [hlen]; omega,.inr ⟨b,o,_,f,rfl,k4,fun i c hi=>k2 i c ?_,rfl,k3⟩⟩,by simp⟩
  ·simp only [ZO,Option.map_some,hlen,Nat.sub_zero,hadd]
  ·rw [List.getElem?_take] at hi
   split at hi
   ·exact hi
   ·cases hi
theorem M.cut {α : Type} [Rep α] {S : Nat → Prop} {l r : List α} {j : Int} (hM : M St w0 w (osl S l v :: its)) (hS : ∀ b,S b → St b) (hb : slc l 0 j = some r) : M St w0 w (osl S r (ZO v (0 : Int).toNat j.toNat (Rep.n α)) :: its):=by
 refine hM.turn (new:=[osl S r _]) rfl rfl rfl (Nat.le_refl _) ?_
 intro fp hfp _ hnd
 obtain ⟨fp',h1,h2⟩:=Ue.cut hfp hb
 exact ⟨fun _ _ _=>rfl,fp',⟨fp',[],by simp,Ti hS,h1,rfl⟩,h2.nodup hnd,fun b hb=>.inl (h2.subset hb)⟩

theorem B6 {el : TypeId} (h : Env n a e) (hw : Goes ops ⟨some d,.call ⟨.builtin .cap,[x].toArray,[t].toArray⟩,ty,pos,af,g⟩ a) (hd : d < n)
  (hx : opv e x = some (.slice none 0 0)) (ht : P.underlying t = some (.slice el))
  (k : ∀ a,Env n a ((d,vI 0) :: e) → wpList P ops Q rest a w) : wpList P ops Q (⟨some d,.call ⟨.builtin .cap,[x].toArray,[t].toArray⟩,ty,pos,af,g⟩ :: rest) a w :=
 Xp h hw rfl hd (by
  simp only [execOp,resolve]
  simp [invoke,builtin,h.ev hx,Builtin.cap_,run_underlying ht,goInt]) k
theorem Av {el : TypeId} (h : Env n a e) (hw : Goes ops ⟨some d,.call ⟨.builtin .len,[x].toArray,[t].toArray⟩,ty,pos,af,g⟩ a) (hd : d < n)
  (hx : opv e x = some (.slice none 0 0)) (ht : P.underlying t = some (.slice el))
  (k : ∀ a,Env n a ((d,vI 0) :: e) → wpList P ops Q rest a w) : wpList P ops Q (⟨some d,.call ⟨.builtin .len,[x].toArray,[t].toArray⟩,ty,pos,af,g⟩ :: rest) a w :=
 T4 (l:=([] : List Int)) h hw hd hx ht (KD (S:=NoB)) k
theorem zh {el sz by_ : Nat} {z : List Value} {D : TypeDesc} {hi : Operand} {K : IntKind} (h : Env n a e) (hw : Goes ops ⟨some d,.slice t x none (some hi) none,ty,pos,af,g⟩ a) (hd : d < n)
  (hx : opv e x = some (.slice none 0 0)) (hhi : opv e hi = some (.int K 0)) (ht : P.underlying t = some (.slice el)) (he : Ty P el D sz by_ z)
  (k : ∀ a,Env n a ((d,.slice none 0 0) :: e) → wpList P ops Q rest a w) : wpList P ops Q (⟨some d,.slice t x none (some hi) none,ty,pos,af,g⟩ :: rest) a w :=
 WK (l:=([] : List Int)) (r:=[]) (vlo:=none) (vhi:=some (.int K 0)) (i:=0) (j:=0) h hw hd hx rfl (XR hhi) rfl rfl ht he (KD (S:=NoB)) rfl k
theorem Bd (z : Array Value) (m : Nat) : (Builtin.zeroCells z m).toList = (List.replicate m z.toList).flatten:=by
 have:=ym z.toList m
 rw [← this]
 simp [Builtin.zeroCells,madeCells]
theorem z8 {α : Type} [Rep α] {K : IntKind} {c : Int} {tn el : TypeId} {kn : IntKind} {D : TypeDesc} {by_ : Nat} {z : List Value} {zero : α} {l : List α}
  (h : Env n a e) (hM : M St w0 w its) (hw : Goes ops ⟨some d,.call ⟨.builtin .append,[x,y].toArray,[t,tn].toArray⟩,ty,pos,af,g⟩ a) (hd : d < n) (hx : opv e x = some (.slice none 0 0)) (hy : opv e y = some (.int K c))
  (ht : P.underlying t = some (.slice el)) (htn : P.underlying tn = some (.int kn)) (he : Ty P el D (Rep.n α) by_ z) (hzl : z.length = Rep.n α) (h0 : 0 < by_) (hn : 0 < Rep.n α) (hz : ∀ w,Rep.sat NoB w zero z []) (hb : mkS by_ zero c = some l)
  (k : ∀ v' w a,M St w0 w (osl NoB l v' :: its) → Env n a ((d,v') :: e) → wpList P ops Q rest a w) : wpList P ops Q (⟨some d,.call ⟨.builtin .append,[x,y].toArray,[t,tn].toArray⟩,ty,pos,af,g⟩ :: rest) a w:=by
 unfold mkS at hb
 split at hb
 case isFalse=>cases hb
 rename_i hc
 obtain ⟨hc0,hcb⟩:=hc
 simp only [Option.some.injEq] at hb
 subst hb
 obtain ⟨i,zv,hi,hsz,hby,hzz,hzc⟩:=he.get
 have hcb' : c ≤ 140737488355328:=by
  have : c * 1 ≤ c * by_:=Int.mul_le_mul_of_nonneg_left (by omega) hc0
  omega
 obtain ⟨m,rfl⟩ : ∃ m : Nat,c = m:=⟨c.toNat,by omega⟩
 rw [Int.toNat_natCast] at *
 have hmb : m * by_ ≤ 140737488355328:=by
  have : ((m * by_ : Nat) : Int) ≤ 140737488355328:=by rw [Int.natCast_mul]; exact hcb
  omega
 by_cases hm : m = 0
 ·subst hm
  refine Xp h hw rfl hd (v:=.slice none 0 0) (w':=w) ?_ fun a ha=>k _ _ _ (M.nilS NoB noB hM) ha
  simp only [execOp,resolve]
  simp [invoke,builtin,h.ev hx,h.ev hy,Builtin.append_,run_underlying ht,run_underlying htn,sizeOf,typeInfo,hi,asInt,asIntOf,IntKind.wrap_i64]
 ·have hr:=Lib.run_append_nil_zeros (P:=P) w t tn ty el i zv K kn ht htn hi hzz m (by omega) (by rw [hsz]; omega) (by omega) (by rw [hby]; omega)
  have hgc:=grownCap_ge w m 0 el
  refine Xp h hw rfl hd (v:=.slice (some ⟨w.heap.size,0,none⟩) m (grownCap w m 0 el)) (w':=w.drew.alloc (.cells (Builtin.zeroCells zv.cells m ++ Builtin.zeroCells zv.cells (grownCap w m 0 el - m)) el)) (by simp only [execOp,resolve]; simp [invoke,builtin,h.ev hx,h.ev hy,hr]) fun a ha=>k _ _ _ ?_ ha
  have hcells : Builtin.zeroCells zv.cells m ++ Builtin.zeroCells zv.cells (grownCap w m 0 el - m) = ((List.replicate m z).flatten ++ (List.replicate (grownCap w m 0 el - m) z).flatten).toArray:=by
   apply Array.ext'
   rw [Array.toList_append,Bd,Bd,hzc]
  rw [hcells]
  have hnew:=UL w.drew (.cells ((List.replicate m z).flatten ++ (List.replicate (grownCap w m 0 el - m) z).flatten).toArray el)
  have hat:=At.of_heap hnew
  rw [At.append] at hat
  refine (hM.drew).add (new:=[osl NoB (List.replicate m zero) _]) (Kept.alloc _ _) ⟨[w.heap.size],⟨[w.heap.size],[],rfl,Ti (fun _ h=>h),⟨some ⟨w.heap.size,0,none⟩,grownCap w m 0 el,by simp,by simpa using hgc,.inr ⟨w.heap.size,0,_,[],rfl,T7 (hz _) _,hat.1,rfl,?_⟩⟩,rfl⟩,by simp,fun b hb=>by simp at hb; subst hb; exact ⟨Nat.le_refl _,by simp⟩⟩
  refine ⟨_,el,(0,0),hnew,?_,by intro j _; simp⟩
  have e1 : ∀ q : Nat,((List.replicate q z).flatten).length = q * Rep.n α:=fun q=>by simp [hzl]
  rw [List.size_toArray,List.length_append,e1,e1,← Nat.add_mul,Nat.zero_add,show m + (grownCap w m 0 el - m) = grownCap w m 0 el by omega]
  exact Nat.le_refl _
end
theorem yG (p q : Int) (h : 0 ≤ q) : shV .shr .u64 p q = some (vU (Uy p q)):=by simp [shV,Int.not_lt.2 h,Uy,IntKind.bits]
section
variable {n : Nat} {a : Act} {e : List (Nat × Value)} {w w' : World} {P : Program} {ops : Array Oper} {rest : List Oper} {Q : Exit → Act → World → Prop}
variable {d : Nat} {ty t : TypeId} {pos : String} {af : Array Edge} {g : Option (Nat × Bool)} {x y : Operand} {v u : Value}
variable {St : Nat → Prop} {w0 : World} {its : List Item}
def LitSat {α : Type} [Rep α] (S : Nat → Prop) (w : World) : List α → List Value → Prop
 | [],[]=>True
 | x :: l,v :: vs=>Rep.sat S w x [v] [] ∧ LitSat S w l vs
 | _,_=>False
end
end Go.Proofs.Ytkajmkegelcfjaa
namespace Go.Proofs.Ytkajmkegelcfjaa
open Go

def litP (v : Value) (m : Nat) (vs : List Value) : Item:=fun w fp=>∃ b,v = .slice (some ⟨b,0,none⟩) m m ∧ raw b vs w fp
def mkL (i : Nat) (ds : List Nat) (m : Nat) (f : List Value → List Value) : List Nat × (List Bool → List Value → Item):=(i :: ds,fun bs us=>opt (bs.headD false) (litP (us.headD undef) m (f us.tail)))
section
variable {St : Nat → Prop} {w0 w : World} {its pre post : List Item} {mk : Mk} {D : Nat → Bool} {u : Nat → Value} {i k m b : Nat} {ds : List Nat} {v : Value} {vs : List Value} {f : List Value → List Value}
theorem yK {St : Nat → Prop} : Loc St (litP v m vs):=fun w w' fp ⟨b,e,k⟩ hb=>⟨b,e,XC w w' fp k hb⟩
theorem emL : ∀ us,(mkL i ds m f).2 ((mkL i ds m f).1.map fun _=>false) us = Go.Proofs.Ytkajmkegelcfjaa.emp:=fun _=>by simp [mkL,Qy]
theorem litE (hD : D i = false) : (mkL i ds m f).2 ((mkL i ds m f).1.map D) ((mkL i ds m f).1.map u) = Go.Proofs.Ytkajmkegelcfjaa.emp:=by simp [mkL,hD,Qy]
theorem M.litOff (h : M St w0 w (its ++ qL (mk ++ [mkL i ds m f]) D u)) (hD : D i = false) : M St w0 w (its ++ qL mk D u):=by
 rw [KZ,litE hD] at h
 have h2 : M St w0 w ((its ++ qL mk D u) ++ Go.Proofs.Ytkajmkegelcfjaa.emp :: []):=by simpa [qL] using h
 simpa using h2.pull.drop
theorem M.litOn (h : M St w0 w (its ++ qL mk (Vm D k) (VC u k v))) (hD : D i = false) (hk : i ≠ k) : M St w0 w (its ++ qL (mk ++ [mkL i ds m f]) (Vm D k) (VC u k v)):=by
 rw [KZ,litE (by simp [Vm,hk,hD])]
 have h2:=M.push (pre:=its ++ qL mk (Vm D k) (VC u k v)) (post:=[]) (it:=Go.Proofs.Ytkajmkegelcfjaa.emp) (by simpa using h.emp)
 simpa [qL] using h2
theorem M.litFill (h : M St w0 w (raw b (f (ds.map u)) :: (its ++ qL (mk ++ [mkL i ds m f]) D u))) (hi : ((mk ++ []).all fun p=>p.1.all fun k=>k != i) = true) (hD : D i = false) (hd : (ds.all fun k=>k != i) = true) :
  M St w0 w (its ++ qL (mk ++ [mkL i ds m f]) (Vm D i) (VC u i (.slice (some ⟨b,0,Option.none⟩) m m))):=by
 have hne : i ∉ ds:=fun hm=>by have:=List.all_eq_true.1 hd i hm; simp at this
 have h' : M St w0 w (litP (.slice (some ⟨b,0,Option.none⟩) m m) m (f (ds.map u)) :: (its ++ qL (mk ++ [mkL i ds m f]) D u)):=h.pack1 yK fun fp k=>⟨b,rfl,k⟩
 refine M.qPut (mk1:=mk) (mk2:=[]) h' hi (litE hD) ?_
 obtain ⟨e1,e2⟩:=JE (D:=D) (u:=u) (v:=.slice (some ⟨b,0,Option.none⟩) m m) hne
 simp only [mkL,List.map_cons,e2]
 simp [Vm,VC,Kr]
theorem M.litOpen (h : M St w0 w (litP v m vs :: its)) : ∃ b,v = .slice (some ⟨b,0,Option.none⟩) m m ∧ M St w0 w (raw b vs :: its):=by
 obtain ⟨fp,⟨b,hb,_⟩,_⟩:=h.head
 exact ⟨b,hb,h.pack1 XC fun fp ⟨b',e',k⟩=>by rw [hb] at e'; simp at e'; subst e'; exact k⟩
end

def prm (a b : Bool) (x y : Item) : Item:=if b = true then y else opt a x
def mkP (j i : Nat) (f g : Value → Item) : List Nat × (List Bool → List Value → Item):=([j,i],fun bs us=>prm (bs.headD false) (bs.getD 1 false) (f (us.headD undef)) (g (us.getD 1 undef)))
section
variable {St : Nat → Prop} {w0 w : World} {its pre post : List Item} {mk1 mk2 : Mk} {D : Nat → Bool} {u : Nat → Value} {i j : Nat} {v : Value} {a b : Bool} {x y : Item} {f g : Value → Item}
end
def mkD (i s k : Nat) (z : List Value) (f : Value → List Value) : List Nat × (List Bool → List Value → Item):=([i,s,k],fun bs us=>Q4 (bs.headD false) (bs.getD 1 false) (us.headD undef) z (f (us.getD 2 undef)))
section
variable {St : Nat → Prop} {w0 w : World} {its : List Item} {mk1 mk2 : Mk} {D : Nat → Bool} {u : Nat → Value} {i s k b : Nat} {v : Value} {z c c' : List Value} {f : Value → List Value}
end
theorem flq {α : Type} [Flat α] {x y : α} : (Flat.enc x).length = (Flat.enc y).length:=(Flat.len x).trans (Flat.len y).symm
theorem zle {a b : Nat} (h : a = b) : 0 + a ≤ b:=by omega
theorem bvx {α β : Type} {N : Nat} {v : Vector α N} {i : Int} {f : α → Option β} {r : β} (h : (ZI v i).bind f = some r) : ∃ x,((0 ≤ i ∧ i < N) ∧ v.toList[i.toNat]? = some x) ∧ f x = some r:=by
 obtain ⟨x,e,h⟩:=bind_some h
 exact ⟨x,ya e,h⟩
theorem bix {α β : Type} {l : List α} {i : Int} {f : α → Option β} {r : β} (h : (idx l i).bind f = some r) : ∃ x,((0 ≤ i ∧ i < l.length) ∧ l[i.toNat]? = some x) ∧ f x = some r:=by
 obtain ⟨x,e,h⟩:=bind_some h
 exact ⟨x,y9 e,h⟩
theorem ois {α : Type} {x y : α} (h : some x = some y) : y = x:=(Option.some.inj h).symm
theorem nbl {a b : Nat} (h : Nat.ble a b = true) : a ≤ b:=Nat.le_of_ble_eq_true h
theorem ld {d n : Nat} (h : d < n:=by decide) : d < n:=h
theorem yQ {p : Value → Prop} : ∀ v ∈ ([] : List Value),p v:=fun _ h=>by cases h
theorem Kp {p : Value → Prop} {x : Value} {l : List Value} (h : p x) (hs : ∀ v ∈ l,p v) : ∀ v ∈ x :: l,p v:=fun v hv=>by
 rcases List.mem_cons.1 hv with rfl | hv
 ·exact h
 ·exact hs v hv

def Wz : List UInt8 → List UInt8 → Int
 | [],[]=>0
 | [],_ :: _=>-1
 | _ :: _,[]=>1
 | x :: l,y :: m=>if x < y then -1 else if y < x then 1 else Wz l m
theorem zo (p : Nat → Bool) (n : Nat) : (List.range (n + 1)).find? p = if p 0 then some 0 else ((List.range n).find? fun i=>p (i + 1)).map Nat.succ:=by
 rw [List.range_succ_eq_map,List.find?_cons,List.find?_map]
 cases p 0 <;> rfl
theorem cmp_eq : ∀ (a b : List UInt8),Extern.BytealgCompare.cmp ⟨a.toArray⟩ ⟨b.toArray⟩ = Wz a b:=by
 have gen : ∀ (a b : List UInt8),(match (List.range (min a.length b.length)).find? fun i=>a[i]! != b[i]! with
   | some i=>if a[i]! < b[i]! then (-1 : Int) else 1
   | none=>if a.length < b.length then -1 else if a.length > b.length then 1 else 0) = Wz a b:=by
  intro a
  induction a with
  | nil=>intro b; cases b <;> simp [Wz]
  | cons x a ih =>
   intro b
   cases b with
   | nil=>simp [Wz]
   | cons y b =>
    have e : min (x :: a).length (y :: b).length = min a.length b.length + 1:=by simp only [List.length_cons]; omega
    rw [e,zo]
    by_cases hxy : x = y
    ·subst hxy
     have hlt : ¬ x < x:=UInt8.lt_irrefl x
     have:=ih b
     simp only [List.getElem!_cons_zero,bne_self_eq_false,Bool.false_eq_true,if_false,List.getElem!_cons_succ,Wz,hlt]
     rw [← this]
     cases (List.range (min a.length b.length)).find? fun i=>a[i]! != b[i]! with
     | none=>simp
     | some i=>simp
    ·have hne : (x != y) = true:=by simpa using hxy
     simp only [List.getElem!_cons_zero,hne,if_true,Wz]
     by_cases h1 : x < y
     ·simp [h1]
     ·have h2 : y < x:=by
       rcases UInt8.lt_or_lt_of_ne hxy with h | h
       ·exact absurd h h1
       ·exact h
      simp [h1,h2]
 intro a b
 rw [← gen a b]
 unfold Extern.BytealgCompare.cmp
 have g1 : ∀ (l : List UInt8) (i : Nat),(⟨l.toArray⟩ : ByteArray)[i]! = l[i]!:=fun l i=>by
  by_cases h : i < l.length
  ·rw [getElem!_pos _ i (by exact h),getElem!_pos l i h]; rfl
  ·rw [getElem!_neg _ i (by exact h),getElem!_neg l i h]
 simp only [g1]
 rfl
section
variable {n : Nat} {a : Act} {e : List (Nat × Value)} {w w' : World} {P : Program} {ops : Array Oper} {rest : List Oper} {Q : Exit → Act → World → Prop}
variable {d : Nat} {ty t : TypeId} {pos : String} {af : Array Edge} {g : Option (Nat × Bool)} {x y : Operand} {v u : Value}
theorem Jf {S : Nat → Prop} {l : List UInt8} {fp : List Nat} (hs : Rep.sat S w l [v] fp) : (Extern.Bytes.bytesOf v).run P w = .ok ⟨l.toArray⟩ w:=by
 obtain ⟨p,cap,hv,hc,hp⟩:=hs
 simp only [List.cons.injEq,and_true] at hv
 subst hv
 cases p with
 | none =>
  have : l = []:=List.eq_nil_of_length_eq_zero (by have:=hp.1; omega)
  subst this
  rfl
 | some q =>
  obtain ⟨h1,ecs,fpe,h2,h3,_⟩:=hp
  by_cases hl0 : l = []
  ·subst hl0; rfl
  have h1:=h1 (by have:=List.length_pos_iff.2 hl0; omega)
  obtain ⟨q1,q2,q3⟩:=q
  simp only at h1
  subst h1
  obtain ⟨rfl,rfl⟩:=WS.1 h2
  have hl:=Lib.run_loadBytesX (P:=P) w (l.map fun b=>(b.toNat : Int)) ⟨q1,q2,none⟩ .empty (fun j x hj=>by
   have hjl : j < l.length:=by simpa using (List.getElem?_eq_some_iff.1 hj).1
   rw [Addr.add_lit]
   have:=h3 j (Value.int .u8 (l[j].toNat : Int)) (by rw [AE]; simp [hjl])
   rw [this]
   simp [List.getElem?_eq_getElem hjl] at hj
   subst hj
   rfl)
  rw [List.length_map] at hl
  show (Extern.Bytes.loadBytes ⟨q1,q2,none⟩ l.length .empty).run P w = _
  rw [hl]
  have:=BA l
  congr 1
  rw [this]
  apply ByteArray.ext
  show (#[] : Array UInt8) ++ l.toArray = l.toArray
  simp
theorem JQ {S S2 : Nat → Prop} {l m : List UInt8} {fp fq : List Nat} {f : Nat} {fn : Func} {ats : Array TypeId} {xs : List Operand} (h : Env n a e) (hw : Goes ops ⟨some d,.call ⟨.value (.func f),xs.toArray,ats⟩,ty,pos,af,g⟩ a) (hd : d < n)
  (hxs : T0 e xs = some [v, u]) (hf : P.funcs[f]? = some fn) (hb : fn.body.isNone = true) (hn : (fn.name == "runtime.NumGoroutine") = false) (hnx : Extern.findNext fn = none) (hfd : Extern.find fn = some Extern.BytealgCompare.compare)
  (hs : Rep.sat S w l [v] fp) (hs2 : Rep.sat S2 w m [u] fq) (k : ∀ a,Env n a ((d,vI (Wz l m)) :: e) → wpList P ops Q rest a w) : wpList P ops Q (⟨some d,.call ⟨.value (.func f),xs.toArray,ats⟩,ty,pos,af,g⟩ :: rest) a w:=by
 refine Xp h hw rfl hd (w':=w) ?_ k
 have hr : (Extern.BytealgCompare.compare #[v,u]).run P w = .ok (vI (Wz l m)) w:=by
  show (do pure (goInt (Extern.BytealgCompare.cmp (← Extern.Bytes.bytesOf v) (← Extern.Bytes.bytesOf u)))).run P w = _
  simp only [Sem.run_bind,Jf (P:=P) hs,Jf (P:=P) hs2,Result.andThen_ok,cmp_eq]
  rfl
 simp only [execOp,resolve,Act.eval]
 simp only [Deferred.ofValue,Sem.run_bind,pure,Sem.run,Result.andThen_ok,invoke]
 have hargs : (xs.toArray.map a.eval) = #[v,u]:=by simp [h.evs hxs]
 simp only [hargs,Array.append_empty]
 have:=run_callFunc_extern (P:=P) hf hn hb hnx hfd #[v,u] w
 simpa [hr] using this
end
end Go.Proofs.Ytkajmkegelcfjaa
namespace Go.Proofs.Ytkajmkegelcfjaa
open Go

def mget {κ α : Type} [DecidableEq κ] : List (κ × α) → κ → Option α
 | [],_=>none
 | p :: m,k=>if p.1 = k then some p.2 else mget m k
def mset {κ α : Type} [DecidableEq κ] : List (κ × α) → κ → α → List (κ × α)
 | [],k,x=>[(k,x)]
 | p :: m,k,x=>if p.1 = k then (k,x) :: m else p :: mset m k x
def yI {κ : Type} [DecidableEq κ] : List κ → List MapEntry → Nat → κ → Option (Nat × Value)
 | x :: ks,e :: es,i,k=>if x = k then some (i,e.val) else yI ks es (i + 1) k
 | _,_,_,_=>none
structure KeyOk (P : Program) (t : TypeId) {κ : Type} [DecidableEq κ] (kv : κ → Value) : Prop where
 check : ∀ (e : Bool) (w : World) (k : κ),(Instr.checkKey e 10000 t (kv k)).run P w = .ok () w
 find : ∀ (w : World) (k : κ) (ks : List κ) (es : List MapEntry),es.map (·.key) = ks.map kv → (Instr.findKey t (kv k) es).run P w = .ok (yI ks es 0 k) w
 same : ∀ k,Instr.sameBits 10000 (kv k) (kv k) = true
structure ElOk {α : Type} (S : Nat → Prop) (E : World → α → Value → List Nat → Prop) : Prop where
 loc : ∀ {w w' : World} {x : α} {u : Value} {f : List Nat},E w x u f → (∀ b,(b ∈ f ∨ S b) → w'.heap[b]? = w.heap[b]?) → E w' x u f
 lt : ∀ {w : World} {x : α} {u : Value} {f : List Nat},E w x u f → ∀ b ∈ f,b < w.heap.size
def satE {α : Type} [Rep α] (S : Nat → Prop) : World → α → Value → List Nat → Prop:=fun w x u f=>Rep.sat S w x [u] f
def oslE {α : Type} [Rep α] (S : Nat → Prop) : World → List α → Value → List Nat → Prop:=fun w l u f=>Ue S w l u f
def U9 {κ α : Type} (kv : κ → Value) (E : World → α → Value → List Nat → Prop) (w : World) : List (κ × α) → List MapEntry → List Nat → Prop
 | [],es,fp=>es = [] ∧ fp = []
 | p :: m,es,fp=>∃ e es' f fp',es = e :: es' ∧ fp = f ++ fp' ∧ e.key = kv p.1 ∧ E w p.2 e.val f ∧ U9 kv E w m es' fp'
def Qf (es : List MapEntry) (clock : Nat) : Prop:=es.Pairwise (fun a b=>a.born < b.born) ∧ ∀ e ∈ es,e.born < clock
def mapI {κ α : Type} (kv : κ → Value) (E : World → α → Value → List Nat → Prop) (m : List (κ × α)) (b : Nat) : Item:=fun w fp =>
 ∃ es clock fpe,w.heap[b]? = some (.map es clock) ∧ U9 kv E w m es.toList fpe ∧ Qf es.toList clock ∧ fp = b :: fpe
def mapH {κ α : Type} [DecidableEq κ] (kv : κ → Value) (E : World → α → Value → List Nat → Prop) (m : List (κ × α)) (k : κ) (u : Value) (b st : Nat) : Item:=fun w fp =>
 ∃ es clock m1 m2 es1 e es2 f1 f2,w.heap[b]? = some (.map es clock) ∧ es.toList = es1 ++ e :: es2 ∧ U9 kv E w m1 es1 f1 ∧ U9 kv E w m2 es2 f2 ∧ e.key = kv k ∧ e.born = st ∧ e.val = u ∧ Qf es.toList clock ∧
  (∀ x,mset m k x = m1 ++ (k,x) :: m2) ∧ fp = b :: (f1 ++ f2)
section
variable {κ α : Type} {kv : κ → Value} {S St : Nat → Prop} {E : World → α → Value → List Nat → Prop} {w w' w0 : World}
theorem U9.keys : ∀ {m : List (κ × α)} {es : List MapEntry} {fp : List Nat},U9 kv E w m es fp → es.map (·.key) = (m.map (·.1)).map kv
 | [],_,_,h=>by rw [h.1]; rfl
 | p :: m,_,_,h=>by
  obtain ⟨e,es',f,fp',rfl,_,h1,_,h2⟩:=h
  simp [h1,U9.keys h2]
theorem U9.loc (hE : ElOk S E) : ∀ {m : List (κ × α)} {es : List MapEntry} {fp : List Nat},U9 kv E w m es fp → (∀ b,(b ∈ fp ∨ S b) → w'.heap[b]? = w.heap[b]?) → U9 kv E w' m es fp
 | [],_,_,h,_=>h
 | p :: m,_,_,h,hb=>by
  obtain ⟨e,es',f,fp',rfl,rfl,h1,h2,h3⟩:=h
  exact ⟨e,es',f,fp',rfl,rfl,h1,hE.loc h2 (fun b h=>hb b (by simp; grind)),U9.loc hE h3 (fun b h=>hb b (by simp; grind))⟩
end
section
variable {κ α : Type} [DecidableEq κ] {kv : κ → Value} {S St : Nat → Prop} {E : World → α → Value → List Nat → Prop} {w w' w0 : World} {its : List Item}
omit [DecidableEq κ] in
theorem U9.app : ∀ {m1 m2 : List (κ × α)} {es1 es2 : List MapEntry} {f1 f2 : List Nat},U9 kv E w m1 es1 f1 → U9 kv E w m2 es2 f2 → U9 kv E w (m1 ++ m2) (es1 ++ es2) (f1 ++ f2)
 | [],_,_,_,_,_,h,k=>by obtain ⟨rfl,rfl⟩:=h; exact k
 | p :: m,_,_,_,_,_,h,k=>by
  obtain ⟨e,es',f,fp',rfl,rfl,h1,h2,h3⟩:=h
  exact ⟨e,es' ++ _,f,fp' ++ _,by simp,by simp,h1,h2,U9.app h3 k⟩
theorem Qf.push {es : List MapEntry} {clock : Nat} (h : Qf es clock) (k u : Value) : Qf (es ++ [{ key:=k,val:=u,born:=clock }]) (clock + 1):=by
 refine ⟨List.pairwise_append.2 ⟨h.1,by simp,fun a ha b hb=>?_⟩,fun e he=>?_⟩
 ·simp at hb; subst hb; exact h.2 a ha
 ·rcases List.mem_append.1 he with he | he
  ·have:=h.2 e he; omega
  ·simp at he; subst he; exact Nat.lt_succ_self _
theorem Qf.put {es1 es2 : List MapEntry} {e e' : MapEntry} {clock : Nat} (h : Qf (es1 ++ e :: es2) clock) (hb : e'.born = e.born) : Qf (es1 ++ e' :: es2) clock:=by
 obtain ⟨h1,h2⟩:=h
 rw [List.pairwise_append,List.pairwise_cons] at h1
 obtain ⟨a1,⟨a2,a3⟩,a4⟩:=h1
 refine ⟨List.pairwise_append.2 ⟨a1,List.pairwise_cons.2 ⟨fun b hb'=>by rw [hb]; exact a2 b hb',a3⟩,fun a ha b hb'=>?_⟩,fun q hq=>?_⟩
 ·rcases List.mem_cons.1 hb' with rfl | hb'
  ·rw [hb]; exact a4 a ha e (by simp)
  ·exact a4 a ha b (by simp [hb'])
 ·rcases List.mem_append.1 hq with hq | hq
  ·exact h2 q (by simp [hq])
  ·rcases List.mem_cons.1 hq with rfl | hq
   ·rw [hb]; exact h2 e (by simp)
   ·exact h2 q (by simp [hq])
omit [DecidableEq κ] in
end
section
variable {n : Nat} {a : Act} {e : List (Nat × Value)} {w w' : World} {P : Program} {ops : Array Oper} {rest : List Oper} {Q : Exit → Act → World → Prop}
variable {d : Nat} {ty t kt el : TypeId} {pos : String} {af : Array Edge} {g : Option (Nat × Bool)} {x y z : Operand} {v u : Value}
variable {St S : Nat → Prop} {w0 : World} {its pre post : List Item} {κ α : Type} {kv : κ → Value} {m : List (κ × α)} {b : Nat} {E : World → α → Value → List Nat → Prop}
variable [DecidableEq κ]
def BE {α : Type} (m : List (κ × α)) (k : κ) (b : Nat) (v : Value) (w : World) : Prop:=∃ es clock,w.heap[b]? = some (.map es clock) ∧ v = ((yI (m.map (·.1)) es.toList 0 k).map (·.2)).getD (.slice none 0 0)
def mapV {α : Type} (kv : κ → Value) (E : World → List α → Value → List Nat → Prop) (m : List (κ × List α)) (l : List α) (v : Value) (b : Nat) : Item:=fun w fp=>mapI kv E m b w fp ∧ ∃ k,BE m k b v w ∧ l = (mget m k).getD []
theorem BE.keep {m : List (κ × α)} {k : κ} (h : BE m k b v w) (hk : Kept (Old w) w w') : BE m k b v w':=by
 obtain ⟨es,c,h1,h2⟩:=h
 exact ⟨es,c,(hk.block b (Array.getElem?_eq_some_iff.1 h1).1).trans h1,h2⟩
end
end Go.Proofs.Ytkajmkegelcfjaa
namespace Go.Proofs.Ytkajmkegelcfjaa
open Go
section
open Go.RowKit
def upto {α : Type} (f : Nat → α) (k : Nat) : List α:=(List.range k).map f
def KpB (n₀ Bs : Nat) (W W' : World) : Prop:=Below n₀ W W' ∧ W'.heap[Bs]? = W.heap[Bs]?
theorem KpB.trans {n₀ Bs : Nat} {A B C : World} (h : KpB n₀ Bs A B) (k : KpB n₀ Bs B C) : KpB n₀ Bs A C:=⟨h.1.trans k.1,k.2.trans h.2⟩
def backF (zs : List UInt8) (k : Nat) : Int × UInt8:=((zs.length : Int) - 1 - k,(zs[zs.length - 1 - k]?.getD 0))
def Byts (n₀ : Nat) (W : World) (p : Option Addr) (zs : List UInt8) : Prop :=
 zs = [] ∨ ∃ b off,p = some ⟨b,off,none⟩ ∧ b < n₀ ∧ ∀ j,j < zs.length → W.cell? ⟨b,off + j,none⟩ = some (.int .u8 (zs[j]?.getD 0).toNat)
theorem Byts.below {n₀ : Nat} {A B : World} (h : Below n₀ A B) {p : Option Addr} {zs : List UInt8} : Byts n₀ A p zs → Byts n₀ B p zs
 | .inl e=>.inl e
 | .inr ⟨b,off,e,hb,hc⟩=>.inr ⟨b,off,e,hb,fun j hj=>(h.cell (p:=⟨b,off + j,none⟩) hb).trans (hc j hj)⟩
end
end Go.Proofs.Ytkajmkegelcfjaa
namespace Go.Proofs.Ytkajmkegelcfjaa
open Go
section
variable {P : Program} {St : Nat → Prop} {w0 w : World} {its : List Item} {n : Nat} {a : Act} {e : List (Nat × Value)} {ops : Array Oper} {rest : List Oper} {Q : Exit → Act → World → Prop} {v : Value} {x : Operand} {t ty : TypeId} {pos : String} {af : Array Edge} {g : Option (Nat × Bool)}
def clr {α : Type} (l : List α) (i : Int) (z : α) : Option (List α):=if 0 ≤ i ∧ i < l.length then some (l.take i.toNat ++ List.replicate (l.length - i.toNat) z) else none
end
end Go.Proofs.Ytkajmkegelcfjaa
namespace Go.Proofs.Ytkajmkegelcfjaa
open Go
section
variable {n : Nat} {a : Act} {e : List (Nat × Value)} {w w' : World} {P : Program} {ops : Array Oper} {rest : List Oper} {Q : Exit → Act → World → Prop}
variable {d : Nat} {ty t : TypeId} {pos : String} {af : Array Edge} {g : Option (Nat × Bool)} {p q : Operand}
theorem s_max {t' : TypeId} {x y : Int} (h : Env n a e) (hw : Goes ops ⟨some d,.call ⟨.builtin .max,[p,q].toArray,[t,t'].toArray⟩,ty,pos,af,g⟩ a) (hd : d < n) (hp : opv e p = some (vI x)) (hq : opv e q = some (vI y))
  (k : ∀ a,Env n a ((d,vI (if y > x then y else x)) :: e) → wpList P ops Q rest a w) : wpList P ops Q (⟨some d,.call ⟨.builtin .max,[p,q].toArray,[t,t'].toArray⟩,ty,pos,af,g⟩ :: rest) a w:=by
 exact Xp h hw rfl hd (by
  simp only [execOp,resolve]
  simp [invoke,builtin,Builtin.max_,Builtin.max2,h.ev hp,h.ev hq]) k
end
section
variable {St : Nat → Prop} {w0 w : World} {its m r : List Item} {mk mk1 mk2 : Mk} {D : Nat → Bool} {u : Nat → Value} {s : Nat} {v : Value} {A B : Item}
theorem M.tailP (h : M St w0 w (m ++ r)) : M St w0 w (m ++ [allI St r]):=by
 obtain ⟨h1,h2,fp,h3,h4,h5⟩:=h
 obtain ⟨f,g,rfl,k1,k2⟩:=Xw.split h3
 exact ⟨h1,h2,_,Xw.append k1 (Xw.one yN k2),h4,h5⟩
theorem M.tailU (h : M St w0 w (m ++ [allI St r])) : M St w0 w (m ++ r):=by
 obtain ⟨h1,h2,fp,h3,h4,h5⟩:=h
 obtain ⟨f,g,rfl,k1,g1,g2,rfl,_,k2,e⟩:=Xw.split h3
 cases e
 rw [List.append_nil] at h4 h5
 exact ⟨h1,h2,_,Xw.append k1 k2,h4,h5⟩
theorem M.qTogS {p : List Nat × (List Bool → List Value → Item)} (h : M St w0 w (B :: (its ++ (qL mk1 D u ++ qL mk2 D u)))) (hi : ((mk1 ++ mk2).all fun p=>p.1.all fun k=>k != s) = true)
  (e : p.2 (p.1.map (Vm D s)) (p.1.map (VC u s v)) = B) : M St w0 w (its ++ qL (mk1 ++ p :: mk2) (Vm D s) (VC u s v)):=by
 have hne':=noti hi
 rw [KZ,T3 (fun p hp=>hne' p (List.mem_append_left _ hp)),T3 (fun p hp=>hne' p (List.mem_append_right _ hp)),e]
 have h5 : M St w0 w (B :: ((its ++ qL mk1 D u) ++ qL mk2 D u)):=by simpa using h
 simpa using M.push h5
end
section
variable {n : Nat} {a : Act} {e : List (Nat × Value)} {w : World} {P : Program}
theorem k_ret4 {fn : Func} {R : Ending → World → Prop} {r1 r2 r3 r4 : ResultVar} {v1 v2 v3 v4 : Value} (hE : Env n a e) (hres : fn.results = #[r1,r2,r3,r4]) (h1 : Z6 P w a r1 v1) (h2 : Z6 P w a r2 v2) (h3 : Z6 P w a r3 v3) (h4 : Z6 P w a r4 v4)
  (hR : R (.returned (.tuple [v1,v2,v3,v4].toArray)) w) : bodyPost P fn R .ret a w:=by
 refine bodyPost_ret ?_ hE.df hR
 rw [TW,hres]
 simp [UO h1,UO h2,UO h3,UO h4]
end
class CL (l : List (List Value)) (n : outParam Nat) : Prop where
 h : U6 l = n
instance cl_nil : CL [] 0:=⟨rfl⟩
instance cl_one {v : Value} {r : List (List Value)} {m : Nat} [h : CL r m] : CL ([v] :: r) (1 + m):=⟨by rw [U6,h.h]; rfl⟩
instance cl_enc {α : Type} [Flat α] {x : α} {r : List (List Value)} {m : Nat} [h : CL r m] : CL (Flat.enc x :: r) (Flat.n α + m):=⟨by rw [U6,h.h,Flat.len]⟩
instance cl_cat {l r : List (List Value)} {n m : Nat} [k : CL l n] [h : CL r m] : CL (cat l :: r) (n + m):=⟨by rw [U6,h.h,BN k.h]⟩
theorem Aj : ∀ a b : List (List Value),U6 (a ++ b) = U6 a + U6 b
 | [],b=>by simp [U6]
 | c :: a,b=>by rw [List.cons_append,U6,U6,Aj a b,Nat.add_assoc]
instance cl_app {a b : List (List Value)} {n m : Nat} [h : CL a n] [k : CL b m] : CL (a ++ b) (n + m):=⟨by rw [Aj,h.h,k.h]⟩
theorem ck {l : List (List Value)} {n : Nat} [h : CL l n] : U6 l = n:=h.h
theorem cq {l : List (List Value)} {n : Nat} [h : CL l n] : (cat l).length = n:=BN h.h
theorem kq {P : Program} {l : Array Oper} {w : World} {n t i : Nat} {a : Act} {e : List (Nat × Value)} {v : Value} {ts : List Nat} {G : Value → World → Prop} (h1 : ts[i]? = some t) (hE : Env n a ((t,v) :: e)) (g : G v w) :
  wpList P l (nrm fun a' w'=>Kept (Old w) w w' ∧ ∃ v t,ts[i]? = some t ∧ Env n a' ((t,v) :: e) ∧ G v w') [] a w:=⟨Kept.refl _ _,_,_,h1,hE,g⟩
theorem M.rawAt0 {St : Nat → Prop} {w0 w : World} {b : Nat} {cs : List Value} {r : List Item} (h : M St w0 w (raw b cs :: r)) : At w b 0 cs:=M.rawAt (pre:=[]) h
theorem M.pull1 {St : Nat → Prop} {w0 w : World} {it : Item} {r : List Item} {a0 : Item} (h : M St w0 w (a0 :: it :: r)) : M St w0 w (it :: a0 :: r):=M.pull (pre:=[a0]) h
theorem M.rawAt1 {St : Nat → Prop} {w0 w : World} {b : Nat} {cs : List Value} {r : List Item} {a0 : Item} (h : M St w0 w (a0 :: raw b cs :: r)) : At w b 0 cs:=M.rawAt (pre:=[a0]) h
theorem M.pull2 {St : Nat → Prop} {w0 w : World} {it : Item} {r : List Item} {a0 a1 : Item} (h : M St w0 w (a0 :: a1 :: it :: r)) : M St w0 w (it :: a0 :: a1 :: r):=M.pull (pre:=[a0,a1]) h
theorem M.rawAt2 {St : Nat → Prop} {w0 w : World} {b : Nat} {cs : List Value} {r : List Item} {a0 a1 : Item} (h : M St w0 w (a0 :: a1 :: raw b cs :: r)) : At w b 0 cs:=M.rawAt (pre:=[a0,a1]) h
theorem M.pull3 {St : Nat → Prop} {w0 w : World} {it : Item} {r : List Item} {a0 a1 a2 : Item} (h : M St w0 w (a0 :: a1 :: a2 :: it :: r)) : M St w0 w (it :: a0 :: a1 :: a2 :: r):=M.pull (pre:=[a0,a1,a2]) h
theorem M.rawAt3 {St : Nat → Prop} {w0 w : World} {b : Nat} {cs : List Value} {r : List Item} {a0 a1 a2 : Item} (h : M St w0 w (a0 :: a1 :: a2 :: raw b cs :: r)) : At w b 0 cs:=M.rawAt (pre:=[a0,a1,a2]) h
theorem M.pull4 {St : Nat → Prop} {w0 w : World} {it : Item} {r : List Item} {a0 a1 a2 a3 : Item} (h : M St w0 w (a0 :: a1 :: a2 :: a3 :: it :: r)) : M St w0 w (it :: a0 :: a1 :: a2 :: a3 :: r):=M.pull (pre:=[a0,a1,a2,a3]) h
theorem M.rawAt4 {St : Nat → Prop} {w0 w : World} {b : Nat} {cs : List Value} {r : List Item} {a0 a1 a2 a3 : Item} (h : M St w0 w (a0 :: a1 :: a2 :: a3 :: raw b cs :: r)) : At w b 0 cs:=M.rawAt (pre:=[a0,a1,a2,a3]) h
theorem M.pull5 {St : Nat → Prop} {w0 w : World} {it : Item} {r : List Item} {a0 a1 a2 a3 a4 : Item} (h : M St w0 w (a0 :: a1 :: a2 :: a3 :: a4 :: it :: r)) : M St w0 w (it :: a0 :: a1 :: a2 :: a3 :: a4 :: r):=M.pull (pre:=[a0,a1,a2,a3,a4]) h
theorem M.rawAt5 {St : Nat → Prop} {w0 w : World} {b : Nat} {cs : List Value} {r : List Item} {a0 a1 a2 a3 a4 : Item} (h : M St w0 w (a0 :: a1 :: a2 :: a3 :: a4 :: raw b cs :: r)) : At w b 0 cs:=M.rawAt (pre:=[a0,a1,a2,a3,a4]) h
theorem M.pull6 {St : Nat → Prop} {w0 w : World} {it : Item} {r : List Item} {a0 a1 a2 a3 a4 a5 : Item} (h : M St w0 w (a0 :: a1 :: a2 :: a3 :: a4 :: a5 :: it :: r)) : M St w0 w (it :: a0 :: a1 :: a2 :: a3 :: a4 :: a5 :: r):=M.pull (pre:=[a0,a1,a2,a3,a4,a5]) h
theorem M.pull7 {St : Nat → Prop} {w0 w : World} {it : Item} {r : List Item} {a0 a1 a2 a3 a4 a5 a6 : Item} (h : M St w0 w (a0 :: a1 :: a2 :: a3 :: a4 :: a5 :: a6 :: it :: r)) : M St w0 w (it :: a0 :: a1 :: a2 :: a3 :: a4 :: a5 :: a6 :: r):=M.pull (pre:=[a0,a1,a2,a3,a4,a5,a6]) h
theorem M.rawAt7 {St : Nat → Prop} {w0 w : World} {b : Nat} {cs : List Value} {r : List Item} {a0 a1 a2 a3 a4 a5 a6 : Item} (h : M St w0 w (a0 :: a1 :: a2 :: a3 :: a4 :: a5 :: a6 :: raw b cs :: r)) : At w b 0 cs:=M.rawAt (pre:=[a0,a1,a2,a3,a4,a5,a6]) h
theorem M.pull8 {St : Nat → Prop} {w0 w : World} {it : Item} {r : List Item} {a0 a1 a2 a3 a4 a5 a6 a7 : Item} (h : M St w0 w (a0 :: a1 :: a2 :: a3 :: a4 :: a5 :: a6 :: a7 :: it :: r)) : M St w0 w (it :: a0 :: a1 :: a2 :: a3 :: a4 :: a5 :: a6 :: a7 :: r):=M.pull (pre:=[a0,a1,a2,a3,a4,a5,a6,a7]) h
theorem M.rawAt8 {St : Nat → Prop} {w0 w : World} {b : Nat} {cs : List Value} {r : List Item} {a0 a1 a2 a3 a4 a5 a6 a7 : Item} (h : M St w0 w (a0 :: a1 :: a2 :: a3 :: a4 :: a5 :: a6 :: a7 :: raw b cs :: r)) : At w b 0 cs:=M.rawAt (pre:=[a0,a1,a2,a3,a4,a5,a6,a7]) h
theorem M.pull9 {St : Nat → Prop} {w0 w : World} {it : Item} {r : List Item} {a0 a1 a2 a3 a4 a5 a6 a7 a8 : Item} (h : M St w0 w (a0 :: a1 :: a2 :: a3 :: a4 :: a5 :: a6 :: a7 :: a8 :: it :: r)) : M St w0 w (it :: a0 :: a1 :: a2 :: a3 :: a4 :: a5 :: a6 :: a7 :: a8 :: r):=M.pull (pre:=[a0,a1,a2,a3,a4,a5,a6,a7,a8]) h
abbrev Rt (w0 : World) (x : Value) : Ending → World → Prop:=fun en w'=>∃ v,en = .returned v ∧ (v = x ∧ Kept (Old w0) w0 w')
theorem kr1 {n : Nat} {a : Act} {e : List (Nat × Value)} {w w0 : World} {P : Program} {fn : Func} {t : Nat} {v : Value} (hE : Env n a e) (hres : fn.results = #[.tmp t]) (h : e.lookup t = some v) (hk : Kept (Old w0) w0 w) : bodyPost P fn (Rt w0 v) .ret a w :=
 ZU hE hres (ZV hE h) ⟨_,rfl,rfl,hk⟩
theorem st23 {Ph : Nat → Oper → Prop} {o0 o1 o2 o3 o4 o5 o6 o7 o8 o9 o10 o11 o12 o13 o14 o15 o16 o17 o18 o19 o20 o21 o22 : Oper} (h0 : Ph 0 o0) (h1 : Ph 1 o1) (h2 : Ph 2 o2) (h3 : Ph 3 o3) (h4 : Ph 4 o4) (h5 : Ph 5 o5) (h6 : Ph 6 o6) (h7 : Ph 7 o7) (h8 : Ph 8 o8) (h9 : Ph 9 o9) (h10 : Ph 10 o10) (h11 : Ph 11 o11) (h12 : Ph 12 o12) (h13 : Ph 13 o13) (h14 : Ph 14 o14) (h15 : Ph 15 o15) (h16 : Ph 16 o16) (h17 : Ph 17 o17) (h18 : Ph 18 o18) (h19 : Ph 19 o19) (h20 : Ph 20 o20) (h21 : Ph 21 o21) (h22 : Ph 22 o22) : ∀ i o,([o0,o1,o2,o3,o4,o5,o6,o7,o8,o9,o10,o11,o12,o13,o14,o15,o16,o17,o18,o19,o20,o21,o22] : List Oper)[i]? = some o → Ph i o:=AD (Zu h0 (Zu h1 (Zu h2 (Zu h3 (Zu h4 (Zu h5 (Zu h6 (Zu h7 (Zu h8 (Zu h9 (Zu h10 (Zu h11 (Zu h12 (Zu h13 (Zu h14 (Zu h15 (Zu h16 (Zu h17 (Zu h18 (Zu h19 (Zu h20 (Zu h21 (Zu h22 Bf)))))))))))))))))))))))
theorem gu23 {C : World → Prop} {u0 u1 u2 u3 u4 u5 u6 u7 u8 u9 u10 u11 u12 u13 u14 u15 u16 u17 u18 u19 u20 u21 u22 : Value} : GUp C [(fun v _=>v = u0),(fun v _=>v = u1),(fun v _=>v = u2),(fun v _=>v = u3),(fun v _=>v = u4),(fun v _=>v = u5),(fun v _=>v = u6),(fun v _=>v = u7),(fun v _=>v = u8),(fun v _=>v = u9),(fun v _=>v = u10),(fun v _=>v = u11),(fun v _=>v = u12),(fun v _=>v = u13),(fun v _=>v = u14),(fun v _=>v = u15),(fun v _=>v = u16),(fun v _=>v = u17),(fun v _=>v = u18),(fun v _=>v = u19),(fun v _=>v = u20),(fun v _=>v = u21),(fun v _=>v = u22)]:=(Y4 (Y4 (Y4 (Y4 (Y4 (Y4 (Y4 (Y4 (Y4 (Y4 (Y4 (Y4 (Y4 (Y4 (Y4 (Y4 (Y4 (Y4 (Y4 (Y4 (Y4 (Y4 (Y4 gupN)))))))))))))))))))))))
theorem cbm {P : Program} {f : Nat} {fn : Func} {c : Code} (h : P.funcs[f]? = some fn) (h2 : (fn.name == "runtime.NumGoroutine") = false := by decide) (h3 : fn.body = some c := by rfl) : Callable P f := ⟨_, _, h, h2, h3⟩
theorem ce {n : Nat} {e : List (Nat × Value)} {P : Program} {w : World} {f : Nat} {fn : Func} {c : Code} {vs : List Value} {R : Ending → World → Prop} (hf : P.funcs[f]? = some fn) (k : ∀ a,Env n a e → c.wp P (bodyPost P fn R) a w)
  (hb : fn.body = some c:=by rfl) (hn : fn.ntmps = n:=by rfl) (hl : vs.length ≤ n:=by exact nbl rfl) (he : KI 0 vs = e:=by rfl) : Calls P f vs.toArray w R:=jV hf hb hn hl he k
theorem qm {P : Program} {l : Array Oper} {n d i : Nat} {ts : List Nat} {e0 : List (Nat × Value)} {x : Operand} {v : Value} {ty : TypeId} {pos : String} {af : Array Edge} {G : Value → World → Prop} {C : World → Prop} {H : (Nat → Value) → World → Prop}
  (hx : ∀ u,opv (Ug ts 0 u e0) x = some v:=by exact fun _=>rfl) (ht : ts[i]? = some d:=by rfl) (g : ∀ w,G v w:=by exact fun _=>rfl) (hd : d < n:=by decide) :
  ∀ a w (u : Nat → Value),Env n a (Ug ts 0 u e0) → C w → H u w → wpList P l (nrm fun a' w'=>Kept (Old w) w w' ∧ ∃ v t,ts[i]? = some t ∧ Env n a' ((t,v) :: Ug ts 0 u e0) ∧ G v w') [⟨some d,.move x,ty,pos,af,none⟩] a w :=
 fun _ w u hE _ _=>Zg hE Za hd (hx u) fun _ hE=>kq ht hE (g w)
section
variable {n : Nat} {a : Act} {e : List (Nat × Value)} {w w' : World} {P : Program} {ops : Array Oper} {rest : List Oper} {Q : Exit → Act → World → Prop} {d : Nat} {ty ty' : TypeId} {pos : String} {af : Array Edge} {g : Option (Nat × Bool)} {x y z : Operand} {v : Value}
theorem Zd  (h : Env n a e) (hx : opv e x = some v) (k : ∀ a,Env n a ((d,v) :: e) → wpList P ops Q rest a w) (hd : d < n:=by decide) : wpList P ops Q (⟨some d,.move x,ty,pos,af,none⟩ :: rest) a w :=
 Zg h Za hd hx k
theorem Zc  (h : Env n a e) (hx : opv e x = some v) (k : ∀ a,Env n a ((d,v) :: e) → wpList P ops Q rest a w) (hd : d < n:=by decide) : wpList P ops Q (⟨some d,.assign x,ty,pos,af,none⟩ :: rest) a w :=
 VD h Za hd hx k
theorem YY  (h : Env n a e) (hx : opv e x = some (vT true)) (hy : opv e y = some v) (k : ∀ a,Env n a ((d,v) :: e) → wpList P ops Q rest a w) (hd : d < n:=by decide) : wpList P ops Q (⟨some d,.pick x y z,ty,pos,af,none⟩ :: rest) a w :=
 Vo h Za hd hx hy k
theorem YW  (h : Env n a e) (hx : opv e x = some (vT false)) (hz : opv e z = some v) (k : ∀ a,Env n a ((d,v) :: e) → wpList P ops Q rest a w) (hd : d < n:=by decide) : wpList P ops Q (⟨some d,.pick x y z,ty,pos,af,none⟩ :: rest) a w :=
 WN h Za hd hx hz k
theorem Zl {op : BinOp} {t2 : TypeId} {K : IntKind} {p q : Int} (h : Env n a e) (hx : opv e x = some (.int K p)) (hy : opv e y = some (.int K q)) (hv : TC op K p q = some v) (k : ∀ a,Env n a ((d,v) :: e) → wpList P ops Q rest a w) (hd : d < n:=by decide) : wpList P ops Q (⟨some d,.binOp op ty' x y t2,ty,pos,af,none⟩ :: rest) a w :=
 Z1 h Za hd hx hy hv k
theorem zx {p : Bool} (h : Env n a e) (hx : opv e x = some (vT p)) (k : ∀ a,Env n a ((d,vT (!p)) :: e) → wpList P ops Q rest a w) (hd : d < n:=by decide) : wpList P ops Q (⟨some d,.unOp .not ty' x,ty,pos,af,none⟩ :: rest) a w :=
 UY h Za hd hx k
end
section
variable {n : Nat} {a : Act} {e : List (Nat × Value)} {w w' : World} {P : Program} {ops : Array Oper} {rest : List Oper} {Q : Exit → Act → World → Prop} {d : Nat} {ty t : TypeId} {pos : String} {af : Array Edge} {g : Option (Nat × Bool)} {x y : Operand} {v : Value} {St : Nat → Prop} {w0 : World} {its : List Item}
theorem Zv {D : TypeDesc} {sz by_ : Nat} {z : List Value} (h : Env n a e) (hM : M St w0 w its) (ht : Ty P t D sz by_ z) (k : ∀ b w a,M St w0 w (raw b z :: its) → Env n a ((d,ptr b 0) :: e) → wpList P ops Q rest a w) (hd : d < n:=by decide) : wpList P ops Q (⟨some d,.alloc t,ty,pos,af,none⟩ :: rest) a w :=
 jO h hM Za hd ht k
theorem ZQ {D : TypeDesc} {sz by_ : Nat} {z : List Value} {b o : Nat} (h : Env n a e) (hx : opv e x = some (ptr b o)) (ht : Ty P t D sz by_ z) (hD : TK D = false) (hA : At w b o [v]) (k : ∀ a,Env n a ((d,v) :: e) → wpList P ops Q rest a w) (hd : d < n:=by decide) : wpList P ops Q (⟨some d,.load t x,ty,pos,af,none⟩ :: rest) a w :=
 ZN h Za hd hx ht hD hA k
theorem Zp {D : TypeDesc} {sz by_ : Nat} {z : List Value} {b o : Nat} {cs : List Value} (h : Env n a e) (hx : opv e x = some (ptr b o)) (ht : Ty P t D sz by_ z) (hD : TK D = true) (hA : At w b o cs) (hl : cs.length = sz) (k : ∀ a,Env n a ((d,.agg cs.toArray) :: e) → wpList P ops Q rest a w) (hd : d < n:=by decide) : wpList P ops Q (⟨some d,.load t x,ty,pos,af,none⟩ :: rest) a w :=
 ZA h Za hd hx ht hD hA hl k
theorem ZJ {f off b o : Nat} (h : Env n a e) (hx : opv e x = some (ptr b o)) (hf : Fd P t f off) (k : ∀ a,Env n a ((d,ptr b (o + off)) :: e) → wpList P ops Q rest a w) (hd : d < n:=by decide) : wpList P ops Q (⟨some d,.fieldAddr t x f,ty,pos,af,none⟩ :: rest) a w :=
 Zo h Za hd hx hf k
theorem ZH {N el sz by_ b o : Nat} {z : List Value} {D : TypeDesc} {K : IntKind} {i : Int} (h : Env n a e) (hx : opv e x = some (ptr b o)) (hy : opv e y = some (.int K i)) (ht : P.underlying t = some (.array N el)) (he : Ty P el D sz by_ z) (hi : 0 ≤ i ∧ i < N) (k : ∀ a,Env n a ((d,ptr b (o + i.toNat * sz)) :: e) → wpList P ops Q rest a w) (hd : d < n:=by decide) : wpList P ops Q (⟨some d,.indexAddr t x y,ty,pos,af,none⟩ :: rest) a w :=
 ZC h Za hd hx hy ht he hi k
theorem Wx {α : Type} [Rep α] {S : Nat → Prop} {l : List α} {fp : List Nat} {el sz by_ : Nat} {z : List Value} {D : TypeDesc} {K : IntKind} {i : Int} (h : Env n a e) (hx : opv e x = some v) (hy : opv e y = some (.int K i)) (ht : P.underlying t = some (.slice el)) (he : Ty P el D sz by_ z) (hs : Rep.sat S w l [v] fp) (hi : 0 ≤ i ∧ i < l.length) (k : ∀ a,Env n a ((d,ptr (sb v) (so v + i.toNat * sz)) :: e) → wpList P ops Q rest a w) (hd : d < n:=by decide) : wpList P ops Q (⟨some d,.indexAddr t x y,ty,pos,af,none⟩ :: rest) a w :=
 Yi h Za hd hx hy ht he hs hi k
theorem Yq {α : Type} [Rep α] {S : Nat → Prop} {l : List α} {fp : List Nat} {el : TypeId} (h : Env n a e) (hx : opv e x = some v) (ht : P.underlying t = some (.slice el)) (hs : Rep.sat S w l [v] fp) (k : ∀ a,Env n a ((d,vI l.length) :: e) → wpList P ops Q rest a w) (hd : d < n:=by decide) : wpList P ops Q (⟨some d,.call ⟨.builtin .len,[x].toArray,[t].toArray⟩,ty,pos,af,none⟩ :: rest) a w :=
 T4 h Za hd hx ht hs k
theorem Zy {f : Nat} {xs : List Operand} {ats : Array TypeId} {vs : List Value} {R : Value → World → Prop} (h : Env n a e) (hxs : T0 e xs = some vs) (hf : Callable P f) (hc : Calls P f vs.toArray w fun en w'=>∃ v,en = .returned v ∧ R v w') (k : ∀ v w' a,R v w' → Env n a ((d,v) :: e) → wpList P ops Q rest a w') (hd : d < n:=by decide) : wpList P ops Q (⟨some d,.call ⟨.value (.func f),xs.toArray,ats⟩,ty,pos,af,none⟩ :: rest) a w :=
 ZX h Za hd hxs hf hc k
end
end Go.Proofs.Ytkajmkegelcfjaa
namespace Go.Proofs.Ytkajmkegelcfjaa
open Go
section
variable {n : Nat} {a : Act} {e : List (Nat × Value)} {w w' : World} {P : Program} {ops : Array Oper} {rest : List Oper} {Q : Exit → Act → World → Prop}
variable {d : Nat} {ty t : TypeId} {pos : String} {af : Array Edge} {g : Option (Nat × Bool)} {p q : Operand}
end
def mkU (i : Nat) (A : Item) (f : Value → Item) : List Nat × (List Bool → List Value → Item):=([i],fun bs us=>tog (bs.headD false) A (f (us.headD undef)))
def mkW (s k b : Nat) (z : List Value) (f : Value → List Value) : List Nat × (List Bool → List Value → Item):=([s,k],fun bs us=>tog (bs.headD false) (raw b z) (raw b (f (us.getD 1 undef))))
def chn : List (Bool × Item) → Item
 | []=>Go.Proofs.Ytkajmkegelcfjaa.emp
 | (b,x) :: r=>if b = true then x else chn r
def chz : List (Nat × (Value → Item)) → List Bool → List Value → List (Bool × Item)
 | p :: l,b :: bs,v :: us=>(b,p.2 v) :: chz l bs us
 | _,_,_=>[]
def mkN (l : List (Nat × (Value → Item))) : List Nat × (List Bool → List Value → Item):=(l.map (·.1),fun bs us=>chn (chz l bs us))
section
variable {St : Nat → Prop} {w0 w : World} {its pre post : List Item} {mk1 mk2 : Mk} {D : Nat → Bool} {u : Nat → Value} {b : Bool} {A B X : Item} {p : List Nat × (List Bool → List Value → Item)} {r : List (Bool × Item)}
theorem M.chnF (h : M St w0 w (pre ++ chn ((b,X) :: r) :: post)) (hb : b = false) : M St w0 w (pre ++ chn r :: post):=by subst hb; exact h
theorem M.chnT (h : M St w0 w (pre ++ chn ((b,X) :: r) :: post)) (hb : b = true) : M St w0 w (pre ++ X :: post):=by subst hb; exact h
theorem emN {l : List (Nat × (Value → Item))} : ∀ us,(mkN l).2 ((mkN l).1.map fun _=>false) us = Go.Proofs.Ytkajmkegelcfjaa.emp:=by
 show ∀ us,chn (chz l ((l.map (·.1)).map fun _=>false) us) = _
 induction l with
 | nil=>intro us; rfl
 | cons p l ih =>
  intro us
  cases us with
  | nil=>rfl
  | cons v us=>exact ih us
abbrev Off (D : Nat → Bool) (l : List (Nat × (Value → Item))) : Prop:=∀ p ∈ l,D p.1 = false
theorem offN : Off D []:=fun _ h=>by cases h
theorem offC {k : Nat} {f : Value → Item} {l : List (Nat × (Value → Item))} (h : D k = false) (r : Off D l) : Off D ((k,f) :: l):=fun p hp=>by
 rcases List.mem_cons.1 hp with rfl | hp
 ·exact h
 ·exact r p hp
theorem Bu : ∀ {l : List (Nat × (Value → Item))} {m : List (Nat × (Value → Item))},Off D l → chn (chz (l ++ m) ((l ++ m).map fun p=>D p.1) ((l ++ m).map fun p=>u p.1)) = chn (chz m (m.map fun p=>D p.1) (m.map fun p=>u p.1))
 | [],m,_=>rfl
 | p :: l,m,h=>by
  have h1:=h p (by simp)
  simp only [List.cons_append,List.map_cons,chz,chn,h1,Bool.false_eq_true,if_false]
  exact Bu fun q hq=>h q (by simp [hq])
theorem zM {l : List (Nat × (Value → Item))} (h : Off D l) : (mkN l).2 ((mkN l).1.map D) ((mkN l).1.map u) = Go.Proofs.Ytkajmkegelcfjaa.emp:=by
 have:=Bu (u:=u) (m:=[]) h
 rw [List.append_nil] at this
 simp only [mkN,List.map_map]
 exact this
theorem BJ {l m : List (Nat × (Value → Item))} {i : Nat} {f : Value → Item} {v : Value} (h : Off D l) (hi : (l.all fun p=>p.1 != i) = true:=by rfl) : (mkN (l ++ (i,f) :: m)).2 ((mkN (l ++ (i,f) :: m)).1.map (Vm D i)) ((mkN (l ++ (i,f) :: m)).1.map (VC u i v)) = f v:=by
 have h' : Off (Vm D i) l:=fun p hp=>by
  have:=List.all_eq_true.1 hi p hp
  unfold Vm
  rw [if_neg (by simpa using this)]
  exact h p hp
 have:=Bu (D:=Vm D i) (u:=VC u i v) (m:=(i,f) :: m) h'
 simp only [mkN,List.map_map]
 refine Eq.trans this ?_
 simp [chz,chn,Vm,VC]
end
end Go.Proofs.Ytkajmkegelcfjaa
namespace Go.Proofs.Ytkajmkegelcfjaa
open Go
inductive Ent where
 | p0 (v : Value)
 | pl (ds : List Nat) (f : List Value → Value)
 | mk (pr : Value → Prop)
def Ent.g : Ent → List Nat × (List Value → Value → Prop)
 | .p0 x=>([],fun _ v=>v = x)
 | .pl ds f=>(ds,fun us v=>v = f us)
 | .mk pr=>([],fun _ v=>pr v)
def Ent.v (u : Nat → Value) (j : Nat) : Ent → Value
 | .p0 x=>x
 | .pl ds f=>f (ds.map u)
 | .mk _=>u j
def Ent.p (u : Nat → Value) (j t : Nat) : Ent → Nat × Value
 | .p0 x=>(t,x)
 | .pl ds f=>(t,f (ds.map u))
 | .mk _=>(t,u j)
theorem Ent.p_eq {u : Nat → Value} {j t : Nat} : ∀ {x : Ent},x.p u j t = (t,x.v u j)
 | .p0 _=>rfl
 | .pl _ _=>rfl
 | .mk _=>rfl
def JY (ts : List Nat) (i : Nat) (acc : List Ent) (u : Nat → Value) : List Edge → List (Nat × Value)
 | []=>[]
 | e :: r=>cond (Region.binds .any e && decide (e.on < i)) (match ts[e.on]?,acc[i - 1 - e.on]? with
   | some t,some x=>x.p u e.on t :: JY ts i acc u r
   | _,_=>JY ts i acc u r) (JY ts i acc u r)
def Hg (ts : List Nat) (u : Nat → Value) : List Ent → Nat → List (Nat × Value)
 | x :: F,i + 1=>(match ts[i]? with | some t=>x.p u i t | none=>(0,undef)) :: Hg ts u F i
 | _,_=>[]
theorem Ab {ts : List Nat} {i : Nat} {acc : List Ent} {u : Nat → Value} : ∀ {es : List Edge} {p : Nat × Value},p ∈ JY ts i acc u es → ∃ e ∈ es,Region.binds .any e = true ∧ e.on < i ∧ ∃ x,ts[e.on]? = some p.1 ∧ acc[i - 1 - e.on]? = some x ∧ p.2 = x.v u e.on
 | [],p,h=>by cases h
 | e :: r,p,h=>by
  have tl : p ∈ JY ts i acc u r → ∃ e' ∈ e :: r,Region.binds .any e' = true ∧ e'.on < i ∧ ∃ x,ts[e'.on]? = some p.1 ∧ acc[i - 1 - e'.on]? = some x ∧ p.2 = x.v u e'.on:=fun h=>by
   obtain ⟨e',h1,h2⟩:=Ab h
   exact ⟨e',by simp [h1],h2⟩
  unfold JY at h
  cases hb : (Region.binds .any e && decide (e.on < i))
  ·rw [hb] at h; exact tl h
  ·rw [hb] at h
   simp only [cond_true] at h
   simp only [Bool.and_eq_true,decide_eq_true_eq] at hb
   split at h
   ·rename_i t x h1 h2
    rcases List.mem_cons.1 h with rfl | h
    ·rw [Ent.p_eq]
     exact ⟨e,by simp,hb.1,hb.2,x,h1,h2,rfl⟩
    ·exact tl h
   ·exact tl h
theorem J5 {l : List (Nat × Value)} {s : Nat} {x : Value} (h : l.lookup s = some x) : (s,x) ∈ l:=by
 induction l with
 | nil=>cases h
 | cons p l ih =>
  obtain ⟨t,v⟩:=p
  rw [List.lookup_cons] at h
  by_cases hst : s = t
  ·subst hst; simp at h; subst h; simp
  ·rw [show (s == t) = false by simpa using hst] at h
   exact List.mem_cons_of_mem _ (ih h)
theorem QK {X Y : List (Nat × Value)} {s : Nat} : (X ++ Y).lookup s = match X.lookup s with | some x=>some x | none=>Y.lookup s:=by
 induction X with
 | nil=>rfl
 | cons p X ih =>
  obtain ⟨t,v⟩:=p
  rw [List.cons_append,List.lookup_cons,List.lookup_cons]
  cases (s == t)
  ·exact ih
  ·rfl
theorem Env.pre {n : Nat} {a : Act} {X Y : List (Nat × Value)} (h : Env n a Y) (hX : ∀ p ∈ X,Y.lookup p.1 = some p.2) : Env n a (X ++ Y):=by
 refine ⟨h.sz,h.df,fun s v hs=>?_⟩
 rw [QK] at hs
 cases hx : X.lookup s with
 | none=>rw [hx] at hs; exact h.get s v hs
 | some x =>
  rw [hx] at hs
  cases hs
  exact h.get s v (hX _ (J5 hx))
theorem Env.unpre {n : Nat} {a : Act} {X Y : List (Nat × Value)} {t : Nat} {v : Value} (h : Env n a ((t,v) :: (X ++ Y))) (hX : ∀ p ∈ X,Y.lookup p.1 = some p.2) : Env n a ((t,v) :: Y):=by
 refine ⟨h.sz,h.df,fun s x hs=>h.get s x ?_⟩
 rw [List.lookup_cons] at hs ⊢
 cases hst : (s == t)
 ·rw [hst] at hs
  simp only at hs ⊢
  rw [QK]
  cases hx : X.lookup s with
  | none=>exact hs
  | some y =>
   have:=hX _ (J5 hx)
   simp only at this
   rw [this] at hs
   exact hs
 ·rw [hst] at hs; exact hs
theorem Hu {P : Program} {ops : Array Oper} {o : Oper} {X Y : Act → World → Prop} {a : Act} {w : World} (h : wpList P ops (nrm X) [o] a w) (hXY : ∀ a w,X a w → Y a w) : wpList P ops (nrm Y) [o] a w:=by
 unfold wpList at h ⊢
 split
 ·rename_i hw
  rw [if_pos hw] at h
  rcases h with h | ⟨_,a',w',h⟩
  ·exact .inl (Oper.wp_mono2 (fun _ _ h=>hXY _ _ h) (fun _ _ _ h=>h.elim) (fun ⟨_,_,h⟩=>h.elim) h)
  ·exact h.elim
 ·rename_i hw
  rw [if_neg hw] at h
  exact hXY _ _ h
structure QC (n : Nat) (ts : List Nat) (e0 : List (Nat × Value)) (St : Nat → Prop) (w0 : World) (its : List Item) (mk : Mk) (hd : List Oper) (i : Nat) (acc : List Ent) (o : Oper) (a : Act) (w : World) (u : Nat → Value) (D : Nat → Bool) : Prop where
 E : Env n a (JY ts i acc u o.after.toList ++ Ug ts 0 u e0)
 M : M St w0 w (its ++ qL mk D u)
 G : GOk (acc.reverse.map Ent.g) D u
 F : D i = false
 c : ∀ (j : Nat) (p : Oper) (e : Edge),hd[j]? = some p → e ∈ p.after.toList → Region.binds .any e = true → D j = true → D e.on = true
 p : ∀ (k : Nat) (e : Edge),o.after.toList[k]? = some e → Region.binds .any e = true → D e.on = true
section
variable (P : Program) (ops : Array Oper) (n : Nat) (ts : List Nat) (e0 : List (Nat × Value)) (St : Nat → Prop) (w0 : World) (its : List Item) (mk : Mk) (hd : List Oper)
def QOk (i : Nat) (acc : List Ent) (o : Oper) (x : Ent) : Prop :=
 ∀ a w (u : Nat → Value) (D : Nat → Bool),QC n ts e0 St w0 its mk hd i acc o a w u D → wpList P ops (nrm fun a' w'=>∃ v t,ts[i]? = some t ∧ Env n a' ((t,v) :: (JY ts i acc u o.after.toList ++ Ug ts 0 u e0)) ∧
  ((∀ k ∈ x.g.1,D k = true) ∧ x.g.2 (x.g.1.map u) v) ∧ M St w0 w' (its ++ qL mk (Vm D i) (VC u i v))) [o] a w
def QS : Nat → List Oper → List Ent → List Ent → Prop
 | _,[],acc,F=>F = acc
 | i,o :: r,acc,F=>∃ x,QOk P ops n ts e0 St w0 its mk hd i acc o x ∧ QS (i + 1) r (x :: acc) F
end
section
variable {P : Program} {ops : Array Oper} {n : Nat} {ts : List Nat} {e0 : List (Nat × Value)} {St : Nat → Prop} {w0 : World} {its : List Item} {mk : Mk} {hd : List Oper} {i : Nat} {acc F : List Ent} {o : Oper} {r : List Oper}
theorem QS.pre : ∀ {r : List Oper} {i : Nat} {acc F : List Ent},acc.length = i → QS P ops n ts e0 St w0 its mk hd i r acc F → F.length = i + r.length ∧ F.drop r.length = acc ∧ ∀ k o,r[k]? = some o → ∃ x,F.reverse[i + k]? = some x ∧ ∃ A,A.reverse = F.reverse.take (i + k) ∧ A.length = i + k ∧ QOk P ops n ts e0 St w0 its mk hd (i + k) A o x
 | [],i,acc,F,hi,h=>by
  obtain rfl : F = acc:=h
  exact ⟨by simpa using hi,by simp,fun i o h=>by simp at h⟩
 | p :: r,i,acc,F,hi,⟨x,h1,h2⟩=>by
  obtain ⟨k1,k2,k3⟩:=QS.pre (by simp [hi]) h2
  have hrev : F.reverse.take (i + 1) = acc.reverse ++ [x]:=by
   have : F.reverse = (F.drop r.length).reverse ++ (F.take r.length).reverse:=by rw [← List.reverse_append,List.take_append_drop]
   rw [this,k2,List.reverse_cons,List.take_append_of_le_length (by simp [hi])]
   rw [List.take_of_length_le (by simp [hi])]
  refine ⟨by simp only [List.length_cons]; omega,?_,fun k o hk=>?_⟩
  ·have:=congrArg (List.drop 1) k2
   rw [List.drop_drop] at this
   simpa [Nat.add_comm] using this
  ·cases k with
   | zero =>
    simp at hk; subst hk
    refine ⟨x,?_,acc,?_,by simpa using hi,h1⟩
    ·have h5 : (F.reverse.take (i + 1))[i]? = some x:=by rw [hrev,List.getElem?_append_right (by simp [hi])]; simp [hi]
     rw [List.getElem?_take_of_lt (by omega)] at h5
     simpa using h5
    ·have h6:=congrArg (List.take i) hrev
     rw [List.take_take,Nat.min_eq_left (by omega)] at h6
     rw [Nat.add_zero,h6,List.take_append_of_le_length (by simp [hi])]
     exact (List.take_of_length_le (by simp [hi])).symm
   | succ k =>
    obtain ⟨y,h3,h4⟩:=k3 k o (by simpa using hk)
    have e : i + (k + 1) = i + 1 + k:=by omega
    rw [e]
    exact ⟨y,h3,h4⟩
theorem qs0 : QS P ops n ts e0 St w0 its mk hd i [] acc acc:=rfl
theorem qsP {v : Value} (h : ∀ {a w} {u : Nat → Value} {D : Nat → Bool},QC n ts e0 St w0 its mk hd i acc o a w u D → wpList P ops (nrm fun a' w'=>Kept (Old w) w w' ∧ ∃ t,ts[i]? = some t ∧ Env n a' ((t,v) :: (JY ts i acc u o.after.toList ++ Ug ts 0 u e0))) [o] a w)
  (k : QS P ops n ts e0 St w0 its mk hd (i + 1) r (.p0 v :: acc) F) (hi : (mk.all fun p=>p.1.all fun k=>k != i) = true:=by rfl) : QS P ops n ts e0 St w0 its mk hd i (o :: r) acc F:=by
 refine ⟨.p0 v,fun a w u D x=>Hu (h x) ?_,k⟩
 rintro a' w' ⟨hK,t,ht,hE⟩
 exact ⟨v,t,ht,hE,⟨(fun k h=>by cases h),rfl⟩,M.qKeep (x.M.keep hK) hi⟩
theorem qsM {pr : Value → Prop} (h : ∀ {a w} {u : Nat → Value} {D : Nat → Bool},QC n ts e0 St w0 its mk hd i acc o a w u D → wpList P ops (nrm fun a' w'=>∃ v t,ts[i]? = some t ∧ Env n a' ((t,v) :: (JY ts i acc u o.after.toList ++ Ug ts 0 u e0)) ∧ M St w0 w' (its ++ qL mk (Vm D i) (VC u i v)) ∧ pr v) [o] a w)
  (k : QS P ops n ts e0 St w0 its mk hd (i + 1) r (.mk pr :: acc) F) : QS P ops n ts e0 St w0 its mk hd i (o :: r) acc F:=by
 refine ⟨.mk pr,fun a w u D x=>Hu (h x) ?_,k⟩
 rintro a' w' ⟨v,t,ht,hE,hM,hp⟩
 exact ⟨v,t,ht,hE,⟨(fun k h=>by cases h),hp⟩,hM⟩
theorem Ent.eq {x : Ent} {u : Nat → Value} {j : Nat} (h : x.g.2 (x.g.1.map u) (u j)) : u j = x.v u j:=by
 cases x with
 | p0 v=>exact h
 | pl ds f=>exact h
 | mk pr=>rfl
theorem Env.setq {a : Act} {e : List (Nat × Value)} {t : Nat} {x y : Value} (h : Env n a e) (hl : e.lookup t = some x) (hq : x = y) : Env n a ((t,y) :: e):=by
 subst hq
 exact Env.pre (X:=[(t,x)]) h fun p hp=>by
  simp only [List.mem_singleton] at hp
  subst hp; exact hl
theorem B5 {u : Nat → Value} {s : Nat} {y : Value} : ∀ {F : List Ent} {m : Nat},m ≤ ts.length → F.length = m → (s,y) ∈ Hg ts u F m → ∃ (i : Nat) (x : Ent),ts[i]? = some s ∧ F.reverse[i]? = some x ∧ y = x.v u i
 | [],m,_,hl,h=>by simp [Hg] at h
 | x :: F,0,_,hl,h=>by simp at hl
 | x :: F,m + 1,hm,hl,h=>by
  rw [Hg] at h
  have ht : ts[m]? = some ts[m]:=List.getElem?_eq_getElem (by omega)
  rw [ht] at h
  have hFl : F.length = m:=by simpa using hl
  rcases List.mem_cons.1 h with h | h
  ·simp only at h
   rw [Ent.p_eq] at h
   cases h
   refine ⟨m,x,ht,?_,rfl⟩
   rw [List.reverse_cons,List.getElem?_append_right (by simp [hFl])]
   simp [hFl]
  ·obtain ⟨i,z,h1,h2,h3⟩:=B5 (by omega) hFl h
   refine ⟨i,z,h1,?_,h3⟩
   have:=(List.getElem?_eq_some_iff.1 h2).1
   rw [List.reverse_cons,List.getElem?_append_left this]
   exact h2
theorem Bb {u : Nat → Value} {s : Nat} : ∀ {F : List Ent} {m : Nat},m ≤ ts.length → F.length = m → (Hg ts u F m).lookup s = none → ∀ i,i < m → ts[i]? ≠ some s
 | [],m,_,hl,_=>fun i hi=>by simp at hl; omega
 | x :: F,0,_,hl,_=>by simp at hl
 | x :: F,m + 1,hm,hl,hn=>fun i hi hs=>by
  rw [Hg] at hn
  have ht : ts[m]? = some ts[m]:=List.getElem?_eq_getElem (by omega)
  rw [ht] at hn
  simp only at hn
  rw [Ent.p_eq,List.lookup_cons] at hn
  by_cases hst : s = ts[m]
  ·rw [show (s == ts[m]) = true by simpa using hst] at hn; cases hn
  ·rw [show (s == ts[m]) = false by simpa using hst] at hn
   by_cases him : i = m
   ·subst him; rw [ht] at hs; exact hst (by simpa using hs.symm)
   ·exact Bb (by omega) (by simpa using hl) hn i (by omega) hs
theorem Env.fin {a : Act} {u : Nat → Value} (h : Env n a (Hg ts u F ts.length ++ Ug ts 0 u e0)) (hl : F.length = ts.length) : Env n a (Hg ts u F ts.length ++ e0):=by
 refine ⟨h.sz,h.df,fun s v hs=>h.get s v ?_⟩
 rw [QK] at hs ⊢
 cases hx : (Hg ts u F ts.length).lookup s with
 | some x=>rw [hx] at hs; exact hs
 | none =>
  rw [hx] at hs
  simp only at hs ⊢
  rw [Hj ts 0 s u e0 (fun hm=>by
   obtain ⟨i,hi⟩:=List.mem_iff_getElem?.1 hm
   exact Bb (Nat.le_refl _) hl hx i (List.getElem?_eq_some_iff.1 hi).1 hi)]
  exact hs
theorem YV {id : Nat} {Q : Exit → Act → World → Prop} {a : Act} {w : World} (ts : List Nat)
  (hm : P.follows .mixedOrders = true) (hE : TZ ops.toList 0 = true) (hT : HX ops.toList ts.length = true) (hn : ts.Nodup) (hlen : Nat.ble ts.length ops.toList.length = true)
  (h0 : Env n a e0) (hM0 : ∀ u,M St w0 w.drew (its ++ qL mk (fun _=>false) u))
  (hS : QS P ops n ts e0 St w0 its mk (ops.toList.take ts.length) 0 (ops.toList.take ts.length) [] F)
  (htail : ∀ a w u D,Env n a (Hg ts u F ts.length ++ e0) → M St w0 w (its ++ qL mk D u) → GOk (F.reverse.map Ent.g) D u → (∀ j,j < ts.length → D j = true) → wpList P ops Q (ops.toList.drop ts.length) a w) :
  (Code.region id ops true).wp P Q a w:=by
 have hops : (ops.toList.take ts.length ++ ops.toList.drop ts.length).toArray = ops:=by rw [List.take_append_drop,Array.toArray_toList]
 have hl : ops.toList.take ts.length ++ ops.toList.drop ts.length = ops.toList:=List.take_append_drop _ _
 obtain ⟨k1,_,k3⟩:=QS.pre (acc:=[]) (i:=0) rfl hS
 simp only [Nat.zero_add] at k1 k3
 have hlen:=Nat.le_of_ble_eq_true hlen
 have hhl : (ops.toList.take ts.length).length = ts.length:=by rw [List.length_take,Nat.min_eq_left hlen]
 have key:=jJ (P:=P) (id:=id) (hd:=ops.toList.take ts.length) (tl:=ops.toList.drop ts.length) (Q:=Q) (a:=a) (w:=w) (n:=n) (e0:=e0) hm (by rw [hl]; exact hE) (by rw [hl,hhl]; exact hT) ts hn
  (fun D u w=>M St w0 w (its ++ qL mk D u) ∧ GOk (F.reverse.map Ent.g) D u) h0 (fun u=>⟨hM0 u,gok0⟩) ?_ ?_
 ·rw [hops] at key; exact key
 ·intro i o hi a w u D hEnv hI hD hdc hp
  rw [hops]
  obtain ⟨x,hx,A,hA,hAl,hok⟩:=k3 i o hi
  have hat : ∀ j,j < i → ∀ y,A[i - 1 - j]? = some y → F.reverse[j]? = some y:=fun j hj y hy=>by
   have h5 : A.reverse[j]? = some y:=by
    rw [List.getElem?_reverse (by omega),hAl]
    rw [← hy]
   rw [hA,List.getElem?_take_of_lt (by omega)] at h5
   exact h5
  have hX : ∀ p ∈ JY ts i A u o.after.toList,(Ug ts 0 u e0).lookup p.1 = some p.2:=by
   intro p hp'
   obtain ⟨e,he,hb,hei,y,h1,h2,h3⟩:=Ab hp'
   obtain ⟨k,hk⟩:=List.mem_iff_getElem?.1 he
   have hDe:=hp k e hk hb
   have h6:=(hI.2 e.on hDe y.g (by rw [List.getElem?_map,hat e.on hei y h2]; rfl)).2
   rw [Kx ts 0 e.on p.1 u e0 hn h1,h3,Nat.zero_add,Ent.eq h6]
  refine Hu (hok a w u D ⟨hEnv.pre hX,hI.1,?_,hD,hdc,hp⟩) ?_
  ·intro j hj g hg
   refine hI.2 j hj g ?_
   rw [List.getElem?_map] at hg ⊢
   rw [hA] at hg
   cases hz : (F.reverse.take i)[j]? with
   | none=>rw [hz] at hg; cases hg
   | some z =>
    have h5:=(List.getElem?_eq_some_iff.1 hz).1
    have h6 : j < i:=by simp at h5; omega
    rw [hz] at hg
    rw [List.getElem?_take_of_lt h6] at hz
    rw [hz]
    exact hg
  ·rintro a' w' ⟨v,t,ht,hE',hg,hM'⟩
   exact ⟨v,t,ht,hE'.unpre hX,hM',hI.2.upd hD fun g hgi=>by
    rw [List.getElem?_map,hx] at hgi
    cases hgi
    exact hg⟩
 ·intro a w u D hEnv hI hall
  rw [hops]
  rw [hhl] at hall
  have hFl : F.length = ts.length:=by rw [k1,hhl]
  refine htail a w u D ((hEnv.pre ?_).fin hFl) hI.1 hI.2 hall
  rintro ⟨s,y⟩ hs
  obtain ⟨i,x,h1,h2,h3⟩:=B5 (Nat.le_refl _) hFl hs
  have hil:=(List.getElem?_eq_some_iff.1 h1).1
  have h6:=(hI.2 i (hall i hil) x.g (by rw [List.getElem?_map,h2]; rfl)).2
  rw [Kx ts 0 i s u e0 hn h1,h3,Nat.zero_add]
  simp only
  rw [Ent.eq h6]
theorem ZP {id : Nat} {Q : Exit → Act → World → Prop} {a : Act} {w : World} (ts : List Nat)
  (hm : P.follows .mixedOrders = true) (hE : TZ ops.toList 0 = true) (hT : HX ops.toList ts.length = true) (hn : ts.Nodup) (hlen : Nat.ble ts.length ops.toList.length = true)
  (h0 : Env n a e0) (hM : M St w0 w its)
  (hS : QS P ops n ts e0 St w0 its [] (ops.toList.take ts.length) 0 (ops.toList.take ts.length) [] F)
  (htail : ∀ a w u,Env n a (Hg ts u F ts.length ++ e0) → M St w0 w its → wpList P ops Q (ops.toList.drop ts.length) a w) :
  (Code.region id ops true).wp P Q a w :=
 YV ts hm hE hT hn hlen h0 (fun u=>M.q0 hM.drew u) hS fun a w u D hE hM _ _=>htail a w u hE (by simpa [qL] using hM)
end
theorem Kv {hd : List Oper} {D : Nat → Bool} {j k : Nat} {p : Oper} {e : Edge} (c : ∀ (j : Nat) (p : Oper) (e : Edge),hd[j]? = some p → e ∈ p.after.toList → Region.binds .any e = true → D j = true → D e.on = true) (hj : hd[j]? = some p) (he : p.after.toList[k]? = some e) (hb : Region.binds .any e = true) (h : D e.on = false) : D j = false :=
 Bool.eq_false_iff.2 fun hx=>Bool.noConfusion (h.symm.trans (c j p e hj (List.mem_of_getElem? he) hb hx))
section
variable {St : Nat → Prop} {w0 w : World} {its pre post : List Item}
theorem M.openCellT {a b : Bool} {v : Value} {z c : List Value} (h : M St w0 w (pre ++ Q4 a b v z c :: post)) (ha : a = true) (hb : b = true) : ∃ b',v = ptr b' 0 ∧ M St w0 w (raw b' c :: (pre ++ post)):=by
 have:=M.openCell h ha
 subst hb
 exact this
theorem M.openCellF {a b : Bool} {v : Value} {z c : List Value} (h : M St w0 w (pre ++ Q4 a b v z c :: post)) (ha : a = true) (hb : b = false) : ∃ b',v = ptr b' 0 ∧ M St w0 w (raw b' z :: (pre ++ post)):=by
 have:=M.openCell h ha
 subst hb
 exact this
def SatI {α : Type} [Rep α] (it : Item) (l : List α) (u : Value) : Prop:=∀ w fp,it w fp → Rep.sat NoB w l [u] fp
end
theorem kr0 {P : Program} {l : Array Oper} {w : World} {n t : Nat} {e : List (Nat × Value)} {v : Value} {ti : Option Nat} (h1 : ti = some t) :
  ∀ a,Env n a ((t,v) :: e) → wpList P l (nrm fun a' w'=>Kept (Old w) w w' ∧ ∃ t,ti = some t ∧ Env n a' ((t,v) :: e)) [] a w:=fun _ hE=>⟨Kept.refl _ _,_,h1,hE⟩
theorem kc {P : Program} {l : Array Oper} {w : World} {n t : Nat} {e : List (Nat × Value)} {x : Value} {ti : Option Nat} (h1 : ti = some t) :
  ∀ v w' a,(v = x ∧ Kept (Old w) w w') → Env n a ((t,v) :: e) → wpList P l (nrm fun a' w'=>Kept (Old w) w w' ∧ ∃ t,ti = some t ∧ Env n a' ((t,x) :: e)) [] a w':=fun _ _ _ ⟨hv,hK⟩ hE=>⟨hK,_,h1,hv ▸ hE⟩
section
variable {n : Nat} {a : Act} {e : List (Nat × Value)} {w : World} {P : Program} {ops : Array Oper} {rest : List Oper} {Q : Exit → Act → World → Prop} {d : Nat} {ty t : TypeId} {pos : String} {af : Array Edge} {g : Option (Nat × Bool)} {x : Operand}
theorem Q2 {src dst : TypeId} {p : UInt8} {D : TypeDesc} (h : Env n a e) (hw : Goes ops ⟨some d,.convert src dst x,ty,pos,af,g⟩ a) (hd : d < n) (hx : opv e x = some (vB p))
  (hs : P.underlying src = some D) (ht : P.underlying dst = some (.int .i64)) (k : ∀ a,Env n a ((d,vI (bI p)) :: e) → wpList P ops Q rest a w) : wpList P ops Q (⟨some d,.convert src dst x,ty,pos,af,g⟩ :: rest) a w :=
 TL h hw hd hx hs ht fun a hE=>by rw [yg] at hE; exact k a hE
theorem jU {src dst : TypeId} {p : UInt8} {D : TypeDesc} (h : Env n a e) (hw : Goes ops ⟨some d,.convert src dst x,ty,pos,af,g⟩ a) (hd : d < n) (hx : opv e x = some (vB p))
  (hs : P.underlying src = some D) (ht : P.underlying dst = some (.int .u64)) (k : ∀ a,Env n a ((d,.int .u64 (bI p)) :: e) → wpList P ops Q rest a w) : wpList P ops Q (⟨some d,.convert src dst x,ty,pos,af,g⟩ :: rest) a w :=
 TL h hw hd hx hs ht fun a hE=>by rw [zl] at hE; exact k a hE
theorem Xc {src dst : TypeId} {J : IntKind} {p : Int} {D : TypeDesc} (h : Env n a e) (hw : Goes ops ⟨some d,.convert src dst x,ty,pos,af,g⟩ a) (hd : d < n) (hx : opv e x = some (.int J p))
  (hs : P.underlying src = some D) (ht : P.underlying dst = some (.int .u8)) (k : ∀ a,Env n a ((d,vB (Zz p)) :: e) → wpList P ops Q rest a w) : wpList P ops Q (⟨some d,.convert src dst x,ty,pos,af,g⟩ :: rest) a w :=
 TL h hw hd hx hs ht fun a hE=>by rw [K9] at hE; exact k a hE
end
end Go.Proofs.Ytkajmkegelcfjaa
namespace Go.Proofs.Ytkajmkegelcfjaa

end Go.Proofs.Ytkajmkegelcfjaa
