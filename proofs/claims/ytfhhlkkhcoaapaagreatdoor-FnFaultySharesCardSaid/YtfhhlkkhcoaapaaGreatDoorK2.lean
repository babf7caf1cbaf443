/- The walk library: what this claim needs of it. -/
import Derived.Test.YtfhhlkkhcoaapaaGreatDoorK1
set_option linter.unusedVariables false
set_option linter.unusedSimpArgs false
set_option linter.unusedSectionVars false
namespace Go.Proofs.YtfhhlkkhcoaapaaGreatDoor
section
open Go

section
variable {n : Nat} {a : Act} {e : List (Nat × Value)} {w w' : World} {P : Program} {ops : Array Oper} {rest : List Oper} {Q : Exit → Act → World → Prop}
variable {d : Nat} {ty t : TypeId} {pos : String} {af : Array Edge} {g : Option (Nat × Bool)} {x y : Operand} {v u : Value}
variable {St : Nat → Prop} {w0 : World} {its : List Item}

theorem qW : ∀ {vs : List Value},(∀ v ∈ vs,v.cells.toList = [v]) → (vs.map (·.cells.toList)).flatten = vs
 | [],_=>rfl
 | v :: vs,h=>by rw [List.map_cons,List.flatten_cons,h v (by simp),qW (fun u hu=>h u (by simp [hu]))]; rfl
theorem jP {xs : List Operand} {vs : List Value} {m el by_ : Nat} {D : TypeDesc} {z : List Value}
  (h : Env n a e) (hM : M St w0 w its) (hw : Goes ops ⟨some d,.buildSlice t m (QL 0 xs).toArray,ty,pos,af,g⟩ a) (hd : d < n) (hxs : Ku e xs = some vs) (hm : vs.length = m)
  (ht : P.underlying t = some (.slice el)) (he : Ty P el D 1 by_ z) (hsmall : m ≤ 16777216) (hcell : ∀ v ∈ vs,v.cells.toList = [v])
  (k : ∀ b w a,M St w0 w (raw b vs :: its) → Env n a ((d,.slice (some ⟨b,0,none⟩) m m) :: e) → wpList P ops Q rest a w) : wpList P ops Q (⟨some d,.buildSlice t m (QL 0 xs).toArray,ty,pos,af,g⟩ :: rest) a w:=by
 have hsz:=Va he
 obtain ⟨zv,hzv,hzc⟩:=Q9 he w
 have hc1 : ∀ v ∈ vs,v.cells.size = 1:=fun v hv=>by have:=congrArg List.length (hcell v hv); simpa using this
 have hnum:=h.numbered xs 0 vs hxs
 have hsub : ∀ cs : Array Value,cs.size = m * 1 → Instr.fill (fun i=>some (i * 1,1)) cs (numbered 0 vs) = some vs.toArray:=by
  intro cs hcs
  rw [HH 1 _ (fun _=>rfl) vs 0 cs hc1 (by simp [hm,hcs])]
  congr 2
  rw [Nat.zero_mul,qW hcell]
  exact ZZ (by simp [hcs,hm])
 have hrun : (Instr.buildSlice t m ((QL 0 xs).toArray.map fun (i,x)=>(i,a.eval x))).run P w = .ok (.slice (some ⟨w.heap.size,0,none⟩) m m) (w.alloc (.cells vs.toArray el)):=by
  have hparts : ((QL 0 xs).toArray.map fun (i,x)=>(i,a.eval x)).toList = numbered 0 vs:=by simpa using hnum
  have hlim : ¬ (m * 1 > 2 ^ 24):=by omega
  have hfill : ∀ zz : Array Value,Instr.fill (fun i=>some (i * 1,1)) ((Array.range (m * 1)).map (zz[· % zz.size]!)) (numbered 0 vs) = some vs.toArray:=fun zz=>hsub _ (by simp)
  unfold Instr.buildSlice
  simp only [Sem.run_bind,run_underlying ht,Result.andThen_ok,hsz,if_neg hlim,hparts]
  by_cases h0 : m * 1 = 0
  ·simp only [if_pos h0,pure_bind]
   rw [hfill]
   simp [newRow]
  ·simp only [if_neg h0,pure_bind,Sem.run_bind,hzv,Result.andThen_ok]
   rw [hfill]
   simp [newRow]
 exact Xw h hw rfl hd (v:=.slice (some ⟨w.heap.size,0,none⟩) m m) (w':=w.alloc (.cells vs.toArray el)) (by simp only [execOp]; simp only [Sem.run_bind,hrun]; rfl) fun a ha=>k _ _ _ (hM.alloc vs el) ha
def jb {α : Type} [Rep α] (w : World) : List α → List Value → Prop
 | [],[]=>True
 | x :: l,v :: vs=>Ro w x [v] ∧ jb w l vs
 | _,_=>False
theorem jb.elems {α : Type} [Rep α] {w : World} : ∀ {l : List α} {vs : List Value},jb w l vs → Z1 (Old w) w l vs []
 | [],[],_=>⟨rfl,rfl⟩
 | _ :: _,v :: vs,h=>⟨[v],vs,[],[],rfl,rfl,h.1,jb.elems h.2⟩
 | [],_ :: _,h=>h.elim
 | _ :: _,[],h=>h.elim
theorem M.rawLt {b : Nat} {cs : List Value} {pre post : List Item} (h : M St w0 w (pre ++ raw b cs :: post)) : b < w.heap.size:=by
 obtain ⟨fp,⟨rfl,_⟩,h1⟩:=h.get
 exact h1 b (by simp)
theorem ro_lit {α : Type} [Rep α] {l : List α} {vs : List Value} {b m : Nat} (hA : At w b 0 vs) (hb : b < w.heap.size) (h : jb w l vs) (hm : l.length = m) : Ro w l [.slice (some ⟨b,0,none⟩) m m]:=by
 subst hm
 exact ⟨some ⟨b,0,none⟩,l.length,rfl,Nat.le_refl _,fun _=>rfl,vs,[],h.elems,hA,.inl ⟨fun _=>hb,rfl⟩⟩

def toArr {α : Type} (N : Nat) (l : List α) : Option (Vector α N):=if h : N ≤ l.length then some ⟨(l.take N).toArray,by simp [h]⟩ else none
theorem Z1.takeF {α : Type} [Rep α] {S : Nat → Prop} {w : World} : ∀ {l : List α} {cs : List Value} {fp : List Nat} (k : Nat),Z1 S w l cs fp → ∃ f g,fp = f ++ g ∧ Z1 S w (l.take k) (cs.take (k * Rep.n α)) f
 | l,cs,fp,0,h=>⟨[],fp,rfl,by simp [Z1]⟩
 | [],cs,fp,k + 1,h=>by obtain ⟨rfl,rfl⟩:=h; exact ⟨[],[],rfl,by simp [Z1]⟩
 | x :: l,cs,fp,k + 1,h=>by
  obtain ⟨c,cs',f,fp',rfl,rfl,h1,h2⟩:=h
  obtain ⟨f1,g1,rfl,h3⟩:=Z1.takeF k h2
  refine ⟨f ++ f1,g1,by simp,?_⟩
  rw [List.take_succ_cons,Nat.add_mul,Nat.one_mul,Nat.add_comm,show Rep.n α + k * Rep.n α = c.length + k * Rep.n α by rw [Rep.len h1],List.take_length_add_append]
  exact ⟨c,_,f,f1,rfl,rfl,h1,h3⟩
theorem X5.cut {α : Type} [Rep α] {S : Nat → Prop} {l r : List α} {fp : List Nat} {j : Int} (h : X5 S w l v fp) (hb : slc l 0 j = some r) : ∃ fp',X5 S w r (Vc v (0 : Int).toNat j.toNat (Rep.n α)) fp' ∧ fp'.Sublist fp:=by
 obtain ⟨⟨_,h1,h2⟩,rfl⟩:=H0 hb
 obtain ⟨p,cap,rfl,hc,h⟩:=h
 have e0 : (0 : Int).toNat = 0:=rfl
 have hlen : ((l.take j.toNat).drop 0).length = j.toNat:=by simp; omega
 rw [e0,List.drop_zero] at *
 rcases h with ⟨rfl,rfl,hp⟩ | ⟨b,o,ecs,fpe,rfl,k1,k2,rfl,k3⟩
 ·have : j.toNat = 0:=by omega
  rw [this] at *
  refine ⟨[],⟨p,0,by simp [Vc],by simp,.inl ⟨rfl,rfl,hp⟩⟩,List.nil_sublist _⟩
 ·obtain ⟨f,g,rfl,k4⟩:=Z1.takeF j.toNat k1
  have hadd : (if cap = 0 then some (⟨b,o,none⟩ : Addr) else some ((⟨b,o,none⟩ : Addr).add (0 * Rep.n α))) = some ⟨b,o,none⟩:=by
   split
   ·rfl
   ·rw [Addr.add_lit]; simp
  refine ⟨b :: f,⟨some ⟨b,o,none⟩,cap,?_,by rw [hlen]; omega,.inr ⟨b,o,_,f,rfl,k4,fun i c hi=>k2 i c ?_,rfl,k3⟩⟩,by simp⟩
  ·simp only [Vc,Option.map_some,hlen,Nat.sub_zero,hadd]
  ·rw [List.getElem?_take] at hi
   split at hi
   ·exact hi
   ·cases hi
theorem M.cut {α : Type} [Rep α] {S : Nat → Prop} {l r : List α} {j : Int} (hM : M St w0 w (osl S l v :: its)) (hS : ∀ b,S b → St b) (hb : slc l 0 j = some r) : M St w0 w (osl S r (Vc v (0 : Int).toNat j.toNat (Rep.n α)) :: its):=by
 refine hM.turn (new:=[osl S r _]) rfl rfl rfl (Nat.le_refl _) ?_
 intro fp hfp _ hnd
 obtain ⟨fp',h1,h2⟩:=X5.cut hfp hb
 exact ⟨fun _ _ _=>rfl,fp',⟨fp',[],by simp,VK hS,h1,rfl⟩,h2.nodup hnd,fun b hb=>.inl (h2.subset hb)⟩

theorem jn {el : TypeId} (h : Env n a e) (hw : Goes ops ⟨some d,.call ⟨.builtin .cap,[x].toArray,[t].toArray⟩,ty,pos,af,g⟩ a) (hd : d < n)
  (hx : opv e x = some (.slice none 0 0)) (ht : P.underlying t = some (.slice el))
  (k : ∀ a,Env n a ((d,vI 0) :: e) → wpList P ops Q rest a w) : wpList P ops Q (⟨some d,.call ⟨.builtin .cap,[x].toArray,[t].toArray⟩,ty,pos,af,g⟩ :: rest) a w :=
 Xw h hw rfl hd (by
  simp only [execOp,resolve]
  simp [invoke,builtin,h.ev hx,Builtin.cap_,run_underlying ht,goInt]) k
theorem y0 {el : TypeId} (h : Env n a e) (hw : Goes ops ⟨some d,.call ⟨.builtin .len,[x].toArray,[t].toArray⟩,ty,pos,af,g⟩ a) (hd : d < n)
  (hx : opv e x = some (.slice none 0 0)) (ht : P.underlying t = some (.slice el))
  (k : ∀ a,Env n a ((d,vI 0) :: e) → wpList P ops Q rest a w) : wpList P ops Q (⟨some d,.call ⟨.builtin .len,[x].toArray,[t].toArray⟩,ty,pos,af,g⟩ :: rest) a w :=
 XN (l:=([] : List Int)) h hw hd hx ht (zj (S:=NoB)) k
theorem ku {el sz by_ : Nat} {z : List Value} {D : TypeDesc} {hi : Operand} {K : IntKind} (h : Env n a e) (hw : Goes ops ⟨some d,.slice t x none (some hi) none,ty,pos,af,g⟩ a) (hd : d < n)
  (hx : opv e x = some (.slice none 0 0)) (hhi : opv e hi = some (.int K 0)) (ht : P.underlying t = some (.slice el)) (he : Ty P el D sz by_ z)
  (k : ∀ a,Env n a ((d,.slice none 0 0) :: e) → wpList P ops Q rest a w) : wpList P ops Q (⟨some d,.slice t x none (some hi) none,ty,pos,af,g⟩ :: rest) a w :=
 QZ (l:=([] : List Int)) (r:=[]) (vlo:=none) (vhi:=some (.int K 0)) (i:=0) (j:=0) h hw hd hx rfl (VW hhi) rfl rfl ht he (zj (S:=NoB)) rfl k
theorem zX (z : Array Value) (m : Nat) : (Builtin.zeroCells z m).toList = (List.replicate m z.toList).flatten:=by
 have:=yf z.toList m
 rw [← this]
 simp [Builtin.zeroCells,madeCells]
theorem qp {α : Type} [Rep α] {K : IntKind} {c : Int} {tn el : TypeId} {kn : IntKind} {D : TypeDesc} {by_ : Nat} {z : List Value} {zero : α} {l : List α}
  (h : Env n a e) (hM : M St w0 w its) (hw : Goes ops ⟨some d,.call ⟨.builtin .append,[x,y].toArray,[t,tn].toArray⟩,ty,pos,af,g⟩ a) (hd : d < n) (hx : opv e x = some (.slice none 0 0)) (hy : opv e y = some (.int K c))
  (ht : P.underlying t = some (.slice el)) (htn : P.underlying tn = some (.int kn)) (he : Ty P el D (Rep.n α) by_ z) (hzl : z.length = Rep.n α) (h0 : 0 < by_) (hn : 0 < Rep.n α) (hz : ∀ w,Rep.sat NoB w zero z []) (hb : mkS by_ zero c = some l)
  (k : ∀ v' w a,M St w0 w (osl NoB l v' :: its) → Env n a ((d,v') :: e) → wpList P ops Q rest a w) : wpList P ops Q (⟨some d,.call ⟨.builtin .append,[x,y].toArray,[t,tn].toArray⟩,ty,pos,af,g⟩ :: rest) a w:=by
 unfold mkS at hb
 split at hb
 case isFalse=>cases hb
 rename_i hc
 obtain ⟨hc0,hcb⟩:=hc
 simp only [Option.some.injEq] at hb
 subst hb
 obtain ⟨i,zv,hi,hsz,hby,hzz,hzc⟩:=he.get
 have hcb' : c ≤ 140737488355328:=by
  have : c * 1 ≤ c * by_:=Int.mul_le_mul_of_nonneg_left (by omega) hc0
  omega
 obtain ⟨m,rfl⟩ : ∃ m : Nat,c = m:=⟨c.toNat,by omega⟩
 rw [Int.toNat_natCast] at *
 have hmb : m * by_ ≤ 140737488355328:=by
  have : ((m * by_ : Nat) : Int) ≤ 140737488355328:=by rw [Int.natCast_mul]; exact hcb
  omega
 by_cases hm : m = 0
 ·subst hm
  refine Xw h hw rfl hd (v:=.slice none 0 0) (w':=w) ?_ fun a ha=>k _ _ _ (M.nilS NoB noB hM) ha
  simp only [execOp,resolve]
  simp [invoke,builtin,h.ev hx,h.ev hy,Builtin.append_,run_underlying ht,run_underlying htn,sizeOf,typeInfo,hi,asInt,asIntOf,IntKind.wrap_i64]
 ·have hr:=Lib.run_append_nil_zeros (P:=P) w t tn ty el i zv K kn ht htn hi hzz m (by omega) (by rw [hsz]; omega) (by omega) (by rw [hby]; omega)
  have hgc:=grownCap_ge w m 0 el
  refine Xw h hw rfl hd (v:=.slice (some ⟨w.heap.size,0,none⟩) m (grownCap w m 0 el)) (w':=w.drew.alloc (.cells (Builtin.zeroCells zv.cells m ++ Builtin.zeroCells zv.cells (grownCap w m 0 el - m)) el)) (by simp only [execOp,resolve]; simp [invoke,builtin,h.ev hx,h.ev hy,hr]) fun a ha=>k _ _ _ ?_ ha
  have KM : Builtin.zeroCells zv.cells m ++ Builtin.zeroCells zv.cells (grownCap w m 0 el - m) = ((List.replicate m z).flatten ++ (List.replicate (grownCap w m 0 el - m) z).flatten).toArray:=by
   apply Array.ext'
   rw [Array.toList_append,zX,zX,hzc]
  rw [KM]
  have hnew:=U4 w.drew (.cells ((List.replicate m z).flatten ++ (List.replicate (grownCap w m 0 el - m) z).flatten).toArray el)
  have hat:=At.of_heap hnew
  rw [At.append] at hat
  refine (hM.drew).add (new:=[osl NoB (List.replicate m zero) _]) (Kept.alloc _ _) ⟨[w.heap.size],⟨[w.heap.size],[],rfl,VK (fun _ h=>h),⟨some ⟨w.heap.size,0,none⟩,grownCap w m 0 el,by simp,by simpa using hgc,.inr ⟨w.heap.size,0,_,[],rfl,Qt (hz _) _,hat.1,rfl,?_⟩⟩,rfl⟩,by simp,fun b hb=>by simp at hb; subst hb; exact ⟨Nat.le_refl _,by simp⟩⟩
  refine ⟨_,el,(0,0),hnew,?_,by intro j _; simp⟩
  have e1 : ∀ q : Nat,((List.replicate q z).flatten).length = q * Rep.n α:=fun q=>by simp [hzl]
  rw [List.size_toArray,List.length_append,e1,e1,← Nat.add_mul,Nat.zero_add,show m + (grownCap w m 0 el - m) = grownCap w m 0 el by omega]
  exact Nat.le_refl _
end
theorem JD (p q : Int) (h : 0 ≤ q) : shV .shr .u64 p q = some (vU (YD p q)):=by simp [shV,Int.not_lt.2 h,YD,IntKind.bits]
section
variable {n : Nat} {a : Act} {e : List (Nat × Value)} {w w' : World} {P : Program} {ops : Array Oper} {rest : List Oper} {Q : Exit → Act → World → Prop}
variable {d : Nat} {ty t : TypeId} {pos : String} {af : Array Edge} {g : Option (Nat × Bool)} {x y : Operand} {v u : Value}
variable {St : Nat → Prop} {w0 : World} {its : List Item}
theorem BB {α : Type} [Rep α] {S : Nat → Prop} {l m : List α} {el : TypeId} {D : TypeDesc} {by_ : Nat} {z : List Value}
  (h : Env n a e) (hM : M St w0 w (osl S l v :: its)) (hS : ∀ b,S b → St b) (hw : Goes ops ⟨some d,.call ⟨.builtin .append,[x,y].toArray,[t,t].toArray⟩,ty,pos,af,g⟩ a) (hd : d < n) (hx : opv e x = some v) (hy : opv e y = some u)
  (hu : Rep.sat S w m [u] []) (ht : P.underlying t = some (.slice el)) (he : Ty P el D (Rep.n α) by_ z) (hzl : z.length = Rep.n α) (h0 : 0 < by_) (hb : (l.length + m.length) * by_ ≤ 140737488355328)
  (k : ∀ v' w a,M St w0 w (osl S (l ++ m) v' :: its) → Env n a ((d,v') :: e) → wpList P ops Q rest a w) : wpList P ops Q (⟨some d,.call ⟨.builtin .append,[x,y].toArray,[t,t].toArray⟩,ty,pos,af,g⟩ :: rest) a w:=by
 obtain ⟨fp,hfp,_⟩:=hM.head
 obtain ⟨v',w',hr,hos,htp,hout,hsz,_,_⟩:=JK (ty:=ty) hfp hu ht he hzl h0 hb
 refine Xw h hw rfl hd (v:=v') (w':=w') (by simp only [execOp,resolve]; simp [invoke,builtin,h.ev hx,h.ev hy,hr]) fun a ha=>k _ _ _ ?_ ha
 have hst:=hM.st'
 refine hM.turn (new:=[osl S (l ++ m) v']) hos htp hout hsz ?_
 intro fp hfp hlt hnd
 obtain ⟨v2,w2,hr2,_,_,_,_,hother,p,cap,hv2,hc,hres⟩:=JK (ty:=ty) hfp hu ht he hzl h0 hb
 rw [hr] at hr2
 simp only [Result.ok.injEq] at hr2
 obtain ⟨rfl,rfl⟩:=hr2
 refine ⟨fun b hb hb'=>hother b hb' (fun h=>absurd h hb),?_⟩
 have hlen : l.length + m.length = (l ++ m).length:=by simp
 rcases hres with ⟨rfl,rfl,hq⟩ | ⟨b,o,ecs,fpe,news,fqe,rfl,j1,j2,j3,j4,j5,j9,j6,j7,j8⟩
 ·exact ⟨[],⟨[],[],rfl,VK hS,⟨p,0,by rw [hv2,hlen],by rw [← hlen]; exact hc,.inl ⟨rfl,rfl,hq⟩⟩,rfl⟩,List.nodup_nil,fun b hb=>by cases hb⟩
 ·obtain rfl : fqe = []:=List.eq_nil_of_sublist_nil j4
  have hbfpe : b ∉ fpe:=by
   intro hb
   rcases j8 with hg1 | j8
   ·rw [hg1] at hnd; exact (List.nodup_cons.1 hnd).1 hb
   ·have:=(hlt b (j5.subset hb)).2; omega
  have hkeep : ∀ c,(c ∈ fpe ∨ S c) → w'.heap[c]? = w.heap[c]?:=by
   intro c hc'
   refine hother c ?_ ?_
   ·rcases hc' with h | h
    ·exact (hlt c (j5.subset h)).2
    ·exact hst c (hS c h)
   ·rintro hcg rfl
    rcases hc' with h | h
    ·rcases j9 with hf | hf
     ·rw [hf] at hcg; cases hcg
     ·rw [hf] at hnd; exact (List.nodup_cons.1 hnd).1 h
    ·exact (hlt _ hcg).1 (hS _ h)
  refine ⟨b :: fpe,⟨b :: fpe,[],by simp,VK hS,⟨some ⟨b,o,none⟩,cap,by rw [hv2,hlen],by rw [← hlen]; exact hc,.inr ⟨b,o,ecs ++ news,fpe,rfl,?_,j6,rfl,j7⟩⟩,rfl⟩,List.nodup_cons.2 ⟨hbfpe,j5.nodup hnd⟩,fun c hc'=>?_⟩
  ·have:=Z1.append (j1.loc (w':=w') hkeep) (j2.loc (w':=w') (fun c hc=>hkeep c (by rcases hc with h | h; cases h; exact .inr h)))
   simpa using this
  ·rcases List.mem_cons.1 hc' with rfl | hc'
   ·rcases j8 with hf | j8
    ·exact .inl (by rw [hf]; simp)
    ·exact .inr j8
   ·exact .inl (j5.subset hc')
theorem Zas {vs z : List Value} (hz : z.length = vs.length) (hc : ∀ v ∈ vs,v.cells.toList = [v]) : FillA 1 z (numbered 0 vs) vs:=by
 unfold FillA
 rw [HH 1 _ (fun _=>rfl) vs 0 z.toArray (fun v hv=>by have:=congrArg List.length (hc v hv); simpa using this) (by simp [hz])]
 congr 2
 rw [Nat.zero_mul,qW hc]
 exact ZZ hz.symm
def qQ {α : Type} [Rep α] (S : Nat → Prop) (w : World) : List α → List Value → Prop
 | [],[]=>True
 | x :: l,v :: vs=>Rep.sat S w x [v] [] ∧ qQ S w l vs
 | _,_=>False
theorem Zad {α : Type} [Rep α] {S : Nat → Prop} {w : World} : ∀ {l : List α} {vs : List Value} {i : Nat} {x : α},qQ S w l vs → l[i]? = some x → ∃ u,vs[i]? = some u ∧ Rep.sat S w x [u] []
 | x :: l,v :: vs,0,y,h,hi=>⟨v,rfl,by simp only [List.getElem?_cons_zero,Option.some.injEq] at hi; subst hi; exact h.1⟩
 | x :: l,v :: vs,i + 1,y,h,hi=>Zad (l:=l) (vs:=vs) h.2 hi
 | [],vs,i,y,_,hi=>by simp at hi
 | _ :: _,[],_,_,h,_=>h.elim
theorem Zag {N el by_ : Nat} {z : List Value} {De : TypeDesc} {K : IntKind} {i : Int} {vs : List Value} (h : Env n a e) (hw : Goes ops ⟨some d,.index t x y,ty,pos,af,g⟩ a) (hd : d < n)
  (hx : opv e x = some (.agg vs.toArray)) (hy : opv e y = some (.int K i)) (ht : P.underlying t = some (.array N el)) (he : Ty P el De 1 by_ z) (hD : Hd De = false) (hi : 0 ≤ i ∧ i < N) (hu : vs[i.toNat]? = some u)
  (k : ∀ a,Env n a ((d,u) :: e) → wpList P ops Q rest a w) : wpList P ops Q (⟨some d,.index t x y,ty,pos,af,g⟩ :: rest) a w :=
 Xw h hw rfl hd (by
  simp only [execOp,h.ev hx,h.ev hy]
  simp [Instr.index,asIntOf,run_underlying ht,hi,Va he,part,JL he,hD,hu]) k
end
end
section
open Go

def litP (v : Value) (m : Nat) (vs : List Value) : Item:=fun w fp=>∃ b,v = .slice (some ⟨b,0,none⟩) m m ∧ raw b vs w fp
def mkL (i : Nat) (ds : List Nat) (m : Nat) (f : List Value → List Value) : List Nat × (List Bool → List Value → Item):=(i :: ds,fun bs us=>opt (bs.headD false) (litP (us.headD undef) m (f us.tail)))
section
variable {St : Nat → Prop} {w0 w : World} {its pre post : List Item} {mk : Mk} {D : Nat → Bool} {u : Nat → Value} {i k m b : Nat} {ds : List Nat} {v : Value} {vs : List Value} {f : List Value → List Value}
end

def prm (a b : Bool) (x y : Item) : Item:=if b = true then y else opt a x
def mkP (j i : Nat) (f g : Value → Item) : List Nat × (List Bool → List Value → Item):=([j,i],fun bs us=>prm (bs.headD false) (bs.getD 1 false) (f (us.headD undef)) (g (us.getD 1 undef)))
section
variable {St : Nat → Prop} {w0 w : World} {its pre post : List Item} {mk1 mk2 : Mk} {D : Nat → Bool} {u : Nat → Value} {i j : Nat} {v : Value} {a b : Bool} {x y : Item} {f g : Value → Item}
end
def mkD (i s k : Nat) (z : List Value) (f : Value → List Value) : List Nat × (List Bool → List Value → Item):=([i,s,k],fun bs us=>cellI (bs.headD false) (bs.getD 1 false) (us.headD undef) z (f (us.getD 2 undef)))
section
variable {St : Nat → Prop} {w0 w : World} {its : List Item} {mk1 mk2 : Mk} {D : Nat → Bool} {u : Nat → Value} {i s k b : Nat} {v : Value} {z c c' : List Value} {f : Value → List Value}
end
theorem bix {α β : Type} {l : List α} {i : Int} {f : α → Option β} {r : β} (h : (idx l i).bind f = some r) : ∃ x,((0 ≤ i ∧ i < l.length) ∧ l[i.toNat]? = some x) ∧ f x = some r:=by
 obtain ⟨x,e,h⟩:=bind_some h
 exact ⟨x,yW e,h⟩
theorem ois {α : Type} {x y : α} (h : some x = some y) : y = x:=(Option.some.inj h).symm
theorem nbl {a b : Nat} (h : Nat.ble a b = true) : a ≤ b:=Nat.le_of_ble_eq_true h
theorem ld {d n : Nat} (h : d < n:=by decide) : d < n:=h
theorem fa_nil {p : Value → Prop} : ∀ v ∈ ([] : List Value),p v:=fun _ h=>by cases h
theorem k9 {p : Value → Prop} {x : Value} {l : List Value} (h : p x) (hs : ∀ v ∈ l,p v) : ∀ v ∈ x :: l,p v:=fun v hv=>by
 rcases List.mem_cons.1 hv with rfl | hv
 ·exact h
 ·exact hs v hv

def cmpB : List UInt8 → List UInt8 → Int
 | [],[]=>0
 | [],_ :: _=>-1
 | _ :: _,[]=>1
 | x :: l,y :: m=>if x < y then -1 else if y < x then 1 else cmpB l m
section
variable {n : Nat} {a : Act} {e : List (Nat × Value)} {w w' : World} {P : Program} {ops : Array Oper} {rest : List Oper} {Q : Exit → Act → World → Prop}
variable {d : Nat} {ty t : TypeId} {pos : String} {af : Array Edge} {g : Option (Nat × Bool)} {x y : Operand} {v u : Value}
end
end
section
open Go

def mget {κ α : Type} [DecidableEq κ] : List (κ × α) → κ → Option α
 | [],_=>none
 | p :: m,k=>if p.1 = k then some p.2 else mget m k
def mset {κ α : Type} [DecidableEq κ] : List (κ × α) → κ → α → List (κ × α)
 | [],k,x=>[(k,x)]
 | p :: m,k,x=>if p.1 = k then (k,x) :: m else p :: mset m k x
def Zaw {κ : Type} [DecidableEq κ] : List κ → List MapEntry → Nat → κ → Option (Nat × Value)
 | x :: ks,e :: es,i,k=>if x = k then some (i,e.val) else Zaw ks es (i + 1) k
 | _,_,_,_=>none
structure KeyOk (P : Program) (t : TypeId) {κ : Type} [DecidableEq κ] (kv : κ → Value) : Prop where
 check : ∀ (e : Bool) (w : World) (k : κ),(Instr.checkKey e 10000 t (kv k)).run P w = .ok () w
 find : ∀ (w : World) (k : κ) (ks : List κ) (es : List MapEntry),es.map (·.key) = ks.map kv → (Instr.findKey t (kv k) es).run P w = .ok (Zaw ks es 0 k) w
 same : ∀ k,Instr.sameBits 10000 (kv k) (kv k) = true
structure ElOk {α : Type} (S : Nat → Prop) (E : World → α → Value → List Nat → Prop) : Prop where
 loc : ∀ {w w' : World} {x : α} {u : Value} {f : List Nat},E w x u f → (∀ b,(b ∈ f ∨ S b) → w'.heap[b]? = w.heap[b]?) → E w' x u f
 lt : ∀ {w : World} {x : α} {u : Value} {f : List Nat},E w x u f → ∀ b ∈ f,b < w.heap.size
def satE {α : Type} [Rep α] (S : Nat → Prop) : World → α → Value → List Nat → Prop:=fun w x u f=>Rep.sat S w x [u] f
def oslE {α : Type} [Rep α] (S : Nat → Prop) : World → List α → Value → List Nat → Prop:=fun w l u f=>X5 S w l u f
def z6 {κ α : Type} (kv : κ → Value) (E : World → α → Value → List Nat → Prop) (w : World) : List (κ × α) → List MapEntry → List Nat → Prop
 | [],es,fp=>es = [] ∧ fp = []
 | p :: m,es,fp=>∃ e es' f fp',es = e :: es' ∧ fp = f ++ fp' ∧ e.key = kv p.1 ∧ E w p.2 e.val f ∧ z6 kv E w m es' fp'
def Ha (es : List MapEntry) (clock : Nat) : Prop:=es.Pairwise (fun a b=>a.born < b.born) ∧ ∀ e ∈ es,e.born < clock
def mapI {κ α : Type} (kv : κ → Value) (E : World → α → Value → List Nat → Prop) (m : List (κ × α)) (b : Nat) : Item:=fun w fp =>
 ∃ es clock fpe,w.heap[b]? = some (.map es clock) ∧ z6 kv E w m es.toList fpe ∧ Ha es.toList clock ∧ fp = b :: fpe
def mapH {κ α : Type} [DecidableEq κ] (kv : κ → Value) (E : World → α → Value → List Nat → Prop) (m : List (κ × α)) (k : κ) (u : Value) (b st : Nat) : Item:=fun w fp =>
 ∃ es clock m1 m2 es1 e es2 f1 f2,w.heap[b]? = some (.map es clock) ∧ es.toList = es1 ++ e :: es2 ∧ z6 kv E w m1 es1 f1 ∧ z6 kv E w m2 es2 f2 ∧ e.key = kv k ∧ e.born = st ∧ e.val = u ∧ Ha es.toList clock ∧
  (∀ x,mset m k x = m1 ++ (k,x) :: m2) ∧ fp = b :: (f1 ++ f2)
section
variable {κ α : Type} {kv : κ → Value} {S St : Nat → Prop} {E : World → α → Value → List Nat → Prop} {w w' w0 : World}
end
section
variable {κ α : Type} [DecidableEq κ] {kv : κ → Value} {S St : Nat → Prop} {E : World → α → Value → List Nat → Prop} {w w' w0 : World} {its : List Item}
omit [DecidableEq κ] in
theorem Ha.push {es : List MapEntry} {clock : Nat} (h : Ha es clock) (k u : Value) : Ha (es ++ [{ key:=k,val:=u,born:=clock }]) (clock + 1):=by
 refine ⟨List.pairwise_append.2 ⟨h.1,by simp,fun a ha b hb=>?_⟩,fun e he=>?_⟩
 ·simp at hb; subst hb; exact h.2 a ha
 ·rcases List.mem_append.1 he with he | he
  ·have:=h.2 e he; omega
  ·simp at he; subst he; exact Nat.lt_succ_self _
omit [DecidableEq κ] in
end
section
variable {n : Nat} {a : Act} {e : List (Nat × Value)} {w w' : World} {P : Program} {ops : Array Oper} {rest : List Oper} {Q : Exit → Act → World → Prop}
variable {d : Nat} {ty t kt el : TypeId} {pos : String} {af : Array Edge} {g : Option (Nat × Bool)} {x y z : Operand} {v u : Value}
variable {St S : Nat → Prop} {w0 : World} {its pre post : List Item} {κ α : Type} {kv : κ → Value} {m : List (κ × α)} {b : Nat} {E : World → α → Value → List Nat → Prop}
variable [DecidableEq κ]
def yL {α : Type} (m : List (κ × α)) (k : κ) (b : Nat) (v : Value) (w : World) : Prop:=∃ es clock,w.heap[b]? = some (.map es clock) ∧ v = ((Zaw (m.map (·.1)) es.toList 0 k).map (·.2)).getD (.slice none 0 0)
def mapV {α : Type} (kv : κ → Value) (E : World → List α → Value → List Nat → Prop) (m : List (κ × List α)) (l : List α) (v : Value) (b : Nat) : Item:=fun w fp=>mapI kv E m b w fp ∧ ∃ k,yL m k b v w ∧ l = (mget m k).getD []
theorem yL.keep {m : List (κ × α)} {k : κ} (h : yL m k b v w) (hk : Kept (Old w) w w') : yL m k b v w':=by
 obtain ⟨es,c,h1,h2⟩:=h
 exact ⟨es,c,(hk.block b (Array.getElem?_eq_some_iff.1 h1).1).trans h1,h2⟩
end
end
section
open Go
section
open Go.RowKit
def Ac {α : Type} (f : Nat → α) (k : Nat) : List α:=(List.range k).map f
theorem qk {α : Type} (f : Nat → α) (k : Nat) : Ac f (k + 1) = Ac f k ++ [f k]:=by simp [Ac,List.range_succ]
theorem jq {α : Type} (f : Nat → α) (k : Nat) : (Ac f k).length = k:=by simp [Ac]
def KpB (n₀ Bs : Nat) (W W' : World) : Prop:=Below n₀ W W' ∧ W'.heap[Bs]? = W.heap[Bs]?
theorem KpB.trans {n₀ Bs : Nat} {A B C : World} (h : KpB n₀ Bs A B) (k : KpB n₀ Bs B C) : KpB n₀ Bs A C:=⟨h.1.trans k.1,k.2.trans h.2⟩
def zp (zs : List UInt8) (k : Nat) : Int × UInt8:=((zs.length : Int) - 1 - k,(zs[zs.length - 1 - k]?.getD 0))
theorem qB (zs : List UInt8) : (Ac (zp zs) zs.length).map (·.2) = zs.reverse:=by
 apply List.ext_getElem
 ·simp [Ac]
 ·intro i h1 h2
  have hi : i < zs.length:=by simpa [Ac] using h1
  have hj : zs.length - 1 - i < zs.length:=by omega
  simp [Ac,zp,List.getElem?_eq_getElem hj]
def Byts (n₀ : Nat) (W : World) (p : Option Addr) (zs : List UInt8) : Prop :=
 zs = [] ∨ ∃ b off,p = some ⟨b,off,none⟩ ∧ b < n₀ ∧ ∀ j,j < zs.length → W.cell? ⟨b,off + j,none⟩ = some (.int .u8 (zs[j]?.getD 0).toNat)
theorem Byts.below {n₀ : Nat} {A B : World} (h : Below n₀ A B) {p : Option Addr} {zs : List UInt8} : Byts n₀ A p zs → Byts n₀ B p zs
 | .inl e=>.inl e
 | .inr ⟨b,off,e,hb,hc⟩=>.inr ⟨b,off,e,hb,fun j hj=>(h.cell (p:=⟨b,off + j,none⟩) hb).trans (hc j hj)⟩
theorem KeptB {w W : World} (h : Kept (Old w) w W) {n : Nat} (hn : n ≤ w.heap.size) : Below n w W:=⟨h.os,h.tape,h.output,h.size,fun k hk=>h.block k (Nat.lt_of_lt_of_le hk hn)⟩
theorem KeptF {w W : World} (h : Kept (Old w) w W) (B : Nat) : KeepsFrom B w W:=⟨h.size,fun k o _ hk _=>(h.block k (Array.getElem?_eq_some_iff.1 hk).1).trans hk⟩
theorem qd : ∀ (l : List UInt8) (j : Nat),j < l.length → (VN l)[j]? = some (.int .u8 (l[j]?.getD 0).toNat)
 | [],j,h=>by simp at h
 | x :: l,0,_=>rfl
 | x :: l,j + 1,h=>by simpa [VN,Flat.enc] using qd l j (by simpa using h)
theorem Zck {w : World} {l : List UInt8} {v : Value} (h : Ro w l [v]) : ∃ p cap,v = .slice p l.length cap ∧ Byts w.heap.size w p l:=by
 obtain ⟨p,cap,hv,hc,hp⟩:=h
 simp only [List.cons.injEq,and_true] at hv
 refine ⟨p,cap,hv,?_⟩
 by_cases hl : l = []
 ·exact .inl hl
 cases p with
 | none=>exact absurd (List.eq_nil_of_length_eq_zero (by have:=hp.1; omega)) hl
 | some q =>
  obtain ⟨q1,q2,q3⟩:=q
  obtain ⟨h1,ecs,fpe,h2,h3,h4⟩:=hp
  have h1:=h1 (by have:=List.length_pos_iff.2 hl; omega)
  simp only at h1
  subst h1
  obtain ⟨rfl,rfl⟩:=Wc.1 h2
  refine .inr ⟨q1,q2,rfl,?_,fun j hj=>h3 j _ ?_⟩
  ·rcases h4 with ⟨h4,_⟩ | ⟨h4,_⟩
   ·exact h4 (by have:=List.length_pos_iff.2 hl; omega)
   ·cases h4
  ·exact qd l j hj
end
end
section
open Go
section
variable {P : Program} {St : Nat → Prop} {w0 w : World} {its : List Item} {n : Nat} {a : Act} {e : List (Nat × Value)} {ops : Array Oper} {rest : List Oper} {Q : Exit → Act → World → Prop} {v : Value} {x : Operand} {t ty : TypeId} {pos : String} {af : Array Edge} {g : Option (Nat × Bool)}
def clr {α : Type} (l : List α) (i : Int) (z : α) : Option (List α):=if 0 ≤ i ∧ i < l.length then some (l.take i.toNat ++ List.replicate (l.length - i.toNat) z) else none
end
end
section
open Go
section
variable {n : Nat} {a : Act} {e : List (Nat × Value)} {w w' : World} {P : Program} {ops : Array Oper} {rest : List Oper} {Q : Exit → Act → World → Prop}
variable {d : Nat} {ty t : TypeId} {pos : String} {af : Array Edge} {g : Option (Nat × Bool)} {p q : Operand}
end
section
variable {St : Nat → Prop} {w0 w : World} {its m r : List Item} {mk mk1 mk2 : Mk} {D : Nat → Bool} {u : Nat → Value} {s : Nat} {v : Value} {A B : Item}
theorem tg1 {b : Bool} (h : b = true) : tog b A B = B:=by subst h; rfl
theorem tg0 {b : Bool} (h : b = false) : tog b A B = A:=by subst h; rfl
theorem updK {i j : Nat} (h : D j = true) : US D i j = true:=by unfold US; by_cases e : j = i <;> simp [e,h]
theorem updS {i : Nat} : US D i i = true:=by simp [US]
theorem updN {i j : Nat} (h : D j = false) (hne : j ≠ i) : US D i j = false:=by unfold US; rw [if_neg hne]; exact h
theorem M.tailP (h : M St w0 w (m ++ r)) : M St w0 w (m ++ [allI St r]):=by
 obtain ⟨h1,h2,fp,h3,h4,h5⟩:=h
 obtain ⟨f,g,rfl,k1,k2⟩:=WD.split h3
 exact ⟨h1,h2,_,WD.append k1 (WD.one Za9 k2),h4,h5⟩
theorem M.tailU (h : M St w0 w (m ++ [allI St r])) : M St w0 w (m ++ r):=by
 obtain ⟨h1,h2,fp,h3,h4,h5⟩:=h
 obtain ⟨f,g,rfl,k1,g1,g2,rfl,_,k2,e⟩:=WD.split h3
 cases e
 rw [List.append_nil] at h4 h5
 exact ⟨h1,h2,_,WD.append k1 k2,h4,h5⟩
theorem M.qS {p : List Nat × (List Bool → List Value → Item)} (h : M St w0 w ((A :: its) ++ qL mk (fun _=>false) u)) (e : ∀ us,p.2 (p.1.map fun _=>false) us = A) : M St w0 w (its ++ qL (p :: mk) (fun _=>false) u):=by
 have h' : M St w0 w (A :: (its ++ qL mk (fun _=>false) u)):=h
 rw [← e (p.1.map u)] at h'
 exact M.push h'
theorem M.qTogS {p : List Nat × (List Bool → List Value → Item)} (h : M St w0 w (B :: (its ++ (qL mk1 D u ++ qL mk2 D u)))) (hi : ((mk1 ++ mk2).all fun p=>p.1.all fun k=>k != s) = true)
  (e : p.2 (p.1.map (US D s)) (p.1.map (QO u s v)) = B) : M St w0 w (its ++ qL (mk1 ++ p :: mk2) (US D s) (QO u s v)):=by
 have hne':=noti hi
 rw [yH,Az (fun p hp=>hne' p (List.mem_append_left _ hp)),Az (fun p hp=>hne' p (List.mem_append_right _ hp)),e]
 have h5 : M St w0 w (B :: ((its ++ qL mk1 D u) ++ qL mk2 D u)):=by simpa using h
 simpa using M.push h5
end
section
variable {n : Nat} {a : Act} {e : List (Nat × Value)} {w : World} {P : Program}
theorem Zav {fn : Func} {R : Ending → World → Prop} {r1 r2 r3 r4 r5 : ResultVar} {v1 v2 v3 v4 v5 : Value} (hE : Env n a e) (hres : fn.results = #[r1,r2,r3,r4,r5]) (h1 : Tr P w a r1 v1) (h2 : Tr P w a r2 v2) (h3 : Tr P w a r3 v3) (h4 : Tr P w a r4 v4) (h5 : Tr P w a r5 v5)
  (hR : R (.returned (.tuple [v1,v2,v3,v4,v5].toArray)) w) : bodyPost P fn R .ret a w:=by
 refine bodyPost_ret ?_ hE.df hR
 rw [KH,hres]
 simp [Uk h1,Uk h2,Uk h3,Uk h4,Uk h5]
end
class CL (l : List (List Value)) (n : outParam Nat) : Prop where
 h : Km l = n
instance cl_nil : CL [] 0:=⟨rfl⟩
instance cl_one {v : Value} {r : List (List Value)} {m : Nat} [h : CL r m] : CL ([v] :: r) (1 + m):=⟨by rw [Km,h.h]; rfl⟩
instance cl_enc {α : Type} [Flat α] {x : α} {r : List (List Value)} {m : Nat} [h : CL r m] : CL (Flat.enc x :: r) (Flat.n α + m):=⟨by rw [Km,h.h,Flat.len]⟩
instance cl_cat {l r : List (List Value)} {n m : Nat} [k : CL l n] [h : CL r m] : CL (cat l :: r) (n + m):=⟨by rw [Km,h.h,qc k.h]⟩
theorem jG : ∀ a b : List (List Value),Km (a ++ b) = Km a + Km b
 | [],b=>by simp [Km]
 | c :: a,b=>by rw [List.cons_append,Km,Km,jG a b,Nat.add_assoc]
instance cl_app {a b : List (List Value)} {n m : Nat} [h : CL a n] [k : CL b m] : CL (a ++ b) (n + m):=⟨by rw [jG,h.h,k.h]⟩
theorem ck {l : List (List Value)} {n : Nat} [h : CL l n] : Km l = n:=h.h
theorem cq {l : List (List Value)} {n : Nat} [h : CL l n] : (cat l).length = n:=qc h.h
theorem M.rawAt0 {St : Nat → Prop} {w0 w : World} {b : Nat} {cs : List Value} {r : List Item} (h : M St w0 w (raw b cs :: r)) : At w b 0 cs:=M.rawAt (pre:=[]) h
theorem M.pull1 {St : Nat → Prop} {w0 w : World} {it : Item} {r : List Item} {a0 : Item} (h : M St w0 w (a0 :: it :: r)) : M St w0 w (it :: a0 :: r):=M.pull (pre:=[a0]) h
theorem M.rawAt1 {St : Nat → Prop} {w0 w : World} {b : Nat} {cs : List Value} {r : List Item} {a0 : Item} (h : M St w0 w (a0 :: raw b cs :: r)) : At w b 0 cs:=M.rawAt (pre:=[a0]) h
theorem M.pull2 {St : Nat → Prop} {w0 w : World} {it : Item} {r : List Item} {a0 a1 : Item} (h : M St w0 w (a0 :: a1 :: it :: r)) : M St w0 w (it :: a0 :: a1 :: r):=M.pull (pre:=[a0,a1]) h
theorem M.rawAt2 {St : Nat → Prop} {w0 w : World} {b : Nat} {cs : List Value} {r : List Item} {a0 a1 : Item} (h : M St w0 w (a0 :: a1 :: raw b cs :: r)) : At w b 0 cs:=M.rawAt (pre:=[a0,a1]) h
theorem M.pull3 {St : Nat → Prop} {w0 w : World} {it : Item} {r : List Item} {a0 a1 a2 : Item} (h : M St w0 w (a0 :: a1 :: a2 :: it :: r)) : M St w0 w (it :: a0 :: a1 :: a2 :: r):=M.pull (pre:=[a0,a1,a2]) h
theorem M.pull4 {St : Nat → Prop} {w0 w : World} {it : Item} {r : List Item} {a0 a1 a2 a3 : Item} (h : M St w0 w (a0 :: a1 :: a2 :: a3 :: it :: r)) : M St w0 w (it :: a0 :: a1 :: a2 :: a3 :: r):=M.pull (pre:=[a0,a1,a2,a3]) h
theorem M.pull5 {St : Nat → Prop} {w0 w : World} {it : Item} {r : List Item} {a0 a1 a2 a3 a4 : Item} (h : M St w0 w (a0 :: a1 :: a2 :: a3 :: a4 :: it :: r)) : M St w0 w (it :: a0 :: a1 :: a2 :: a3 :: a4 :: r):=M.pull (pre:=[a0,a1,a2,a3,a4]) h
theorem M.pull6 {St : Nat → Prop} {w0 w : World} {it : Item} {r : List Item} {a0 a1 a2 a3 a4 a5 : Item} (h : M St w0 w (a0 :: a1 :: a2 :: a3 :: a4 :: a5 :: it :: r)) : M St w0 w (it :: a0 :: a1 :: a2 :: a3 :: a4 :: a5 :: r):=M.pull (pre:=[a0,a1,a2,a3,a4,a5]) h
theorem M.rawAt8 {St : Nat → Prop} {w0 w : World} {b : Nat} {cs : List Value} {r : List Item} {a0 a1 a2 a3 a4 a5 a6 a7 : Item} (h : M St w0 w (a0 :: a1 :: a2 :: a3 :: a4 :: a5 :: a6 :: a7 :: raw b cs :: r)) : At w b 0 cs:=M.rawAt (pre:=[a0,a1,a2,a3,a4,a5,a6,a7]) h
theorem M.rawAt10 {St : Nat → Prop} {w0 w : World} {b : Nat} {cs : List Value} {r : List Item} {a0 a1 a2 a3 a4 a5 a6 a7 a8 a9 : Item} (h : M St w0 w (a0 :: a1 :: a2 :: a3 :: a4 :: a5 :: a6 :: a7 :: a8 :: a9 :: raw b cs :: r)) : At w b 0 cs:=M.rawAt (pre:=[a0,a1,a2,a3,a4,a5,a6,a7,a8,a9]) h
abbrev Rt (w0 : World) (x : Value) : Ending → World → Prop:=fun en w'=>∃ v,en = .returned v ∧ (v = x ∧ Kept (Old w0) w0 w')
theorem kr1 {n : Nat} {a : Act} {e : List (Nat × Value)} {w w0 : World} {P : Program} {fn : Func} {t : Nat} {v : Value} (hE : Env n a e) (hres : fn.results = #[.tmp t]) (h : e.lookup t = some v) (hk : Kept (Old w0) w0 w) : bodyPost P fn (Rt w0 v) .ret a w :=
 Yb hE hres (Zl hE h) ⟨_,rfl,rfl,hk⟩
theorem cbm {P : Program} {f : Nat} {fn : Func} {c : Code} (h : P.funcs[f]? = some fn) (h2 : (fn.name == "runtime.NumGoroutine") = false := by decide) (h3 : fn.body = some c := by rfl) : Callable P f := ⟨_, _, h, h2, h3⟩
theorem ce {n : Nat} {e : List (Nat × Value)} {P : Program} {w : World} {f : Nat} {fn : Func} {c : Code} {vs : List Value} {R : Ending → World → Prop} (hf : P.funcs[f]? = some fn) (k : ∀ a,Env n a e → c.wp P (bodyPost P fn R) a w)
  (hb : fn.body = some c:=by rfl) (hn : fn.ntmps = n:=by rfl) (hl : vs.length ≤ n:=by exact nbl rfl) (he : Bl 0 vs = e:=by rfl) : Calls P f vs.toArray w R:=yS hf hb hn hl he k
section
variable {n : Nat} {a : Act} {e : List (Nat × Value)} {w w' : World} {P : Program} {ops : Array Oper} {rest : List Oper} {Q : Exit → Act → World → Prop} {d : Nat} {ty ty' : TypeId} {pos : String} {af : Array Edge} {g : Option (Nat × Bool)} {x y z : Operand} {v : Value}
theorem Zd  (h : Env n a e) (hx : opv e x = some v) (k : ∀ a,Env n a ((d,v) :: e) → wpList P ops Q rest a w) (hd : d < n:=by decide) : wpList P ops Q (⟨some d,.move x,ty,pos,af,none⟩ :: rest) a w :=
 Zh h Za hd hx k
theorem Zb  (h : Env n a e) (hx : opv e x = some v) (k : ∀ a,Env n a ((d,v) :: e) → wpList P ops Q rest a w) (hd : d < n:=by decide) : wpList P ops Q (⟨some d,.assign x,ty,pos,af,none⟩ :: rest) a w :=
 YO h Za hd hx k
theorem ZB  (h : Env n a e) (hx : opv e x = some (vT true)) (hy : opv e y = some v) (k : ∀ a,Env n a ((d,v) :: e) → wpList P ops Q rest a w) (hd : d < n:=by decide) : wpList P ops Q (⟨some d,.pick x y z,ty,pos,af,none⟩ :: rest) a w :=
 WT h Za hd hx hy k
theorem Zy  (h : Env n a e) (hx : opv e x = some (vT false)) (hz : opv e z = some v) (k : ∀ a,Env n a ((d,v) :: e) → wpList P ops Q rest a w) (hd : d < n:=by decide) : wpList P ops Q (⟨some d,.pick x y z,ty,pos,af,none⟩ :: rest) a w :=
 Wl h Za hd hx hz k
theorem Zk {op : BinOp} {t2 : TypeId} {K : IntKind} {p q : Int} (h : Env n a e) (hx : opv e x = some (.int K p)) (hy : opv e y = some (.int K q)) (hv : Tb op K p q = some v) (k : ∀ a,Env n a ((d,v) :: e) → wpList P ops Q rest a w) (hd : d < n:=by decide) : wpList P ops Q (⟨some d,.binOp op ty' x y t2,ty,pos,af,none⟩ :: rest) a w :=
 ZJ h Za hd hx hy hv k
theorem Ve {p : Bool} (h : Env n a e) (hx : opv e x = some (vT p)) (k : ∀ a,Env n a ((d,vT (!p)) :: e) → wpList P ops Q rest a w) (hd : d < n:=by decide) : wpList P ops Q (⟨some d,.unOp .not ty' x,ty,pos,af,none⟩ :: rest) a w :=
 U5 h Za hd hx k
end
section
variable {n : Nat} {a : Act} {e : List (Nat × Value)} {w w' : World} {P : Program} {ops : Array Oper} {rest : List Oper} {Q : Exit → Act → World → Prop} {d : Nat} {ty t : TypeId} {pos : String} {af : Array Edge} {g : Option (Nat × Bool)} {x y : Operand} {v : Value} {St : Nat → Prop} {w0 : World} {its : List Item}
theorem UP {D : TypeDesc} {sz by_ : Nat} {z : List Value} (h : Env n a e) (hM : M St w0 w its) (ht : Ty P t D sz by_ z) (k : ∀ b w a,M St w0 w (raw b z :: its) → Env n a ((d,ptr b 0) :: e) → wpList P ops Q rest a w) (hd : d < n:=by decide) : wpList P ops Q (⟨some d,.alloc t,ty,pos,af,none⟩ :: rest) a w :=
 Zci h hM Za hd ht k
theorem ZX {D : TypeDesc} {sz by_ : Nat} {z : List Value} {b o : Nat} (h : Env n a e) (hx : opv e x = some (ptr b o)) (ht : Ty P t D sz by_ z) (hD : Hd D = false) (hA : At w b o [v]) (k : ∀ a,Env n a ((d,v) :: e) → wpList P ops Q rest a w) (hd : d < n:=by decide) : wpList P ops Q (⟨some d,.load t x,ty,pos,af,none⟩ :: rest) a w :=
 ZE h Za hd hx ht hD hA k
theorem WR {D : TypeDesc} {sz by_ : Nat} {z : List Value} {b o : Nat} {cs : List Value} (h : Env n a e) (hx : opv e x = some (ptr b o)) (ht : Ty P t D sz by_ z) (hD : Hd D = true) (hA : At w b o cs) (hl : cs.length = sz) (k : ∀ a,Env n a ((d,.agg cs.toArray) :: e) → wpList P ops Q rest a w) (hd : d < n:=by decide) : wpList P ops Q (⟨some d,.load t x,ty,pos,af,none⟩ :: rest) a w :=
 Zbr h Za hd hx ht hD hA hl k
theorem ZI {f off b o : Nat} (h : Env n a e) (hx : opv e x = some (ptr b o)) (hf : Fd P t f off) (k : ∀ a,Env n a ((d,ptr b (o + off)) :: e) → wpList P ops Q rest a w) (hd : d < n:=by decide) : wpList P ops Q (⟨some d,.fieldAddr t x f,ty,pos,af,none⟩ :: rest) a w :=
 Zv h Za hd hx hf k
theorem ZG {α : Type} [Rep α] {S : Nat → Prop} {l : List α} {fp : List Nat} {el sz by_ : Nat} {z : List Value} {D : TypeDesc} {K : IntKind} {i : Int} (h : Env n a e) (hx : opv e x = some v) (hy : opv e y = some (.int K i)) (ht : P.underlying t = some (.slice el)) (he : Ty P el D sz by_ z) (hs : Rep.sat S w l [v] fp) (hi : 0 ≤ i ∧ i < l.length) (k : ∀ a,Env n a ((d,ptr (sb v) (so v + i.toNat * sz)) :: e) → wpList P ops Q rest a w) (hd : d < n:=by decide) : wpList P ops Q (⟨some d,.indexAddr t x y,ty,pos,af,none⟩ :: rest) a w :=
 ZA h Za hd hx hy ht he hs hi k
theorem ZL {α : Type} [Rep α] {S : Nat → Prop} {l : List α} {fp : List Nat} {el : TypeId} (h : Env n a e) (hx : opv e x = some v) (ht : P.underlying t = some (.slice el)) (hs : Rep.sat S w l [v] fp) (k : ∀ a,Env n a ((d,vI l.length) :: e) → wpList P ops Q rest a w) (hd : d < n:=by decide) : wpList P ops Q (⟨some d,.call ⟨.builtin .len,[x].toArray,[t].toArray⟩,ty,pos,af,none⟩ :: rest) a w :=
 XN h Za hd hx ht hs k
theorem Zq {f : Nat} {xs : List Operand} {ats : Array TypeId} {vs : List Value} {R : Value → World → Prop} (h : Env n a e) (hxs : Ku e xs = some vs) (hf : Callable P f) (hc : Calls P f vs.toArray w fun en w'=>∃ v,en = .returned v ∧ R v w') (k : ∀ v w' a,R v w' → Env n a ((d,v) :: e) → wpList P ops Q rest a w') (hd : d < n:=by decide) : wpList P ops Q (⟨some d,.call ⟨.value (.func f),xs.toArray,ats⟩,ty,pos,af,none⟩ :: rest) a w :=
 ZW h Za hd hxs hf hc k
end
end
section
open Go
section
variable {n : Nat} {a : Act} {e : List (Nat × Value)} {w w' : World} {P : Program} {ops : Array Oper} {rest : List Oper} {Q : Exit → Act → World → Prop}
variable {d : Nat} {ty t : TypeId} {pos : String} {af : Array Edge} {g : Option (Nat × Bool)} {p q : Operand}
theorem s_min {t' : TypeId} {x y : Int} (h : Env n a e) (hw : Goes ops ⟨some d,.call ⟨.builtin .min,[p,q].toArray,[t,t'].toArray⟩,ty,pos,af,g⟩ a) (hd : d < n) (hp : opv e p = some (vI x)) (hq : opv e q = some (vI y))
  (k : ∀ a,Env n a ((d,vI (if y < x then y else x)) :: e) → wpList P ops Q rest a w) : wpList P ops Q (⟨some d,.call ⟨.builtin .min,[p,q].toArray,[t,t'].toArray⟩,ty,pos,af,g⟩ :: rest) a w:=by
 exact Xw h hw rfl hd (by
  simp only [execOp,resolve]
  simp [invoke,builtin,Builtin.min_,Builtin.min2,h.ev hp,h.ev hq]) k
end
def mkU (i : Nat) (A : Item) (f : Value → Item) : List Nat × (List Bool → List Value → Item):=([i],fun bs us=>tog (bs.headD false) A (f (us.headD undef)))
def mkW (s k b : Nat) (z : List Value) (f : Value → List Value) : List Nat × (List Bool → List Value → Item):=([s,k],fun bs us=>tog (bs.headD false) (raw b z) (raw b (f (us.getD 1 undef))))
def chn : List (Bool × Item) → Item
 | []=>Go.Proofs.YtfhhlkkhcoaapaaGreatDoor.emp
 | (b,x) :: r=>if b = true then x else chn r
def chz : List (Nat × (Value → Item)) → List Bool → List Value → List (Bool × Item)
 | p :: l,b :: bs,v :: us=>(b,p.2 v) :: chz l bs us
 | _,_,_=>[]
def mkN (l : List (Nat × (Value → Item))) : List Nat × (List Bool → List Value → Item):=(l.map (·.1),fun bs us=>chn (chz l bs us))
section
variable {St : Nat → Prop} {w0 w : World} {its pre post : List Item} {mk1 mk2 : Mk} {D : Nat → Bool} {u : Nat → Value} {b : Bool} {A B X : Item} {p : List Nat × (List Bool → List Value → Item)} {r : List (Bool × Item)}
theorem M.qUnconst (h : M St w0 w (its ++ qL (mk1 ++ ([],fun _ _=>X) :: mk2) D u)) (e : p.2 (p.1.map D) (p.1.map u) = X) : M St w0 w (its ++ qL (mk1 ++ p :: mk2) D u):=by
 rw [yH,e]; rw [yH] at h; exact h
theorem M.chnF (h : M St w0 w (pre ++ chn ((b,X) :: r) :: post)) (hb : b = false) : M St w0 w (pre ++ chn r :: post):=by subst hb; exact h
theorem M.chnT (h : M St w0 w (pre ++ chn ((b,X) :: r) :: post)) (hb : b = true) : M St w0 w (pre ++ X :: post):=by subst hb; exact h
theorem emN {l : List (Nat × (Value → Item))} : ∀ us,(mkN l).2 ((mkN l).1.map fun _=>false) us = Go.Proofs.YtfhhlkkhcoaapaaGreatDoor.emp:=by
 show ∀ us,chn (chz l ((l.map (·.1)).map fun _=>false) us) = _
 induction l with
 | nil=>intro us; rfl
 | cons p l ih =>
  intro us
  cases us with
  | nil=>rfl
  | cons v us=>exact ih us
abbrev Off (D : Nat → Bool) (l : List (Nat × (Value → Item))) : Prop:=∀ p ∈ l,D p.1 = false
theorem offN : Off D []:=fun _ h=>by cases h
theorem offC {k : Nat} {f : Value → Item} {l : List (Nat × (Value → Item))} (h : D k = false) (r : Off D l) : Off D ((k,f) :: l):=fun p hp=>by
 rcases List.mem_cons.1 hp with rfl | hp
 ·exact h
 ·exact r p hp
theorem yF : ∀ {l : List (Nat × (Value → Item))} {m : List (Nat × (Value → Item))},Off D l → chn (chz (l ++ m) ((l ++ m).map fun p=>D p.1) ((l ++ m).map fun p=>u p.1)) = chn (chz m (m.map fun p=>D p.1) (m.map fun p=>u p.1))
 | [],m,_=>rfl
 | p :: l,m,h=>by
  have h1:=h p (by simp)
  simp only [List.cons_append,List.map_cons,chz,chn,h1,Bool.false_eq_true,if_false]
  exact yF fun q hq=>h q (by simp [hq])
theorem Zcf {l : List (Nat × (Value → Item))} (h : Off D l) : (mkN l).2 ((mkN l).1.map D) ((mkN l).1.map u) = Go.Proofs.YtfhhlkkhcoaapaaGreatDoor.emp:=by
 have:=yF (u:=u) (m:=[]) h
 rw [List.append_nil] at this
 simp only [mkN,List.map_map]
 exact this
theorem Zap {l m : List (Nat × (Value → Item))} {i : Nat} {f : Value → Item} {v : Value} (h : Off D l) (hi : (l.all fun p=>p.1 != i) = true:=by rfl) : (mkN (l ++ (i,f) :: m)).2 ((mkN (l ++ (i,f) :: m)).1.map (US D i)) ((mkN (l ++ (i,f) :: m)).1.map (QO u i v)) = f v:=by
 have h' : Off (US D i) l:=fun p hp=>by
  have:=List.all_eq_true.1 hi p hp
  unfold US
  rw [if_neg (by simpa using this)]
  exact h p hp
 have:=yF (D:=US D i) (u:=QO u i v) (m:=(i,f) :: m) h'
 simp only [mkN,List.map_map]
 refine Eq.trans this ?_
 simp [chz,chn,US,QO]
end
end
section
open Go
inductive Ent where
 | p0 (v : Value)
 | pl (ds : List Nat) (f : List Value → Value)
 | mk (pr : Value → Prop)
def Ent.g : Ent → List Nat × (List Value → Value → Prop)
 | .p0 x=>([],fun _ v=>v = x)
 | .pl ds f=>(ds,fun us v=>v = f us)
 | .mk pr=>([],fun _ v=>pr v)
def Ent.v (u : Nat → Value) (j : Nat) : Ent → Value
 | .p0 x=>x
 | .pl ds f=>f (ds.map u)
 | .mk _=>u j
def Ent.p (u : Nat → Value) (j t : Nat) : Ent → Nat × Value
 | .p0 x=>(t,x)
 | .pl ds f=>(t,f (ds.map u))
 | .mk _=>(t,u j)
theorem Ent.p_eq {u : Nat → Value} {j t : Nat} : ∀ {x : Ent},x.p u j t = (t,x.v u j)
 | .p0 _=>rfl
 | .pl _ _=>rfl
 | .mk _=>rfl
def Bj (ts : List Nat) (i : Nat) (acc : List Ent) (u : Nat → Value) : List Edge → List (Nat × Value)
 | []=>[]
 | e :: r=>cond (Region.binds .any e && decide (e.on < i)) (match ts[e.on]?,acc[i - 1 - e.on]? with
   | some t,some x=>x.p u e.on t :: Bj ts i acc u r
   | _,_=>Bj ts i acc u r) (Bj ts i acc u r)
def A9 (ts : List Nat) (u : Nat → Value) : List Ent → Nat → List (Nat × Value)
 | x :: F,i + 1=>(match ts[i]? with | some t=>x.p u i t | none=>(0,undef)) :: A9 ts u F i
 | _,_=>[]
theorem jh {ts : List Nat} {i : Nat} {acc : List Ent} {u : Nat → Value} : ∀ {es : List Edge} {p : Nat × Value},p ∈ Bj ts i acc u es → ∃ e ∈ es,Region.binds .any e = true ∧ e.on < i ∧ ∃ x,ts[e.on]? = some p.1 ∧ acc[i - 1 - e.on]? = some x ∧ p.2 = x.v u e.on
 | [],p,h=>by cases h
 | e :: r,p,h=>by
  have tl : p ∈ Bj ts i acc u r → ∃ e' ∈ e :: r,Region.binds .any e' = true ∧ e'.on < i ∧ ∃ x,ts[e'.on]? = some p.1 ∧ acc[i - 1 - e'.on]? = some x ∧ p.2 = x.v u e'.on:=fun h=>by
   obtain ⟨e',h1,h2⟩:=jh h
   exact ⟨e',by simp [h1],h2⟩
  unfold Bj at h
  cases hb : (Region.binds .any e && decide (e.on < i))
  ·rw [hb] at h; exact tl h
  ·rw [hb] at h
   simp only [cond_true] at h
   simp only [Bool.and_eq_true,decide_eq_true_eq] at hb
   split at h
   ·rename_i t x h1 h2
    rcases List.mem_cons.1 h with rfl | h
    ·rw [Ent.p_eq]
     exact ⟨e,by simp,hb.1,hb.2,x,h1,h2,rfl⟩
    ·exact tl h
   ·exact tl h
theorem zd {l : List (Nat × Value)} {s : Nat} {x : Value} (h : l.lookup s = some x) : (s,x) ∈ l:=by
 induction l with
 | nil=>cases h
 | cons p l ih =>
  obtain ⟨t,v⟩:=p
  rw [List.lookup_cons] at h
  by_cases hst : s = t
  ·subst hst; simp at h; subst h; simp
  ·rw [show (s == t) = false by simpa using hst] at h
   exact List.mem_cons_of_mem _ (ih h)
theorem Hi {X Y : List (Nat × Value)} {s : Nat} : (X ++ Y).lookup s = match X.lookup s with | some x=>some x | none=>Y.lookup s:=by
 induction X with
 | nil=>rfl
 | cons p X ih =>
  obtain ⟨t,v⟩:=p
  rw [List.cons_append,List.lookup_cons,List.lookup_cons]
  cases (s == t)
  ·exact ih
  ·rfl
theorem Env.pre {n : Nat} {a : Act} {X Y : List (Nat × Value)} (h : Env n a Y) (hX : ∀ p ∈ X,Y.lookup p.1 = some p.2) : Env n a (X ++ Y):=by
 refine ⟨h.sz,h.df,fun s v hs=>?_⟩
 rw [Hi] at hs
 cases hx : X.lookup s with
 | none=>rw [hx] at hs; exact h.get s v hs
 | some x =>
  rw [hx] at hs
  cases hs
  exact h.get s v (hX _ (zd hx))
theorem Env.unpre {n : Nat} {a : Act} {X Y : List (Nat × Value)} {t : Nat} {v : Value} (h : Env n a ((t,v) :: (X ++ Y))) (hX : ∀ p ∈ X,Y.lookup p.1 = some p.2) : Env n a ((t,v) :: Y):=by
 refine ⟨h.sz,h.df,fun s x hs=>h.get s x ?_⟩
 rw [List.lookup_cons] at hs ⊢
 cases hst : (s == t)
 ·rw [hst] at hs
  simp only at hs ⊢
  rw [Hi]
  cases hx : X.lookup s with
  | none=>exact hs
  | some y =>
   have:=hX _ (zd hx)
   simp only at this
   rw [this] at hs
   exact hs
 ·rw [hst] at hs; exact hs
theorem Jv {P : Program} {ops : Array Oper} {o : Oper} {X Y : Act → World → Prop} {a : Act} {w : World} (h : wpList P ops (nrm X) [o] a w) (hXY : ∀ a w,X a w → Y a w) : wpList P ops (nrm Y) [o] a w:=by
 unfold wpList at h ⊢
 split
 ·rename_i hw
  rw [if_pos hw] at h
  rcases h with h | ⟨_,a',w',h⟩
  ·exact .inl (Oper.wp_mono2 (fun _ _ h=>hXY _ _ h) (fun _ _ _ h=>h.elim) (fun ⟨_,_,h⟩=>h.elim) h)
  ·exact h.elim
 ·rename_i hw
  rw [if_neg hw] at h
  exact hXY _ _ h
structure QC (n : Nat) (ts : List Nat) (e0 : List (Nat × Value)) (St : Nat → Prop) (w0 : World) (its : List Item) (mk : Mk) (hd : List Oper) (i : Nat) (acc : List Ent) (o : Oper) (a : Act) (w : World) (u : Nat → Value) (D : Nat → Bool) : Prop where
 E : Env n a (Bj ts i acc u o.after.toList ++ Qs ts 0 u e0)
 M : M St w0 w (its ++ qL mk D u)
 G : GOk (acc.reverse.map Ent.g) D u
 F : D i = false
 c : ∀ (j : Nat) (p : Oper) (e : Edge),hd[j]? = some p → e ∈ p.after.toList → Region.binds .any e = true → D j = true → D e.on = true
 p : ∀ (k : Nat) (e : Edge),o.after.toList[k]? = some e → Region.binds .any e = true → D e.on = true
section
variable (P : Program) (ops : Array Oper) (n : Nat) (ts : List Nat) (e0 : List (Nat × Value)) (St : Nat → Prop) (w0 : World) (its : List Item) (mk : Mk) (hd : List Oper)
def QOk (i : Nat) (acc : List Ent) (o : Oper) (x : Ent) : Prop :=
 ∀ a w (u : Nat → Value) (D : Nat → Bool),QC n ts e0 St w0 its mk hd i acc o a w u D → wpList P ops (nrm fun a' w'=>∃ v t,ts[i]? = some t ∧ Env n a' ((t,v) :: (Bj ts i acc u o.after.toList ++ Qs ts 0 u e0)) ∧
  ((∀ k ∈ x.g.1,D k = true) ∧ x.g.2 (x.g.1.map u) v) ∧ M St w0 w' (its ++ qL mk (US D i) (QO u i v))) [o] a w
def QS : Nat → List Oper → List Ent → List Ent → Prop
 | _,[],acc,F=>F = acc
 | i,o :: r,acc,F=>∃ x,QOk P ops n ts e0 St w0 its mk hd i acc o x ∧ QS (i + 1) r (x :: acc) F
end
section
variable {P : Program} {ops : Array Oper} {n : Nat} {ts : List Nat} {e0 : List (Nat × Value)} {St : Nat → Prop} {w0 : World} {its : List Item} {mk : Mk} {hd : List Oper} {i : Nat} {acc F : List Ent} {o : Oper} {r : List Oper}
theorem QS.pre : ∀ {r : List Oper} {i : Nat} {acc F : List Ent},acc.length = i → QS P ops n ts e0 St w0 its mk hd i r acc F → F.length = i + r.length ∧ F.drop r.length = acc ∧ ∀ k o,r[k]? = some o → ∃ x,F.reverse[i + k]? = some x ∧ ∃ A,A.reverse = F.reverse.take (i + k) ∧ A.length = i + k ∧ QOk P ops n ts e0 St w0 its mk hd (i + k) A o x
 | [],i,acc,F,hi,h=>by
  obtain rfl : F = acc:=h
  exact ⟨by simpa using hi,by simp,fun i o h=>by simp at h⟩
 | p :: r,i,acc,F,hi,⟨x,h1,h2⟩=>by
  obtain ⟨k1,k2,k3⟩:=QS.pre (by simp [hi]) h2
  have hrev : F.reverse.take (i + 1) = acc.reverse ++ [x]:=by
   have : F.reverse = (F.drop r.length).reverse ++ (F.take r.length).reverse:=by rw [← List.reverse_append,List.take_append_drop]
   rw [this,k2,List.reverse_cons,List.take_append_of_le_length (by simp [hi])]
   rw [List.take_of_length_le (by simp [hi])]
  refine ⟨by simp only [List.length_cons]; omega,?_,fun k o hk=>?_⟩
  ·have:=congrArg (List.drop 1) k2
   rw [List.drop_drop] at this
   simpa [Nat.add_comm] using this
  ·cases k with
   | zero =>
    simp at hk; subst hk
    refine ⟨x,?_,acc,?_,by simpa using hi,h1⟩
    ·have h5 : (F.reverse.take (i + 1))[i]? = some x:=by rw [hrev,List.getElem?_append_right (by simp [hi])]; simp [hi]
     rw [List.getElem?_take_of_lt (by omega)] at h5
     simpa using h5
    ·have h6:=congrArg (List.take i) hrev
     rw [List.take_take,Nat.min_eq_left (by omega)] at h6
     rw [Nat.add_zero,h6,List.take_append_of_le_length (by simp [hi])]
     exact (List.take_of_length_le (by simp [hi])).symm
   | succ k =>
    obtain ⟨y,h3,h4⟩:=k3 k o (by simpa using hk)
    have e : i + (k + 1) = i + 1 + k:=by omega
    rw [e]
    exact ⟨y,h3,h4⟩
theorem qs0 : QS P ops n ts e0 St w0 its mk hd i [] acc acc:=rfl
theorem qsP {v : Value} (h : ∀ {a w} {u : Nat → Value} {D : Nat → Bool},QC n ts e0 St w0 its mk hd i acc o a w u D → wpList P ops (nrm fun a' w'=>Kept (Old w) w w' ∧ ∃ t,ts[i]? = some t ∧ Env n a' ((t,v) :: (Bj ts i acc u o.after.toList ++ Qs ts 0 u e0))) [o] a w)
  (k : QS P ops n ts e0 St w0 its mk hd (i + 1) r (.p0 v :: acc) F) (hi : (mk.all fun p=>p.1.all fun k=>k != i) = true:=by rfl) : QS P ops n ts e0 St w0 its mk hd i (o :: r) acc F:=by
 refine ⟨.p0 v,fun a w u D x=>Jv (h x) ?_,k⟩
 rintro a' w' ⟨hK,t,ht,hE⟩
 exact ⟨v,t,ht,hE,⟨(fun k h=>by cases h),rfl⟩,M.qKeep (x.M.keep hK) hi⟩
theorem qsD {ds : List Nat} {f : List Value → Value} (h : ∀ {a w} {u : Nat → Value} {D : Nat → Bool},QC n ts e0 St w0 its mk hd i acc o a w u D → wpList P ops (nrm fun a' w'=>Kept (Old w) w w' ∧ (∀ k ∈ ds,D k = true) ∧ ∃ t,ts[i]? = some t ∧ Env n a' ((t,f (ds.map u)) :: (Bj ts i acc u o.after.toList ++ Qs ts 0 u e0))) [o] a w)
  (k : QS P ops n ts e0 St w0 its mk hd (i + 1) r (.pl ds f :: acc) F) (hi : (mk.all fun p=>p.1.all fun k=>k != i) = true:=by rfl) : QS P ops n ts e0 St w0 its mk hd i (o :: r) acc F:=by
 refine ⟨.pl ds f,fun a w u D x=>Jv (h x) ?_,k⟩
 rintro a' w' ⟨hK,hd',t,ht,hE⟩
 exact ⟨_,t,ht,hE,⟨hd',rfl⟩,M.qKeep (x.M.keep hK) hi⟩
theorem qsM {pr : Value → Prop} (h : ∀ {a w} {u : Nat → Value} {D : Nat → Bool},QC n ts e0 St w0 its mk hd i acc o a w u D → wpList P ops (nrm fun a' w'=>∃ v t,ts[i]? = some t ∧ Env n a' ((t,v) :: (Bj ts i acc u o.after.toList ++ Qs ts 0 u e0)) ∧ M St w0 w' (its ++ qL mk (US D i) (QO u i v)) ∧ pr v) [o] a w)
  (k : QS P ops n ts e0 St w0 its mk hd (i + 1) r (.mk pr :: acc) F) : QS P ops n ts e0 St w0 its mk hd i (o :: r) acc F:=by
 refine ⟨.mk pr,fun a w u D x=>Jv (h x) ?_,k⟩
 rintro a' w' ⟨v,t,ht,hE,hM,hp⟩
 exact ⟨v,t,ht,hE,⟨(fun k h=>by cases h),hp⟩,hM⟩
theorem qsV {v : Value} (h : ∀ {a w} {u : Nat → Value} {D : Nat → Bool},QC n ts e0 St w0 its mk hd i acc o a w u D → wpList P ops (nrm fun a' w'=>∃ t,ts[i]? = some t ∧ Env n a' ((t,v) :: (Bj ts i acc u o.after.toList ++ Qs ts 0 u e0)) ∧ M St w0 w' (its ++ qL mk (US D i) (QO u i v))) [o] a w)
  (k : QS P ops n ts e0 St w0 its mk hd (i + 1) r (.p0 v :: acc) F) : QS P ops n ts e0 St w0 its mk hd i (o :: r) acc F:=by
 refine ⟨.p0 v,fun a w u D x=>Jv (h x) ?_,k⟩
 rintro a' w' ⟨t,ht,hE,hM⟩
 exact ⟨v,t,ht,hE,⟨(fun k h=>by cases h),rfl⟩,hM⟩
theorem Ent.eq {x : Ent} {u : Nat → Value} {j : Nat} (h : x.g.2 (x.g.1.map u) (u j)) : u j = x.v u j:=by
 cases x with
 | p0 v=>exact h
 | pl ds f=>exact h
 | mk pr=>rfl
theorem jI {u : Nat → Value} {s : Nat} {y : Value} : ∀ {F : List Ent} {m : Nat},m ≤ ts.length → F.length = m → (s,y) ∈ A9 ts u F m → ∃ (i : Nat) (x : Ent),ts[i]? = some s ∧ F.reverse[i]? = some x ∧ y = x.v u i
 | [],m,_,hl,h=>by simp [A9] at h
 | x :: F,0,_,hl,h=>by simp at hl
 | x :: F,m + 1,hm,hl,h=>by
  rw [A9] at h
  have ht : ts[m]? = some ts[m]:=List.getElem?_eq_getElem (by omega)
  rw [ht] at h
  have hFl : F.length = m:=by simpa using hl
  rcases List.mem_cons.1 h with h | h
  ·simp only at h
   rw [Ent.p_eq] at h
   cases h
   refine ⟨m,x,ht,?_,rfl⟩
   rw [List.reverse_cons,List.getElem?_append_right (by simp [hFl])]
   simp [hFl]
  ·obtain ⟨i,z,h1,h2,h3⟩:=jI (by omega) hFl h
   refine ⟨i,z,h1,?_,h3⟩
   have:=(List.getElem?_eq_some_iff.1 h2).1
   rw [List.reverse_cons,List.getElem?_append_left this]
   exact h2
theorem yi {u : Nat → Value} {s : Nat} : ∀ {F : List Ent} {m : Nat},m ≤ ts.length → F.length = m → (A9 ts u F m).lookup s = none → ∀ i,i < m → ts[i]? ≠ some s
 | [],m,_,hl,_=>fun i hi=>by simp at hl; omega
 | x :: F,0,_,hl,_=>by simp at hl
 | x :: F,m + 1,hm,hl,hn=>fun i hi hs=>by
  rw [A9] at hn
  have ht : ts[m]? = some ts[m]:=List.getElem?_eq_getElem (by omega)
  rw [ht] at hn
  simp only at hn
  rw [Ent.p_eq,List.lookup_cons] at hn
  by_cases hst : s = ts[m]
  ·rw [show (s == ts[m]) = true by simpa using hst] at hn; cases hn
  ·rw [show (s == ts[m]) = false by simpa using hst] at hn
   by_cases him : i = m
   ·subst him; rw [ht] at hs; exact hst (by simpa using hs.symm)
   ·exact yi (by omega) (by simpa using hl) hn i (by omega) hs
theorem Env.fin {a : Act} {u : Nat → Value} (h : Env n a (A9 ts u F ts.length ++ Qs ts 0 u e0)) (hl : F.length = ts.length) : Env n a (A9 ts u F ts.length ++ e0):=by
 refine ⟨h.sz,h.df,fun s v hs=>h.get s v ?_⟩
 rw [Hi] at hs ⊢
 cases hx : (A9 ts u F ts.length).lookup s with
 | some x=>rw [hx] at hs; exact hs
 | none =>
  rw [hx] at hs
  simp only at hs ⊢
  rw [AZ ts 0 s u e0 (fun hm=>by
   obtain ⟨i,hi⟩:=List.mem_iff_getElem?.1 hm
   exact yi (Nat.le_refl _) hl hx i (List.getElem?_eq_some_iff.1 hi).1 hi)]
  exact hs
theorem Wo {id : Nat} {Q : Exit → Act → World → Prop} {a : Act} {w : World} (ts : List Nat)
  (hm : P.follows .mixedOrders = true) (hE : Jb ops.toList 0 = true) (hT : k7 ops.toList ts.length = true) (hn : ts.Nodup) (hlen : Nat.ble ts.length ops.toList.length = true)
  (h0 : Env n a e0) (hM0 : ∀ u,M St w0 w.drew (its ++ qL mk (fun _=>false) u))
  (hS : QS P ops n ts e0 St w0 its mk (ops.toList.take ts.length) 0 (ops.toList.take ts.length) [] F)
  (htail : ∀ a w u D,Env n a (A9 ts u F ts.length ++ e0) → M St w0 w (its ++ qL mk D u) → GOk (F.reverse.map Ent.g) D u → (∀ j,j < ts.length → D j = true) → wpList P ops Q (ops.toList.drop ts.length) a w) :
  (Code.region id ops true).wp P Q a w:=by
 have hops : (ops.toList.take ts.length ++ ops.toList.drop ts.length).toArray = ops:=by rw [List.take_append_drop,Array.toArray_toList]
 have hl : ops.toList.take ts.length ++ ops.toList.drop ts.length = ops.toList:=List.take_append_drop _ _
 obtain ⟨k1,_,k3⟩:=QS.pre (acc:=[]) (i:=0) rfl hS
 simp only [Nat.zero_add] at k1 k3
 have hlen:=Nat.le_of_ble_eq_true hlen
 have hhl : (ops.toList.take ts.length).length = ts.length:=by rw [List.length_take,Nat.min_eq_left hlen]
 have key:=Zca (P:=P) (id:=id) (hd:=ops.toList.take ts.length) (tl:=ops.toList.drop ts.length) (Q:=Q) (a:=a) (w:=w) (n:=n) (e0:=e0) hm (by rw [hl]; exact hE) (by rw [hl,hhl]; exact hT) ts hn
  (fun D u w=>M St w0 w (its ++ qL mk D u) ∧ GOk (F.reverse.map Ent.g) D u) h0 (fun u=>⟨hM0 u,gok0⟩) ?_ ?_
 ·rw [hops] at key; exact key
 ·intro i o hi a w u D hEnv hI hD hdc hp
  rw [hops]
  obtain ⟨x,hx,A,hA,hAl,hok⟩:=k3 i o hi
  have hat : ∀ j,j < i → ∀ y,A[i - 1 - j]? = some y → F.reverse[j]? = some y:=fun j hj y hy=>by
   have h5 : A.reverse[j]? = some y:=by
    rw [List.getElem?_reverse (by omega),hAl]
    rw [← hy]
   rw [hA,List.getElem?_take_of_lt (by omega)] at h5
   exact h5
  have hX : ∀ p ∈ Bj ts i A u o.after.toList,(Qs ts 0 u e0).lookup p.1 = some p.2:=by
   intro p hp'
   obtain ⟨e,he,hb,hei,y,h1,h2,h3⟩:=jh hp'
   obtain ⟨k,hk⟩:=List.mem_iff_getElem?.1 he
   have hDe:=hp k e hk hb
   have h6:=(hI.2 e.on hDe y.g (by rw [List.getElem?_map,hat e.on hei y h2]; rfl)).2
   rw [HJ ts 0 e.on p.1 u e0 hn h1,h3,Nat.zero_add,Ent.eq h6]
  refine Jv (hok a w u D ⟨hEnv.pre hX,hI.1,?_,hD,hdc,hp⟩) ?_
  ·intro j hj g hg
   refine hI.2 j hj g ?_
   rw [List.getElem?_map] at hg ⊢
   rw [hA] at hg
   cases hz : (F.reverse.take i)[j]? with
   | none=>rw [hz] at hg; cases hg
   | some z =>
    have h5:=(List.getElem?_eq_some_iff.1 hz).1
    have h6 : j < i:=by simp at h5; omega
    rw [hz] at hg
    rw [List.getElem?_take_of_lt h6] at hz
    rw [hz]
    exact hg
  ·rintro a' w' ⟨v,t,ht,hE',hg,hM'⟩
   exact ⟨v,t,ht,hE'.unpre hX,hM',hI.2.upd hD fun g hgi=>by
    rw [List.getElem?_map,hx] at hgi
    cases hgi
    exact hg⟩
 ·intro a w u D hEnv hI hall
  rw [hops]
  rw [hhl] at hall
  have hFl : F.length = ts.length:=by rw [k1,hhl]
  refine htail a w u D ((hEnv.pre ?_).fin hFl) hI.1 hI.2 hall
  rintro ⟨s,y⟩ hs
  obtain ⟨i,x,h1,h2,h3⟩:=jI (Nat.le_refl _) hFl hs
  have hil:=(List.getElem?_eq_some_iff.1 h1).1
  have h6:=(hI.2 i (hall i hil) x.g (by rw [List.getElem?_map,h2]; rfl)).2
  rw [HJ ts 0 i s u e0 hn h1,h3,Nat.zero_add]
  simp only
  rw [Ent.eq h6]
theorem YA {id : Nat} {Q : Exit → Act → World → Prop} {a : Act} {w : World} (ts : List Nat)
  (hm : P.follows .mixedOrders = true) (hE : Jb ops.toList 0 = true) (hT : k7 ops.toList ts.length = true) (hn : ts.Nodup) (hlen : Nat.ble ts.length ops.toList.length = true)
  (h0 : Env n a e0) (hM : M St w0 w its)
  (hS : QS P ops n ts e0 St w0 its [] (ops.toList.take ts.length) 0 (ops.toList.take ts.length) [] F)
  (htail : ∀ a w u,Env n a (A9 ts u F ts.length ++ e0) → M St w0 w its → wpList P ops Q (ops.toList.drop ts.length) a w) :
  (Code.region id ops true).wp P Q a w :=
 Wo ts hm hE hT hn hlen h0 (fun u=>M.q0 hM.drew u) hS fun a w u D hE hM _ _=>htail a w u hE (by simpa [qL] using hM)
end
theorem offD {hd : List Oper} {D : Nat → Bool} {j k : Nat} {p : Oper} {e : Edge} (c : ∀ (j : Nat) (p : Oper) (e : Edge),hd[j]? = some p → e ∈ p.after.toList → Region.binds .any e = true → D j = true → D e.on = true) (hj : hd[j]? = some p) (he : p.after.toList[k]? = some e) (hb : Region.binds .any e = true) (h : D e.on = false) : D j = false :=
 Bool.eq_false_iff.2 fun hx=>Bool.noConfusion (h.symm.trans (c j p e hj (List.mem_of_getElem? he) hb hx))
section
variable {St : Nat → Prop} {w0 w : World} {its pre post : List Item}
def SatI {α : Type} [Rep α] (it : Item) (l : List α) (u : Value) : Prop:=∀ w fp,it w fp → Rep.sat NoB w l [u] fp
theorem sio {α : Type} [Rep α] {l : List α} {u : Value} : SatI (osl NoB l u) l u:=fun _ _ h=>X5.sat h
theorem siw {α : Type} [Rep α] {l : List α} {u : Value} : SatI (own NoB l [u]) l u:=fun _ _ h=>h
end
theorem kr0 {P : Program} {l : Array Oper} {w : World} {n t : Nat} {e : List (Nat × Value)} {v : Value} {ti : Option Nat} (h1 : ti = some t) :
  ∀ a,Env n a ((t,v) :: e) → wpList P l (nrm fun a' w'=>Kept (Old w) w w' ∧ ∃ t,ti = some t ∧ Env n a' ((t,v) :: e)) [] a w:=fun _ hE=>⟨Kept.refl _ _,_,h1,hE⟩
theorem kc {P : Program} {l : Array Oper} {w : World} {n t : Nat} {e : List (Nat × Value)} {x : Value} {ti : Option Nat} (h1 : ti = some t) :
  ∀ v w' a,(v = x ∧ Kept (Old w) w w') → Env n a ((t,v) :: e) → wpList P l (nrm fun a' w'=>Kept (Old w) w w' ∧ ∃ t,ti = some t ∧ Env n a' ((t,x) :: e)) [] a w':=fun _ _ _ ⟨hv,hK⟩ hE=>⟨hK,_,h1,hv ▸ hE⟩
section
variable {n : Nat} {a : Act} {e : List (Nat × Value)} {w : World} {P : Program} {ops : Array Oper} {rest : List Oper} {Q : Exit → Act → World → Prop} {d : Nat} {ty t : TypeId} {pos : String} {af : Array Edge} {g : Option (Nat × Bool)} {x : Operand}
theorem TA {src dst : TypeId} {p : UInt8} {D : TypeDesc} (h : Env n a e) (hw : Goes ops ⟨some d,.convert src dst x,ty,pos,af,g⟩ a) (hd : d < n) (hx : opv e x = some (vB p))
  (hs : P.underlying src = some D) (ht : P.underlying dst = some (.int .i64)) (k : ∀ a,Env n a ((d,vI (bI p)) :: e) → wpList P ops Q rest a w) : wpList P ops Q (⟨some d,.convert src dst x,ty,pos,af,g⟩ :: rest) a w :=
 Qm h hw hd hx hs ht fun a hE=>by rw [qF] at hE; exact k a hE
theorem kJ {src dst : TypeId} {p : UInt8} {D : TypeDesc} (h : Env n a e) (hw : Goes ops ⟨some d,.convert src dst x,ty,pos,af,g⟩ a) (hd : d < n) (hx : opv e x = some (vB p))
  (hs : P.underlying src = some D) (ht : P.underlying dst = some (.int .u64)) (k : ∀ a,Env n a ((d,.int .u64 (bI p)) :: e) → wpList P ops Q rest a w) : wpList P ops Q (⟨some d,.convert src dst x,ty,pos,af,g⟩ :: rest) a w :=
 Qm h hw hd hx hs ht fun a hE=>by rw [kj] at hE; exact k a hE
theorem TH {src dst : TypeId} {J : IntKind} {p : Int} {D : TypeDesc} (h : Env n a e) (hw : Goes ops ⟨some d,.convert src dst x,ty,pos,af,g⟩ a) (hd : d < n) (hx : opv e x = some (.int J p))
  (hs : P.underlying src = some D) (ht : P.underlying dst = some (.int .u8)) (k : ∀ a,Env n a ((d,vB (Yp p)) :: e) → wpList P ops Q rest a w) : wpList P ops Q (⟨some d,.convert src dst x,ty,pos,af,g⟩ :: rest) a w :=
 Qm h hw hd hx hs ht fun a hE=>by rw [Bf] at hE; exact k a hE
end
end
section
open Go
section
variable {α : Type} [Rep α] {S St : Nat → Prop} {w w' w0 : World} {l : List α} {v : Value} {i : Nat} {x : α} {cs : List Value} {its pre post : List Item}
theorem M.holeAt (h : M St w0 w (pre ++ Jk S l i v cs :: post)) : At w (sb v) (so v + i * Rep.n α) cs:=by
 obtain ⟨fp,⟨b,o,cap,c1,c2,f1,f2,rfl,_,_,q1,_,_,_,q2,_,_⟩,_⟩:=h.get
 have:=(At.append.1 (At.append.1 q2).2).1
 rw [q1] at this
 exact this
theorem M.close0 (hM : M St w0 w (own S x cs :: Jk S l i v cs :: its)) (hS : ∀ b,S b → St b) (hi : l[i]? = some x) : M St w0 w (osl S l v :: its):=by
 have h:=hM.close1 hS
 have e : l.set i x = l:=by
  obtain ⟨h1,h2⟩:=List.getElem?_eq_some_iff.1 hi
  subst h2; exact List.set_getElem_self h1
 rwa [e] at h
end
section
variable {n : Nat} {a : Act} {e : List (Nat × Value)} {w w' : World} {P : Program} {ops : Array Oper} {rest : List Oper} {Q : Exit → Act → World → Prop}
variable {d : Nat} {ty t : TypeId} {pos : String} {af : Array Edge} {g : Option (Nat × Bool)} {x y : Operand} {v u : Value}
variable {St : Nat → Prop} {w0 : World} {its pre post : List Item}
theorem Jz {α : Type} [Rep α] {S : Nat → Prop} {l : List α} {el sz by_ j : Nat} {cs z : List Value} {D : TypeDesc} {K : IntKind} {i : Int} (h : Env n a e) (hM : M St w0 w (pre ++ Jk S l j v cs :: post)) (hw : Goes ops ⟨some d,.indexAddr t x y,ty,pos,af,g⟩ a) (hd : d < n)
  (hx : opv e x = some v) (hy : opv e y = some (.int K i)) (ht : P.underlying t = some (.slice el)) (he : Ty P el D sz by_ z) (hi : 0 ≤ i ∧ i < l.length)
  (k : ∀ a,Env n a ((d,ptr (sb v) (so v + i.toNat * sz)) :: e) → wpList P ops Q rest a w) : wpList P ops Q (⟨some d,.indexAddr t x y,ty,pos,af,g⟩ :: rest) a w:=by
 obtain ⟨fp,⟨b,o,cap,c1,c2,f1,f2,hv,_⟩,_⟩:=hM.get
 refine Xw h hw rfl hd (v:=ptr (sb v) (so v + i.toNat * sz)) (w':=w) ?_ k
 simp only [execOp,h.ev hx,h.ev hy,hv,sb,so]
 simp [Instr.indexAt,asIntOf,run_underlying ht,hi,Va he,Addr.add_lit]
theorem H4 {α : Type} [Rep α] {S : Nat → Prop} {l : List α} {D : TypeDesc} {sz by_ : Nat} {z seg cs cs' : List Value} {i k0 : Nat} (h : Env n a e) (hM : M St w0 w (Jk S l i v cs :: its)) (hS : ∀ b,S b → St b) (hw : Goes ops ⟨none,.store t x y,ty,pos,af,g⟩ a)
  (hx : opv e x = some (ptr (sb v) (so v + i * Rep.n α + k0))) (hy : opv e y = some u) (hu : u.cells.toList = seg) (ht : Ty P t D sz by_ z) (hl : seg.length = sz) (hc : ∀ v ∈ seg,v.oneCell' = true)
  (hfit : k0 + seg.length ≤ cs.length) (hs : YH cs k0 seg = cs')
  (k : ∀ w a,M St w0 w (Jk S l i v cs' :: its) → Env n a e → wpList P ops Q rest a w) : wpList P ops Q (⟨none,.store t x y,ty,pos,af,g⟩ :: rest) a w:=by
 subst hs
 have hst:=hM.st'
 have key : ∀ fp,Jk S l i v cs w fp → fp.Nodup → (∀ b ∈ fp,¬ St b ∧ b < w.heap.size) → (storeCells ⟨sb v,so v + i * Rep.n α + k0,none⟩ seg).run P w = .ok () (w.setCells (sb v) (so v + i * Rep.n α + k0) seg) ∧ sb v ∈ fp ∧
   Jk S l i v (YH cs k0 seg) (w.setCells (sb v) (so v + i * Rep.n α + k0) seg) fp:=by
  rintro fp ⟨b,o,cap,c1,c2,e1,e2,rfl,hcap,hil,q1,hccl,q2,q4,k2,k3,rfl⟩ hnd hlt
  have hrm:=k3
  obtain ⟨c,T,fz,hheap,hsize,hfz⟩:=k3
  have hsb : sb (.slice (some ⟨b,o,none⟩) l.length cap) = b:=rfl
  have hso : so (.slice (some ⟨b,o,none⟩) l.length cap) = o:=rfl
  rw [hsb,hso]
  have h1 : (i + 1) * Rep.n α ≤ l.length * Rep.n α:=Nat.mul_le_mul_right _ (by omega)
  rw [Nat.add_mul] at h1
  have h2 : l.length * Rep.n α ≤ cap * Rep.n α:=Nat.mul_le_mul_right _ hcap
  have hfit2 : o + i * Rep.n α + k0 + seg.length ≤ c.size:=by omega
  have hst':=KG (P:=P) (o:=o + i * Rep.n α + k0) (vs:=seg) hheap hfit2 hfz hc
  obtain ⟨n4,n5⟩:=List.nodup_cons.1 hnd
  have hkeep : ∀ k,(k ∈ e1 ∨ k ∈ e2 ∨ S k) → (w.setCells b (o + i * Rep.n α + k0) seg).heap[k]? = w.heap[k]?:=by
   intro k hk
   refine VZ _ _ ?_ _ _ _
   rintro rfl
   rcases hk with h | h | h
   ·exact n4 (by simp [h])
   ·exact n4 (by simp [h])
   ·exact (hlt _ (List.mem_cons_self ..)).1 (hS _ h)
  have hlen2 : (YH cs k0 seg).length = cs.length:=Us hfit
  have hd2 : (l.drop (i + 1)).length * Rep.n α = c2.length:=q4.len.symm
  rw [List.length_drop] at hd2
  have hc2 : i * Rep.n α + Rep.n α + c2.length = l.length * Rep.n α:=by
   rw [← hd2,← Nat.add_one_mul,← Nat.add_mul]; congr 1; omega
  have hsp : YH (c1 ++ (cs ++ c2)) (i * Rep.n α + k0) seg = c1 ++ (YH cs k0 seg ++ c2):=z7 (by rw [q1]) (by omega)
  refine ⟨hst',List.mem_cons_self ..,b,o,cap,c1,c2,e1,e2,rfl,hcap,hil,q1,by rw [hlen2]; exact hccl,q2.loc fun k hk=>hkeep k (by rcases hk with h | h; exact .inl h; exact .inr (.inr h)),q4.loc fun k hk=>hkeep k (by rcases hk with h | h; exact .inr (.inl h); exact .inr (.inr h)),?_,hrm.set hheap rfl hfit2,rfl⟩
  rw [← hsp,show o + i * Rep.n α + k0 = o + (i * Rep.n α + k0) by omega]
  refine k2.set hheap ?_ ?_
  ·simp only [List.length_append]; omega
  ·simp only [List.length_append]; omega
 obtain ⟨hk0,hs0,fp,⟨f1,f',rfl,hl1,h1,hr⟩,hnd,hlt⟩:=hM
 obtain ⟨hrun,_,_⟩:=key f1 h1 (List.nodup_append.1 hnd).1 (fun b hb=>hlt b (by simp [hb]))
 have hM : M St w0 w (Jk S l i v cs :: its):=⟨hk0,hs0,f1 ++ f',⟨f1,f',rfl,hl1,h1,hr⟩,hnd,hlt⟩
 refine ke h hw rfl (w':=w.setCells (sb v) (so v + i * Rep.n α + k0) seg) ?_ fun a ha=>k _ _ ?_ ha
 ·simp only [execOp,h.ev hx,h.ev hy]
  have hsz : u.cells.size = sz:=by rw [← hl,← hu]; simp
  simp [Instr.storeAt,Instr.sureAddr,storeVar,Va ht,hsz,hu,hrun]
 ·refine M.turn (new:=[Jk S l i v (YH cs k0 seg)]) hM (Ym _ _ _ _).1 (Ym _ _ _ _).2.1 (Ym _ _ _ _).2.2 (by rw [Tp]; exact Nat.le_refl _) ?_
  rintro fp j1 hlt hnd
  obtain ⟨_,hin,hO⟩:=key fp j1 hnd hlt
  refine ⟨fun b hb _=>VZ _ _ (fun h=>hb (by rw [h]; exact hin)) _ _ _,fp,⟨fp,[],by simp,je hS,hO,rfl⟩,hnd,fun b hb=>.inl hb⟩
end
end
section
open Go

structure Opq (n : Nat) where
 cs : List Value
 len : cs.length = n
 one : ∀ v ∈ cs,v.oneCell' = true
instance {n : Nat} : Flat (Opq n):=⟨n,fun x=>x.cs,fun x=>x.len,fun x=>x.one⟩
def KM {n : Nat} (hs : List (Opq n)) : List Value:=(hs.map (·.cs)).flatten
section
variable {α : Type} [Rep α] {S St : Nat → Prop} {w w0 : World} {l : List α} {v : Value} {its : List Item}
def els (S : Nat → Prop) (l : List α) (hs : List (Opq (Rep.n α))) : Item:=fun w fp=>hs.length = l.length ∧ Z1 S w l (KM hs) fp
end
end
section
open Go
def delF {α : Type} (l : List α) (i j : Int) : Option (List α):=if 0 ≤ i ∧ i ≤ j ∧ j ≤ l.length then some (l.take i.toNat ++ l.drop j.toNat) else none
section
variable {P : Program} {St : Nat → Prop} {w0 w : World} {its : List Item} {n : Nat} {a : Act} {e : List (Nat × Value)} {ops : Array Oper} {rest : List Oper} {Q : Exit → Act → World → Prop} {v : Value} {x y : Operand} {d t ty : TypeId} {pos : String} {af : Array Edge} {g : Option (Nat × Bool)}
end
def insF {α : Type} (by_ : Nat) (l : List α) (i : Int) (m : List α) : Option (List α):=if 0 ≤ i ∧ i ≤ l.length ∧ m.length = 1 ∧ (l.length + 1) * by_ ≤ 140737488355328 then some (l.take i.toNat ++ (m ++ l.drop i.toNat)) else none
section
variable {P : Program} {St : Nat → Prop} {w0 w : World} {its : List Item} {n : Nat} {a : Act} {e : List (Nat × Value)} {ops : Array Oper} {rest : List Oper} {Q : Exit → Act → World → Prop} {v u : Value} {x y : Operand} {d t ty : TypeId} {pos : String} {af : Array Edge} {g : Option (Nat × Bool)}
end
section
variable {P : Program} {St : Nat → Prop} {w0 w : World} {its : List Item} {n : Nat} {a : Act} {e : List (Nat × Value)} {ops : Array Oper} {rest : List Oper} {Q : Exit → Act → World → Prop} {v u : Value} {x y : Operand} {d t ty : TypeId} {pos : String} {af : Array Edge} {g : Option (Nat × Bool)}
def NoMk (w : World) (b : Nat) : Prop:=∀ c T fz,w.heap[b]? = some (.cells c T fz) → ¬ (fz.1 ≤ c.size ∧ c.size < fz.2)
def osn {α : Type} [Rep α] (S : Nat → Prop) (l : List α) (v : Value) : Item:=fun w fp=>X5 S w l v fp ∧ (sb v ∈ fp → NoMk w (sb v))
end
section
variable {P : Program} {α : Type} [Rep α] {S St : Nat → Prop} {w w0 : World} {l m r : List α} {v u : Value} {its : List Item}
end
section
variable {α : Type} [Rep α] {S St : Nat → Prop} {w w0 : World} {l l1 l2 m : List α} {its : List Item} {hs h1 h2 ms : List (Opq (Rep.n α))} {i : Int}
end
section
variable {α : Type} [Rep α] {S St : Nat → Prop} {w w0 : World} {l r : List α} {v : Value} {its : List Item} {fp : List Nat}
theorem Z1.dropF : ∀ {l : List α} {cs : List Value} {fp : List Nat} (k : Nat),Z1 S w l cs fp → ∃ f g,fp = f ++ g ∧ Z1 S w (l.drop k) (cs.drop (k * Rep.n α)) g
 | l,cs,fp,0,h=>⟨[],fp,rfl,by simpa using h⟩
 | [],cs,fp,k + 1,h=>by obtain ⟨rfl,rfl⟩:=h; exact ⟨[],[],rfl,by simp [Z1]⟩
 | x :: l,cs,fp,k + 1,h=>by
  obtain ⟨c,cs',f,fp',rfl,rfl,h1,h2⟩:=h
  obtain ⟨f1,g1,rfl,h3⟩:=Z1.dropF k h2
  refine ⟨f ++ f1,g1,by simp,?_⟩
  rw [List.drop_succ_cons,Nat.add_mul,Nat.one_mul,Nat.add_comm,show Rep.n α + k * Rep.n α = c.length + k * Rep.n α by rw [Rep.len h1],List.drop_length_add_append]
  exact h3
theorem X5.cutF {i : Int} (h : X5 S w l v fp) (hb : slc l i (l.length : Int) = some r) : ∃ fp',X5 S w r (Vc v i.toNat (l.length : Int).toNat (Rep.n α)) fp' ∧ fp'.Sublist fp:=by
 obtain ⟨⟨h0,h1,_⟩,rfl⟩:=H0 hb
 obtain ⟨i,rfl⟩ : ∃ k : Nat,i = k:=⟨i.toNat,by omega⟩
 obtain ⟨p,cap,rfl,hcap,h⟩:=h
 simp only [Int.toNat_natCast,List.take_length]
 have hlen : (l.drop i).length = l.length - i:=by simp
 rcases h with ⟨rfl,rfl,hp⟩ | ⟨b,o,ecs,fpe,rfl,k1,k2,rfl,c,T,fz,k3,k4,k5⟩
 ·obtain rfl : i = 0:=by omega
  exact ⟨[],⟨p,0,by simp [Vc],by simpa using hcap,.inl ⟨rfl,rfl,trivial⟩⟩,List.nil_sublist _⟩
 ·by_cases hc : cap = i
  ·subst hc
   refine ⟨[],⟨some ⟨b,o,none⟩,cap - cap,by simp [Vc,hlen],by omega,.inl ⟨by omega,rfl,trivial⟩⟩,List.nil_sublist _⟩
  ·obtain ⟨f,g,rfl,k6⟩:=k1.dropF i
   have hmul : i * Rep.n α + (cap - i) * Rep.n α = cap * Rep.n α:=by rw [← Nat.add_mul]; congr 1; omega
   refine ⟨b :: g,⟨some ⟨b,o + i * Rep.n α,none⟩,cap - i,by simp [Vc,hlen,hc,Addr.add_lit],by omega,.inr ⟨b,o + i * Rep.n α,_,g,rfl,k6,fun j x hj=>?_,rfl,c,T,fz,k3,by omega,k5⟩⟩,List.Sublist.cons_cons _ (List.sublist_append_right _ _)⟩
   rw [List.getElem?_drop] at hj
   have:=k2 _ _ hj
   rwa [← Nat.add_assoc] at this
theorem M.cutF {i : Int} (hM : M St w0 w (osl S l v :: its)) (hS : ∀ b,S b → St b) (hb : slc l i (l.length : Int) = some r) : M St w0 w (osl S r (Vc v i.toNat (l.length : Int).toNat (Rep.n α)) :: its):=by
 refine hM.turn (new:=[osl S r _]) rfl rfl rfl (Nat.le_refl _) ?_
 intro fp hfp _ hnd
 obtain ⟨fp',h1,h2⟩:=X5.cutF hfp hb
 exact ⟨fun _ _ _=>rfl,fp',⟨fp',[],by simp,VK hS,h1,rfl⟩,h2.nodup hnd,fun b hb=>.inl (h2.subset hb)⟩
end
end
section
open Go
def valE {α : Type} (vv : α → Value) : World → α → Value → List Nat → Prop:=fun _ x u f=>u = vv x ∧ f = []
def mdel {κ α : Type} [DecidableEq κ] : List (κ × α) → κ → List (κ × α)
 | [],_=>[]
 | p :: m,k=>if p.1 = k then m else p :: mdel m k
section
variable {n : Nat} {a : Act} {e : List (Nat × Value)} {w w' : World} {P : Program} {ops : Array Oper} {rest : List Oper} {Q : Exit → Act → World → Prop}
variable {d : Nat} {ty t kt el : TypeId} {pos : String} {af : Array Edge} {g : Option (Nat × Bool)} {x y z : Operand} {v u : Value}
variable {St S : Nat → Prop} {w0 : World} {its pre post : List Item} {κ α : Type} [DecidableEq κ] {kv : κ → Value} {vv : α → Value} {m : List (κ × α)} {b : Nat}
end

def mapR {κ α : Type} (kv : κ → Value) (E : World → α → Value → List Nat → Prop) (m : List (κ × α)) (ks : List κ) (b r : Nat) : Item:=fun w fp =>
 ∃ es clock fpe since seen last ls,w.heap[b]? = some (.map es clock) ∧ z6 kv E w m es.toList fpe ∧ Ha es.toList clock ∧ w.heap[r]? = some (.mapIter (some b) since seen last) ∧ (∀ x ∈ es.toList,x.born < since) ∧ since ≤ last ∧
  (Go.leftOf es seen).toList.map (·.key) = ls.map kv ∧ (ks ++ ls).Perm (m.map (·.1)) ∧ since ≤ clock ∧ fp = r :: b :: fpe
def mapC {κ α : Type} (kv : κ → Value) (E : World → α → Value → List Nat → Prop) (m : List (κ × α)) (ks : List κ) (k : κ) (b r : Nat) : Item:=fun w fp =>
 ∃ (es : Array MapEntry) (clock : Nat) (fpe : List Nat) (since : Nat) (seen : Array Nat) (e : MapEntry) (ls : List κ),w.heap[b]? = some (.map es clock) ∧ z6 kv E w m es.toList fpe ∧ Ha es.toList clock ∧ w.heap[r]? = some (.mapIter (some b) since (seen.push e.born) clock) ∧ (∀ x ∈ es.toList,x.born < since) ∧ since ≤ clock ∧ e ∈ es.toList ∧ e.key = kv k ∧
  (Go.leftOf es (seen.push e.born)).toList.map (·.key) = ls.map kv ∧ ((ks ++ [k]) ++ ls).Perm (m.map (·.1)) ∧ fp = r :: b :: fpe
section
variable {κ α : Type} {kv : κ → Value} {S St : Nat → Prop} {E : World → α → Value → List Nat → Prop} {w w' w0 : World}
end
section
variable {n : Nat} {a : Act} {e : List (Nat × Value)} {w w' : World} {P : Program} {ops : Array Oper} {rest : List Oper} {Q : Exit → Act → World → Prop}
variable {d : Nat} {ty t kt el : TypeId} {pos : String} {af : Array Edge} {g : Option (Nat × Bool)} {x y z : Operand} {v u : Value}
variable {St S : Nat → Prop} {w0 : World} {its pre post : List Item} {κ α : Type} {kv : κ → Value} {m : List (κ × α)} {b r : Nat} {ks : List κ} {E : World → α → Value → List Nat → Prop}
end
section
open Go.Sort
variable {n : Nat} {a : Act} {e : List (Nat × Value)} {w w' : World} {P : Program} {ops : Array Oper} {rest : List Oper} {Q : Exit → Act → World → Prop}
variable {d : Nat} {ty t kt el : TypeId} {pos : String} {af : Array Edge} {g : Option (Nat × Bool)} {x y z : Operand} {v u : Value}
variable {St S : Nat → Prop} {w0 : World} {its pre post : List Item} {l : List Int}
def sortI (l : List Int) : List Int:=l.mergeSort fun x y=>decide (x ≤ y)
end
section
variable {P : Program} {t : TypeId}
end
end
section
open Go
def opnI {α : Type} [Rep α] (l : List α) (i : Nat) (v : Value) (x : α) (u : Value) : Item:=allI NoB [own NoB x (Value.cells u).toList,Jk NoB l i v (Value.cells u).toList]
section
variable {α : Type} [Rep α] {St : Nat → Prop} {w w0 : World} {l : List α} {v u : Value} {i : Nat} {x : α} {c c' : List Value} {its : List Item}
end
def swap2F {α : Type} : List α → Option (List α)
 | a :: b :: r=>some (b :: a :: r)
 | _=>none
section
variable {α : Type} [Rep α] {St : Nat → Prop} {w w0 : World} {l q : List α} {v : Value} {its : List Item}
end
def frontF {α : Type} (n : Nat) (l : List α) (x : α) : Option (List α):=match l with
 | _ :: t=>(app n [x] t).bind fun _=>some (x :: t)
 | []=>none
section
variable {α : Type} [Rep α] {St : Nat → Prop} {w w0 : World} {l q : List α} {v : Value} {x : α} {c cs : List Value} {its : List Item} {n : Nat}
end
def osz {α : Type} [Flat α] (_S : Nat → Prop) (l : List α) (v : Value) : Item:=fun w fp=>∃ b,v = .slice (some ⟨b,0,none⟩) l.length l.length ∧ raw b (VN l) w fp
section
variable {n : Nat} {a : Act} {e : List (Nat × Value)} {w : World} {P : Program} {ops : Array Oper} {rest : List Oper} {Q : Exit → Act → World → Prop}
variable {d : Nat} {ty t : TypeId} {pos : String} {af : Array Edge} {g : Option (Nat × Bool)} {x : Operand} {v : Value} {St : Nat → Prop} {w0 : World} {its : List Item}
end
end
section
open Go
theorem M.roHead {α : Type} [Rep α] {w0 w : World} {S : Nat → Prop} {x : α} {cs : List Value} {its : List Item} (h : M (Old w0) w0 w (own S x cs :: its)) (hS : ∀ b,S b → Old w0 b) : Ro w x cs:=by
 obtain ⟨hk,hs,fp,⟨f,g,rfl,hl,h1,h2⟩,hnd,hlt⟩:=h
 exact Rep.ro h1 fun b hb=>hb.elim (fun h=>(hlt b (by simp [h])).2) fun h=>Nat.lt_of_lt_of_le (hS b h) hk.size
theorem M.reroot {w0 w : World} {its : List Item} (h : M (Old w0) w0 w its) : ∃ w1,w1 = w ∧ M (Old w1) w1 w [] ∧ Kept (Old w0) w0 w1:=⟨w,rfl,M.start w,h.kept⟩
theorem kto {a b w : World} {its : List Item} (h : Kept (Old a) a b) (hM : M (Old b) b w its) : Kept (Old a) a w:=h.trans (hM.kept.mono fun i hi=>Nat.lt_of_lt_of_le hi h.size)
end
end Go.Proofs.YtfhhlkkhcoaapaaGreatDoor
