/- The walk library: what this claim needs of it. -/
import Derived.Test.YtifdeoikcebbjaaGreatK1
set_option linter.unusedVariables false
set_option linter.unusedSectionVars false
namespace Go.Proofs.YtifdeoikcebbjaaGreat
open Go

theorem At.set {w : World} {b o k : Nat} {row seg : List Value} {c : Array Value} {T : TypeId} {fz : Nat × Nat} (h : At w b o row) (hheap : w.heap[b]? = some (.cells c T fz)) (hk : k + seg.length ≤ row.length) (hrow : o + row.length ≤ c.size) :
  At (w.setCells b (o + k) seg) b o (Yi row k seg):=by
 have hfit : o + k + seg.length ≤ c.size:=by omega
 have hh:=XQ b T fz seg (o + k) w c hheap hfit
 intro j vv hv
 have hj:=(List.getElem?_eq_some_iff.1 hv).1
 rw [Vr hk] at hj
 simp only [World.cell?,hh,Option.isSome_none,Bool.false_eq_true,if_false]
 rw [List.getElem?_toArray]
 have hrw : ∀ j,j < row.length → c.toList[o + j]? = row[j]?:=by
  intro j hj
  have:=h j _ (List.getElem?_eq_getElem hj)
  simp only [World.cell?,hheap,Option.isSome_none,Bool.false_eq_true,if_false] at this
  rw [List.getElem?_eq_getElem hj]
  simpa using this
 have hcl : c.toList.length = c.size:=by simp
 simp only [Yi] at hv ⊢
 by_cases hj1 : j < k
 ·rw [List.getElem?_append_left (by simp; omega),List.getElem?_take,if_pos hj1] at hv
  rw [List.getElem?_append_left (by rw [List.length_take]; omega),List.getElem?_take,if_pos (by omega),hrw j hj]
  exact hv
 ·rw [List.getElem?_append_right (by simp; omega)] at hv
  rw [List.getElem?_append_right (by simp; omega)]
  have e1' : (List.take k row).length = k:=by rw [List.length_take]; omega
  have e2' : (List.take (o + k) c.toList).length = o + k:=by rw [List.length_take]; omega
  rw [e1'] at hv
  rw [e2',show o + j - (o + k) = j - k by omega]
  by_cases hj2 : j - k < seg.length
  ·rw [List.getElem?_append_left hj2] at hv ⊢; exact hv
  ·rw [List.getElem?_append_right (by omega),List.getElem?_drop] at hv ⊢
   rw [show o + k + seg.length + (j - k - seg.length) = o + j by omega,hrw j hj]
   rw [show k + seg.length + (j - k - seg.length) = j by omega] at hv
   exact hv
theorem H1.set {w : World} {b o m b2 o2 : Nat} {seg : List Value} {c : Array Value} {T : TypeId} {fz : Nat × Nat} (h : H1 w b o m) (hheap : w.heap[b]? = some (.cells c T fz)) (h2 : b2 = b) (hfit : o2 + seg.length ≤ c.size) : H1 (w.setCells b2 o2 seg) b o m:=by
 subst h2
 obtain ⟨c',T',fz',h1,h3,h4⟩:=h
 rw [hheap] at h1
 simp only [Option.some.injEq,Obj.cells.injEq] at h1
 obtain ⟨rfl,rfl,rfl⟩:=h1
 refine ⟨_,T,fz,XQ b2 T fz seg _ w c hheap hfit,?_,?_⟩
 ·rw [List.size_toArray,Vr (by simpa using hfit)]; simpa using h3
 ·intro j hj
  rw [List.size_toArray,Vr (by simpa using hfit)] at hj
  exact h4 j (by simpa using hj)

theorem Ud {c d e' : List Value} {r s : List (List Value)} {f : List Value} (h : cat (c :: e' :: r) = cat (d :: f :: s)) (hl : c.length = d.length) : c = d ∧ cat (e' :: r) = cat (f :: s):=List.append_inj h hl

theorem JX {α : Type} [Rep α] {S : Nat → Prop} {w : World} {x : α} {c d : List Value} {f : List Nat} (h : c = d) (hs : Rep.sat S w x d f) : Rep.sat S w x c f:=by rw [h]; exact hs
theorem BW {n m k N : Nat} {i : Int} {seg : List Value} (h : 0 ≤ i ∧ i < n) (hl : seg.length = m) (hN : k + n * m ≤ N) : k + i.toNat * m + seg.length ≤ N:=by
 have h1 : (i.toNat + 1) * m ≤ n * m:=Nat.mul_le_mul_right _ (by omega)
 rw [Nat.add_mul] at h1
 omega
theorem Bf {e : List (Nat × Value)} {x : Operand} {b o o' : Nat} (h : opv e x = some (ptr b o)) (ho : o = o') : opv e x = some (ptr b o'):=by rw [h,ho]

theorem W8 {c : Array Value} {l : List Value} (h : c.toList = l) : c = l.toArray:=by rw [← h]

def hole {α : Type} [Rep α] (S : Nat → Prop) (l : List α) (i : Nat) (v : Value) (cs : List Value) : Item:=fun w fp =>
 ∃ b o cap c1 c2 f1 f2,v = .slice (some ⟨b,o,none⟩) l.length cap ∧ l.length ≤ cap ∧ i < l.length ∧ c1.length = i * Rep.n α ∧ cs.length = Rep.n α ∧ Z0 S w (l.take i) c1 f1 ∧ Z0 S w (l.drop (i + 1)) c2 f2 ∧
  At w b o (c1 ++ (cs ++ c2)) ∧ H1 w b o (cap * Rep.n α) ∧ fp = b :: (f1 ++ f2)
section
variable {α : Type} [Rep α] {S St : Nat → Prop} {w w' w0 : World} {l : List α} {v : Value} {i : Nat} {x : α} {cs : List Value} {its : List Item}
theorem kA (hS : ∀ b,S b → St b) : Loc St (hole S l i v cs):=by
 rintro w w' fp ⟨b,o,cap,c1,c2,f1,f2,h1,h2,h3,h4,h5,h6,h7,h8,h9,rfl⟩ hb
 exact ⟨b,o,cap,c1,c2,f1,f2,h1,h2,h3,h4,h5,h6.loc (fun k hk=>hb k (by rcases hk with h | h; exact .inl (by simp [h]); exact .inr (hS k h))),h7.loc (fun k hk=>hb k (by rcases hk with h | h; exact .inl (by simp [h]); exact .inr (hS k h))),
  h8.loc (hb b (by simp)),h9.loc (hb b (by simp)),rfl⟩
theorem M.open1 (hM : M St w0 w (osl S l v :: its)) (hS : ∀ b,S b → St b) (hi : l[i]? = some x) : ∃ cs,M St w0 w (own S x cs :: hole S l i v cs :: its) ∧ At w (sb v) (so v + i * Rep.n α) cs:=by
 obtain ⟨hk,hs,fp,⟨f,f',rfl,_,⟨p,cap,rfl,hcap,hO⟩,hr⟩,hnd,hlt⟩:=hM
 have hil:=(List.getElem?_eq_some_iff.1 hi).1
 rcases hO with ⟨rfl,_⟩ | ⟨b,o,ecs,fpe,rfl,k1,k2,rfl,k3⟩
 ·omega
 obtain ⟨c1,cc,c2,e1,ee,e2,rfl,rfl,q1,q2,q3,q4⟩:=k1.split hi
 have hcc:=Rep.len q3
 refine ⟨cc,⟨hk,hs,ee ++ ((b :: (e1 ++ e2)) ++ f'),⟨ee,_,rfl,Yc hS,q3,b :: (e1 ++ e2),f',rfl,kA hS,⟨b,o,cap,c1,c2,e1,e2,rfl,hcap,hil,q1,hcc,q2,q4,k2,k3,rfl⟩,hr⟩,?_,fun k hk=>hlt k (by simp at hk ⊢; grind)⟩,?_⟩
 ·refine (List.Perm.nodup_iff ?_).1 hnd
  have : (b :: (e1 ++ (ee ++ e2))) ++ f' = ((b :: e1) ++ ee) ++ (e2 ++ f'):=by simp
  rw [this]
  have h2 : ee ++ ((b :: (e1 ++ e2)) ++ f') = (ee ++ (b :: e1)) ++ (e2 ++ f'):=by simp
  rw [h2]
  exact List.Perm.append_right _ List.perm_append_comm
 ·have:=(At.append.1 (At.append.1 k2).2).1
  rw [q1] at this
  exact this
theorem M.close1 (hM : M St w0 w (own S x cs :: hole S l i v cs :: its)) (hS : ∀ b,S b → St b) : M St w0 w (osl S (l.set i x) v :: its):=by
 obtain ⟨hk,hs,fp,⟨f,f',rfl,_,h1,g,g',rfl,_,⟨b,o,cap,c1,c2,f1,f2,rfl,h3,h4,h5,h6,h7,h8,h9,h10,rfl⟩,hr⟩,hnd,hlt⟩:=hM
 have h1 : Rep.sat S w x cs f:=h1
 refine ⟨hk,hs,(b :: (f1 ++ (f ++ f2))) ++ g',⟨b :: (f1 ++ (f ++ f2)),g',rfl,V8 hS,⟨some ⟨b,o,Option.none⟩,cap,by simp,by simpa using h3,.inr ⟨b,o,_,_,rfl,Z0.join h4 h7 h1 h8,h9,rfl,h10⟩⟩,hr⟩,?_,fun k hk=>hlt k (by simp at hk ⊢; grind)⟩
 refine (List.Perm.nodup_iff ?_).1 hnd
 have : (b :: (f1 ++ (f ++ f2))) ++ g' = ((b :: f1) ++ f) ++ (f2 ++ g'):=by simp
 rw [this]
 have h2 : f ++ ((b :: (f1 ++ f2)) ++ g') = (f ++ (b :: f1)) ++ (f2 ++ g'):=by simp
 rw [h2]
 exact List.Perm.append_right _ List.perm_append_comm
theorem M.packL {m : List Item} {it : Item} (h : M St w0 w (m ++ its)) (hl : Loc St it) (hp : ∀ fp,YK St w m fp → it w fp) : M St w0 w (it :: its):=by
 obtain ⟨h1,h2,fp,h3,h4,h5⟩:=h
 obtain ⟨f,g,rfl,k1,k2⟩:=YK.split h3
 exact ⟨h1,h2,_,⟨f,g,rfl,hl,hp f k1,k2⟩,h4,h5⟩
theorem M.unpackL {m : List Item} {it : Item} (h : M St w0 w (it :: its)) (hp : ∀ fp,it w fp → YK St w m fp) : M St w0 w (m ++ its):=by
 obtain ⟨h1,h2,fp,⟨f,g,rfl,_,k1,k2⟩,h4,h5⟩:=h
 exact ⟨h1,h2,_,YK.append (hp f k1) k2,h4,h5⟩
theorem YK.one {it : Item} {fp : List Nat} (hl : Loc St it) (h : it w fp) : YK St w [it] fp:=⟨fp,[],by simp,hl,h,rfl⟩
theorem YK.cons {it : Item} {m : List Item} {f g : List Nat} (hl : Loc St it) (h : it w f) (k : YK St w m g) : YK St w (it :: m) (f ++ g):=⟨f,g,rfl,hl,h,k⟩
theorem qv {fp : List Nat} (hs : Rep.sat NoB w l [v] fp) (hi : i < l.length) : YG NoB w l v fp:=by
 obtain ⟨p,cap,hv,hc,hp⟩:=hs
 simp only [List.cons.injEq,and_true] at hv
 refine ⟨p,cap,hv,hc,?_⟩
 cases p with
 | none=>exfalso; have:=hp.1; omega
 | some q =>
  obtain ⟨q1,q2,q3⟩:=q
  obtain ⟨h1,ecs,fpe,h2,h3,h4⟩:=hp
  have h1:=h1 (by omega)
  simp only at h1
  subst h1
  rcases h4 with ⟨h4,_⟩ | ⟨rfl,h4⟩
  ·exact (h4 (fun h=>by subst h; simp at hi)).elim
  ·exact .inr ⟨q1,q2,ecs,fpe,rfl,h2,h3,rfl,h4⟩
theorem M.toOsl (h : M St w0 w (own NoB l [v] :: its)) (hi : i < l.length) : M St w0 w (osl NoB l v :: its):=h.pack1 (V8 noB) fun _ k=>qv k hi
theorem M.toOwn (h : M St w0 w (osl S l v :: its)) (hS : ∀ b,S b → St b) : M St w0 w (own S l [v] :: its):=h.pack1 (Yc hS) fun _ k=>YG.sat k
end
section
variable {n : Nat} {a : Act} {e : List (Nat × Value)} {w w' : World} {P : Program} {ops : Array Oper} {rest : List Oper} {Q : Exit → Act → World → Prop}
variable {d : Nat} {ty t : TypeId} {pos : String} {af : Array Edge} {g : Option (Nat × Bool)} {x y : Operand} {v u : Value}
variable {St : Nat → Prop} {w0 : World} {its : List Item}
theorem KI {α : Type} [Rep α] {S : Nat → Prop} {l : List α} {D : TypeDesc} {sz by_ : Nat} {z seg : List Value} {i k0 : Nat} {xo xn : α} (h : Env n a e) (hM : M St w0 w (osl S l v :: its)) (hS : ∀ b,S b → St b) (hw : Goes ops ⟨none,.store t x y,ty,pos,af,g⟩ a)
  (hx : opv e x = some (ptr (sb v) (so v + i * Rep.n α + k0))) (hy : opv e y = some u) (hu : u.cells.toList = seg) (ht : Ty P t D sz by_ z) (hl : seg.length = sz) (hc : ∀ v ∈ seg,v.oneCell' = true)
  (hi : l[i]? = some xo) (hfit : k0 + seg.length ≤ Rep.n α) (hs : ∀ (S : Nat → Prop) (w : World) cs f,Rep.sat S w xo cs f → Rep.sat S w xn (Yi cs k0 seg) f)
  (k : ∀ w a,M St w0 w (osl S (l.set i xn) v :: its) → Env n a e → wpList P ops Q rest a w) : wpList P ops Q (⟨none,.store t x y,ty,pos,af,g⟩ :: rest) a w:=by
 have hil:=(List.getElem?_eq_some_iff.1 hi).1
 have hst:=hM.st'
 have key : ∀ fp,YG S w l v fp → fp.Nodup → (∀ b ∈ fp,¬ St b ∧ b < w.heap.size) → (storeCells ⟨sb v,so v + i * Rep.n α + k0,none⟩ seg).run P w = .ok () (w.setCells (sb v) (so v + i * Rep.n α + k0) seg) ∧ sb v ∈ fp ∧
   YG S (w.setCells (sb v) (so v + i * Rep.n α + k0) seg) (l.set i xn) v fp:=by
  rintro fp ⟨p,cap,rfl,hcap,hO⟩ hnd hlt
  rcases hO with ⟨rfl,_⟩ | ⟨b,o,ecs,fpe,rfl,k1,k2,rfl,k3⟩
  ·omega
  have hrm:=k3
  obtain ⟨c,T,fz,hheap,hsize,hfz⟩:=k3
  have hsb : sb (.slice (some ⟨b,o,none⟩) l.length cap) = b:=rfl
  have hso : so (.slice (some ⟨b,o,none⟩) l.length cap) = o:=rfl
  rw [hsb,hso]
  have hel:=k1.len
  have h1 : (i + 1) * Rep.n α ≤ l.length * Rep.n α:=Nat.mul_le_mul_right _ (by omega)
  rw [Nat.add_mul] at h1
  have h2 : l.length * Rep.n α ≤ cap * Rep.n α:=Nat.mul_le_mul_right _ hcap
  have hfit2 : o + i * Rep.n α + k0 + seg.length ≤ c.size:=by omega
  have hst':=Qq (P:=P) (o:=o + i * Rep.n α + k0) (vs:=seg) hheap hfit2 hfz hc
  obtain ⟨c1,cc,c2,e1,ee,e2,rfl,rfl,q1,q2,q3,q4⟩:=k1.split hi
  have hccl:=Rep.len q3
  obtain ⟨n4,n5⟩:=List.nodup_cons.1 hnd
  have hkeep : ∀ k,(k ∈ e1 ∨ k ∈ e2 ∨ k ∈ ee ∨ S k) → (w.setCells b (o + i * Rep.n α + k0) seg).heap[k]? = w.heap[k]?:=by
   intro k hk
   refine X0 _ _ ?_ _ _ _
   rintro rfl
   rcases hk with h | h | h | h
   ·exact n4 (by simp [h])
   ·exact n4 (by simp [h])
   ·exact n4 (by simp [h])
   ·exact (hlt _ (List.mem_cons_self ..)).1 (hS _ h)
  have hsp : Yi (c1 ++ (cc ++ c2)) (i * Rep.n α + k0) seg = c1 ++ (Yi cc k0 seg ++ c2):=KJ (by rw [q1]) (by omega)
  refine ⟨hst',List.mem_cons_self ..,some ⟨b,o,none⟩,cap,by simp,by simpa using hcap,.inr ⟨b,o,c1 ++ (Yi cc k0 seg ++ c2),e1 ++ (ee ++ e2),rfl,?_,?_,rfl,?_⟩⟩
  ·exact Z0.join hil (q2.loc fun k hk=>hkeep k (by rcases hk with h | h; exact .inl h; exact .inr (.inr (.inr h)))) (Rep.loc (hs _ _ _ _ q3) fun k hk=>hkeep k (by rcases hk with h | h; exact .inr (.inr (.inl h)); exact .inr (.inr (.inr h))))
    (q4.loc fun k hk=>hkeep k (by rcases hk with h | h; exact .inr (.inl h); exact .inr (.inr (.inr h))))
  ·rw [← hsp,show o + i * Rep.n α + k0 = o + (i * Rep.n α + k0) by omega]
   exact k2.set hheap (by omega) (by omega)
  ·exact hrm.set hheap rfl hfit2
 obtain ⟨hk0,hs0,fp,⟨f1,f',rfl,hl1,h1,hr⟩,hnd,hlt⟩:=hM
 obtain ⟨hrun,_,_⟩:=key f1 h1 (List.nodup_append.1 hnd).1 (fun b hb=>hlt b (by simp [hb]))
 have hM : M St w0 w (osl S l v :: its):=⟨hk0,hs0,f1 ++ f',⟨f1,f',rfl,hl1,h1,hr⟩,hnd,hlt⟩
 refine A0 h hw rfl (w':=w.setCells (sb v) (so v + i * Rep.n α + k0) seg) ?_ fun a ha=>k _ _ ?_ ha
 ·simp only [execOp,h.ev hx,h.ev hy]
  have hsz : u.cells.size = sz:=by rw [← hl,← hu]; simp
  simp [Instr.storeAt,Instr.sureAddr,storeVar,Xf ht,hsz,hu,hrun]
 ·refine M.turn (new:=[osl S (l.set i xn) v]) hM (Z2 _ _ _ _).1 (Z2 _ _ _ _).2.1 (Z2 _ _ _ _).2.2 (by rw [Uy]; exact Nat.le_refl _) ?_
  rintro fp j1 hlt hnd
  obtain ⟨_,hin,hO⟩:=key fp j1 hnd hlt
  refine ⟨fun b hb _=>X0 _ _ (fun h=>hb (by rw [h]; exact hin)) _ _ _,fp,⟨fp,[],by simp,V8 hS,hO,rfl⟩,hnd,fun b hb=>.inl hb⟩
theorem A4 {α : Type} [Rep α] {S : Nat → Prop} {l : List α} {fp : List Nat} {el y' : TypeId} (h : Env n a e) (hw : Goes ops ⟨some d,.binOp .eql t x y y',ty,pos,af,g⟩ a) (hd : d < n) (hx : opv e x = some v) (hy : opv e y = some (.slice none 0 0)) (ht : P.underlying t = some (.slice el)) (hs : Rep.sat S w l [v] fp)
  (k : ∀ b a,(b = true → l = []) → Env n a ((d,vT b) :: e) → wpList P ops Q rest a w) : wpList P ops Q (⟨some d,.binOp .eql t x y y',ty,pos,af,g⟩ :: rest) a w:=by
 obtain ⟨p,cap,hv,hc,hp⟩:=hs
 simp only [List.cons.injEq,and_true] at hv
 subst hv
 have hr:=run_equal_slice_nil (P:=P) w t el p l.length cap ht
 have hgd : (eqGuard .eql t x y (.slice p l.length cap) (.slice none 0 0)).run P w = .ok () w:=by simp [eqGuard]
 have hb : (binOp .eql t (.slice p l.length cap) (.slice none 0 0)).run P w = .ok (vT p.isNone) w:=by
  simp only [binOp,Sem.run_bind,hr,Result.andThen_ok,Sem.run_pure]
 refine X5 h hw rfl hd (by simp only [execOp,h.ev hx,h.ev hy,Sem.run_bind,hgd,hb,Result.andThen_ok]; rfl) fun a ha=>k p.isNone a ?_ ha
 intro hn
 cases p with
 | none=>exact List.eq_nil_of_length_eq_zero (by have:=hp.1; omega)
 | some q=>simp at hn
end
theorem zh {P : Program} {w : World} {r : Reach} {base : Nat} {t : TypeId} {v : Value} {n : Nat} {e : TypeId} (ht : P.underlying t = some (.array n e)) (h : Value.okWide P w r base t v) : ∃ cs,v = .agg cs ∧ cs.size = P.cellsOf t:=by
 simp only [Value.okWide,ht] at h
 obtain ⟨cs,h1,h2,_⟩:=h
 exact ⟨cs,h1,h2⟩
end Go.Proofs.YtifdeoikcebbjaaGreat
namespace Go.Proofs.YtifdeoikcebbjaaGreat
open Go

theorem Tg {σ ρ τ : Type} {s : σ} {f : σ → Option τ} {g : ρ → Option τ} {r : τ} (h : (Fl.nx s : Fl σ ρ).el f g = some r) : f s = some r:=h
def ZN (v : Value) (i : Nat) : Value:=match v with
 | .tuple vs=>vs.toList.getD i undef
 | _=>undef
def Vq (v : Value) (cs : List Value) : Item:=fun w fp=>∃ b,v = ptr b 0 ∧ raw b cs w fp
def T3 (there stored : Bool) (v : Value) (z c : List Value) : Item:=if there = true then (if stored = true then Vq v c else Vq v z) else Go.Proofs.YtifdeoikcebbjaaGreat.emp
abbrev Gs:=List (List Nat × (List Value → Value → Prop))
abbrev Mk:=List (List Nat × (List Bool → List Value → Item))
def qL (mk : Mk) (D : Nat → Bool) (u : Nat → Value) : List Item:=mk.map fun p=>p.2 (p.1.map D) (p.1.map u)
def mkO (j : Nat) (f : Value → Item) : List Nat × (List Bool → List Value → Item):=([j],fun bs us=>opt (bs.headD false) (f (us.headD undef)))
def mkC (j s : Nat) (z c : List Value) : List Nat × (List Bool → List Value → Item):=([j,s],fun bs us=>T3 (bs.headD false) (bs.getD 1 false) (us.headD undef) z c)
def GOk (gs : Gs) (D : Nat → Bool) (u : Nat → Value) : Prop:=∀ j,D j = true → ∀ g,gs[j]? = some g → (∀ k ∈ g.1,D k = true) ∧ g.2 (g.1.map u) (u j)
theorem H8 {D : Nat → Bool} {u : Nat → Value} {i : Nat} {v : Value} {l : List Nat} (h : i ∉ l) : l.map (Wr D i) = l.map D ∧ l.map (Wn u i v) = l.map u:=by
 constructor <;> apply List.map_congr_left <;> intro k hk <;> have : k ≠ i:=(fun e=>h (e ▸ hk))
 ·simp [Wr,this]
 ·simp [Wn,this]
theorem Q6 {mk : Mk} {D : Nat → Bool} {u : Nat → Value} {i : Nat} {v : Value} (hi : ∀ p ∈ mk,i ∉ p.1) : qL mk (Wr D i) (Wn u i v) = qL mk D u:=by
 unfold qL
 apply List.map_congr_left
 intro p hp
 obtain ⟨h1,h2⟩:=H8 (D:=D) (u:=u) (v:=v) (hi p hp)
 rw [h1,h2]
theorem GOk.upd {gs : Gs} {D : Nat → Bool} {u : Nat → Value} {i : Nat} {v : Value} (h : GOk gs D u) (hD : D i = false) (hi : ∀ g,gs[i]? = some g → (∀ k ∈ g.1,D k = true) ∧ g.2 (g.1.map u) v) : GOk gs (Wr D i) (Wn u i v):=by
 have tr : ∀ k,D k = true → Wr D i k = true:=fun k hk=>by
  unfold Wr
  split
  ·rfl
  ·exact hk
 have nm : ∀ l : List Nat,(∀ k ∈ l,D k = true) → i ∉ l:=fun l hl hm=>by have:=hl i hm; rw [hD] at this; cases this
 intro j hj g hg
 by_cases hji : j = i
 ·subst hji
  obtain ⟨h1,h2⟩:=hi g hg
  refine ⟨fun k hk=>tr k (h1 k hk),?_⟩
  rw [(H8 (D:=D) (u:=u) (v:=v) (nm _ h1)).2]
  simpa [Wn] using h2
 ·have hj' : D j = true:=by unfold Wr at hj; rwa [if_neg hji] at hj
  obtain ⟨h1,h2⟩:=h j hj' g hg
  refine ⟨fun k hk=>tr k (h1 k hk),?_⟩
  rw [(H8 (D:=D) (u:=u) (v:=v) (nm _ h1)).2]
  simpa [Wn,hji] using h2
theorem GOk.put {gs : Gs} {D : Nat → Bool} {u : Nat → Value} {i : Nat} {v : Value} {ks : List Nat} {pr : List Value → Value → Prop} (h : GOk gs D u) (hD : D i = false) (hi : gs[i]? = some (ks,pr)) (h1 : ∀ k ∈ ks,D k = true) (h2 : pr (ks.map u) v) : GOk gs (Wr D i) (Wn u i v) :=
 h.upd hD fun g hg=>by rw [hi] at hg; cases hg; exact ⟨h1,h2⟩
theorem ZQ {D : Nat → Bool} : ∀ k ∈ ([] : List Nat),D k = true:=fun _ h=>by cases h
theorem HK {D : Nat → Bool} {k : Nat} {ks : List Nat} (h : D k = true) (hs : ∀ k ∈ ks,D k = true) : ∀ j ∈ k :: ks,D j = true:=fun j hj=>by
 rcases List.mem_cons.1 hj with rfl | hj
 ·exact h
 ·exact hs j hj
theorem Jg {gs : Gs} {u : Nat → Value} : GOk gs (fun _=>false) u:=fun _ h=>by cases h
def allI (St : Nat → Prop) (l : List Item) : Item:=fun w fp=>YK St w l fp
theorem yW {α : Type} [Rep α] {x : α} {cs : List Value} {r : List Item} (h : zO r) : zO (own NoB x cs :: r):=by
 intro it hi
 rcases List.mem_cons.1 hi with rfl | hi
 ·exact Yc fun _ h=>h
 ·exact h it hi
theorem Env.dummy {n : Nat} {a : Act} {e : List (Nat × Value)} {t : Nat} (h : Env n a e) (ht : n ≤ t) : Env n a ((t,undef) :: e):=by
 refine ⟨h.sz,h.df,fun s v hs=>?_⟩
 simp only [List.lookup_cons] at hs
 by_cases hst : s = t
 ·subst hst
  simp at hs
  subst hs
  rw [Array.getD_eq_getD_getElem?,Array.getElem?_eq_none (by rw [h.sz]; exact ht)]; rfl
 ·rw [show (s == t) = false by simpa using hst] at hs
  exact h.get s v hs
section
variable {St : Nat → Prop} {w0 w : World} {its pre post : List Item} {mk mk1 mk2 : Mk} {D : Nat → Bool} {u : Nat → Value} {i s b : Nat} {v : Value} {z c : List Value}
theorem noti (h : (mk.all fun p=>p.1.all fun k=>k != i) = true) : ∀ p ∈ mk,i ∉ p.1:=by
 intro p hp hm
 have:=List.all_eq_true.1 (List.all_eq_true.1 h p hp) i hm
 simp at this
theorem M.qKeep (h : M St w0 w (its ++ qL mk D u)) (hi : (mk.all fun p=>p.1.all fun k=>k != i) = true) : M St w0 w (its ++ qL mk (Wr D i) (Wn u i v)):=by
 rw [Q6 (noti hi)]; exact h
theorem QG {mk1 mk2 : Mk} {p : List Nat × (List Bool → List Value → Item)} : qL (mk1 ++ p :: mk2) D u = qL mk1 D u ++ (p.2 (p.1.map D) (p.1.map u) :: qL mk2 D u):=by simp [qL]
theorem M.qPut {p : List Nat × (List Bool → List Value → Item)} {it : Item} (h : M St w0 w (it :: (its ++ qL (mk1 ++ p :: mk2) D u))) (hi : ((mk1 ++ mk2).all fun p=>p.1.all fun k=>k != i) = true)
  (h1 : p.2 (p.1.map D) (p.1.map u) = Go.Proofs.YtifdeoikcebbjaaGreat.emp) (h2 : p.2 (p.1.map (Wr D i)) (p.1.map (Wn u i v)) = it) : M St w0 w (its ++ qL (mk1 ++ p :: mk2) (Wr D i) (Wn u i v)):=by
 have hne:=noti hi
 rw [QG] at h ⊢
 rw [Q6 (fun p hp=>hne p (List.mem_append_left _ hp)),Q6 (fun p hp=>hne p (List.mem_append_right _ hp)),h2]
 rw [h1] at h
 have h3 : M St w0 w ((it :: (its ++ qL mk1 D u)) ++ Go.Proofs.YtifdeoikcebbjaaGreat.emp :: qL mk2 D u):=by simpa using h
 have h4:=h3.pull.drop
 have h5 : M St w0 w (it :: ((its ++ qL mk1 D u) ++ qL mk2 D u)):=by simpa using h4
 simpa using M.push h5
theorem M.qFill {f : Value → Item} (h : M St w0 w (f v :: (its ++ qL (mk1 ++ mkO i f :: mk2) D u))) (hi : ((mk1 ++ mk2).all fun p=>p.1.all fun k=>k != i) = true) (hD : D i = false) :
  M St w0 w (its ++ qL (mk1 ++ mkO i f :: mk2) (Wr D i) (Wn u i v)) :=
 M.qPut h hi (by simp [mkO,hD,TF]) (by simp [mkO,Wr,Wn,T0])
theorem M.openCell {there stored : Bool} (h : M St w0 w (pre ++ T3 there stored v z c :: post)) (ht : there = true) : ∃ b,v = ptr b 0 ∧ M St w0 w (raw b (if stored = true then c else z) :: (pre ++ post)):=by
 have h1:=h.pull
 obtain ⟨fp,hfp,_⟩:=h1.head
 subst ht
 have e : T3 true stored v z c = Vq v (if stored = true then c else z):=by cases stored <;> rfl
 rw [e] at hfp h1
 obtain ⟨b,hb,_⟩:=hfp
 exact ⟨b,hb,h1.pack1 Xc fun fp ⟨b',e',k⟩=>by rw [hb] at e'; simp [ptr] at e'; subst e'; exact k⟩
end

def tog (b : Bool) (A B : Item) : Item:=if b = true then B else A
def mkT (s : Nat) (A B : Item) : List Nat × (List Bool → List Value → Item):=([s],fun bs _=>tog (bs.headD false) A B)
section
variable {St : Nat → Prop} {w0 w : World} {its pre post : List Item} {mk mk1 mk2 : Mk} {D : Nat → Bool} {u : Nat → Value} {s : Nat} {v : Value} {A B : Item}
theorem M.q0 (h : M St w0 w its) (u : Nat → Value) : M St w0 w (its ++ qL [] (fun _=>false) u):=by simpa [qL] using h
theorem M.qE {p : List Nat × (List Bool → List Value → Item)} (h : M St w0 w (its ++ qL mk (fun _=>false) u)) (he : ∀ us,p.2 (p.1.map fun _=>false) us = Go.Proofs.YtifdeoikcebbjaaGreat.emp) : M St w0 w (its ++ qL (p :: mk) (fun _=>false) u):=by
 have : M St w0 w (Go.Proofs.YtifdeoikcebbjaaGreat.emp :: (its ++ qL mk (fun _=>false) u)):=h.emp
 rw [← he (p.1.map u)] at this
 exact M.push this
theorem M.qT (h : M St w0 w ((A :: its) ++ qL mk (fun _=>false) u)) : M St w0 w (its ++ qL (mkT s A B :: mk) (fun _=>false) u):=M.push (pre:=its) (post:=qL mk (fun _=>false) u) h
theorem emO {j : Nat} {f : Value → Item} : ∀ us,(mkO j f).2 ((mkO j f).1.map fun _=>false) us = Go.Proofs.YtifdeoikcebbjaaGreat.emp:=fun _=>by simp [mkO,TF]
theorem M.togA {b : Bool} (h : M St w0 w (pre ++ tog b A B :: post)) (hb : b = false) : M St w0 w (pre ++ A :: post):=by subst hb; exact h
theorem M.togB {b : Bool} (h : M St w0 w (pre ++ tog b A B :: post)) (hb : b = true) : M St w0 w (pre ++ B :: post):=by subst hb; exact h
theorem M.qTog (h : M St w0 w (B :: (its ++ (qL mk1 D u ++ qL mk2 D u)))) (hi : ((mk1 ++ mk2).all fun p=>p.1.all fun k=>k != s) = true) : M St w0 w (its ++ qL (mk1 ++ mkT s A B :: mk2) (Wr D s) (Wn u s v)):=by
 have hne':=noti hi
 rw [QG,Q6 (fun p hp=>hne' p (List.mem_append_left _ hp)),Q6 (fun p hp=>hne' p (List.mem_append_right _ hp))]
 have e : (mkT s A B).2 ((mkT s A B).1.map (Wr D s)) ((mkT s A B).1.map (Wn u s v)) = B:=by simp [mkT,Wr,tog]
 rw [e]
 have h5 : M St w0 w (B :: ((its ++ qL mk1 D u) ++ qL mk2 D u)):=by simpa using h
 simpa using M.push h5
end

def DrawI3 (P : Program) (l hd tl : List Oper) (Q : Exit → Act → World → Prop) (n : Nat) (ts : List Nat) (e0 : List (Nat × Value)) (I : (Nat → Bool) → (Nat → Value) → World → Prop) (listed : Array Bool) (a : Act) (w : World) : Prop :=
 ((∀ i,i < hd.length → dn listed i) ∧ ∃ k,k ≤ tl.length ∧ (∀ j,j < k → dn listed (hd.length + j)) ∧ (∀ j,k ≤ j → j < tl.length → ¬ dn listed (hd.length + j)) ∧ wpList P l.toArray Q (tl.drop k) a w) ∨
 ((¬ ∀ i,i < hd.length → dn listed i) ∧ (∀ j,hd.length ≤ j → ¬ dn listed j) ∧ ∃ u,Env n a (TP ts 0 u e0) ∧ I (fun j=>listed.getD j false) u w)

theorem Ub {P : Program} {id : Nat} {hd tl : List Oper} {Q : Exit → Act → World → Prop} {a : Act} {w : World} {n : Nat} {e0 : List (Nat × Value)}
  (hm : P.follows .mixedOrders = true) (hE : KD (hd ++ tl) 0 = true) (hT : AD (hd ++ tl) hd.length = true)
  (ts : List Nat) (hn : ts.Nodup) (I : (Nat → Bool) → (Nat → Value) → World → Prop)
  (h0 : Env n a e0) (hM0 : ∀ u,I (fun _=>false) u w.drew)
  (hstep : ∀ (i : Nat) (o : Oper),hd[i]? = some o → ∀ a w (u : Nat → Value) (D : Nat → Bool),Env n a (TP ts 0 u e0) → I D u w → D i = false → (∀ (j : Nat) (p : Oper) (e : Edge),hd[j]? = some p → e ∈ p.after.toList → Region.binds .any e = true → D j = true → D e.on = true) →
   (∀ (k : Nat) (e : Edge),o.after.toList[k]? = some e → Region.binds .any e = true → D e.on = true) →
   wpList P (hd ++ tl).toArray (nrm fun a' w'=>∃ v t,ts[i]? = some t ∧ Env n a' ((t,v) :: TP ts 0 u e0) ∧ I (Wr D i) (Wn u i v) w') [o] a w)
  (htail : ∀ a w u D,Env n a (TP ts 0 u e0) → I D u w → (∀ j,j < hd.length → D j = true) → wpList P (hd ++ tl).toArray Q tl a w) :
  (Code.region id (hd ++ tl).toArray true).wp P Q a w:=by
 refine wp_region_any hm ?_
 generalize hl : hd ++ tl = l at *
 have hln : l.length = hd.length + tl.length:=by rw [← hl]; simp
 have hbl : (bef l []).length = l.length:=by
  have : ∀ (r : List Oper) (acc : List Nat),(bef r acc).length = acc.length + r.length:=by
   intro r; induction r with
   | nil=>intro acc; simp [bef]
   | cons o r ih=>intro acc; rw [bef,ih]; simp; omega
  rw [this]; simp
 have tailDone : ∀ listed i o,l[i]? = some o → hd.length ≤ i → BG l (dn listed) → (∀ e ∈ o.after.toList,Region.binds .any e = true → dn listed e.on) → ∀ j,j < i → dn listed j:=by
  intro listed i o hi hle hdc hp j hj
  have hil:=(List.getElem?_eq_some_iff.1 hi).1
  have hbit : ((bef l []).getD i 0).testBit j = true:=by
   unfold AD at hT
   simp only [List.all_eq_true] at hT
   have:=hT i (by simpa using hil)
   simp only [Bool.or_eq_true,decide_eq_true_eq,List.all_eq_true] at this
   rcases this with h | h
   ·omega
   ·exact h j (by simpa using hj)
  exact JQ l l [] 0 rfl (by simp) (fun i hi=>absurd hi (Nat.not_lt_zero i)) i (by rw [hbl]; exact hil) (dn listed) hdc (fun o' e ho' he hb=>by rw [hi] at ho'; cases ho'; exact hp e he hb) j hbit
 have hfuel : ((List.range l.length).filter fun i=>!(Array.replicate l.toArray.size false).getD i false).length ≤ l.toArray.size:=by
  refine Nat.le_trans (List.length_filter_le _ _) ?_; simp
 have hnot0 : ∀ i,¬ dn (Array.replicate l.toArray.size false) i:=by
  intro i; unfold dn; rw [Array.getD_eq_getD_getElem?,Array.getElem?_replicate]; split <;> simp
 refine Q7 hE (DrawI3 P l hd tl Q n ts e0 I) ?_ ?_ _ _ _ _ (by simp) hfuel (fun i o e _ _ _ h=>absurd h (hnot0 i)) ?_
 ·intro listed i o a w hsz hi hnd hdc hp hI
  have hil:=(List.getElem?_eq_some_iff.1 hi).1
  by_cases hh : i < hd.length
  ·-- a head operation
   have hnall : ¬ ∀ i,i < hd.length → dn listed i:=fun h=>hnd (h i hh)
   obtain ⟨h,_⟩ | ⟨_,ht0,u,k1,k2⟩:=hI
   ·exact absurd h hnall
   have hio : hd[i]? = some o:=by rw [← hl] at hi; rwa [List.getElem?_append_left hh] at hi
   refine A5 (by simpa using hi) ?_
   have hs:=hstep i o hio a w u (fun j=>listed.getD j false) k1 k2 (by simpa [dn] using hnd) (fun j p e hj he hb hdj=>hdc j p e (by rw [← hl,List.getElem?_append_left (List.getElem?_eq_some_iff.1 hj).1]; exact hj) he hb hdj) (fun k e hk hb=>hp e (List.mem_of_getElem? hk) hb)
   have hmono : ∀ (X Y : Act → World → Prop),(∀ a w,X a w → Y a w) → ∀ a w,wpList P l.toArray (nrm X) [o] a w → wpList P l.toArray (nrm Y) [o] a w:=by
    intro X Y hXY a w h
    unfold wpList at h ⊢
    split
    ·rename_i hw
     rw [if_pos hw] at h
     rcases h with h | ⟨_,a',w',h⟩
     ·exact .inl (Oper.wp_mono2 (fun _ _ h=>hXY _ _ h) (fun _ _ _ h=>h.elim) (fun ⟨_,_,h⟩=>h.elim) h)
     ·exact h.elim
    ·rename_i hw
     rw [if_neg hw] at h
     exact hXY _ _ h
   refine hmono _ _ ?_ a w hs
   rintro a' w' ⟨v,t,hti,hEnv,hM'⟩
   have hEnv':=hEnv.upd hn hti
   have hset : ∀ j,dn (listed.setIfInBounds i true) j ↔ (j = i ∨ dn listed j):=fun j=>Q3 (by omega)
   have hD : (fun j=>(listed.setIfInBounds i true).getD j false) = Wr (fun j=>listed.getD j false) i:=by
    funext j
    unfold Wr
    by_cases hj : j = i
    ·rw [if_pos hj]; exact (hset j).2 (.inl hj)
    ·rw [if_neg hj]
     rw [Bool.eq_iff_iff]
     exact (hset j).trans ⟨fun h=>h.resolve_left hj,.inr⟩
   have htn : ∀ j,hd.length ≤ j → ¬ dn (listed.setIfInBounds i true) j:=by
    intro j hj hd'
    rcases (hset j).1 hd' with rfl | hj'
    ·omega
    ·exact ht0 j hj hj'
   rw [← hD] at hM'
   by_cases hall : ∀ j,j < hd.length → dn (listed.setIfInBounds i true) j
   ·exact .inl ⟨hall,0,Nat.zero_le _,fun j hj=>by omega,fun j _ _=>htn _ (by omega),htail a' w' _ _ hEnv' hM' (fun j hj=>hall j hj)⟩
   ·exact .inr ⟨hall,htn,_,hEnv',hM'⟩
  ·have hdone:=tailDone listed i o hi (by omega) hdc hp
   have hall : ∀ j,j < hd.length → dn listed j:=fun j hj=>hdone j (by omega)
   obtain ⟨_,k,hk,k1,k2,k3⟩ | ⟨h,_⟩:=hI
   case inr=>exact absurd hall h
   have hki : hd.length + k = i:=by
    rcases Nat.lt_trichotomy (hd.length + k) i with h | h | h
    ·exact absurd (hdone _ h) (k2 k (Nat.le_refl _) (by omega))
    ·exact h
    ·exact absurd (by have:=k1 (i - hd.length) (by omega); rwa [show hd.length + (i - hd.length) = i by omega] at this) hnd
   have hto : tl[k]? = some o:=by
    rw [← hl] at hi
    rw [List.getElem?_append_right (by omega)] at hi
    rwa [show i - hd.length = k by omega] at hi
   have hdr : tl.drop k = o :: tl.drop (k + 1):=by
    rw [List.drop_eq_getElem_cons (List.getElem?_eq_some_iff.1 hto).1]
    congr 1
    exact (List.getElem?_eq_some_iff.1 hto).2
   rw [hdr] at k3
   refine wpOp_mono (fun a' w' hl=>?_) (Hc (by simpa using hi) k3)
   have hset : ∀ j,dn (listed.setIfInBounds i true) j ↔ (j = i ∨ dn listed j):=fun j=>Q3 (by omega)
   have hall' : ∀ j,j < hd.length → dn (listed.setIfInBounds i true) j:=fun j hj=>(hset j).2 (.inr (hall j hj))
   refine .inl ⟨hall',k + 1,(List.getElem?_eq_some_iff.1 hto).1,fun j hj=>(hset _).2 ?_,fun j hj1 hj2 hd'=>?_,hl⟩
   ·rcases Nat.lt_or_ge j k with h | h
    ·exact .inr (k1 j h)
    ·exact .inl (by omega)
   ·rcases (hset _).1 hd' with h | h
    ·omega
    ·exact k2 j (by omega) hj2 h
 ·intro listed a w hsz hall hI
  have hall' : ∀ i,i < hd.length → dn listed i:=fun i hi=>hall i (by omega)
  obtain ⟨_,k,hk,k1,k2,k3⟩ | ⟨h,_⟩:=hI
  case inr=>exact absurd hall' h
  have : k = tl.length:=by
   rcases Nat.lt_or_ge k tl.length with h | h
   ·exact absurd (hall (hd.length + k) (by omega)) (k2 k (Nat.le_refl _) h)
   ·omega
  subst this
  rw [List.drop_length] at k3
  exact k3
 ·have hu : ∀ (r : List Nat) (j : Nat) (u : Nat → Value),(∀ k t,r[k]? = some t → u (j + k) = a.tmps.getD t undef) → Env n a (TP r j u e0):=by
   intro r
   induction r with
   | nil=>intro j u _; exact h0
   | cons t r ih =>
    intro j u hu
    have h1:=ih (j + 1) u (fun k s hk=>by have:=hu (k + 1) s (by simpa using hk); rwa [show j + (k + 1) = j + 1 + k by omega] at this)
    refine ⟨h1.sz,h1.df,fun s x hs=>?_⟩
    simp only [TP,List.lookup_cons] at hs
    by_cases hst : s = t
    ·subst hst
     simp at hs
     rw [← hs]
     exact (hu 0 s rfl).symm
    ·rw [show (s == t) = false by simpa using hst] at hs
     exact h1.get s x hs
  have hEnv : Env n a (TP ts 0 (fun j=>a.tmps.getD (ts.getD j 0) undef) e0):=hu ts 0 _ (fun k t hk=>by simp [List.getD_eq_getElem?_getD,hk])
  have hDf : (fun j=>(Array.replicate l.toArray.size false).getD j false) = fun _=>false:=by
   funext j
   have:=hnot0 j
   unfold dn at this
   simpa using this
  by_cases hall : ∀ i,i < hd.length → dn (Array.replicate l.toArray.size false) i
  ·have hnil : hd.length = 0:=by
    rcases Nat.eq_zero_or_pos hd.length with h | h
    ·exact h
    ·exact absurd (hall 0 h) (hnot0 0)
   exact .inl ⟨hall,0,Nat.zero_le _,fun j hj=>by omega,fun j _ _=>hnot0 _,htail a _ _ _ hEnv (hM0 _) (fun j hj=>by omega)⟩
  ·refine .inr ⟨hall,fun j _=>hnot0 j,_,hEnv,?_⟩
   rw [hDf]
   exact hM0 _
end Go.Proofs.YtifdeoikcebbjaaGreat
namespace Go.Proofs.YtifdeoikcebbjaaGreat
open Go

theorem M.unsure {St : Nat → Prop} {w0 w : World} {pre post : List Item} {it : Item} {b : Bool} (h : M St w0 w (pre ++ it :: post)) (hb : b = true) : M St w0 w (pre ++ opt b it :: post):=by subst hb; rwa [T0]

abbrev FillA (sz : Nat) (z : List Value) (parts : List (Nat × Value)) (cs : List Value) : Prop:=Instr.fill (fun i=>some (i * sz,sz)) z.toArray parts = some cs.toArray
theorem Y5 {sz : Nat} {z : List Value} : FillA sz z [] z:=rfl
section
variable {n : Nat} {a : Act} {e : List (Nat × Value)} {w w' : World} {P : Program} {ops : Array Oper} {rest : List Oper} {Q : Exit → Act → World → Prop}
variable {d : Nat} {ty t : TypeId} {pos : String} {af : Array Edge} {g : Option (Nat × Bool)} {x y : Operand} {v u : Value}
theorem ys {parts : List (Nat × Operand)} {vs : List (Nat × Value)} (h : Env n a e) (hxs : QE e (parts.map (·.2)) = some (vs.map (·.2))) (hix : parts.map (·.1) = vs.map (·.1)) :
  (parts.map fun (p : Nat × Operand)=>(p.1,a.eval p.2)) = vs:=by
 have h1:=h.evs hxs
 rw [List.map_map] at h1
 apply List.ext_getElem?
 intro i
 have e1 : (parts.map (·.1))[i]? = (vs.map (·.1))[i]?:=by rw [hix]
 have e2 : (parts.map (a.eval ∘ fun (p : Nat × Operand)=>p.2))[i]? = (vs.map (·.2))[i]?:=by rw [h1]
 simp only [List.getElem?_map] at e1 e2 ⊢
 cases hp : parts[i]? with
 | none =>
  rw [hp] at e1
  cases hq : vs[i]? with
  | none=>rfl
  | some q=>rw [hq] at e1; simp at e1
 | some p =>
  rw [hp] at e1 e2
  cases hq : vs[i]? with
  | none=>rw [hq] at e1; simp at e1
  | some q =>
   rw [hq] at e1 e2
   simp only [Option.map_some,Option.some.injEq] at e1 e2 ⊢
   exact Prod.ext e1 e2
theorem XI {el N : Nat} {parts : List (Nat × Operand)} {vs : List (Nat × Value)} {z cs ze : List Value} {sz by_ esz eby : Nat} {D De : TypeDesc} (h : Env n a e) (hw : Goes ops ⟨some d,.build t parts.toArray,ty,pos,af,g⟩ a) (hd : d < n)
  (hxs : QE e (parts.map (·.2)) = some (vs.map (·.2))) (hix : parts.map (·.1) = vs.map (·.1)) (ht : Ty P t D sz by_ z) (hD : D = .array N el) (he : Ty P el De esz eby ze) (hf : FillA esz z vs cs)
  (k : ∀ a,Env n a ((d,.agg cs.toArray) :: e) → wpList P ops Q rest a w) : wpList P ops Q (⟨some d,.build t parts.toArray,ty,pos,af,g⟩ :: rest) a w:=by
 refine X5 h hw rfl hd (w':=w) ?_ k
 have hvals:=ys h hxs hix
 have hb : P.built t vs = some cs.toArray:=by
  obtain ⟨i,zv,h1,h2,_,h3,h4⟩:=ht.get
  obtain ⟨ie,_,k1,k2,_,_,_⟩:=he.get
  have hu:=ht.und
  rw [hD] at hu
  unfold Program.built
  rw [h1,hu]
  simp only [h3,k1,k2]
  have h5 : zv.cells = z.toArray:=by rw [← h4]
  simp only [h5]
  exact hf
 simp only [execOp]
 have : (parts.toArray.map fun (p : Nat × Operand)=>(p.1,a.eval p.2)) = vs.toArray:=by rw [List.map_toArray,hvals]
 simp only [Sem.run_bind]
 rw [show (Instr.build t (parts.toArray.map fun (i,x)=>(i,a.eval x))).run P w = .ok (.agg cs.toArray) w from by
  have h2:=run_build (P:=P) w t (parts.toArray.map fun (i,x)=>(i,a.eval x)) cs.toArray (by
   have : (parts.toArray.map fun (i,x)=>(i,a.eval x)).toList = vs:=by simpa using hvals
   rw [this]; exact hb)
  exact h2]
 rfl

theorem enc_at {α : Type} [Flat α] {N i : Nat} {v : Vector α N} {x : α} (hi : v.toList[i]? = some x) : ∃ c1 c2,Flat.enc v = c1 ++ (Flat.enc x ++ c2) ∧ c1.length = i * Flat.n α:=by
 refine ⟨Y1 (v.toList.take i),Y1 (v.toList.drop (i + 1)),TW hi,?_⟩
 rw [Ug,List.length_take,Nat.min_eq_left (Nat.le_of_lt (List.getElem?_eq_some_iff.1 hi).1)]
theorem Ks {α : Type} [Flat α] {N el sz by_ : Nat} {z : List Value} {De : TypeDesc} {K : IntKind} {i : Int} {v : Vector α N} {x0 : α} (h : Env n a e) (hw : Goes ops ⟨some d,.index t x y,ty,pos,af,g⟩ a) (hd : d < n)
  (hx : opv e x = some (.agg (Flat.enc v).toArray)) (hy : opv e y = some (.int K i)) (ht : P.underlying t = some (.array N el)) (he : Ty P el De sz by_ z) (hD : Kp De = false) (hs : sz = Flat.n α) (hi : (0 ≤ i ∧ i < N) ∧ v.toList[i.toNat]? = some x0) (hu : Flat.enc x0 = [u])
  (k : ∀ a,Env n a ((d,u) :: e) → wpList P ops Q rest a w) : wpList P ops Q (⟨some d,.index t x y,ty,pos,af,g⟩ :: rest) a w:=by
 obtain ⟨c1,c2,e1,e2⟩:=enc_at hi.2
 subst hs
 have hg : (Flat.enc v)[i.toNat * Flat.n α]? = some u:=by
  rw [e1,hu,← e2]
  simp
 exact X5 h hw rfl hd (by
  simp only [execOp,h.ev hx,h.ev hy]
  simp [Instr.index,asIntOf,run_underlying ht,hi.1,Xf he,part,QM he,hD,hg]) k
theorem Wj {b o : Nat} (h : Env n a e) (hw : Goes ops ⟨some d,.nilCheck x,ty,pos,af,g⟩ a) (hd : d < n) (hx : opv e x = some (ptr b o))
  (k : ∀ a,Env n a ((d,ptr b o) :: e) → wpList P ops Q rest a w) : wpList P ops Q (⟨some d,.nilCheck x,ty,pos,af,g⟩ :: rest) a w :=
 X5 h hw rfl hd (by simp only [execOp,h.ev hx]; rfl) k
end
theorem ky {α : Type} [Flat α] {N b : Nat} {w : World} {v : Vector α N} (h : At w b 0 (Flat.enc v)) : Rep.sat (fun c=>c = b) w v.toList [.slice (some ⟨b,0,none⟩) N N] []:=by
 refine ⟨some ⟨b,0,none⟩,N,by simp,by simp,fun _=>rfl,Flat.enc v,[],?_,h,.inl ⟨fun _=>rfl,rfl⟩⟩
 show Z0 _ w v.toList (Y1 v.toList) []
 generalize v.toList = l
 induction l with
 | nil=>exact ⟨rfl,rfl⟩
 | cons x l ih=>exact ⟨_,_,[],[],rfl,rfl,⟨rfl,rfl⟩,ih⟩
section
variable {n : Nat} {a : Act} {e : List (Nat × Value)} {w w' : World} {P : Program} {ops : Array Oper} {rest : List Oper} {Q : Exit → Act → World → Prop}
variable {d : Nat} {ty t : TypeId} {pos : String} {af : Array Edge} {g : Option (Nat × Bool)} {x y : Operand} {v u : Value}
theorem T5 {N el sz by_ b : Nat} {z : List Value} {D : TypeDesc} {K : IntKind} {i : Int} (h : Env n a e) (hw : Goes ops ⟨some d,.indexAddr t x y,ty,pos,af,g⟩ a) (hd : d < n)
  (hx : opv e x = some (.slice (some ⟨b,0,none⟩) N N)) (hy : opv e y = some (.int K i)) (ht : P.underlying t = some (.slice el)) (he : Ty P el D sz by_ z) (hi : 0 ≤ i ∧ i < N)
  (k : ∀ a,Env n a ((d,ptr b (0 + i.toNat * sz)) :: e) → wpList P ops Q rest a w) : wpList P ops Q (⟨some d,.indexAddr t x y,ty,pos,af,g⟩ :: rest) a w :=
 X5 h hw rfl hd (by
  simp only [execOp,h.ev hx,h.ev hy]
  simp [Instr.indexAt,asIntOf,run_underlying ht,Instr.sureAddr,hi,Xf he,Addr.add_lit]) k
end
theorem k_ret0 {n : Nat} {a : Act} {e : List (Nat × Value)} {w : World} {P : Program} {fn : Func} {R : Ending → World → Prop} (hE : Env n a e) (hres : fn.results = #[]) (hR : R (.returned (.tuple [].toArray)) w) : bodyPost P fn R .ret a w:=by
 refine bodyPost_ret ?_ hE.df hR
 rw [Jh,hres]
 simp
theorem qk {n : Nat} {a : Act} {e : List (Nat × Value)} {w : World} {P : Program} {fn : Func} {R : Ending → World → Prop} (hE : Env n a e) (hres : fn.results = #[]) (hR : R (.returned (.tuple [].toArray)) w) : bodyPost P fn R .normal a w:=k_ret0 hE hres hR
structure Ref (α : Type) where
 v : α
 deriving DecidableEq,Inhabited
instance {α : Type} [Dat α] : Dat (Ref α):=⟨fun x=>Dat.bd x.v,fun x=>Dat.sz x.v + 1⟩
def RefSat {α : Type} [Rep α] (S : Nat → Prop) (w : World) (x : Ref α) (cs : List Value) (fp : List Nat) : Prop :=
 ∃ b ds fpe,cs = [ptr b 0] ∧ Rep.sat S w x.v ds fpe ∧ At w b 0 ds ∧ ((S b ∧ fp = fpe) ∨ (fp = b :: fpe ∧ ∃ T,w.heap[b]? = some (.cells ds.toArray T (0,0))))
instance {α : Type} [Rep α] : Rep (Ref α) where
 n:=1
 sat:=RefSat
 len:=by rintro S w x cs fp ⟨b,ds,fpe,rfl,_⟩; rfl
 loc:=by
  rintro S w w' x cs fp ⟨b,ds,fpe,rfl,h1,h2,h3⟩ hb
  rcases h3 with ⟨h3,rfl⟩ | ⟨rfl,T,h3⟩
  ·exact ⟨b,ds,fp,rfl,Rep.loc h1 hb,h2.loc (hb _ (.inr h3)),.inl ⟨h3,rfl⟩⟩
  ·exact ⟨b,ds,fpe,rfl,Rep.loc h1 (fun b h=>hb b (by simp; grind)),h2.loc (hb _ (by simp)),.inr ⟨rfl,T,by rw [hb _ (by simp)]; exact h3⟩⟩
 ro:=by
  rintro S S' w x cs fp ⟨b,ds,fpe,rfl,h1,h2,h3⟩ hb
  rcases h3 with ⟨h3,rfl⟩ | ⟨rfl,T,h3⟩
  ·exact ⟨b,ds,[],rfl,Rep.ro h1 hb,h2,.inl ⟨hb _ (.inr h3),rfl⟩⟩
  ·exact ⟨b,ds,[],rfl,Rep.ro h1 (fun b h=>hb b (by simp; grind)),h2,.inl ⟨hb _ (by simp),rfl⟩⟩
 wk:=by
  rintro S S' w x cs fp ⟨b,ds,fpe,rfl,h1,h2,h3⟩ hb
  rcases h3 with ⟨h3,rfl⟩ | ⟨rfl,T,h3⟩
  ·exact ⟨b,ds,fp,rfl,Rep.wk h1 hb,h2,.inl ⟨hb _ h3,rfl⟩⟩
  ·exact ⟨b,ds,fpe,rfl,Rep.wk h1 hb,h2,.inr ⟨rfl,T,h3⟩⟩
 lt:=by
  rintro S w x cs fp ⟨b,ds,fpe,rfl,h1,h2,h3⟩ c hc
  rcases h3 with ⟨h3,rfl⟩ | ⟨rfl,T,h3⟩
  ·exact Rep.lt h1 c hc
  ·rcases List.mem_cons.1 hc with rfl | hc
   ·rcases Nat.lt_or_ge c w.heap.size with h | h
    ·exact h
    ·rw [Array.getElem?_eq_none h] at h3; cases h3
   ·exact Rep.lt h1 c hc
 cell:=by
  rintro S w x cs fp ⟨b,ds,fpe,rfl,_⟩ v hv
  simp at hv; subst hv; rfl
section
variable {α : Type} [Rep α] {S : Nat → Prop} {w w0 : World} {x : Ref α} {fp : List Nat} {u : Value} {St : Nat → Prop} {its : List Item} {b : Nat} {ds : List Value}
theorem AI (h : Rep.sat S w x [u] fp) : u.cells.toList = [u]:=by obtain ⟨b,ds,fpe,e,_⟩:=h; obtain rfl:=(List.cons.inj e).1; rfl
theorem Bi {cs : List Value} (h : Rep.sat S w x cs fp) : ∃ v,cs = [v]:=by obtain ⟨b,ds,fpe,e,_⟩:=h; exact ⟨_,e⟩
theorem Tp (h : Rep.sat S w x [u] []) : ∃ b ds,u = ptr b 0 ∧ Rep.sat S w x.v ds [] ∧ At w b 0 ds ∧ S b:=by
 obtain ⟨b,ds,fpe,e,h1,h2,h3⟩:=h
 rcases h3 with ⟨h3,rfl⟩ | ⟨h3,_⟩
 ·exact ⟨b,ds,(List.cons.inj e).1,h1,h2,h3⟩
 ·cases h3
theorem M.toRef {x : α} {S : Nat → Prop} (h : M St w0 w (raw b ds :: own S x ds :: its)) (hS : ∀ b,S b → St b) : M St w0 w (own S (⟨x⟩ : Ref α) [ptr b 0] :: its) :=
 h.pack2 (Yc hS) fun f g h1 h2=>by
  obtain ⟨rfl,T,h3⟩:=h1
  exact ⟨b,ds,g,rfl,h2,At.of_heap h3,.inr ⟨rfl,T,h3⟩⟩
theorem M.toRefF {α : Type} [Flat α] {x : α} (h : M St w0 w (raw b (Flat.enc x) :: its)) : M St w0 w (own NoB (⟨x⟩ : Ref α) [ptr b 0] :: its) :=
 h.pack1 (Yc fun _ h=>h.elim) fun f h1=>by
  obtain ⟨rfl,T,h3⟩:=h1
  exact ⟨b,Flat.enc x,[],rfl,⟨rfl,rfl⟩,At.of_heap h3,.inr ⟨rfl,T,h3⟩⟩
end
end Go.Proofs.YtifdeoikcebbjaaGreat
namespace Go.Proofs.YtifdeoikcebbjaaGreat
open Go

section
variable {n : Nat} {a : Act} {e : List (Nat × Value)} {w w' : World} {P : Program} {ops : Array Oper} {rest : List Oper} {Q : Exit → Act → World → Prop}
variable {d : Nat} {ty t : TypeId} {pos : String} {af : Array Edge} {g : Option (Nat × Bool)} {x y : Operand} {v u : Value}
variable {St : Nat → Prop} {w0 : World} {its : List Item}

theorem flat1 : ∀ {vs : List Value},(∀ v ∈ vs,v.cells.toList = [v]) → (vs.map (·.cells.toList)).flatten = vs
 | [],_=>rfl
 | v :: vs,h=>by rw [List.map_cons,List.flatten_cons,h v (by simp),flat1 (fun u hu=>h u (by simp [hu]))]; rfl
theorem Jr {xs : List Operand} {vs : List Value} {m el by_ : Nat} {D : TypeDesc} {z : List Value}
  (h : Env n a e) (hM : M St w0 w its) (hw : Goes ops ⟨some d,.buildSlice t m (Qx 0 xs).toArray,ty,pos,af,g⟩ a) (hd : d < n) (hxs : QE e xs = some vs) (hm : vs.length = m)
  (ht : P.underlying t = some (.slice el)) (he : Ty P el D 1 by_ z) (hsmall : m ≤ 16777216) (hcell : ∀ v ∈ vs,v.cells.toList = [v])
  (k : ∀ b w a,M St w0 w (raw b vs :: its) → Env n a ((d,.slice (some ⟨b,0,none⟩) m m) :: e) → wpList P ops Q rest a w) : wpList P ops Q (⟨some d,.buildSlice t m (Qx 0 xs).toArray,ty,pos,af,g⟩ :: rest) a w:=by
 have hsz:=Xf he
 obtain ⟨zv,hzv,hzc⟩:=QJ he w
 have hc1 : ∀ v ∈ vs,v.cells.size = 1:=fun v hv=>by have:=congrArg List.length (hcell v hv); simpa using this
 have hnum:=h.numbered xs 0 vs hxs
 have hsub : ∀ cs : Array Value,cs.size = m * 1 → Instr.fill (fun i=>some (i * 1,1)) cs (numbered 0 vs) = some vs.toArray:=by
  intro cs hcs
  rw [Br 1 _ (fun _=>rfl) vs 0 cs hc1 (by simp [hm,hcs])]
  congr 2
  rw [Nat.zero_mul,flat1 hcell]
  exact Zl (by simp [hcs,hm])
 have hrun : (Instr.buildSlice t m ((Qx 0 xs).toArray.map fun (i,x)=>(i,a.eval x))).run P w = .ok (.slice (some ⟨w.heap.size,0,none⟩) m m) (w.alloc (.cells vs.toArray el)):=by
  have hparts : ((Qx 0 xs).toArray.map fun (i,x)=>(i,a.eval x)).toList = numbered 0 vs:=by simpa using hnum
  have hlim : ¬ (m * 1 > 2 ^ 24):=by omega
  have hfill : ∀ zz : Array Value,Instr.fill (fun i=>some (i * 1,1)) ((Array.range (m * 1)).map (zz[· % zz.size]!)) (numbered 0 vs) = some vs.toArray:=fun zz=>hsub _ (by simp)
  unfold Instr.buildSlice
  simp only [Sem.run_bind,run_underlying ht,Result.andThen_ok,hsz,if_neg hlim,hparts]
  by_cases h0 : m * 1 = 0
  ·simp only [if_pos h0,pure_bind]
   rw [hfill]
   simp [newRow]
  ·simp only [if_neg h0,pure_bind,Sem.run_bind,hzv,Result.andThen_ok]
   rw [hfill]
   simp [newRow]
 exact X5 h hw rfl hd (v:=.slice (some ⟨w.heap.size,0,none⟩) m m) (w':=w.alloc (.cells vs.toArray el)) (by simp only [execOp]; simp only [Sem.run_bind,hrun]; rfl) fun a ha=>k _ _ _ (hM.alloc vs el) ha
def zH {α : Type} [Rep α] (w : World) : List α → List Value → Prop
 | [],[]=>True
 | x :: l,v :: vs=>Ro w x [v] ∧ zH w l vs
 | _,_=>False
theorem zH.elems {α : Type} [Rep α] {w : World} : ∀ {l : List α} {vs : List Value},zH w l vs → Z0 (Old w) w l vs []
 | [],[],_=>⟨rfl,rfl⟩
 | _ :: _,v :: vs,h=>⟨[v],vs,[],[],rfl,rfl,h.1,zH.elems h.2⟩
 | [],_ :: _,h=>h.elim
 | _ :: _,[],h=>h.elim
theorem M.rawLt {b : Nat} {cs : List Value} {pre post : List Item} (h : M St w0 w (pre ++ raw b cs :: post)) : b < w.heap.size:=by
 obtain ⟨fp,⟨rfl,_⟩,h1⟩:=h.get
 exact h1 b (by simp)
theorem yr {α : Type} [Rep α] {l : List α} {vs : List Value} {b m : Nat} (hA : At w b 0 vs) (hb : b < w.heap.size) (h : zH w l vs) (hm : l.length = m) : Ro w l [.slice (some ⟨b,0,none⟩) m m]:=by
 subst hm
 exact ⟨some ⟨b,0,none⟩,l.length,rfl,Nat.le_refl _,fun _=>rfl,vs,[],h.elems,hA,.inl ⟨fun _=>hb,rfl⟩⟩

def Qy {α : Type} (N : Nat) (l : List α) : Option (Vector α N):=if h : N ≤ l.length then some ⟨(l.take N).toArray,by simp [h]⟩ else none
theorem Qm {α : Type} {N : Nat} {l : List α} {v : Vector α N} (h : Qy N l = some v) : N ≤ l.length ∧ v.toList = l.take N:=by
 unfold Qy at h
 split at h
 ·rename_i h0
  simp only [Option.some.injEq] at h
  subst h
  exact ⟨h0,rfl⟩
 ·cases h
theorem H7 {α : Type} [Rep α] {S : Nat → Prop} {l : List α} {fp : List Nat} {N el : Nat} (h : Env n a e) (hw : Goes ops ⟨some d,.sliceToArrayPointer t x,ty,pos,af,g⟩ a) (hd : d < n) (hx : opv e x = some v)
  (ht : P.underlying t = some (.array N el)) (hs : Rep.sat S w l [v] fp) (hN : N ≤ l.length) (h0 : 0 < N)
  (k : ∀ a,Env n a ((d,ptr (sb v) (so v)) :: e) → wpList P ops Q rest a w) : wpList P ops Q (⟨some d,.sliceToArrayPointer t x,ty,pos,af,g⟩ :: rest) a w:=by
 obtain ⟨p,cap,hv,hc,hp⟩:=hs
 simp only [List.cons.injEq,and_true] at hv
 subst hv
 refine X5 h hw rfl hd (w':=w) ?_ k
 have hlt : ¬ (l.length < N):=by omega
 cases p with
 | none=>have:=hp.1; omega
 | some q =>
  obtain ⟨h1,_⟩:=hp
  obtain ⟨q1,q2,q3⟩:=q
  have h1:=h1 (by omega)
  simp only at h1
  subst h1
  simp only [execOp,h.ev hx]
  simp [Instr.arrayAt,run_underlying ht,hlt,sb,so]
theorem AA {α : Type} [Flat α] : ∀ (l : List α) (k : Nat),Y1 (l.take k) = (Y1 l).take (k * Flat.n α)
 | [],k=>by simp [Y1]
 | x :: l,0=>by simp [Y1]
 | x :: l,k + 1=>by
  rw [List.take_succ_cons,Y1,Y1,AA l k,Nat.add_mul,Nat.one_mul,Nat.add_comm]
  rw [← Flat.len x,List.take_length_add_append]
theorem zn {α : Type} [Flat α] {S : Nat → Prop} {l : List α} {fp : List Nat} {N : Nat} {X : Vector α N} (hs : Rep.sat S w l [v] fp) (hX : Qy N l = some X) (h0 : 0 < N) : At w (sb v) (so v) (Flat.enc X):=by
 obtain ⟨hN,hl⟩:=Qm hX
 obtain ⟨p,cap,hv,hc,hp⟩:=hs
 simp only [List.cons.injEq,and_true] at hv
 subst hv
 cases p with
 | none=>have:=hp.1; omega
 | some q =>
  obtain ⟨h1,ecs,fpe,h2,h3,_⟩:=hp
  obtain ⟨rfl,_⟩:=Wh.1 h2
  have h1:=h1 (by omega)
  obtain ⟨q1,q2,q3⟩:=q
  simp only at h1
  subst h1
  show At w q1 q2 (Y1 X.toList)
  rw [hl,AA]
  intro i c hi
  refine h3 i c ?_
  rw [List.getElem?_take] at hi
  split at hi
  ·exact hi
  ·cases hi

theorem Z0.takeF {α : Type} [Rep α] {S : Nat → Prop} {w : World} : ∀ {l : List α} {cs : List Value} {fp : List Nat} (k : Nat),Z0 S w l cs fp → ∃ f g,fp = f ++ g ∧ Z0 S w (l.take k) (cs.take (k * Rep.n α)) f
 | l,cs,fp,0,h=>⟨[],fp,rfl,by simp [Z0]⟩
 | [],cs,fp,k + 1,h=>by obtain ⟨rfl,rfl⟩:=h; exact ⟨[],[],rfl,by simp [Z0]⟩
 | x :: l,cs,fp,k + 1,h=>by
  obtain ⟨c,cs',f,fp',rfl,rfl,h1,h2⟩:=h
  obtain ⟨f1,g1,rfl,h3⟩:=Z0.takeF k h2
  refine ⟨f ++ f1,g1,by simp,?_⟩
  rw [List.take_succ_cons,Nat.add_mul,Nat.one_mul,Nat.add_comm,show Rep.n α + k * Rep.n α = c.length + k * Rep.n α by rw [Rep.len h1],List.take_length_add_append]
  exact ⟨c,_,f,f1,rfl,rfl,h1,h3⟩
theorem YG.cut {α : Type} [Rep α] {S : Nat → Prop} {l r : List α} {fp : List Nat} {j : Int} (h : YG S w l v fp) (hb : slc l 0 j = some r) : ∃ fp',YG S w r (Z1 v (0 : Int).toNat j.toNat (Rep.n α)) fp' ∧ fp'.Sublist fp:=by
 obtain ⟨⟨_,h1,h2⟩,rfl⟩:=JB hb
 obtain ⟨p,cap,rfl,hc,h⟩:=h
 have e0 : (0 : Int).toNat = 0:=rfl
 have hlen : ((l.take j.toNat).drop 0).length = j.toNat:=by simp; omega
 rw [e0,List.drop_zero] at *
 rcases h with ⟨rfl,rfl,hp⟩ | ⟨b,o,ecs,fpe,rfl,k1,k2,rfl,k3⟩
 ·have : j.toNat = 0:=by omega
  rw [this] at *
  refine ⟨[],⟨p,0,by simp [Z1],by simp,.inl ⟨rfl,rfl,hp⟩⟩,List.nil_sublist _⟩
 ·obtain ⟨f,g,rfl,k4⟩:=Z0.takeF j.toNat k1
  have hadd : (if cap = 0 then some (⟨b,o,none⟩ : Addr) else some ((⟨b,o,none⟩ : Addr).add (0 * Rep.n α))) = some ⟨b,o,none⟩:=by
   split
   ·rfl
   ·rw [Addr.add_lit]; simp
  refine ⟨b :: f,⟨some ⟨b,o,none⟩,cap,?_,by rw [hlen]; omega,.inr ⟨b,o,_,f,rfl,k4,fun i c hi=>k2 i c ?_,rfl,k3⟩⟩,by simp⟩
  ·simp only [Z1,Option.map_some,hlen,Nat.sub_zero,hadd]
  ·rw [List.getElem?_take] at hi
   split at hi
   ·exact hi
   ·cases hi
theorem M.cut {α : Type} [Rep α] {S : Nat → Prop} {l r : List α} {j : Int} (hM : M St w0 w (osl S l v :: its)) (hS : ∀ b,S b → St b) (hb : slc l 0 j = some r) : M St w0 w (osl S r (Z1 v (0 : Int).toNat j.toNat (Rep.n α)) :: its):=by
 refine hM.turn (new:=[osl S r _]) rfl rfl rfl (Nat.le_refl _) ?_
 intro fp hfp _ hnd
 obtain ⟨fp',h1,h2⟩:=YG.cut hfp hb
 exact ⟨fun _ _ _=>rfl,fp',⟨fp',[],by simp,V8 hS,h1,rfl⟩,h2.nodup hnd,fun b hb=>.inl (h2.subset hb)⟩

theorem zS {el : TypeId} (h : Env n a e) (hw : Goes ops ⟨some d,.call ⟨.builtin .cap,[x].toArray,[t].toArray⟩,ty,pos,af,g⟩ a) (hd : d < n)
  (hx : opv e x = some (.slice none 0 0)) (ht : P.underlying t = some (.slice el))
  (k : ∀ a,Env n a ((d,vI 0) :: e) → wpList P ops Q rest a w) : wpList P ops Q (⟨some d,.call ⟨.builtin .cap,[x].toArray,[t].toArray⟩,ty,pos,af,g⟩ :: rest) a w :=
 X5 h hw rfl hd (by
  simp only [execOp,resolve]
  simp [invoke,builtin,h.ev hx,Builtin.cap_,run_underlying ht,goInt]) k
theorem zK {el : TypeId} (h : Env n a e) (hw : Goes ops ⟨some d,.call ⟨.builtin .len,[x].toArray,[t].toArray⟩,ty,pos,af,g⟩ a) (hd : d < n)
  (hx : opv e x = some (.slice none 0 0)) (ht : P.underlying t = some (.slice el))
  (k : ∀ a,Env n a ((d,vI 0) :: e) → wpList P ops Q rest a w) : wpList P ops Q (⟨some d,.call ⟨.builtin .len,[x].toArray,[t].toArray⟩,ty,pos,af,g⟩ :: rest) a w :=
 Z3 (l:=([] : List Int)) h hw hd hx ht (Qs (S:=NoB)) k
theorem yy {el sz by_ : Nat} {z : List Value} {D : TypeDesc} {hi : Operand} {K : IntKind} (h : Env n a e) (hw : Goes ops ⟨some d,.slice t x none (some hi) none,ty,pos,af,g⟩ a) (hd : d < n)
  (hx : opv e x = some (.slice none 0 0)) (hhi : opv e hi = some (.int K 0)) (ht : P.underlying t = some (.slice el)) (he : Ty P el D sz by_ z)
  (k : ∀ a,Env n a ((d,.slice none 0 0) :: e) → wpList P ops Q rest a w) : wpList P ops Q (⟨some d,.slice t x none (some hi) none,ty,pos,af,g⟩ :: rest) a w :=
 A1 (l:=([] : List Int)) (r:=[]) (vlo:=none) (vhi:=some (.int K 0)) (i:=0) (j:=0) h hw hd hx rfl (jF hhi) rfl rfl ht he (Qs (S:=NoB)) rfl k
theorem AE (z : Array Value) (m : Nat) : (Builtin.zeroCells z m).toList = (List.replicate m z.toList).flatten:=by
 have:=Au z.toList m
 rw [← this]
 simp [Builtin.zeroCells,madeCells]
theorem jC {α : Type} [Rep α] {K : IntKind} {c : Int} {tn el : TypeId} {kn : IntKind} {D : TypeDesc} {by_ : Nat} {z : List Value} {zero : α} {l : List α}
  (h : Env n a e) (hM : M St w0 w its) (hw : Goes ops ⟨some d,.call ⟨.builtin .append,[x,y].toArray,[t,tn].toArray⟩,ty,pos,af,g⟩ a) (hd : d < n) (hx : opv e x = some (.slice none 0 0)) (hy : opv e y = some (.int K c))
  (ht : P.underlying t = some (.slice el)) (htn : P.underlying tn = some (.int kn)) (he : Ty P el D (Rep.n α) by_ z) (hzl : z.length = Rep.n α) (h0 : 0 < by_) (hn : 0 < Rep.n α) (hz : ∀ w,Rep.sat NoB w zero z []) (hb : mkS by_ zero c = some l)
  (k : ∀ v' w a,M St w0 w (osl NoB l v' :: its) → Env n a ((d,v') :: e) → wpList P ops Q rest a w) : wpList P ops Q (⟨some d,.call ⟨.builtin .append,[x,y].toArray,[t,tn].toArray⟩,ty,pos,af,g⟩ :: rest) a w:=by
 unfold mkS at hb
 split at hb
 case isFalse=>cases hb
 rename_i hc
 obtain ⟨hc0,hcb⟩:=hc
 simp only [Option.some.injEq] at hb
 subst hb
 obtain ⟨i,zv,hi,hsz,hby,hzz,hzc⟩:=he.get
 have hcb' : c ≤ 140737488355328:=by
  have : c * 1 ≤ c * by_:=Int.mul_le_mul_of_nonneg_left (by omega) hc0
  omega
 obtain ⟨m,rfl⟩ : ∃ m : Nat,c = m:=⟨c.toNat,by omega⟩
 rw [Int.toNat_natCast] at *
 have hmb : m * by_ ≤ 140737488355328:=by
  have : ((m * by_ : Nat) : Int) ≤ 140737488355328:=by rw [Int.natCast_mul]; exact hcb
  omega
 by_cases hm : m = 0
 ·subst hm
  refine X5 h hw rfl hd (v:=.slice none 0 0) (w':=w) ?_ fun a ha=>k _ _ _ (M.nilS NoB noB hM) ha
  simp only [execOp,resolve]
  simp [invoke,builtin,h.ev hx,h.ev hy,Builtin.append_,run_underlying ht,run_underlying htn,sizeOf,typeInfo,hi,asInt,asIntOf,IntKind.wrap_i64]
 ·have hr:=Lib.run_append_nil_zeros (P:=P) w t tn ty el i zv K kn ht htn hi hzz m (by omega) (by rw [hsz]; omega) (by omega) (by rw [hby]; omega)
  have hgc:=grownCap_ge w m 0 el
  refine X5 h hw rfl hd (v:=.slice (some ⟨w.heap.size,0,none⟩) m (grownCap w m 0 el)) (w':=w.drew.alloc (.cells (Builtin.zeroCells zv.cells m ++ Builtin.zeroCells zv.cells (grownCap w m 0 el - m)) el)) (by simp only [execOp,resolve]; simp [invoke,builtin,h.ev hx,h.ev hy,hr]) fun a ha=>k _ _ _ ?_ ha
  have hcells : Builtin.zeroCells zv.cells m ++ Builtin.zeroCells zv.cells (grownCap w m 0 el - m) = ((List.replicate m z).flatten ++ (List.replicate (grownCap w m 0 el - m) z).flatten).toArray:=by
   apply Array.ext'
   rw [Array.toList_append,AE,AE,hzc]
  rw [hcells]
  have hnew:=UM w.drew (.cells ((List.replicate m z).flatten ++ (List.replicate (grownCap w m 0 el - m) z).flatten).toArray el)
  have hat:=At.of_heap hnew
  rw [At.append] at hat
  refine (hM.drew).add (new:=[osl NoB (List.replicate m zero) _]) (Kept.alloc _ _) ⟨[w.heap.size],⟨[w.heap.size],[],rfl,V8 (fun _ h=>h),⟨some ⟨w.heap.size,0,none⟩,grownCap w m 0 el,by simp,by simpa using hgc,.inr ⟨w.heap.size,0,_,[],rfl,T6 (hz _) _,hat.1,rfl,?_⟩⟩,rfl⟩,by simp,fun b hb=>by simp at hb; subst hb; exact ⟨Nat.le_refl _,by simp⟩⟩
  refine ⟨_,el,(0,0),hnew,?_,by intro j _; simp⟩
  have e1 : ∀ q : Nat,((List.replicate q z).flatten).length = q * Rep.n α:=fun q=>by simp [hzl]
  rw [List.size_toArray,List.length_append,e1,e1,← Nat.add_mul,Nat.zero_add,show m + (grownCap w m 0 el - m) = grownCap w m 0 el by omega]
  exact Nat.le_refl _
end
section
variable {n : Nat} {a : Act} {e : List (Nat × Value)} {w w' : World} {P : Program} {ops : Array Oper} {rest : List Oper} {Q : Exit → Act → World → Prop}
variable {d : Nat} {ty t : TypeId} {pos : String} {af : Array Edge} {g : Option (Nat × Bool)} {x y : Operand} {v u : Value}
variable {St : Nat → Prop} {w0 : World} {its : List Item}
theorem YK.locs : ∀ {l : List Item} {fp : List Nat},YK St w l fp → ∀ it ∈ l,Loc St it
 | [],_,_,_,h=>by cases h
 | i :: l,_,⟨_,_,_,h1,_,h2⟩,it,h=>by
  rcases List.mem_cons.1 h with rfl | h
  ·exact h1
  ·exact YK.locs h2 it h
theorem YK.reloc2 {St' : Nat → Prop} : ∀ {l : List Item} {fp : List Nat},YK St' w l fp → (∀ it ∈ l,Loc St it) → YK St w l fp
 | [],_,h,_=>h
 | i :: l,_,⟨f,f',e,_,h1,h2⟩,hl=>⟨f,f',e,hl i (by simp),h1,YK.reloc2 h2 fun it h=>hl it (by simp [h])⟩
theorem M.freeze {α : Type} [Rep α] {S : Nat → Prop} {x : α} {cs : List Value} (tk : List Item) {rest : List Item} (h : M St w0 w (own S x cs :: (tk ++ rest))) (hS : ∀ b,S b → St b) :
  ∃ St',(∀ b,St b → St' b) ∧ Rep.sat St' w x cs [] ∧ M St' w w (tk ++ rest) ∧ ∀ w' new,zO new → M St' w w' (new ++ rest) → M St w0 w' (own S x cs :: (new ++ rest)):=by
 obtain ⟨hk,hs,fp,⟨f,g,rfl,hl,h1,h2⟩,hnd,hlt⟩:=h
 obtain ⟨n1,n2,n3⟩:=List.nodup_append.1 hnd
 refine ⟨fun b=>St b ∨ b ∈ f,fun b hb=>.inl hb,Rep.ro h1 (fun b hb=>hb.elim .inr fun h=>.inl (hS b h)),⟨Kept.refl _ _,?_,g,h2.mono (fun b hb=>.inl hb),n2,fun b hb=>⟨?_,(hlt b (by simp [hb])).2⟩⟩,?_⟩
 ·rintro b (hb | hb)
  ·exact Nat.lt_of_lt_of_le (hs b hb) hk.size
  ·exact (hlt b (by simp [hb])).2
 ·rintro (hb' | hb')
  ·exact (hlt b (by simp [hb])).1 hb'
  ·exact n3 b hb' b hb rfl
 ·rintro w' new hnew ⟨k1,k2,gp,k3,k4,k5⟩
  refine ⟨hk.trans (k1.mono fun b hb=>.inl hb),hs,f ++ gp,?_,?_,?_⟩
  ·refine ⟨f,gp,rfl,Yc hS,Rep.loc h1 (fun b hb=>k1.block b (hb.elim .inr fun h=>.inl (hS b h))),k3.reloc2 fun it hit=>?_⟩
   rcases List.mem_append.1 hit with hit | hit
   ·exact (hnew it hit).mono noB
   ·exact h2.locs it (List.mem_append_right _ hit)
  ·refine List.nodup_append.2 ⟨n1,k4,fun a ha b hb e=>?_⟩
   subst e
   exact (k5 a hb).1 (.inr ha)
  ·intro b hb
   rcases List.mem_append.1 hb with hb | hb
   ·exact ⟨(hlt b (by simp [hb])).1,Nat.lt_of_lt_of_le (hlt b (by simp [hb])).2 k1.size⟩
   ·exact ⟨fun h=>(k5 b hb).1 (.inl h),(k5 b hb).2⟩
def LitSat {α : Type} [Rep α] (S : Nat → Prop) (w : World) : List α → List Value → Prop
 | [],[]=>True
 | x :: l,v :: vs=>Rep.sat S w x [v] [] ∧ LitSat S w l vs
 | _,_=>False
end
end Go.Proofs.YtifdeoikcebbjaaGreat
namespace Go.Proofs.YtifdeoikcebbjaaGreat
open Go

def litP (v : Value) (m : Nat) (vs : List Value) : Item:=fun w fp=>∃ b,v = .slice (some ⟨b,0,none⟩) m m ∧ raw b vs w fp
def mkL (i : Nat) (ds : List Nat) (m : Nat) (f : List Value → List Value) : List Nat × (List Bool → List Value → Item):=(i :: ds,fun bs us=>opt (bs.headD false) (litP (us.headD undef) m (f us.tail)))
section
variable {St : Nat → Prop} {w0 w : World} {its pre post : List Item} {mk : Mk} {D : Nat → Bool} {u : Nat → Value} {i k m b : Nat} {ds : List Nat} {v : Value} {vs : List Value} {f : List Value → List Value}
theorem jW {St : Nat → Prop} : Loc St (litP v m vs):=fun w w' fp ⟨b,e,k⟩ hb=>⟨b,e,Xc w w' fp k hb⟩
theorem emL : ∀ us,(mkL i ds m f).2 ((mkL i ds m f).1.map fun _=>false) us = Go.Proofs.YtifdeoikcebbjaaGreat.emp:=fun _=>by simp [mkL,TF]
theorem litE (hD : D i = false) : (mkL i ds m f).2 ((mkL i ds m f).1.map D) ((mkL i ds m f).1.map u) = Go.Proofs.YtifdeoikcebbjaaGreat.emp:=by simp [mkL,hD,TF]
theorem M.litOff (h : M St w0 w (its ++ qL (mk ++ [mkL i ds m f]) D u)) (hD : D i = false) : M St w0 w (its ++ qL mk D u):=by
 rw [QG,litE hD] at h
 have h2 : M St w0 w ((its ++ qL mk D u) ++ Go.Proofs.YtifdeoikcebbjaaGreat.emp :: []):=by simpa [qL] using h
 simpa using h2.pull.drop
theorem M.litOn (h : M St w0 w (its ++ qL mk (Wr D k) (Wn u k v))) (hD : D i = false) (hk : i ≠ k) : M St w0 w (its ++ qL (mk ++ [mkL i ds m f]) (Wr D k) (Wn u k v)):=by
 rw [QG,litE (by simp [Wr,hk,hD])]
 have h2:=M.push (pre:=its ++ qL mk (Wr D k) (Wn u k v)) (post:=[]) (it:=Go.Proofs.YtifdeoikcebbjaaGreat.emp) (by simpa using h.emp)
 simpa [qL] using h2
theorem M.litFill (h : M St w0 w (raw b (f (ds.map u)) :: (its ++ qL (mk ++ [mkL i ds m f]) D u))) (hi : ((mk ++ []).all fun p=>p.1.all fun k=>k != i) = true) (hD : D i = false) (hd : (ds.all fun k=>k != i) = true) :
  M St w0 w (its ++ qL (mk ++ [mkL i ds m f]) (Wr D i) (Wn u i (.slice (some ⟨b,0,Option.none⟩) m m))):=by
 have hne : i ∉ ds:=fun hm=>by have:=List.all_eq_true.1 hd i hm; simp at this
 have h' : M St w0 w (litP (.slice (some ⟨b,0,Option.none⟩) m m) m (f (ds.map u)) :: (its ++ qL (mk ++ [mkL i ds m f]) D u)):=h.pack1 jW fun fp k=>⟨b,rfl,k⟩
 refine M.qPut (mk1:=mk) (mk2:=[]) h' hi (litE hD) ?_
 obtain ⟨e1,e2⟩:=H8 (D:=D) (u:=u) (v:=.slice (some ⟨b,0,Option.none⟩) m m) hne
 simp only [mkL,List.map_cons,e2]
 simp [Wr,Wn,T0]
theorem M.litOpen (h : M St w0 w (litP v m vs :: its)) : ∃ b,v = .slice (some ⟨b,0,Option.none⟩) m m ∧ M St w0 w (raw b vs :: its):=by
 obtain ⟨fp,⟨b,hb,_⟩,_⟩:=h.head
 exact ⟨b,hb,h.pack1 Xc fun fp ⟨b',e',k⟩=>by rw [hb] at e'; simp at e'; subst e'; exact k⟩
end

def prm (a b : Bool) (x y : Item) : Item:=if b = true then y else opt a x
def mkP (j i : Nat) (f g : Value → Item) : List Nat × (List Bool → List Value → Item):=([j,i],fun bs us=>prm (bs.headD false) (bs.getD 1 false) (f (us.headD undef)) (g (us.getD 1 undef)))
section
variable {St : Nat → Prop} {w0 w : World} {its pre post : List Item} {mk1 mk2 : Mk} {D : Nat → Bool} {u : Nat → Value} {i j : Nat} {v : Value} {a b : Bool} {x y : Item} {f g : Value → Item}
theorem emP : ∀ us,(mkP j i f g).2 ((mkP j i f g).1.map fun _=>false) us = Go.Proofs.YtifdeoikcebbjaaGreat.emp:=fun _=>by simp [mkP,prm,TF]
theorem M.prmA (h : M St w0 w (pre ++ prm a b x y :: post)) (hb : b = false) (ha : a = true) : M St w0 w (pre ++ x :: post):=by
 subst hb; subst ha
 have e : prm true false x y = x:=by simp [prm,T0]
 rwa [e] at h
theorem M.prmB (h : M St w0 w (pre ++ prm a b x y :: post)) (hb : b = true) : M St w0 w (pre ++ y :: post):=by subst hb; exact h
theorem M.qFillP (h : M St w0 w (f v :: (its ++ qL (mk1 ++ mkP j i f g :: mk2) D u))) (hi : ((mk1 ++ mk2).all fun p=>p.1.all fun k=>k != j) = true) (hD : D j = false) (hs : D i = false) (hne : i ≠ j) :
  M St w0 w (its ++ qL (mk1 ++ mkP j i f g :: mk2) (Wr D j) (Wn u j v)) :=
 M.qPut h hi (by simp [mkP,prm,hD,hs,TF]) (by simp [mkP,prm,Wr,Wn,hs,hne,T0])
theorem M.qApp (h : M St w0 w (g v :: (its ++ (qL mk1 D u ++ qL mk2 D u)))) (hi : ((mk1 ++ mk2).all fun p=>p.1.all fun k=>k != i) = true) :
  M St w0 w (its ++ qL (mk1 ++ mkP j i f g :: mk2) (Wr D i) (Wn u i v)):=by
 have hne':=noti hi
 rw [QG,Q6 (fun p hp=>hne' p (List.mem_append_left _ hp)),Q6 (fun p hp=>hne' p (List.mem_append_right _ hp))]
 have e : (mkP j i f g).2 ((mkP j i f g).1.map (Wr D i)) ((mkP j i f g).1.map (Wn u i v)) = g v:=by simp [mkP,prm,Wr,Wn]
 rw [e]
 have h5 : M St w0 w (g v :: ((its ++ qL mk1 D u) ++ qL mk2 D u)):=by simpa using h
 simpa using M.push h5
end
def mkD (i s k : Nat) (z : List Value) (f : Value → List Value) : List Nat × (List Bool → List Value → Item):=([i,s,k],fun bs us=>T3 (bs.headD false) (bs.getD 1 false) (us.headD undef) z (f (us.getD 2 undef)))
section
variable {St : Nat → Prop} {w0 w : World} {its : List Item} {mk1 mk2 : Mk} {D : Nat → Bool} {u : Nat → Value} {i s k b : Nat} {v : Value} {z c c' : List Value} {f : Value → List Value}
theorem emD : ∀ us,(mkD i s k z f).2 ((mkD i s k z f).1.map fun _=>false) us = Go.Proofs.YtifdeoikcebbjaaGreat.emp:=fun _=>rfl
theorem M.recell (h : M St w0 w (raw b c :: its)) (e : c = c') : M St w0 w (raw b c' :: its):=e ▸ h
theorem M.dOff (h : M St w0 w (its ++ qL (mk1 ++ mkD i s k z f :: mk2) D u)) (hs : D s = false) : M St w0 w (its ++ qL (mk1 ++ mkC i s z [] :: mk2) D u):=by
 have e : qL (mk1 ++ mkD i s k z f :: mk2) D u = qL (mk1 ++ mkC i s z [] :: mk2) D u:=by
  rw [QG,QG]
  simp [mkD,mkC,T3,hs]
 rwa [e] at h
theorem M.dOn (h : M St w0 w (its ++ qL (mk1 ++ mkC i s z [] :: mk2) (Wr D k) (Wn u k v))) (hs : D s = false) (hne : s ≠ k) : M St w0 w (its ++ qL (mk1 ++ mkD i s k z f :: mk2) (Wr D k) (Wn u k v)):=by
 have e : qL (mk1 ++ mkD i s k z f :: mk2) (Wr D k) (Wn u k v) = qL (mk1 ++ mkC i s z [] :: mk2) (Wr D k) (Wn u k v):=by
  rw [QG,QG]
  simp [mkD,mkC,T3,Wr,hs,hne]
 rwa [e]
theorem M.qAllocD (h : M St w0 w (raw b z :: (its ++ qL (mk1 ++ mkD i s k z f :: mk2) D u))) (hi : ((mk1 ++ mk2).all fun p=>p.1.all fun k=>k != i) = true) (hD : D i = false) (hs : D s = false) (hne : s ≠ i) :
  M St w0 w (its ++ qL (mk1 ++ mkD i s k z f :: mk2) (Wr D i) (Wn u i (ptr b 0))):=by
 have h' : M St w0 w (Vq (ptr b 0) z :: (its ++ qL (mk1 ++ mkD i s k z f :: mk2) D u)):=h.pack1 (fun w w' fp ⟨b',e,k⟩ hb=>⟨b',e,Xc w w' fp k hb⟩) fun fp k=>⟨b,rfl,k⟩
 refine M.qPut h' hi (by simp [mkD,hD,T3]) ?_
 simp [mkD,Wr,Wn,T3,hne,hs]
theorem M.qStoreD (h : M St w0 w (raw b (f (u k)) :: (its ++ (qL mk1 D u ++ qL mk2 D u)))) (hi : ((mk1 ++ mk2).all fun p=>p.1.all fun k=>k != s) = true) (hj : D i = true) (hb : u i = ptr b 0) (hne : i ≠ s) (hk : k ≠ s) :
  M St w0 w (its ++ qL (mk1 ++ mkD i s k z f :: mk2) (Wr D s) (Wn u s v)):=by
 have hne':=noti hi
 rw [QG,Q6 (fun p hp=>hne' p (List.mem_append_left _ hp)),Q6 (fun p hp=>hne' p (List.mem_append_right _ hp))]
 have e : (mkD i s k z f).2 ((mkD i s k z f).1.map (Wr D s)) ((mkD i s k z f).1.map (Wn u s v)) = Vq (ptr b 0) (f (u k)):=by
  simp [mkD,Wr,Wn,T3,hne,hj,hb,hk]
 rw [e]
 have h' : M St w0 w (Vq (ptr b 0) (f (u k)) :: (its ++ (qL mk1 D u ++ qL mk2 D u))):=h.pack1 (fun w w' fp ⟨b',e,k⟩ hb=>⟨b',e,Xc w w' fp k hb⟩) fun fp k=>⟨b,rfl,k⟩
 have h5 : M St w0 w (Vq (ptr b 0) (f (u k)) :: ((its ++ qL mk1 D u) ++ qL mk2 D u)):=by simpa using h'
 simpa using M.push h5
end
theorem flq {α : Type} [Flat α] {x y : α} : (Flat.enc x).length = (Flat.enc y).length:=(Flat.len x).trans (Flat.len y).symm
theorem zle {a b : Nat} (h : a = b) : 0 + a ≤ b:=by omega
theorem bvx {α β : Type} {N : Nat} {v : Vector α N} {i : Int} {f : α → Option β} {r : β} (h : (ZM v i).bind f = some r) : ∃ x,((0 ≤ i ∧ i < N) ∧ v.toList[i.toNat]? = some x) ∧ f x = some r:=by
 obtain ⟨x,e,h⟩:=bind_some h
 exact ⟨x,jr e,h⟩
theorem bix {α β : Type} {l : List α} {i : Int} {f : α → Option β} {r : β} (h : (idx l i).bind f = some r) : ∃ x,((0 ≤ i ∧ i < l.length) ∧ l[i.toNat]? = some x) ∧ f x = some r:=by
 obtain ⟨x,e,h⟩:=bind_some h
 exact ⟨x,kt e,h⟩
theorem ois {α : Type} {x y : α} (h : some x = some y) : y = x:=(Option.some.inj h).symm
theorem nbl {a b : Nat} (h : Nat.ble a b = true) : a ≤ b:=Nat.le_of_ble_eq_true h
theorem ld {d n : Nat} (h : d < n:=by decide) : d < n:=h
theorem yG {p : Value → Prop} : ∀ v ∈ ([] : List Value),p v:=fun _ h=>by cases h
theorem Ka {p : Value → Prop} {x : Value} {l : List Value} (h : p x) (hs : ∀ v ∈ l,p v) : ∀ v ∈ x :: l,p v:=fun v hv=>by
 rcases List.mem_cons.1 hv with rfl | hv
 ·exact h
 ·exact hs v hv

def cmpB : List UInt8 → List UInt8 → Int
 | [],[]=>0
 | [],_ :: _=>-1
 | _ :: _,[]=>1
 | x :: l,y :: m=>if x < y then -1 else if y < x then 1 else cmpB l m
section
variable {n : Nat} {a : Act} {e : List (Nat × Value)} {w w' : World} {P : Program} {ops : Array Oper} {rest : List Oper} {Q : Exit → Act → World → Prop}
variable {d : Nat} {ty t : TypeId} {pos : String} {af : Array Edge} {g : Option (Nat × Bool)} {x y : Operand} {v u : Value}
end
end Go.Proofs.YtifdeoikcebbjaaGreat
