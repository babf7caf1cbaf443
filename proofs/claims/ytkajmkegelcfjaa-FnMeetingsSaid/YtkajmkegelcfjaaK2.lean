/- The walk library: what this claim needs of it. -/
import Derived.Test.YtkajmkegelcfjaaK1
set_option linter.unusedVariables false
set_option linter.unusedSimpArgs false
set_option linter.unusedSectionVars false
namespace Go.Proofs.Ytkajmkegelcfjaa
open Go

theorem Qp {σ ρ τ : Type} {s : σ} {f : σ → Option τ} {g : ρ → Option τ} {r : τ} (h : (Fl.nx s : Fl σ ρ).el f g = some r) : f s = some r:=h
def tupGet (v : Value) (i : Nat) : Value:=match v with
 | .tuple vs=>vs.toList.getD i undef
 | _=>undef
def Qk (v : Value) (cs : List Value) : Item:=fun w fp=>∃ b,v = ptr b 0 ∧ raw b cs w fp
def T6 (there stored : Bool) (v : Value) (z c : List Value) : Item:=if there = true then (if stored = true then Qk v c else Qk v z) else Go.Proofs.Ytkajmkegelcfjaa.emp
abbrev Gs:=List (List Nat × (List Value → Value → Prop))
abbrev Mk:=List (List Nat × (List Bool → List Value → Item))
def qL (mk : Mk) (D : Nat → Bool) (u : Nat → Value) : List Item:=mk.map fun p=>p.2 (p.1.map D) (p.1.map u)
def mkO (j : Nat) (f : Value → Item) : List Nat × (List Bool → List Value → Item):=([j],fun bs us=>opt (bs.headD false) (f (us.headD undef)))
def mkC (j s : Nat) (z c : List Value) : List Nat × (List Bool → List Value → Item):=([j,s],fun bs us=>T6 (bs.headD false) (bs.getD 1 false) (us.headD undef) z c)
def GOk (gs : Gs) (D : Nat → Bool) (u : Nat → Value) : Prop:=∀ j,D j = true → ∀ g,gs[j]? = some g → (∀ k ∈ g.1,D k = true) ∧ g.2 (g.1.map u) (u j)
theorem B5 {D : Nat → Bool} {u : Nat → Value} {i : Nat} {v : Value} {l : List Nat} (h : i ∉ l) : l.map (Yl D i) = l.map D ∧ l.map (VN u i v) = l.map u:=by
 constructor <;> apply List.map_congr_left <;> intro k hk <;> have : k ≠ i:=(fun e=>h (e ▸ hk))
 ·simp [Yl,this]
 ·simp [VN,this]
theorem Qz {mk : Mk} {D : Nat → Bool} {u : Nat → Value} {i : Nat} {v : Value} (hi : ∀ p ∈ mk,i ∉ p.1) : qL mk (Yl D i) (VN u i v) = qL mk D u:=by
 unfold qL
 apply List.map_congr_left
 intro p hp
 obtain ⟨h1,h2⟩:=B5 (D:=D) (u:=u) (v:=v) (hi p hp)
 rw [h1,h2]
theorem GOk.upd {gs : Gs} {D : Nat → Bool} {u : Nat → Value} {i : Nat} {v : Value} (h : GOk gs D u) (hD : D i = false) (hi : ∀ g,gs[i]? = some g → (∀ k ∈ g.1,D k = true) ∧ g.2 (g.1.map u) v) : GOk gs (Yl D i) (VN u i v):=by
 have tr : ∀ k,D k = true → Yl D i k = true:=fun k hk=>by
  unfold Yl
  split
  ·rfl
  ·exact hk
 have nm : ∀ l : List Nat,(∀ k ∈ l,D k = true) → i ∉ l:=fun l hl hm=>by have:=hl i hm; rw [hD] at this; cases this
 intro j hj g hg
 by_cases hji : j = i
 ·subst hji
  obtain ⟨h1,h2⟩:=hi g hg
  refine ⟨fun k hk=>tr k (h1 k hk),?_⟩
  rw [(B5 (D:=D) (u:=u) (v:=v) (nm _ h1)).2]
  simpa [VN] using h2
 ·have hj' : D j = true:=by unfold Yl at hj; rwa [if_neg hji] at hj
  obtain ⟨h1,h2⟩:=h j hj' g hg
  refine ⟨fun k hk=>tr k (h1 k hk),?_⟩
  rw [(B5 (D:=D) (u:=u) (v:=v) (nm _ h1)).2]
  simpa [VN,hji] using h2
theorem GOk.put {gs : Gs} {D : Nat → Bool} {u : Nat → Value} {i : Nat} {v : Value} {ks : List Nat} {pr : List Value → Value → Prop} (h : GOk gs D u) (hD : D i = false) (hi : gs[i]? = some (ks,pr)) (h1 : ∀ k ∈ ks,D k = true) (h2 : pr (ks.map u) v) : GOk gs (Yl D i) (VN u i v) :=
 h.upd hD fun g hg=>by rw [hi] at hg; cases hg; exact ⟨h1,h2⟩
theorem ZR {D : Nat → Bool} : ∀ k ∈ ([] : List Nat),D k = true:=fun _ h=>by cases h
theorem KH {gs : Gs} {u : Nat → Value} : GOk gs (fun _=>false) u:=fun _ h=>by cases h
def allI (St : Nat → Prop) (l : List Item) : Item:=fun w fp=>Wl St w l fp
theorem jx {St : Nat → Prop} {l : List Item} : Loc St (allI St l):=fun _ _ _ h hb=>Wl.loc h hb
theorem y8 {α : Type} [Rep α] {x : α} {cs : List Value} {r : List Item} (h : zM r) : zM (own NoB x cs :: r):=by
 intro it hi
 rcases List.mem_cons.1 hi with rfl | hi
 ·exact Jx fun _ h=>h
 ·exact h it hi
theorem Env.dummy {n : Nat} {a : Act} {e : List (Nat × Value)} {t : Nat} (h : Env n a e) (ht : n ≤ t) : Env n a ((t,undef) :: e):=by
 refine ⟨h.sz,h.df,fun s v hs=>?_⟩
 simp only [List.lookup_cons] at hs
 by_cases hst : s = t
 ·subst hst
  simp at hs
  subst hs
  rw [Array.getD_eq_getD_getElem?,Array.getElem?_eq_none (by rw [h.sz]; exact ht)]; rfl
 ·rw [show (s == t) = false by simpa using hst] at hs
  exact h.get s v hs
section
variable {St : Nat → Prop} {w0 w : World} {its pre post : List Item} {mk mk1 mk2 : Mk} {D : Nat → Bool} {u : Nat → Value} {i s b : Nat} {v : Value} {z c : List Value}
theorem noti (h : (mk.all fun p=>p.1.all fun k=>k != i) = true) : ∀ p ∈ mk,i ∉ p.1:=by
 intro p hp hm
 have:=List.all_eq_true.1 (List.all_eq_true.1 h p hp) i hm
 simp at this
theorem M.qKeep (h : M St w0 w (its ++ qL mk D u)) (hi : (mk.all fun p=>p.1.all fun k=>k != i) = true) : M St w0 w (its ++ qL mk (Yl D i) (VN u i v)):=by
 rw [Qz (noti hi)]; exact h
theorem Ap {mk1 mk2 : Mk} {p : List Nat × (List Bool → List Value → Item)} : qL (mk1 ++ p :: mk2) D u = qL mk1 D u ++ (p.2 (p.1.map D) (p.1.map u) :: qL mk2 D u):=by simp [qL]
theorem M.qPut {p : List Nat × (List Bool → List Value → Item)} {it : Item} (h : M St w0 w (it :: (its ++ qL (mk1 ++ p :: mk2) D u))) (hi : ((mk1 ++ mk2).all fun p=>p.1.all fun k=>k != i) = true)
  (h1 : p.2 (p.1.map D) (p.1.map u) = Go.Proofs.Ytkajmkegelcfjaa.emp) (h2 : p.2 (p.1.map (Yl D i)) (p.1.map (VN u i v)) = it) : M St w0 w (its ++ qL (mk1 ++ p :: mk2) (Yl D i) (VN u i v)):=by
 have hne:=noti hi
 rw [Ap] at h ⊢
 rw [Qz (fun p hp=>hne p (List.mem_append_left _ hp)),Qz (fun p hp=>hne p (List.mem_append_right _ hp)),h2]
 rw [h1] at h
 have h3 : M St w0 w ((it :: (its ++ qL mk1 D u)) ++ Go.Proofs.Ytkajmkegelcfjaa.emp :: qL mk2 D u):=by simpa using h
 have h4:=h3.pull.drop
 have h5 : M St w0 w (it :: ((its ++ qL mk1 D u) ++ qL mk2 D u)):=by simpa using h4
 simpa using M.push h5
theorem M.qFill {f : Value → Item} (h : M St w0 w (f v :: (its ++ qL (mk1 ++ mkO i f :: mk2) D u))) (hi : ((mk1 ++ mk2).all fun p=>p.1.all fun k=>k != i) = true) (hD : D i = false) :
  M St w0 w (its ++ qL (mk1 ++ mkO i f :: mk2) (Yl D i) (VN u i v)) :=
 M.qPut h hi (by simp [mkO,hD,Ky]) (by simp [mkO,Yl,VN,Jl])
theorem M.qAlloc (h : M St w0 w (raw b z :: (its ++ qL (mk1 ++ mkC i s z c :: mk2) D u))) (hi : ((mk1 ++ mk2).all fun p=>p.1.all fun k=>k != i) = true) (hD : D i = false) (hs : D s = false) (hne : s ≠ i) :
  M St w0 w (its ++ qL (mk1 ++ mkC i s z c :: mk2) (Yl D i) (VN u i (ptr b 0))):=by
 have h' : M St w0 w (Qk (ptr b 0) z :: (its ++ qL (mk1 ++ mkC i s z c :: mk2) D u)):=h.pack1 (fun w w' fp ⟨b',e,k⟩ hb=>⟨b',e,U1 w w' fp k hb⟩) fun fp k=>⟨b,rfl,k⟩
 refine M.qPut h' hi (by simp [mkC,hD,T6]) ?_
 simp [mkC,Yl,VN,T6,hne,hs]
theorem M.openCell {there stored : Bool} (h : M St w0 w (pre ++ T6 there stored v z c :: post)) (ht : there = true) : ∃ b,v = ptr b 0 ∧ M St w0 w (raw b (if stored = true then c else z) :: (pre ++ post)):=by
 have h1:=h.pull
 obtain ⟨fp,hfp,_⟩:=h1.head
 subst ht
 have e : T6 true stored v z c = Qk v (if stored = true then c else z):=by cases stored <;> rfl
 rw [e] at hfp h1
 obtain ⟨b,hb,_⟩:=hfp
 exact ⟨b,hb,h1.pack1 U1 fun fp ⟨b',e',k⟩=>by rw [hb] at e'; simp [ptr] at e'; subst e'; exact k⟩
theorem M.qStore (h : M St w0 w (raw b c :: (its ++ (qL mk1 D u ++ qL mk2 D u)))) (hi : ((mk1 ++ mk2).all fun p=>p.1.all fun k=>k != s) = true) (hj : D i = true) (hb : u i = ptr b 0) (hne : i ≠ s) :
  M St w0 w (its ++ qL (mk1 ++ mkC i s z c :: mk2) (Yl D s) (VN u s v)):=by
 have hne':=noti hi
 rw [Ap,Qz (fun p hp=>hne' p (List.mem_append_left _ hp)),Qz (fun p hp=>hne' p (List.mem_append_right _ hp))]
 have e : (mkC i s z c).2 ((mkC i s z c).1.map (Yl D s)) ((mkC i s z c).1.map (VN u s v)) = Qk (ptr b 0) c:=by
  simp [mkC,Yl,VN,T6,hne,hj,hb]
 rw [e]
 have h' : M St w0 w (Qk (ptr b 0) c :: (its ++ (qL mk1 D u ++ qL mk2 D u))):=h.pack1 (fun w w' fp ⟨b',e,k⟩ hb=>⟨b',e,U1 w w' fp k hb⟩) fun fp k=>⟨b,rfl,k⟩
 have h5 : M St w0 w (Qk (ptr b 0) c :: ((its ++ qL mk1 D u) ++ qL mk2 D u)):=by simpa using h'
 simpa using M.push h5
end

def tog (b : Bool) (A B : Item) : Item:=if b = true then B else A
def mkT (s : Nat) (A B : Item) : List Nat × (List Bool → List Value → Item):=([s],fun bs _=>tog (bs.headD false) A B)
section
variable {St : Nat → Prop} {w0 w : World} {its pre post : List Item} {mk mk1 mk2 : Mk} {D : Nat → Bool} {u : Nat → Value} {s : Nat} {v : Value} {A B : Item}
theorem M.q0 (h : M St w0 w its) (u : Nat → Value) : M St w0 w (its ++ qL [] (fun _=>false) u):=by simpa [qL] using h
theorem M.qE {p : List Nat × (List Bool → List Value → Item)} (h : M St w0 w (its ++ qL mk (fun _=>false) u)) (he : ∀ us,p.2 (p.1.map fun _=>false) us = Go.Proofs.Ytkajmkegelcfjaa.emp) : M St w0 w (its ++ qL (p :: mk) (fun _=>false) u):=by
 have : M St w0 w (Go.Proofs.Ytkajmkegelcfjaa.emp :: (its ++ qL mk (fun _=>false) u)):=h.emp
 rw [← he (p.1.map u)] at this
 exact M.push this
theorem M.qT (h : M St w0 w ((A :: its) ++ qL mk (fun _=>false) u)) : M St w0 w (its ++ qL (mkT s A B :: mk) (fun _=>false) u):=M.push (pre:=its) (post:=qL mk (fun _=>false) u) h
theorem emO {j : Nat} {f : Value → Item} : ∀ us,(mkO j f).2 ((mkO j f).1.map fun _=>false) us = Go.Proofs.Ytkajmkegelcfjaa.emp:=fun _=>by simp [mkO,Ky]
theorem emC {j s : Nat} {z c : List Value} : ∀ us,(mkC j s z c).2 ((mkC j s z c).1.map fun _=>false) us = Go.Proofs.Ytkajmkegelcfjaa.emp:=fun _=>rfl
theorem M.togA {b : Bool} (h : M St w0 w (pre ++ tog b A B :: post)) (hb : b = false) : M St w0 w (pre ++ A :: post):=by subst hb; exact h
theorem M.togB {b : Bool} (h : M St w0 w (pre ++ tog b A B :: post)) (hb : b = true) : M St w0 w (pre ++ B :: post):=by subst hb; exact h
theorem M.qTog (h : M St w0 w (B :: (its ++ (qL mk1 D u ++ qL mk2 D u)))) (hi : ((mk1 ++ mk2).all fun p=>p.1.all fun k=>k != s) = true) : M St w0 w (its ++ qL (mk1 ++ mkT s A B :: mk2) (Yl D s) (VN u s v)):=by
 have hne':=noti hi
 rw [Ap,Qz (fun p hp=>hne' p (List.mem_append_left _ hp)),Qz (fun p hp=>hne' p (List.mem_append_right _ hp))]
 have e : (mkT s A B).2 ((mkT s A B).1.map (Yl D s)) ((mkT s A B).1.map (VN u s v)) = B:=by simp [mkT,Yl,tog]
 rw [e]
 have h5 : M St w0 w (B :: ((its ++ qL mk1 D u) ++ qL mk2 D u)):=by simpa using h
 simpa using M.push h5
end

def DrawI3 (P : Program) (l hd tl : List Oper) (Q : Exit → Act → World → Prop) (n : Nat) (ts : List Nat) (e0 : List (Nat × Value)) (I : (Nat → Bool) → (Nat → Value) → World → Prop) (listed : Array Bool) (a : Act) (w : World) : Prop :=
 ((∀ i,i < hd.length → dn listed i) ∧ ∃ k,k ≤ tl.length ∧ (∀ j,j < k → dn listed (hd.length + j)) ∧ (∀ j,k ≤ j → j < tl.length → ¬ dn listed (hd.length + j)) ∧ wpList P l.toArray Q (tl.drop k) a w) ∨
 ((¬ ∀ i,i < hd.length → dn listed i) ∧ (∀ j,hd.length ≤ j → ¬ dn listed j) ∧ ∃ u,Env n a (Tb ts 0 u e0) ∧ I (fun j=>listed.getD j false) u w)

theorem Vj {P : Program} {id : Nat} {hd tl : List Oper} {Q : Exit → Act → World → Prop} {a : Act} {w : World} {n : Nat} {e0 : List (Nat × Value)}
  (hm : P.follows .mixedOrders = true) (hE : Kq (hd ++ tl) 0 = true) (hT : BM (hd ++ tl) hd.length = true)
  (ts : List Nat) (hn : ts.Nodup) (I : (Nat → Bool) → (Nat → Value) → World → Prop)
  (h0 : Env n a e0) (hM0 : ∀ u,I (fun _=>false) u w.drew)
  (hstep : ∀ (i : Nat) (o : Oper),hd[i]? = some o → ∀ a w (u : Nat → Value) (D : Nat → Bool),Env n a (Tb ts 0 u e0) → I D u w → D i = false → (∀ (j : Nat) (p : Oper) (e : Edge),hd[j]? = some p → e ∈ p.after.toList → Region.binds .any e = true → D j = true → D e.on = true) →
   (∀ (k : Nat) (e : Edge),o.after.toList[k]? = some e → Region.binds .any e = true → D e.on = true) →
   wpList P (hd ++ tl).toArray (nrm fun a' w'=>∃ v t,ts[i]? = some t ∧ Env n a' ((t,v) :: Tb ts 0 u e0) ∧ I (Yl D i) (VN u i v) w') [o] a w)
  (htail : ∀ a w u D,Env n a (Tb ts 0 u e0) → I D u w → (∀ j,j < hd.length → D j = true) → wpList P (hd ++ tl).toArray Q tl a w) :
  (Code.region id (hd ++ tl).toArray true).wp P Q a w:=by
 refine wp_region_any hm ?_
 generalize hl : hd ++ tl = l at *
 have hln : l.length = hd.length + tl.length:=by rw [← hl]; simp
 have hbl : (bef l []).length = l.length:=by
  have : ∀ (r : List Oper) (acc : List Nat),(bef r acc).length = acc.length + r.length:=by
   intro r; induction r with
   | nil=>intro acc; simp [bef]
   | cons o r ih=>intro acc; rw [bef,ih]; simp; omega
  rw [this]; simp
 have tailDone : ∀ listed i o,l[i]? = some o → hd.length ≤ i → Bb l (dn listed) → (∀ e ∈ o.after.toList,Region.binds .any e = true → dn listed e.on) → ∀ j,j < i → dn listed j:=by
  intro listed i o hi hle hdc hp j hj
  have hil:=(List.getElem?_eq_some_iff.1 hi).1
  have hbit : ((bef l []).getD i 0).testBit j = true:=by
   unfold BM at hT
   simp only [List.all_eq_true] at hT
   have:=hT i (by simpa using hil)
   simp only [Bool.or_eq_true,decide_eq_true_eq,List.all_eq_true] at this
   rcases this with h | h
   ·omega
   ·exact h j (by simpa using hj)
  exact Jr l l [] 0 rfl (by simp) (fun i hi=>absurd hi (Nat.not_lt_zero i)) i (by rw [hbl]; exact hil) (dn listed) hdc (fun o' e ho' he hb=>by rw [hi] at ho'; cases ho'; exact hp e he hb) j hbit
 have hfuel : ((List.range l.length).filter fun i=>!(Array.replicate l.toArray.size false).getD i false).length ≤ l.toArray.size:=by
  refine Nat.le_trans (List.length_filter_le _ _) ?_; simp
 have hnot0 : ∀ i,¬ dn (Array.replicate l.toArray.size false) i:=by
  intro i; unfold dn; rw [Array.getD_eq_getD_getElem?,Array.getElem?_replicate]; split <;> simp
 refine QK hE (DrawI3 P l hd tl Q n ts e0 I) ?_ ?_ _ _ _ _ (by simp) hfuel (fun i o e _ _ _ h=>absurd h (hnot0 i)) ?_
 ·intro listed i o a w hsz hi hnd hdc hp hI
  have hil:=(List.getElem?_eq_some_iff.1 hi).1
  by_cases hh : i < hd.length
  ·-- a head operation
   have hnall : ¬ ∀ i,i < hd.length → dn listed i:=fun h=>hnd (h i hh)
   obtain ⟨h,_⟩ | ⟨_,ht0,u,k1,k2⟩:=hI
   ·exact absurd h hnall
   have hio : hd[i]? = some o:=by rw [← hl] at hi; rwa [List.getElem?_append_left hh] at hi
   refine Ai (by simpa using hi) ?_
   have hs:=hstep i o hio a w u (fun j=>listed.getD j false) k1 k2 (by simpa [dn] using hnd) (fun j p e hj he hb hdj=>hdc j p e (by rw [← hl,List.getElem?_append_left (List.getElem?_eq_some_iff.1 hj).1]; exact hj) he hb hdj) (fun k e hk hb=>hp e (List.mem_of_getElem? hk) hb)
   have hmono : ∀ (X Y : Act → World → Prop),(∀ a w,X a w → Y a w) → ∀ a w,wpList P l.toArray (nrm X) [o] a w → wpList P l.toArray (nrm Y) [o] a w:=by
    intro X Y hXY a w h
    unfold wpList at h ⊢
    split
    ·rename_i hw
     rw [if_pos hw] at h
     rcases h with h | ⟨_,a',w',h⟩
     ·exact .inl (Oper.wp_mono2 (fun _ _ h=>hXY _ _ h) (fun _ _ _ h=>h.elim) (fun ⟨_,_,h⟩=>h.elim) h)
     ·exact h.elim
    ·rename_i hw
     rw [if_neg hw] at h
     exact hXY _ _ h
   refine hmono _ _ ?_ a w hs
   rintro a' w' ⟨v,t,hti,hEnv,hM'⟩
   have hEnv':=hEnv.upd hn hti
   have hset : ∀ j,dn (listed.setIfInBounds i true) j ↔ (j = i ∨ dn listed j):=fun j=>QD (by omega)
   have hD : (fun j=>(listed.setIfInBounds i true).getD j false) = Yl (fun j=>listed.getD j false) i:=by
    funext j
    unfold Yl
    by_cases hj : j = i
    ·rw [if_pos hj]; exact (hset j).2 (.inl hj)
    ·rw [if_neg hj]
     rw [Bool.eq_iff_iff]
     exact (hset j).trans ⟨fun h=>h.resolve_left hj,.inr⟩
   have htn : ∀ j,hd.length ≤ j → ¬ dn (listed.setIfInBounds i true) j:=by
    intro j hj hd'
    rcases (hset j).1 hd' with rfl | hj'
    ·omega
    ·exact ht0 j hj hj'
   rw [← hD] at hM'
   by_cases hall : ∀ j,j < hd.length → dn (listed.setIfInBounds i true) j
   ·exact .inl ⟨hall,0,Nat.zero_le _,fun j hj=>by omega,fun j _ _=>htn _ (by omega),htail a' w' _ _ hEnv' hM' (fun j hj=>hall j hj)⟩
   ·exact .inr ⟨hall,htn,_,hEnv',hM'⟩
  ·have hdone:=tailDone listed i o hi (by omega) hdc hp
   have hall : ∀ j,j < hd.length → dn listed j:=fun j hj=>hdone j (by omega)
   obtain ⟨_,k,hk,k1,k2,k3⟩ | ⟨h,_⟩:=hI
   case inr=>exact absurd hall h
   have hki : hd.length + k = i:=by
    rcases Nat.lt_trichotomy (hd.length + k) i with h | h | h
    ·exact absurd (hdone _ h) (k2 k (Nat.le_refl _) (by omega))
    ·exact h
    ·exact absurd (by have:=k1 (i - hd.length) (by omega); rwa [show hd.length + (i - hd.length) = i by omega] at this) hnd
   have hto : tl[k]? = some o:=by
    rw [← hl] at hi
    rw [List.getElem?_append_right (by omega)] at hi
    rwa [show i - hd.length = k by omega] at hi
   have hdr : tl.drop k = o :: tl.drop (k + 1):=by
    rw [List.drop_eq_getElem_cons (List.getElem?_eq_some_iff.1 hto).1]
    congr 1
    exact (List.getElem?_eq_some_iff.1 hto).2
   rw [hdr] at k3
   refine wpOp_mono (fun a' w' hl=>?_) (J9 (by simpa using hi) k3)
   have hset : ∀ j,dn (listed.setIfInBounds i true) j ↔ (j = i ∨ dn listed j):=fun j=>QD (by omega)
   have hall' : ∀ j,j < hd.length → dn (listed.setIfInBounds i true) j:=fun j hj=>(hset j).2 (.inr (hall j hj))
   refine .inl ⟨hall',k + 1,(List.getElem?_eq_some_iff.1 hto).1,fun j hj=>(hset _).2 ?_,fun j hj1 hj2 hd'=>?_,hl⟩
   ·rcases Nat.lt_or_ge j k with h | h
    ·exact .inr (k1 j h)
    ·exact .inl (by omega)
   ·rcases (hset _).1 hd' with h | h
    ·omega
    ·exact k2 j (by omega) hj2 h
 ·intro listed a w hsz hall hI
  have hall' : ∀ i,i < hd.length → dn listed i:=fun i hi=>hall i (by omega)
  obtain ⟨_,k,hk,k1,k2,k3⟩ | ⟨h,_⟩:=hI
  case inr=>exact absurd hall' h
  have : k = tl.length:=by
   rcases Nat.lt_or_ge k tl.length with h | h
   ·exact absurd (hall (hd.length + k) (by omega)) (k2 k (Nat.le_refl _) h)
   ·omega
  subst this
  rw [List.drop_length] at k3
  exact k3
 ·have hu : ∀ (r : List Nat) (j : Nat) (u : Nat → Value),(∀ k t,r[k]? = some t → u (j + k) = a.tmps.getD t undef) → Env n a (Tb r j u e0):=by
   intro r
   induction r with
   | nil=>intro j u _; exact h0
   | cons t r ih =>
    intro j u hu
    have h1:=ih (j + 1) u (fun k s hk=>by have:=hu (k + 1) s (by simpa using hk); rwa [show j + (k + 1) = j + 1 + k by omega] at this)
    refine ⟨h1.sz,h1.df,fun s x hs=>?_⟩
    simp only [Tb,List.lookup_cons] at hs
    by_cases hst : s = t
    ·subst hst
     simp at hs
     rw [← hs]
     exact (hu 0 s rfl).symm
    ·rw [show (s == t) = false by simpa using hst] at hs
     exact h1.get s x hs
  have hEnv : Env n a (Tb ts 0 (fun j=>a.tmps.getD (ts.getD j 0) undef) e0):=hu ts 0 _ (fun k t hk=>by simp [List.getD_eq_getElem?_getD,hk])
  have hDf : (fun j=>(Array.replicate l.toArray.size false).getD j false) = fun _=>false:=by
   funext j
   have:=hnot0 j
   unfold dn at this
   simpa using this
  by_cases hall : ∀ i,i < hd.length → dn (Array.replicate l.toArray.size false) i
  ·have hnil : hd.length = 0:=by
    rcases Nat.eq_zero_or_pos hd.length with h | h
    ·exact h
    ·exact absurd (hall 0 h) (hnot0 0)
   exact .inl ⟨hall,0,Nat.zero_le _,fun j hj=>by omega,fun j _ _=>hnot0 _,htail a _ _ _ hEnv (hM0 _) (fun j hj=>by omega)⟩
  ·refine .inr ⟨hall,fun j _=>hnot0 j,_,hEnv,?_⟩
   rw [hDf]
   exact hM0 _
end Go.Proofs.Ytkajmkegelcfjaa
namespace Go.Proofs.Ytkajmkegelcfjaa
open Go

abbrev FillA (sz : Nat) (z : List Value) (parts : List (Nat × Value)) (cs : List Value) : Prop:=Instr.fill (fun i=>some (i * sz,sz)) z.toArray parts = some cs.toArray
theorem ZZ {sz : Nat} {z : List Value} : FillA sz z [] z:=rfl
theorem Ye {α : Type} [Flat α] {N : Nat} {v : Vector α N} {rest : List (Nat × Value)} {i : Nat} {u : Value} {x : α} {cs : List Value} {sz : Nat}
  (hs : sz = Flat.n α) (hi : i < N) (hv : u.cells.toList = Flat.enc x) (hr : FillA sz (Flat.enc (v.setIfInBounds i x)) rest cs) : FillA sz (Flat.enc v) ((i,u) :: rest) cs:=by
 subst hs
 have hi' : (0 : Int) ≤ (i : Int) ∧ (i : Int) < N:=⟨by omega,by omega⟩
 have hus : u.cells.size = Flat.n α:=by
  have:=congrArg List.length hv
  simpa [Flat.len] using this
 have hfit : i * Flat.n α + u.cells.toList.length ≤ (Flat.enc v).length:=by
  have:=ZN (v:=v) (x:=x) hi'
  rw [hv]
  simpa using this
 have hf:=TM u.cells.toList 0 (i * Flat.n α) (Flat.enc v).toArray (by simpa using hfit)
 have hz : u.cells.zipIdx.foldl (fun cs (c,j)=>cs.setIfInBounds (i * Flat.n α + j) c) (Flat.enc v).toArray = (Ys (Flat.enc v) (i * Flat.n α) u.cells.toList).toArray:=by
  rw [← Array.foldl_toList,Array.toList_zipIdx]
  simpa using hf
 have hsp:=Bd (ye (v:=v) (x:=x) hi')
 unfold FillA
 rw [Instr.fill]
 simp only []
 rw [if_neg (by
  have h1 : i * Flat.n α + u.cells.size ≤ (Flat.enc v).length:=by simpa using hfit
  simp [hus] at h1 ⊢
  omega)]
 rw [hz,hv]
 have e : ((i : Int)).toNat = i:=rfl
 rw [e] at hsp
 rw [hsp]
 exact hr
section
variable {n : Nat} {a : Act} {e : List (Nat × Value)} {w w' : World} {P : Program} {ops : Array Oper} {rest : List Oper} {Q : Exit → Act → World → Prop}
variable {d : Nat} {ty t : TypeId} {pos : String} {af : Array Edge} {g : Option (Nat × Bool)} {x y : Operand} {v u : Value}
theorem zL {parts : List (Nat × Operand)} {vs : List (Nat × Value)} (h : Env n a e) (hxs : Q1 e (parts.map (·.2)) = some (vs.map (·.2))) (hix : parts.map (·.1) = vs.map (·.1)) :
  (parts.map fun (p : Nat × Operand)=>(p.1,a.eval p.2)) = vs:=by
 have h1:=h.evs hxs
 rw [List.map_map] at h1
 apply List.ext_getElem?
 intro i
 have e1 : (parts.map (·.1))[i]? = (vs.map (·.1))[i]?:=by rw [hix]
 have e2 : (parts.map (a.eval ∘ fun (p : Nat × Operand)=>p.2))[i]? = (vs.map (·.2))[i]?:=by rw [h1]
 simp only [List.getElem?_map] at e1 e2 ⊢
 cases hp : parts[i]? with
 | none =>
  rw [hp] at e1
  cases hq : vs[i]? with
  | none=>rfl
  | some q=>rw [hq] at e1; simp at e1
 | some p =>
  rw [hp] at e1 e2
  cases hq : vs[i]? with
  | none=>rw [hq] at e1; simp at e1
  | some q =>
   rw [hq] at e1 e2
   simp only [Option.map_some,Option.some.injEq] at e1 e2 ⊢
   exact Prod.ext e1 e2
theorem Z7 {el N : Nat} {parts : List (Nat × Operand)} {vs : List (Nat × Value)} {z cs ze : List Value} {sz by_ esz eby : Nat} {D De : TypeDesc} (h : Env n a e) (hw : Goes ops ⟨some d,.build t parts.toArray,ty,pos,af,g⟩ a) (hd : d < n)
  (hxs : Q1 e (parts.map (·.2)) = some (vs.map (·.2))) (hix : parts.map (·.1) = vs.map (·.1)) (ht : Ty P t D sz by_ z) (hD : D = .array N el) (he : Ty P el De esz eby ze) (hf : FillA esz z vs cs)
  (k : ∀ a,Env n a ((d,.agg cs.toArray) :: e) → wpList P ops Q rest a w) : wpList P ops Q (⟨some d,.build t parts.toArray,ty,pos,af,g⟩ :: rest) a w:=by
 refine XC h hw rfl hd (w':=w) ?_ k
 have hvals:=zL h hxs hix
 have hb : P.built t vs = some cs.toArray:=by
  obtain ⟨i,zv,h1,h2,_,h3,h4⟩:=ht.get
  obtain ⟨ie,_,k1,k2,_,_,_⟩:=he.get
  have hu:=ht.und
  rw [hD] at hu
  unfold Program.built
  rw [h1,hu]
  simp only [h3,k1,k2]
  have h5 : zv.cells = z.toArray:=by rw [← h4]
  simp only [h5]
  exact hf
 simp only [execOp]
 have : (parts.toArray.map fun (p : Nat × Operand)=>(p.1,a.eval p.2)) = vs.toArray:=by rw [List.map_toArray,hvals]
 simp only [Sem.run_bind]
 rw [show (Instr.build t (parts.toArray.map fun (i,x)=>(i,a.eval x))).run P w = .ok (.agg cs.toArray) w from by
  have h2:=run_build (P:=P) w t (parts.toArray.map fun (i,x)=>(i,a.eval x)) cs.toArray (by
   have : (parts.toArray.map fun (i,x)=>(i,a.eval x)).toList = vs:=by simpa using hvals
   rw [this]; exact hb)
  exact h2]
 rfl

theorem enc_at {α : Type} [Flat α] {N i : Nat} {v : Vector α N} {x : α} (hi : v.toList[i]? = some x) : ∃ c1 c2,Flat.enc v = c1 ++ (Flat.enc x ++ c2) ∧ c1.length = i * Flat.n α:=by
 refine ⟨Y5 (v.toList.take i),Y5 (v.toList.drop (i + 1)),Tl hi,?_⟩
 rw [VQ,List.length_take,Nat.min_eq_left (Nat.le_of_lt (List.getElem?_eq_some_iff.1 hi).1)]
theorem Ts {α : Type} [Flat α] {N el sz by_ : Nat} {z : List Value} {De : TypeDesc} {K : IntKind} {i : Int} {v : Vector α N} {x0 : α} (h : Env n a e) (hw : Goes ops ⟨some d,.index t x y,ty,pos,af,g⟩ a) (hd : d < n)
  (hx : opv e x = some (.agg (Flat.enc v).toArray)) (hy : opv e y = some (.int K i)) (ht : P.underlying t = some (.array N el)) (he : Ty P el De sz by_ z) (hD : Qe De = false) (hs : sz = Flat.n α) (hi : (0 ≤ i ∧ i < N) ∧ v.toList[i.toNat]? = some x0) (hu : Flat.enc x0 = [u])
  (k : ∀ a,Env n a ((d,u) :: e) → wpList P ops Q rest a w) : wpList P ops Q (⟨some d,.index t x y,ty,pos,af,g⟩ :: rest) a w:=by
 obtain ⟨c1,c2,e1,e2⟩:=enc_at hi.2
 subst hs
 have hg : (Flat.enc v)[i.toNat * Flat.n α]? = some u:=by
  rw [e1,hu,← e2]
  simp
 exact XC h hw rfl hd (by
  simp only [execOp,h.ev hx,h.ev hy]
  simp [Instr.index,asIntOf,run_underlying ht,hi.1,XM he,part,TT he,hD,hg]) k
theorem Z9 {b o : Nat} (h : Env n a e) (hw : Goes ops ⟨some d,.nilCheck x,ty,pos,af,g⟩ a) (hd : d < n) (hx : opv e x = some (ptr b o))
  (k : ∀ a,Env n a ((d,ptr b o) :: e) → wpList P ops Q rest a w) : wpList P ops Q (⟨some d,.nilCheck x,ty,pos,af,g⟩ :: rest) a w :=
 XC h hw rfl hd (by simp only [execOp,h.ev hx]; rfl) k
end
theorem jB {α : Type} [Flat α] {N b : Nat} {w : World} {v : Vector α N} (h : At w b 0 (Flat.enc v)) : Rep.sat (fun c=>c = b) w v.toList [.slice (some ⟨b,0,none⟩) N N] []:=by
 refine ⟨some ⟨b,0,none⟩,N,by simp,by simp,fun _=>rfl,Flat.enc v,[],?_,h,.inl ⟨fun _=>rfl,rfl⟩⟩
 show Yb _ w v.toList (Y5 v.toList) []
 generalize v.toList = l
 induction l with
 | nil=>exact ⟨rfl,rfl⟩
 | cons x l ih=>exact ⟨_,_,[],[],rfl,rfl,⟨rfl,rfl⟩,ih⟩
section
variable {n : Nat} {a : Act} {e : List (Nat × Value)} {w w' : World} {P : Program} {ops : Array Oper} {rest : List Oper} {Q : Exit → Act → World → Prop}
variable {d : Nat} {ty t : TypeId} {pos : String} {af : Array Edge} {g : Option (Nat × Bool)} {x y : Operand} {v u : Value}
theorem Tz {N el sz by_ b : Nat} {z : List Value} {D : TypeDesc} {K : IntKind} {i : Int} (h : Env n a e) (hw : Goes ops ⟨some d,.indexAddr t x y,ty,pos,af,g⟩ a) (hd : d < n)
  (hx : opv e x = some (.slice (some ⟨b,0,none⟩) N N)) (hy : opv e y = some (.int K i)) (ht : P.underlying t = some (.slice el)) (he : Ty P el D sz by_ z) (hi : 0 ≤ i ∧ i < N)
  (k : ∀ a,Env n a ((d,ptr b (0 + i.toNat * sz)) :: e) → wpList P ops Q rest a w) : wpList P ops Q (⟨some d,.indexAddr t x y,ty,pos,af,g⟩ :: rest) a w :=
 XC h hw rfl hd (by
  simp only [execOp,h.ev hx,h.ev hy]
  simp [Instr.indexAt,asIntOf,run_underlying ht,Instr.sureAddr,hi,XM he,Addr.add_lit]) k
end
theorem k_ret0 {n : Nat} {a : Act} {e : List (Nat × Value)} {w : World} {P : Program} {fn : Func} {R : Ending → World → Prop} (hE : Env n a e) (hres : fn.results = #[]) (hR : R (.returned (.tuple [].toArray)) w) : bodyPost P fn R .ret a w:=by
 refine bodyPost_ret ?_ hE.df hR
 rw [Th,hres]
 simp
theorem j0 {n : Nat} {a : Act} {e : List (Nat × Value)} {w : World} {P : Program} {fn : Func} {R : Ending → World → Prop} (hE : Env n a e) (hres : fn.results = #[]) (hR : R (.returned (.tuple [].toArray)) w) : bodyPost P fn R .normal a w:=k_ret0 hE hres hR
structure Ref (α : Type) where
 v : α
 deriving DecidableEq,Inhabited
instance {α : Type} [Dat α] : Dat (Ref α):=⟨fun x=>Dat.bd x.v,fun x=>Dat.sz x.v + 1⟩
def RefSat {α : Type} [Rep α] (S : Nat → Prop) (w : World) (x : Ref α) (cs : List Value) (fp : List Nat) : Prop :=
 ∃ b ds fpe,cs = [ptr b 0] ∧ Rep.sat S w x.v ds fpe ∧ At w b 0 ds ∧ ((S b ∧ fp = fpe) ∨ (fp = b :: fpe ∧ ∃ T,w.heap[b]? = some (.cells ds.toArray T (0,0))))
instance {α : Type} [Rep α] : Rep (Ref α) where
 n:=1
 sat:=RefSat
 len:=by rintro S w x cs fp ⟨b,ds,fpe,rfl,_⟩; rfl
 loc:=by
  rintro S w w' x cs fp ⟨b,ds,fpe,rfl,h1,h2,h3⟩ hb
  rcases h3 with ⟨h3,rfl⟩ | ⟨rfl,T,h3⟩
  ·exact ⟨b,ds,fp,rfl,Rep.loc h1 hb,h2.loc (hb _ (.inr h3)),.inl ⟨h3,rfl⟩⟩
  ·exact ⟨b,ds,fpe,rfl,Rep.loc h1 (fun b h=>hb b (by simp; grind)),h2.loc (hb _ (by simp)),.inr ⟨rfl,T,by rw [hb _ (by simp)]; exact h3⟩⟩
 ro:=by
  rintro S S' w x cs fp ⟨b,ds,fpe,rfl,h1,h2,h3⟩ hb
  rcases h3 with ⟨h3,rfl⟩ | ⟨rfl,T,h3⟩
  ·exact ⟨b,ds,[],rfl,Rep.ro h1 hb,h2,.inl ⟨hb _ (.inr h3),rfl⟩⟩
  ·exact ⟨b,ds,[],rfl,Rep.ro h1 (fun b h=>hb b (by simp; grind)),h2,.inl ⟨hb _ (by simp),rfl⟩⟩
 wk:=by
  rintro S S' w x cs fp ⟨b,ds,fpe,rfl,h1,h2,h3⟩ hb
  rcases h3 with ⟨h3,rfl⟩ | ⟨rfl,T,h3⟩
  ·exact ⟨b,ds,fp,rfl,Rep.wk h1 hb,h2,.inl ⟨hb _ h3,rfl⟩⟩
  ·exact ⟨b,ds,fpe,rfl,Rep.wk h1 hb,h2,.inr ⟨rfl,T,h3⟩⟩
 lt:=by
  rintro S w x cs fp ⟨b,ds,fpe,rfl,h1,h2,h3⟩ c hc
  rcases h3 with ⟨h3,rfl⟩ | ⟨rfl,T,h3⟩
  ·exact Rep.lt h1 c hc
  ·rcases List.mem_cons.1 hc with rfl | hc
   ·rcases Nat.lt_or_ge c w.heap.size with h | h
    ·exact h
    ·rw [Array.getElem?_eq_none h] at h3; cases h3
   ·exact Rep.lt h1 c hc
 cell:=by
  rintro S w x cs fp ⟨b,ds,fpe,rfl,_⟩ v hv
  simp at hv; subst hv; rfl
section
variable {α : Type} [Rep α] {S : Nat → Prop} {w w0 : World} {x : Ref α} {fp : List Nat} {u : Value} {St : Nat → Prop} {its : List Item} {b : Nat} {ds : List Value}
theorem J7 (h : Rep.sat S w x [u] fp) : u.cells.toList = [u]:=by obtain ⟨b,ds,fpe,e,_⟩:=h; obtain rfl:=(List.cons.inj e).1; rfl
theorem Kv {cs : List Value} (h : Rep.sat S w x cs fp) : ∃ v,cs = [v]:=by obtain ⟨b,ds,fpe,e,_⟩:=h; exact ⟨_,e⟩
theorem Vt (h : Rep.sat S w x [u] []) : ∃ b ds,u = ptr b 0 ∧ Rep.sat S w x.v ds [] ∧ At w b 0 ds ∧ S b:=by
 obtain ⟨b,ds,fpe,e,h1,h2,h3⟩:=h
 rcases h3 with ⟨h3,rfl⟩ | ⟨h3,_⟩
 ·exact ⟨b,ds,(List.cons.inj e).1,h1,h2,h3⟩
 ·cases h3
theorem M.toRef {x : α} {S : Nat → Prop} (h : M St w0 w (raw b ds :: own S x ds :: its)) (hS : ∀ b,S b → St b) : M St w0 w (own S (⟨x⟩ : Ref α) [ptr b 0] :: its) :=
 h.pack2 (Jx hS) fun f g h1 h2=>by
  obtain ⟨rfl,T,h3⟩:=h1
  exact ⟨b,ds,g,rfl,h2,At.of_heap h3,.inr ⟨rfl,T,h3⟩⟩
theorem M.toRefF {α : Type} [Flat α] {x : α} (h : M St w0 w (raw b (Flat.enc x) :: its)) : M St w0 w (own NoB (⟨x⟩ : Ref α) [ptr b 0] :: its) :=
 h.pack1 (Jx fun _ h=>h.elim) fun f h1=>by
  obtain ⟨rfl,T,h3⟩:=h1
  exact ⟨b,Flat.enc x,[],rfl,⟨rfl,rfl⟩,At.of_heap h3,.inr ⟨rfl,T,h3⟩⟩
end
end Go.Proofs.Ytkajmkegelcfjaa
namespace Go.Proofs.Ytkajmkegelcfjaa
open Go

section
variable {n : Nat} {a : Act} {e : List (Nat × Value)} {w w' : World} {P : Program} {ops : Array Oper} {rest : List Oper} {Q : Exit → Act → World → Prop}
variable {d : Nat} {ty t : TypeId} {pos : String} {af : Array Edge} {g : Option (Nat × Bool)} {x y : Operand} {v u : Value}
variable {St : Nat → Prop} {w0 : World} {its : List Item}

def yg {α : Type} [Rep α] (w : World) : List α → List Value → Prop
 | [],[]=>True
 | x :: l,v :: vs=>Ro w x [v] ∧ yg w l vs
 | _,_=>False
theorem yg.elems {α : Type} [Rep α] {w : World} : ∀ {l : List α} {vs : List Value},yg w l vs → Yb (Old w) w l vs []
 | [],[],_=>⟨rfl,rfl⟩
 | _ :: _,v :: vs,h=>⟨[v],vs,[],[],rfl,rfl,h.1,yg.elems h.2⟩
 | [],_ :: _,h=>h.elim
 | _ :: _,[],h=>h.elim
def toArr {α : Type} (N : Nat) (l : List α) : Option (Vector α N):=if h : N ≤ l.length then some ⟨(l.take N).toArray,by simp [h]⟩ else none
theorem Yb.takeF {α : Type} [Rep α] {S : Nat → Prop} {w : World} : ∀ {l : List α} {cs : List Value} {fp : List Nat} (k : Nat),Yb S w l cs fp → ∃ f g,fp = f ++ g ∧ Yb S w (l.take k) (cs.take (k * Rep.n α)) f
 | l,cs,fp,0,h=>⟨[],fp,rfl,by simp [Yb]⟩
 | [],cs,fp,k + 1,h=>by obtain ⟨rfl,rfl⟩:=h; exact ⟨[],[],rfl,by simp [Yb]⟩
 | x :: l,cs,fp,k + 1,h=>by
  obtain ⟨c,cs',f,fp',rfl,rfl,h1,h2⟩:=h
  obtain ⟨f1,g1,rfl,h3⟩:=Yb.takeF k h2
  refine ⟨f ++ f1,g1,by simp,?_⟩
  rw [List.take_succ_cons,Nat.add_mul,Nat.one_mul,Nat.add_comm,show Rep.n α + k * Rep.n α = c.length + k * Rep.n α by rw [Rep.len h1],List.take_length_add_append]
  exact ⟨c,_,f,f1,rfl,rfl,h1,h3⟩
theorem Vy.cut {α : Type} [Rep α] {S : Nat → Prop} {l r : List α} {fp : List Nat} {j : Int} (h : Vy S w l v fp) (hb : slc l 0 j = some r) : ∃ fp',Vy S w r (VG v (0 : Int).toNat j.toNat (Rep.n α)) fp' ∧ fp'.Sublist fp:=by
 obtain ⟨⟨_,h1,h2⟩,rfl⟩:=Jq hb
 obtain ⟨p,cap,rfl,hc,h⟩:=h
 have e0 : (0 : Int).toNat = 0:=rfl
 have hlen : ((l.take j.toNat).drop 0).length = j.toNat:=by simp; omega
 rw [e0,List.drop_zero] at *
 rcases h with ⟨rfl,rfl,hp⟩ | ⟨b,o,ecs,fpe,rfl,k1,k2,rfl,k3⟩
 ·have : j.toNat = 0:=by omega
  rw [this] at *
  refine ⟨[],⟨p,0,by simp [VG],by simp,.inl ⟨rfl,rfl,hp⟩⟩,List.nil_sublist _⟩
 ·obtain ⟨f,g,rfl,k4⟩:=Yb.takeF j.toNat k1
  have hadd : (if cap = 0 then some (⟨b,o,none⟩ : Addr) else some ((⟨b,o,none⟩ : Addr).add (0 * Rep.n α))) = some ⟨b,o,none⟩:=by
   split
   ·rfl
   ·rw [Addr.add_lit]; simp
  refine ⟨b :: f,⟨some ⟨b,o,none⟩,cap,?_,by rw [hlen]; omega,.inr ⟨b,o,_,f,rfl,k4,fun i c hi=>k2 i c ?_,rfl,k3⟩⟩,by simp⟩
  ·simp only [VG,Option.map_some,hlen,Nat.sub_zero,hadd]
  ·rw [List.getElem?_take] at hi
   split at hi
   ·exact hi
   ·cases hi
theorem M.cut {α : Type} [Rep α] {S : Nat → Prop} {l r : List α} {j : Int} (hM : M St w0 w (osl S l v :: its)) (hS : ∀ b,S b → St b) (hb : slc l 0 j = some r) : M St w0 w (osl S r (VG v (0 : Int).toNat j.toNat (Rep.n α)) :: its):=by
 refine hM.turn (new:=[osl S r _]) rfl rfl rfl (Nat.le_refl _) ?_
 intro fp hfp _ hnd
 obtain ⟨fp',h1,h2⟩:=Vy.cut hfp hb
 exact ⟨fun _ _ _=>rfl,fp',⟨fp',[],by simp,To hS,h1,rfl⟩,h2.nodup hnd,fun b hb=>.inl (h2.subset hb)⟩

end
theorem bU_shr (p q : Int) (h : 0 ≤ q) : shV .shr .u64 p q = some (vU (Tc p q)):=by simp [shV,Int.not_lt.2 h,Tc,IntKind.bits]
section
variable {n : Nat} {a : Act} {e : List (Nat × Value)} {w w' : World} {P : Program} {ops : Array Oper} {rest : List Oper} {Q : Exit → Act → World → Prop}
variable {d : Nat} {ty t : TypeId} {pos : String} {af : Array Edge} {g : Option (Nat × Bool)} {x y : Operand} {v u : Value}
variable {St : Nat → Prop} {w0 : World} {its : List Item}
def LitSat {α : Type} [Rep α] (S : Nat → Prop) (w : World) : List α → List Value → Prop
 | [],[]=>True
 | x :: l,v :: vs=>Rep.sat S w x [v] [] ∧ LitSat S w l vs
 | _,_=>False
end
end Go.Proofs.Ytkajmkegelcfjaa
namespace Go.Proofs.Ytkajmkegelcfjaa
open Go

def litP (v : Value) (m : Nat) (vs : List Value) : Item:=fun w fp=>∃ b,v = .slice (some ⟨b,0,none⟩) m m ∧ raw b vs w fp
def mkL (i : Nat) (ds : List Nat) (m : Nat) (f : List Value → List Value) : List Nat × (List Bool → List Value → Item):=(i :: ds,fun bs us=>opt (bs.headD false) (litP (us.headD undef) m (f us.tail)))
section
variable {St : Nat → Prop} {w0 w : World} {its pre post : List Item} {mk : Mk} {D : Nat → Bool} {u : Nat → Value} {i k m b : Nat} {ds : List Nat} {v : Value} {vs : List Value} {f : List Value → List Value}
end

def prm (a b : Bool) (x y : Item) : Item:=if b = true then y else opt a x
def mkP (j i : Nat) (f g : Value → Item) : List Nat × (List Bool → List Value → Item):=([j,i],fun bs us=>prm (bs.headD false) (bs.getD 1 false) (f (us.headD undef)) (g (us.getD 1 undef)))
section
variable {St : Nat → Prop} {w0 w : World} {its pre post : List Item} {mk1 mk2 : Mk} {D : Nat → Bool} {u : Nat → Value} {i j : Nat} {v : Value} {a b : Bool} {x y : Item} {f g : Value → Item}
end
def mkD (i s k : Nat) (z : List Value) (f : Value → List Value) : List Nat × (List Bool → List Value → Item):=([i,s,k],fun bs us=>T6 (bs.headD false) (bs.getD 1 false) (us.headD undef) z (f (us.getD 2 undef)))
section
variable {St : Nat → Prop} {w0 w : World} {its : List Item} {mk1 mk2 : Mk} {D : Nat → Bool} {u : Nat → Value} {i s k b : Nat} {v : Value} {z c c' : List Value} {f : Value → List Value}
end
theorem flq {α : Type} [Flat α] {x y : α} : (Flat.enc x).length = (Flat.enc y).length:=(Flat.len x).trans (Flat.len y).symm
theorem zle {a b : Nat} (h : a = b) : 0 + a ≤ b:=by omega
theorem bvx {α β : Type} {N : Nat} {v : Vector α N} {i : Int} {f : α → Option β} {r : β} (h : (ZI v i).bind f = some r) : ∃ x,((0 ≤ i ∧ i < N) ∧ v.toList[i.toNat]? = some x) ∧ f x = some r:=by
 obtain ⟨x,e,h⟩:=bind_some h
 exact ⟨x,yh e,h⟩
theorem bix {α β : Type} {l : List α} {i : Int} {f : α → Option β} {r : β} (h : (idx l i).bind f = some r) : ∃ x,((0 ≤ i ∧ i < l.length) ∧ l[i.toNat]? = some x) ∧ f x = some r:=by
 obtain ⟨x,e,h⟩:=bind_some h
 exact ⟨x,jy e,h⟩
theorem ois {α : Type} {x y : α} (h : some x = some y) : y = x:=(Option.some.inj h).symm
theorem nbl {a b : Nat} (h : Nat.ble a b = true) : a ≤ b:=Nat.le_of_ble_eq_true h
theorem ld {d n : Nat} (h : d < n:=by decide) : d < n:=h
def cmpB : List UInt8 → List UInt8 → Int
 | [],[]=>0
 | [],_ :: _=>-1
 | _ :: _,[]=>1
 | x :: l,y :: m=>if x < y then -1 else if y < x then 1 else cmpB l m
section
variable {n : Nat} {a : Act} {e : List (Nat × Value)} {w w' : World} {P : Program} {ops : Array Oper} {rest : List Oper} {Q : Exit → Act → World → Prop}
variable {d : Nat} {ty t : TypeId} {pos : String} {af : Array Edge} {g : Option (Nat × Bool)} {x y : Operand} {v u : Value}
end
end Go.Proofs.Ytkajmkegelcfjaa
namespace Go.Proofs.Ytkajmkegelcfjaa
open Go

theorem jr {P : Program} {t : TypeId} {v : Value} (h : (P.info? t).bind (·.zero) = some v) (w : World) : (zeroValue t).run P w = .ok v w:=by
 obtain ⟨i,h1,h2⟩:=Option.bind_eq_some_iff.1 h
 simp [zeroValue,typeInfo,h1,h2]
def WN {κ α : Type} [DecidableEq κ] : List (κ × α) → κ → Option α
 | [],_=>none
 | p :: m,k=>if p.1 = k then some p.2 else WN m k
def U2 {κ α : Type} [DecidableEq κ] : List (κ × α) → κ → α → List (κ × α)
 | [],k,x=>[(k,x)]
 | p :: m,k,x=>if p.1 = k then (k,x) :: m else p :: U2 m k x
def Uz {κ : Type} [DecidableEq κ] : List κ → List MapEntry → Nat → κ → Option (Nat × Value)
 | x :: ks,e :: es,i,k=>if x = k then some (i,e.val) else Uz ks es (i + 1) k
 | _,_,_,_=>none
structure KeyOk (P : Program) (t : TypeId) {κ : Type} [DecidableEq κ] (kv : κ → Value) : Prop where
 check : ∀ (e : Bool) (w : World) (k : κ),(Instr.checkKey e 10000 t (kv k)).run P w = .ok () w
 find : ∀ (w : World) (k : κ) (ks : List κ) (es : List MapEntry),es.map (·.key) = ks.map kv → (Instr.findKey t (kv k) es).run P w = .ok (Uz ks es 0 k) w
 same : ∀ k,Instr.sameBits 10000 (kv k) (kv k) = true
theorem Hc {K : IntKind} : ∀ (ks : List Int) (es : List MapEntry) (i : Nat) (k : Int),es.map (·.key) = ks.map (Value.int K) → Instr.findNow (.int K) (.int K k) es i = some (Uz ks es i k)
 | [],[],_,_,_=>rfl
 | [],_ :: _,_,_,h=>by simp at h
 | _ :: _,[],_,_,h=>by simp at h
 | x :: ks,e :: es,i,k,h=>by
  simp only [List.map_cons,List.cons.injEq] at h
  unfold Instr.findNow
  rw [h.1]
  simp only [Instr.sameNow,if_true,Uz]
  by_cases hx : x = k
  ·subst hx; simp
  ·have : (k == x) = false:=by simpa using fun h=>hx h.symm
   rw [this,if_neg hx]
   exact Hc ks es (i + 1) k h.2
theorem BT {P : Program} {t : TypeId} {K : IntKind} (h : P.underlying t = some (.int K)) : KeyOk P t (Value.int K) where
 check:=fun e w k=>MapKept.run_checkKey h (by first | trivial | rfl | simp [MapKept.IsKey]) e 9999
 find:=fun w k ks es he=>by simp [Instr.findKey,run_underlying h,Hc ks es 0 k he]
 same:=fun k=>by show (K == K && k == k) = true; simp

theorem Hn {P : Program} {t k0 : Nat} {κ : Type} [Flat κ] [DecidableEq κ] (hq : EqOk P t k0 κ true) (hk : k0 ≤ 10000) (w : World) : ∀ (ks : List κ) (es : List MapEntry) (i : Nat) (k : κ),es.map (·.key) = ks.map (fun x=>Value.agg (Flat.enc x).toArray) →
  (Instr.findAsking t (.agg (Flat.enc k).toArray) es i).run P w = .ok (Uz ks es i k) w
 | [],[],_,_,_=>by simp [Instr.findAsking,Uz]
 | [],_ :: _,_,_,h=>by simp at h
 | _ :: _,[],_,_,h=>by simp at h
 | x :: ks,e :: es,i,k,h=>by
  simp only [List.map_cons,List.cons.injEq] at h
  have he:=hq (10000 - k0) w k x
  rw [show 10000 - k0 + k0 = 10000 by omega] at he
  have he' : (Op.equal t (.agg (Flat.enc k).toArray) (.agg (Flat.enc x).toArray)).run P w = .ok (decide (k = x)) w:=he
  unfold Instr.findAsking
  rw [h.1]
  simp only [Sem.run_bind,he',Result.andThen_ok,Uz]
  by_cases hx : x = k
  ·subst hx; simp
  ·have h2 : ¬ k = x:=fun h=>hx h.symm
   rw [if_neg hx]
   simp only [h2,decide_false,Bool.false_eq_true,if_false]
   exact Hn hq hk w ks es (i + 1) k h.2
theorem Hm {P : Program} {t e by_ k0 n : Nat} {D : TypeDesc} {z : List Value} (ht : P.underlying t = some (.array n e)) (hu : P.underlying e = some (.int .u8)) (he : Ty P e D 1 by_ z) (hD : Qe D = false) (hq : EqOk P t k0 (Vector UInt8 n) true) (hk : k0 ≤ 10000) :
  KeyOk P t (fun x : Vector UInt8 n=>Value.agg (Flat.enc x).toArray) where
 check:=fun em w k=>by
  show (Instr.checkKey em (9999 + 1) t (.agg (Flat.enc k).toArray)).run P w = _
  rw [Instr.checkKey]
  simp only [Sem.run_bind,run_underlying ht,Result.andThen_ok,Std.Legacy.Range.forIn_eq_forIn_range',Std.Legacy.Range.size,Nat.sub_zero,Nat.add_one_sub_one,Nat.div_one]
  have each : ∀ j ∈ List.range' 0 n,∃ b : UInt8,(part e (Flat.enc k).toArray (j * 1)).run P w = .ok (vB b) w:=by
   intro j hj
   have hj' : j < n:=by simpa using hj
   have hg : k.toList[j]? = some k[j]:=by simp [hj']
   exact ⟨k[j],JV (α:=UInt8) he (ag:=false) hD (fun _=>rfl) hg w⟩
  generalize List.range' 0 n = is at each
  induction is with
  | nil=>simp
  | cons j is ih =>
   obtain ⟨b,p1⟩:=each j (by simp)
   have p2 : (Instr.checkKey em 9999 e (vB b)).run P w = .ok () w:=MapKept.run_checkKey hu (by first | trivial | rfl | simp [MapKept.IsKey]) em 9998
   simp only [List.forIn_cons,Sem.run_bind,XM he,Result.andThen_ok,p1,p2,Sem.run_pure]
   exact ih (fun y hy=>each y (by simp [hy]))
 find:=fun w k ks es h=>by
  unfold Instr.findKey
  simp only [Sem.run_bind,run_underlying ht,Result.andThen_ok]
  cases es with
  | nil =>
   have : ks = []:=by simpa using h.symm
   subst this
   simp [Instr.findNow,Uz]
  | cons e0 es =>
   cases ks with
   | nil=>simp at h
   | cons x ks =>
    have h1 : e0.key = Value.agg (Flat.enc x).toArray:=(List.cons.inj h).1
    have hn : Instr.findNow (.array n e) (.agg (Flat.enc k).toArray) (e0 :: es) 0 = none:=by
     unfold Instr.findNow
     rw [h1]
     rfl
    simp only [hn]
    exact Hn hq hk w (x :: ks) (e0 :: es) 0 k h
 same:=fun k=>by
  show Instr.sameBits (9999 + 1) (.agg (Flat.enc k).toArray) (.agg (Flat.enc k).toArray) = true
  rw [Instr.sameBits]
  simp only [BEq.rfl,Bool.true_and,List.all_eq_true]
  rintro ⟨x,y⟩ hm
  have hxy : x = y ∧ x ∈ Flat.enc k:=by
   obtain ⟨i,hi,he⟩:=List.mem_iff_getElem.1 hm
   simp only [List.getElem_zip,Prod.mk.injEq] at he
   obtain ⟨rfl,rfl⟩:=he
   exact ⟨rfl,by simp⟩
  obtain ⟨rfl,hx⟩:=hxy
  have : ∃ b : UInt8,x = vB b:=by
   have key : ∀ (l : List UInt8),x ∈ Y5 l → ∃ b : UInt8,x = vB b:=by
    intro l
    induction l with
    | nil=>intro h; cases h
    | cons b l ih =>
     intro h
     rcases List.mem_append.1 h with h | h
     ·exact ⟨b,by simpa [Flat.enc] using h⟩
     ·exact ih h
   exact key k.toList hx
  obtain ⟨b,rfl⟩:=this
  show (IntKind.u8 == IntKind.u8 && (b.toNat : Int) == (b.toNat : Int)) = true
  simp
structure ElOk {α : Type} (S : Nat → Prop) (E : World → α → Value → List Nat → Prop) : Prop where
 loc : ∀ {w w' : World} {x : α} {u : Value} {f : List Nat},E w x u f → (∀ b,(b ∈ f ∨ S b) → w'.heap[b]? = w.heap[b]?) → E w' x u f
 lt : ∀ {w : World} {x : α} {u : Value} {f : List Nat},E w x u f → ∀ b ∈ f,b < w.heap.size
def Jw {α : Type} [Rep α] (S : Nat → Prop) : World → α → Value → List Nat → Prop:=fun w x u f=>Rep.sat S w x [u] f
theorem zQ {α : Type} [Rep α] {S : Nat → Prop} : ElOk (α:=α) S (Jw S):=⟨fun h hb=>Rep.loc h hb,fun h=>Rep.lt h⟩
def Qd {α : Type} [Rep α] (S : Nat → Prop) : World → List α → Value → List Nat → Prop:=fun w l u f=>Vy S w l u f
theorem KD {α : Type} [Rep α] {S : Nat → Prop} : ElOk (α:=List α) S (Qd S):=⟨fun h hb=>Vy.loc h hb,fun h=>Rep.lt (Vy.sat h)⟩
def UG {κ α : Type} (kv : κ → Value) (E : World → α → Value → List Nat → Prop) (w : World) : List (κ × α) → List MapEntry → List Nat → Prop
 | [],es,fp=>es = [] ∧ fp = []
 | p :: m,es,fp=>∃ e es' f fp',es = e :: es' ∧ fp = f ++ fp' ∧ e.key = kv p.1 ∧ E w p.2 e.val f ∧ UG kv E w m es' fp'
def QM (es : List MapEntry) (clock : Nat) : Prop:=es.Pairwise (fun a b=>a.born < b.born) ∧ ∀ e ∈ es,e.born < clock
def Tj {κ α : Type} (kv : κ → Value) (E : World → α → Value → List Nat → Prop) (m : List (κ × α)) (b : Nat) : Item:=fun w fp =>
 ∃ es clock fpe,w.heap[b]? = some (.map es clock) ∧ UG kv E w m es.toList fpe ∧ QM es.toList clock ∧ fp = b :: fpe
def mapH {κ α : Type} [DecidableEq κ] (kv : κ → Value) (E : World → α → Value → List Nat → Prop) (m : List (κ × α)) (k : κ) (u : Value) (b st : Nat) : Item:=fun w fp =>
 ∃ es clock m1 m2 es1 e es2 f1 f2,w.heap[b]? = some (.map es clock) ∧ es.toList = es1 ++ e :: es2 ∧ UG kv E w m1 es1 f1 ∧ UG kv E w m2 es2 f2 ∧ e.key = kv k ∧ e.born = st ∧ e.val = u ∧ QM es.toList clock ∧
  (∀ x,U2 m k x = m1 ++ (k,x) :: m2) ∧ fp = b :: (f1 ++ f2)
section
variable {κ α : Type} {kv : κ → Value} {S St : Nat → Prop} {E : World → α → Value → List Nat → Prop} {w w' w0 : World}
theorem UG.keys : ∀ {m : List (κ × α)} {es : List MapEntry} {fp : List Nat},UG kv E w m es fp → es.map (·.key) = (m.map (·.1)).map kv
 | [],_,_,h=>by rw [h.1]; rfl
 | p :: m,_,_,h=>by
  obtain ⟨e,es',f,fp',rfl,_,h1,_,h2⟩:=h
  simp [h1,UG.keys h2]
theorem UG.loc (hE : ElOk S E) : ∀ {m : List (κ × α)} {es : List MapEntry} {fp : List Nat},UG kv E w m es fp → (∀ b,(b ∈ fp ∨ S b) → w'.heap[b]? = w.heap[b]?) → UG kv E w' m es fp
 | [],_,_,h,_=>h
 | p :: m,_,_,h,hb=>by
  obtain ⟨e,es',f,fp',rfl,rfl,h1,h2,h3⟩:=h
  exact ⟨e,es',f,fp',rfl,rfl,h1,hE.loc h2 (fun b h=>hb b (by simp; grind)),UG.loc hE h3 (fun b h=>hb b (by simp; grind))⟩
theorem Qq (hE : ElOk S E) {m : List (κ × α)} {b : Nat} (hS : ∀ b,S b → St b) : Loc St (Tj kv E m b):=by
 rintro w w' fp ⟨es,c,fpe,h1,h2,h3,rfl⟩ hb
 exact ⟨es,c,fpe,by rw [hb b (by simp)]; exact h1,h2.loc hE (fun k hk=>hb k (by rcases hk with h | h; exact .inl (by simp [h]); exact .inr (hS k h))),h3,rfl⟩
theorem Bi [DecidableEq κ] (hE : ElOk S E) {m : List (κ × α)} {b st : Nat} {k : κ} {u : Value} (hS : ∀ b,S b → St b) : Loc St (mapH kv E m k u b st):=by
 rintro w w' fp ⟨es,c,m1,m2,es1,e,es2,f1,f2,h1,h2,h3,h4,h5,h6,h7,h8,h9,rfl⟩ hb
 exact ⟨es,c,m1,m2,es1,e,es2,f1,f2,by rw [hb b (by simp)]; exact h1,h2,h3.loc hE (fun k hk=>hb k (by rcases hk with h | h; exact .inl (by simp [h]); exact .inr (hS k h))),h4.loc hE (fun k hk=>hb k (by rcases hk with h | h; exact .inl (by simp [h]); exact .inr (hS k h))),h5,h6,h7,h8,h9,rfl⟩
end
section
variable {κ α : Type} [DecidableEq κ] {kv : κ → Value} {S St : Nat → Prop} {E : World → α → Value → List Nat → Prop} {w w' w0 : World} {its : List Item}
theorem Hd : ∀ (ks : List κ) (es : List MapEntry) (i : Nat) (k : κ),Uz ks es (i + 1) k = (Uz ks es i k).map fun p=>(p.1 + 1,p.2)
 | [],_,_,_=>by simp [Uz]
 | _ :: _,[],_,_=>by simp [Uz]
 | x :: ks,e :: es,i,k=>by
  unfold Uz
  by_cases h : x = k
  ·simp [h]
  ·simp [h,Hd ks es (i + 1) k]
theorem UP (k : κ) : ∀ {m : List (κ × α)} {es : List MapEntry} {fp : List Nat},UG kv E w m es fp →
  (WN m k = none ∧ Uz (m.map (·.1)) es 0 k = none ∧ ∀ x,U2 m k x = m ++ [(k,x)]) ∨
  ∃ m1 x0 m2 es1 e es2 f1 f f2,WN m k = some x0 ∧ Uz (m.map (·.1)) es 0 k = some (es1.length,e.val) ∧ es = es1 ++ e :: es2 ∧ fp = f1 ++ (f ++ f2) ∧ UG kv E w m1 es1 f1 ∧ e.key = kv k ∧ E w x0 e.val f ∧ UG kv E w m2 es2 f2 ∧
   (∀ x,U2 m k x = m1 ++ (k,x) :: m2) ∧ m = m1 ++ (k,x0) :: m2
 | [],_,_,h=>by obtain ⟨rfl,rfl⟩:=h; exact .inl ⟨rfl,rfl,fun _=>rfl⟩
 | p :: m,_,_,h=>by
  obtain ⟨e,es',f,fp',rfl,rfl,h1,h2,h3⟩:=h
  by_cases hk : p.1 = k
  ·refine .inr ⟨[],p.2,m,[],e,es',[],f,fp',by simp [WN,hk],by simp [Uz,hk],rfl,rfl,⟨rfl,rfl⟩,by rw [h1,hk],h2,h3,fun x=>by simp [U2,hk],by rw [← hk]; rfl⟩
  ·have hf : Uz ((p :: m).map (·.1)) (e :: es') 0 k = (Uz (m.map (·.1)) es' 0 k).map fun q=>(q.1 + 1,q.2):=by
    rw [← Hd]; simp [Uz,hk]
   rcases UP k h3 with ⟨g1,g2,g3⟩ | ⟨m1,x0,m2,es1,e',es2,f1,f',f2,g1,g2,rfl,rfl,g3,g4,g5,g6,g7,g8⟩
   ·exact .inl ⟨by simp [WN,hk,g1],by rw [hf,g2]; rfl,fun x=>by simp [U2,hk,g3]⟩
   ·exact .inr ⟨p :: m1,x0,m2,e :: es1,e',es2,f ++ f1,f',f2,by simp [WN,hk,g1],by rw [hf,g2]; simp,rfl,by simp,⟨e,es1,f,f1,rfl,rfl,h1,h2,g3⟩,g4,g5,g6,fun x=>by simp [U2,hk,g7],by rw [g8]; rfl⟩
omit [DecidableEq κ] in
theorem UG.app : ∀ {m1 m2 : List (κ × α)} {es1 es2 : List MapEntry} {f1 f2 : List Nat},UG kv E w m1 es1 f1 → UG kv E w m2 es2 f2 → UG kv E w (m1 ++ m2) (es1 ++ es2) (f1 ++ f2)
 | [],_,_,_,_,_,h,k=>by obtain ⟨rfl,rfl⟩:=h; exact k
 | p :: m,_,_,_,_,_,h,k=>by
  obtain ⟨e,es',f,fp',rfl,rfl,h1,h2,h3⟩:=h
  exact ⟨e,es' ++ _,f,fp' ++ _,by simp,by simp,h1,h2,UG.app h3 k⟩
theorem QM.push {es : List MapEntry} {clock : Nat} (h : QM es clock) (k u : Value) : QM (es ++ [{ key:=k,val:=u,born:=clock }]) (clock + 1):=by
 refine ⟨List.pairwise_append.2 ⟨h.1,by simp,fun a ha b hb=>?_⟩,fun e he=>?_⟩
 ·simp at hb; subst hb; exact h.2 a ha
 ·rcases List.mem_append.1 he with he | he
  ·have:=h.2 e he; omega
  ·simp at he; subst he; exact Nat.lt_succ_self _
theorem QM.put {es1 es2 : List MapEntry} {e e' : MapEntry} {clock : Nat} (h : QM (es1 ++ e :: es2) clock) (hb : e'.born = e.born) : QM (es1 ++ e' :: es2) clock:=by
 obtain ⟨h1,h2⟩:=h
 rw [List.pairwise_append,List.pairwise_cons] at h1
 obtain ⟨a1,⟨a2,a3⟩,a4⟩:=h1
 refine ⟨List.pairwise_append.2 ⟨a1,List.pairwise_cons.2 ⟨fun b hb'=>by rw [hb]; exact a2 b hb',a3⟩,fun a ha b hb'=>?_⟩,fun q hq=>?_⟩
 ·rcases List.mem_cons.1 hb' with rfl | hb'
  ·rw [hb]; exact a4 a ha e (by simp)
  ·exact a4 a ha b (by simp [hb'])
 ·rcases List.mem_append.1 hq with hq | hq
  ·exact h2 q (by simp [hq])
  ·rcases List.mem_cons.1 hq with rfl | hq
   ·rw [hb]; exact h2 e (by simp)
   ·exact h2 q (by simp [hq])
theorem JM {es : Array MapEntry} {es1 es2 : List MapEntry} {e : MapEntry} (g : MapEntry → MapEntry) (h : es.toList = es1 ++ e :: es2) : (es.modify es1.length g).toList = es1 ++ g e :: es2:=by
 rw [Array.toList_modify,h]
 clear h
 induction es1 with
 | nil=>rfl
 | cons x es1 ih=>simpa using ih
theorem y9 {es : Array MapEntry} {es1 es2 : List MapEntry} {e : MapEntry} (h : es.toList = es1 ++ e :: es2) : es[es1.length]? = some e:=by
 rw [← Array.getElem?_toList,h,List.getElem?_append_right (Nat.le_refl _)]; simp
omit [DecidableEq κ] in
theorem M.mapNew (hE : ElOk S E) (hM : M St w0 w its) (hS : ∀ b,S b → St b) : M St w0 (w.alloc (.map #[] 0)) (Tj kv E ([] : List (κ × α)) w.heap.size :: its) :=
 hM.addS (new:=[_]) (Kept.alloc _ _) ⟨[w.heap.size],⟨[w.heap.size],[],rfl,Qq hE hS,⟨#[],0,[],Uf _ _,⟨rfl,rfl⟩,⟨by simp,by simp⟩,rfl⟩,rfl⟩,by simp,fun b hb=>by simp at hb; subst hb; simp⟩
theorem M.mapTurn {it : Item} {new : List Item} {b : Nat} {o : Obj} (hM : M St w0 w (it :: its)) (hin : ∀ fp,it w fp → b ∈ fp)
  (hn : ∀ fp,it w fp → fp.Nodup → (∀ q ∈ fp,¬ St q ∧ q < w.heap.size) → ∃ fp',Wl St { w with heap:=w.heap.setIfInBounds b o } new fp' ∧ fp'.Nodup ∧ ∀ q ∈ fp',q ∈ fp) : M St w0 { w with heap:=w.heap.setIfInBounds b o } (new ++ its) :=
 hM.turn (new:=new) rfl rfl rfl (by simp) fun fp h1 h2 h3=>by
  obtain ⟨fp',k1,k2,k3⟩:=hn fp h1 h3 h2
  exact ⟨fun q hq _=>by simp [show ¬ b = q from fun e=>hq (e ▸ hin fp h1)],fp',k1,k2,fun q hq=>.inl (k3 q hq)⟩
theorem JC (w : World) (b : Nat) (o : Obj) (h : b < w.heap.size) : ({ w with heap:=w.heap.setIfInBounds b o } : World).heap[b]? = some o:=by simp [h]
theorem Vz (w : World) {b q : Nat} (o : Obj) (h : q ≠ b) : ({ w with heap:=w.heap.setIfInBounds b o } : World).heap[q]? = w.heap[q]?:=by simp [Ne.symm h]
end
section
variable {n : Nat} {a : Act} {e : List (Nat × Value)} {w w' : World} {P : Program} {ops : Array Oper} {rest : List Oper} {Q : Exit → Act → World → Prop}
variable {d : Nat} {ty t kt el : TypeId} {pos : String} {af : Array Edge} {g : Option (Nat × Bool)} {x y z : Operand} {v u : Value}
variable {St S : Nat → Prop} {w0 : World} {its pre post : List Item} {κ α : Type} {kv : κ → Value} {m : List (κ × α)} {b : Nat} {E : World → α → Value → List Nat → Prop}
theorem BO (kv : κ → Value) (hE : ElOk S E) (h : Env n a e) (hM : M St w0 w its) (hS : ∀ b,S b → St b) (hw : Goes ops ⟨some d,.makeMap t none,ty,pos,af,g⟩ a) (hd : d < n)
  (k : ∀ b w a,M St w0 w (Tj kv E ([] : List (κ × α)) b :: its) → Env n a ((d,.map (some b)) :: e) → wpList P ops Q rest a w) : wpList P ops Q (⟨some d,.makeMap t none,ty,pos,af,g⟩ :: rest) a w :=
 XC h hw rfl hd (v:=.map (some w.heap.size)) (w':=w.alloc (.map #[] 0)) (by simp only [execOp,Option.map_none]; simp only [Sem.run_bind,show (Instr.makeMap t none).run P w = .ok (.map (some w.heap.size)) (w.alloc (.map #[] 0)) from rfl]; rfl) fun a ha=>k _ _ _ (hM.mapNew hE hS) ha
variable [DecidableEq κ]
theorem jt (hk : KeyOk P kt kv) (ht : P.underlying t = some (.map kt el)) (hM : M St w0 w (pre ++ Tj kv E m b :: post)) (k : κ) (zv : Value) (hz : (zeroValue el).run P w = .ok zv w) (ok : Bool) :
  ∃ v,(Instr.lookup t (.map (some b)) (kv k) ok).run P w = .ok (if ok then .tuple #[v,.bool (WN m k).isSome] else v) w ∧
   ((WN m k = none ∧ v = zv) ∨ ∃ x fp,WN m k = some x ∧ E w x v fp ∧ ∀ c ∈ fp,c < w.heap.size):=by
 obtain ⟨fp,⟨es,clock,fpe,h1,h2,h3,rfl⟩,hlt⟩:=hM.get
 have hf:=hk.find w k (m.map (·.1)) es.toList h2.keys
 have hc:=hk.check es.isEmpty w k
 rcases UP k h2 with ⟨g1,g2,_⟩ | ⟨m1,x0,m2,es1,e,es2,f1,f,f2,g1,g2,g3,rfl,g4,g5,g6,_,_,_⟩
 ·refine ⟨zv,?_,.inl ⟨g1,rfl⟩⟩
  rw [g2] at hf
  cases ok <;> simp [Instr.lookup,run_underlying ht,MapKept.run_getObj_map h1,hc,hf,hz,g1]
 ·refine ⟨e.val,?_,.inr ⟨x0,f,g1,g6,fun c hc=>hlt c (by simp [hc])⟩⟩
  rw [g2] at hf
  cases ok <;> simp [Instr.lookup,run_underlying ht,MapKept.run_getObj_map h1,hc,hf,g1]
theorem zy {α : Type} [Flat α] {m : List (κ × α)} {vv : α → Value} {zero : α} {k : κ} (hk : KeyOk P kt kv) (h : Env n a e) (hM : M St w0 w (pre ++ Tj kv (Jw NoB) m b :: post)) (hw : Goes ops ⟨some d,.lookup t x y true,ty,pos,af,g⟩ a) (hd : d < n)
  (hx : opv e x = some (.map (some b))) (hy : opv e y = some (kv k)) (ht : P.underlying t = some (.map kt el)) (hv : ∀ x : α,Flat.enc x = [vv x]) (hz : (zeroValue el).run P w = .ok (vv zero) w)
  (K : ∀ a,Env n a ((d,.tuple [vv ((WN m k).getD zero),vT (WN m k).isSome].toArray) :: e) → wpList P ops Q rest a w) : wpList P ops Q (⟨some d,.lookup t x y true,ty,pos,af,g⟩ :: rest) a w:=by
 obtain ⟨v,hr,hv2⟩:=jt hk ht hM k _ hz true
 have e1 : v = vv ((WN m k).getD zero):=by
  rcases hv2 with ⟨g1,rfl⟩ | ⟨x,fp,g1,g2,_⟩
  ·rw [g1]; rfl
  ·obtain ⟨g2,_⟩:=T7.1 g2
   rw [hv] at g2
   rw [g1]
   simpa using g2
 subst e1
 exact XC h hw rfl hd (by simp only [execOp,h.ev hx,h.ev hy]; simp [hr]) K
def T1 {α : Type} (m : List (κ × α)) (k : κ) (b : Nat) (v : Value) (w : World) : Prop:=∃ es clock,w.heap[b]? = some (.map es clock) ∧ v = ((Uz (m.map (·.1)) es.toList 0 k).map (·.2)).getD (.slice none 0 0)
def mapV {α : Type} (kv : κ → Value) (E : World → List α → Value → List Nat → Prop) (m : List (κ × List α)) (l : List α) (v : Value) (b : Nat) : Item:=fun w fp=>Tj kv E m b w fp ∧ ∃ k,T1 m k b v w ∧ l = (WN m k).getD []
theorem T1.keep {m : List (κ × α)} {k : κ} (h : T1 m k b v w) (hk : Kept (Old w) w w') : T1 m k b v w':=by
 obtain ⟨es,c,h1,h2⟩:=h
 exact ⟨es,c,(hk.block b (Array.getElem?_eq_some_iff.1 h1).1).trans h1,h2⟩
theorem gupK {C : World → Prop} {m : List (κ × α)} {k : κ} {r : List (Value → World → Prop)} (h : GUp C r) : GUp C ((fun v w=>T1 m k b v w) :: r):=by
 intro g hg
 rcases List.mem_cons.1 hg with rfl | hg
 ·intro v w w' _ hk hv; exact hv.keep hk
 ·exact h g hg
theorem M.lookRo {α : Type} [Rep α] {m : List (κ × List α)} {k : κ} (hM : M St w0 w (pre ++ Tj kv (Qd NoB) m b :: post)) (hl : T1 m k b v w) : Ro w ((WN m k).getD []) [v]:=by
 obtain ⟨fp,⟨es,clock,fpe,h1,h2,h3,rfl⟩,hlt⟩:=hM.get
 obtain ⟨es',c',h4,rfl⟩:=hl
 rw [h1] at h4
 simp only [Option.some.injEq,Obj.map.injEq] at h4
 obtain ⟨rfl,rfl⟩:=h4
 rcases UP k h2 with ⟨g1,g2,_⟩ | ⟨m1,x0,m2,es1,e,es2,f1,f,f2,g1,g2,g3,rfl,g4,g5,g6,_,_,_⟩
 ·rw [g1,g2]; exact ro_nil
 ·rw [g1,g2]; exact Rep.ro (Vy.sat g6) fun c hc=>hc.elim (fun h=>hlt c (by simp [h])) (fun h=>h.elim)
theorem M.see {α : Type} {E : World → List α → Value → List Nat → Prop} (hE : ElOk S E) (hS : ∀ b,S b → St b) {m : List (κ × List α)} {k : κ} (hM : M St w0 w (pre ++ Tj kv E m b :: post)) (hl : T1 m k b v w) : M St w0 w (mapV kv E m ((WN m k).getD []) v b :: (pre ++ post)):=by
 refine hM.pull.pack1 (fun w w' fp h hb=>⟨Qq hE hS _ _ _ h.1 hb,?_⟩) fun fp h=>⟨h,k,hl,rfl⟩
 obtain ⟨k',⟨es,c,h1,h2⟩,h3⟩:=h.2
 obtain ⟨_,_,fpe,_,_,_,rfl⟩:=h.1
 exact ⟨k',⟨es,c,by rw [hb b (by simp)]; exact h1,h2⟩,h3⟩
theorem M.unsee {α : Type} {E : World → List α → Value → List Nat → Prop} (hE : ElOk S E) (hS : ∀ b,S b → St b) {m : List (κ × List α)} {l : List α} (hM : M St w0 w (mapV kv E m l v b :: its)) : M St w0 w (Tj kv E m b :: its):=hM.pack1 (Qq hE hS) fun _ h=>h.1
theorem M.seeRo {α : Type} [Rep α] {m : List (κ × List α)} {l : List α} (hM : M St w0 w (pre ++ mapV kv (Qd NoB) m l v b :: post)) : Ro w l [v]:=by
 obtain ⟨fp,h,_⟩:=hM.get
 obtain ⟨k,h2,rfl⟩:=h.2
 exact M.lookRo (pre:=[]) (kv:=kv) ((hM.pull).unsee KD noB) h2
theorem yk {α : Type} [Rep α] {m : List (κ × List α)} {k : κ} (hk : KeyOk P kt kv) (h : Env n a e) (hM : M St w0 w (pre ++ Tj kv (Qd NoB) m b :: post)) (hw : Goes ops ⟨some d,.lookup t x y false,ty,pos,af,g⟩ a) (hd : d < n)
  (hx : opv e x = some (.map (some b))) (hy : opv e y = some (kv k)) (ht : P.underlying t = some (.map kt el)) (hz : (zeroValue el).run P w = .ok (.slice none 0 0) w)
  (K : ∀ v a,T1 m k b v w → Env n a ((d,v) :: e) → wpList P ops Q rest a w) : wpList P ops Q (⟨some d,.lookup t x y false,ty,pos,af,g⟩ :: rest) a w:=by
 obtain ⟨fp,⟨es,clock,fpe,h1,h2,h3,rfl⟩,hlt⟩:=hM.get
 have hf:=hk.find w k (m.map (·.1)) es.toList h2.keys
 have hc:=hk.check es.isEmpty w k
 have hr : (Instr.lookup t (.map (some b)) (kv k) false).run P w = .ok (((Uz (m.map (·.1)) es.toList 0 k).map (·.2)).getD (.slice none 0 0)) w:=by
  cases hq : Uz (m.map (·.1)) es.toList 0 k with
  | none=>rw [hq] at hf; simp [Instr.lookup,run_underlying ht,MapKept.run_getObj_map h1,hc,hf,hz]
  | some p=>rw [hq] at hf; simp [Instr.lookup,run_underlying ht,MapKept.run_getObj_map h1,hc,hf]
 exact XC h hw rfl hd (by simp only [execOp,h.ev hx,h.ev hy]; simp [hr]) fun a ha=>K _ a ⟨es,clock,h1,rfl⟩ ha
theorem M.mapSet [Rep α] {x : α} {k : κ} (hM : M St w0 w (own S x [u] :: Tj kv (Jw S) m b :: its)) (hS : ∀ b,S b → St b) (hk : KeyOk P kt kv) (ht : P.underlying t = some (.map kt el)) :
  ∃ w',(Instr.mapUpdate t (.map (some b)) (kv k) u).run P w = .ok () w' ∧ M St w0 w' (Tj kv (Jw S) (U2 m k x) b :: its):=by
 have hE : ElOk (α:=α) S (Jw S):=zQ
 obtain ⟨fq,⟨es,clock,fpe,h2,h3,hst,_⟩,_⟩:=(show M St w0 w ([own S x [u]] ++ Tj kv (Jw S) m b :: its) from hM).get
 have hbl : b < w.heap.size:=(Array.getElem?_eq_some_iff.1 h2).1
 have hf:=hk.find w k (m.map (·.1)) es.toList h3.keys
 have hc:=hk.check false w k
 have hM2 : M St w0 w ((fun w fp=>∃ f1 f2,fp = f1 ++ f2 ∧ Rep.sat S w x [u] f1 ∧ Tj kv (Jw S) m b w f2) :: its):=hM.packL (m:=[_,_]) (fun w w' fp ⟨f1,f2,e,k1,k2⟩ hb=>⟨f1,f2,e,Rep.loc k1 (fun b h=>hb b (by subst e; rcases h with h | h; exact .inl (by simp [h]); exact .inr (hS b h))),Qq hE hS _ _ _ k2 (fun b h=>hb b (by subst e; rcases h with h | h; exact .inl (by simp [h]); exact .inr h))⟩)
  (fun fp ⟨f1,_,e,_,k1,f2,_,e2,_,k2,e3⟩=>⟨f1,f2,by rw [e,e2,e3]; simp,k1,k2⟩)
 have fin : ∀ (es' : Array MapEntry) (c : Nat),QM es'.toList c → (∀ (f1 f2 : List Nat),Rep.sat S w x [u] f1 → UG kv (Jw S) w m es.toList f2 → (f1 ++ f2).Nodup → ∃ f3,UG kv (Jw S) w (U2 m k x) es'.toList f3 ∧ f3.Nodup ∧ ∀ q ∈ f3,q ∈ f1 ∨ q ∈ f2) →
   M St w0 { w with heap:=w.heap.setIfInBounds b (.map es' c) } (Tj kv (Jw S) (U2 m k x) b :: its):=by
  intro es' c hst' hm
  refine hM2.mapTurn (new:=[_]) (fun fp ⟨f1,f2,e,_,es0,c0,f0,_,_,_,e0⟩=>by rw [e,e0]; simp) ?_
  rintro fp ⟨f1,f2,rfl,k1,es0,c0,f0,k2,k3,k4,rfl⟩ hnd hlt
  rw [h2] at k2
  simp only [Option.some.injEq,Obj.map.injEq] at k2
  obtain ⟨rfl,rfl⟩:=k2
  obtain ⟨n1,n2,n3⟩:=List.nodup_append.1 hnd
  obtain ⟨n4,n5⟩:=List.nodup_cons.1 n2
  obtain ⟨f3,j1,j2,j3⟩:=hm f1 f0 k1 k3 (List.nodup_append.2 ⟨n1,n5,fun p hp q hq=>n3 p hp q (by simp [hq])⟩)
  have hb0 : b ∉ f3:=fun h=>by
   rcases j3 b h with h | h
   ·exact n3 b h b (by simp) rfl
   ·exact n4 h
  refine ⟨b :: f3,⟨b :: f3,[],by simp,Qq hE hS,⟨es',c,f3,JC w b _ hbl,j1.loc hE fun q hq=>Vz w _ ?_,hst',rfl⟩,rfl⟩,List.nodup_cons.2 ⟨hb0,j2⟩,fun q hq=>?_⟩
  ·rcases hq with h | h
   ·exact fun e=>hb0 (e ▸ h)
   ·exact fun e=>(hlt b (by simp)).1 (e ▸ hS q h)
  ·rcases List.mem_cons.1 hq with rfl | hq
   ·simp
   ·rcases j3 q hq with h | h <;> simp [h]
 rcases UP k h3 with ⟨g1,g2,g3⟩ | ⟨m1,x0,m2,es1,e,es2,f1,f,f2,g1,g2,g3,rfl,g4,g5,g6,g7,g8,g9⟩
 ·rw [g2] at hf
  have hset:=MapKept.run_setObj_map (P:=P) (.map (es.push { key:=kv k,val:=u,born:=clock }) (clock + 1)) h2
  refine ⟨_,by simp [Instr.mapUpdate,run_underlying ht,MapKept.run_getObj_map h2,hc,hf,hset],fin (es.push { key:=kv k,val:=u,born:=clock }) (clock + 1) (by simpa using hst.push (kv k) u) ?_⟩
  intro f1 f2 k1 k2 hnd
  refine ⟨f2 ++ f1,?_,(List.perm_append_comm.nodup_iff).1 hnd,fun q hq=>(List.mem_append.1 hq).symm⟩
  rw [g3]
  simpa using k2.app (m2:=[(k,x)]) ⟨{ key:=kv k,val:=u,born:=clock },[],f1,[],rfl,by simp,rfl,k1,rfl,rfl⟩
 ·rw [g2] at hf
  have hget:=y9 g3
  have hset:=MapKept.run_setObj_map (P:=P) (.map (es.modify es1.length fun e=>{ e with key:=kv k,val:=u }) clock) h2
  have hstay : (Instr.keyThatStays (kv k) (kv k)).run P w = .ok (kv k) w:=by simp [Instr.keyThatStays,hk.same k]
  have hmod:=JM (fun e=>{ e with key:=kv k,val:=u }) g3
  refine ⟨_,by simp [Instr.mapUpdate,run_underlying ht,MapKept.run_getObj_map h2,hc,hf,hget,g5,hstay,hset],fin (es.modify es1.length fun e=>{ e with key:=kv k,val:=u }) clock (by rw [hmod]; rw [g3] at hst; exact hst.put rfl) ?_⟩
  intro p1 p2 k1 k2 hnd
  rcases UP k k2 with ⟨q1,_,_⟩ | ⟨m1',x0',m2',es1',e',es2',f1',f',f2',q1,q2,q3,rfl,q4,q5,q6,q7,q8,q9⟩
  ·rw [g1] at q1; cases q1
  ·have hlen : es1.length = es1'.length:=by rw [g2] at q2; simpa using (congrArg (Option.map Prod.fst) q2)
   obtain ⟨rfl,hee⟩:=List.append_inj (g3.symm.trans q3) hlen
   simp only [List.cons.injEq] at hee
   obtain ⟨rfl,rfl⟩:=hee
   obtain ⟨n1,n2,n3⟩:=List.nodup_append.1 hnd
   obtain ⟨n4,n5,n6⟩:=List.nodup_append.1 n2
   obtain ⟨n7,n8,n9⟩:=List.nodup_append.1 n5
   refine ⟨f1' ++ (p1 ++ f2'),?_,?_,?_⟩
   ·rw [hmod,q8]
    exact q4.app (m2:=(k,x) :: m2') ⟨_,es2,p1,f2',rfl,rfl,rfl,k1,q7⟩
   ·refine List.nodup_append.2 ⟨n4,List.nodup_append.2 ⟨n1,n8,fun p hp q hq=>n3 p hp q (by simp [hq])⟩,fun p hp q hq=>?_⟩
    rcases List.mem_append.1 hq with h | h
    ·exact fun e=>n3 q h p (by simp [hp]) e.symm
    ·exact n6 p hp q (by simp [h])
   ·intro q hq
    simp only [List.mem_append] at hq ⊢
    rcases hq with h | h | h
    ·exact .inr (.inl h)
    ·exact .inl h
    ·exact .inr (.inr (.inr h))
theorem Am {α : Type} [Flat α] {m : List (κ × α)} {vv : α → Value} {c : α} {k : κ} (hk : KeyOk P kt kv) (h : Env n a e) (hM : M St w0 w (Tj kv (Jw NoB) m b :: its)) (hw : Goes ops ⟨none,.mapUpdate t x y z,ty,pos,af,g⟩ a)
  (hx : opv e x = some (.map (some b))) (hy : opv e y = some (kv k)) (hzv : opv e z = some (vv c)) (ht : P.underlying t = some (.map kt el)) (hv : ∀ x : α,Flat.enc x = [vv x])
  (K : ∀ w a,M St w0 w (Tj kv (Jw NoB) (U2 m k c) b :: its) → Env n a e → wpList P ops Q rest a w) : wpList P ops Q (⟨none,.mapUpdate t x y z,ty,pos,af,g⟩ :: rest) a w:=by
 have hM2 : M St w0 w (own NoB c [vv c] :: Tj kv (Jw NoB) m b :: its):=hM.addRo noB (T7.2 ⟨(hv c).symm,rfl⟩)
 obtain ⟨w',hr,hM'⟩:=hM2.mapSet (k:=k) noB hk ht
 exact Ad h hw rfl (w':=w') (by simp only [execOp,h.ev hx,h.ev hy,h.ev hzv]; simp [hr]) fun a ha=>K _ _ hM' ha
theorem A8 {α : Type} [Rep α] {m : List (κ × List α)} {k : κ} (hk : KeyOk P kt kv) (h : Env n a e) (hM : M St w0 w (Tj kv (Qd NoB) m b :: its)) (hw : Goes ops ⟨some d,.mapEntry t x y,ty,pos,af,g⟩ a) (hd : d < n)
  (hx : opv e x = some (.map (some b))) (hy : opv e y = some (kv k)) (ht : P.underlying t = some (.map kt el)) (hz : ∀ w,(zeroValue el).run P w = .ok (.slice none 0 0) w)
  (K : ∀ v (st : Nat) w a,M St w0 w (osl NoB ((WN m k).getD []) v :: mapH kv (Qd NoB) m k v b st :: its) → Env n a ((d,.tuple [v,vI st].toArray) :: e) → wpList P ops Q rest a w) : wpList P ops Q (⟨some d,.mapEntry t x y,ty,pos,af,g⟩ :: rest) a w:=by
 have hE : ElOk (α:=List α) NoB (Qd NoB):=KD
 obtain ⟨fq,⟨es,clock,fpe,h2,h3,hst,_⟩,_⟩:=hM.head
 have hbl : b < w.heap.size:=(Array.getElem?_eq_some_iff.1 h2).1
 have hf:=hk.find w k (m.map (·.1)) es.toList h3.keys
 have hc:=hk.check false w k
 rcases UP k h3 with ⟨g1,g2,g3⟩ | ⟨m1,x0,m2,es1,e0,es2,f1,f,f2,g1,g2,g3,rfl,g4,g5,g6,g7,g8,g9⟩
 ·rw [g2] at hf
  have hset:=MapKept.run_setObj_map (P:=P) (.map (es.push { key:=kv k,val:=.slice none 0 0,born:=clock }) (clock + 1)) h2
  refine XC h hw rfl hd (v:=.tuple [.slice none 0 0,vI clock].toArray) (w':={ w with heap:=w.heap.setIfInBounds b (.map (es.push { key:=kv k,val:=.slice none 0 0,born:=clock }) (clock + 1)) }) (by simp only [execOp,h.ev hx,h.ev hy]; simp [Instr.mapEntry,run_underlying ht,MapKept.run_getObj_map h2,hc,hf,hz,hset,goInt]) fun a ha=>K _ clock _ _ ?_ ha
  rw [g1]
  refine hM.mapTurn (new:=[_,_]) (fun fp ⟨es0,c0,f0,_,_,_,e0⟩=>by rw [e0]; simp) ?_
  rintro fp ⟨es0,c0,f0,k2,k3,k4,rfl⟩ hnd hlt
  rw [h2] at k2
  simp only [Option.some.injEq,Obj.map.injEq] at k2
  obtain ⟨rfl,rfl⟩:=k2
  obtain ⟨n4,n5⟩:=List.nodup_cons.1 hnd
  refine ⟨b :: f0,⟨[],b :: f0,rfl,To noB,⟨none,0,rfl,Nat.le_refl _,.inl ⟨rfl,rfl,fun q h=>by cases h⟩⟩,b :: f0,[],by simp,Bi hE noB,⟨_,_,m,[],es.toList,{ key:=kv k,val:=.slice none 0 0,born:=clock },[],f0,[],JC w b _ hbl,by simp,k3.loc hE fun q hq=>Vz w _ ?_,⟨rfl,rfl⟩,rfl,rfl,rfl,by simpa using k4.push (kv k) (.slice none 0 0),g3,by simp⟩,rfl⟩,hnd,fun q hq=>hq⟩
  rcases hq with h | h
  ·exact fun e=>n4 (e ▸ h)
  ·exact h.elim
 ·rw [g2] at hf
  have hget:=y9 g3
  have hset:=MapKept.run_setObj_map (P:=P) (.map (es.modify es1.length fun e=>{ e with key:=kv k }) clock) h2
  have hstay : (Instr.keyThatStays (kv k) (kv k)).run P w = .ok (kv k) w:=by simp [Instr.keyThatStays,hk.same k]
  have hmod:=JM (fun e=>{ e with key:=kv k }) g3
  refine XC h hw rfl hd (v:=.tuple [e0.val,vI e0.born].toArray) (w':={ w with heap:=w.heap.setIfInBounds b (.map (es.modify es1.length fun e=>{ e with key:=kv k }) clock) }) (by simp only [execOp,h.ev hx,h.ev hy]; simp [Instr.mapEntry,run_underlying ht,MapKept.run_getObj_map h2,hc,hf,hget,g5,hstay,hset,goInt]) fun a ha=>K _ e0.born _ _ ?_ ha
  rw [g1]
  refine hM.mapTurn (new:=[_,_]) (fun fp ⟨es0,c0,f0,_,_,_,e0⟩=>by rw [e0]; simp) ?_
  rintro fp ⟨es0,c0,f0,k2,k3,k4,rfl⟩ hnd hlt
  rw [h2] at k2
  simp only [Option.some.injEq,Obj.map.injEq] at k2
  obtain ⟨rfl,rfl⟩:=k2
  obtain ⟨n4,n5⟩:=List.nodup_cons.1 hnd
  rcases UP k k3 with ⟨q1,_,_⟩ | ⟨m1',x0',m2',es1',e',es2',f1',f',f2',q1,q2,q3,rfl,q4,q5,q6,q7,q8,q9⟩
  ·rw [g1] at q1; cases q1
  ·have hlen : es1.length = es1'.length:=by rw [g2] at q2; simpa using (congrArg (Option.map Prod.fst) q2)
   obtain ⟨rfl,hee⟩:=List.append_inj (g3.symm.trans q3) hlen
   simp only [List.cons.injEq] at hee
   obtain ⟨rfl,rfl⟩:=hee
   rw [g1] at q1
   simp only [Option.some.injEq] at q1
   subst q1
   have hne : ∀ q,(q ∈ f1' ∨ q ∈ f' ∨ q ∈ f2') → q ≠ b:=fun q hq e=>n4 (by subst e; simp; grind)
   have hst2:=k4
   rw [q3] at hst2
   refine ⟨f' ++ (b :: (f1' ++ f2')),⟨f',_,rfl,To noB,Vy.loc q6 fun q hq=>Vz w _ (hne q (by rcases hq with h | h; exact .inr (.inl h); exact h.elim)),b :: (f1' ++ f2'),[],by simp,Bi hE noB,⟨_,clock,m1',m2',es1,{ e0 with key:=kv k },es2,f1',f2',JC w b _ hbl,hmod,q4.loc hE fun q hq=>Vz w _ (hne q (by rcases hq with h | h; exact .inl h; exact h.elim)),q7.loc hE fun q hq=>Vz w _ (hne q (by rcases hq with h | h; exact .inr (.inr h); exact h.elim)),rfl,rfl,rfl,by rw [hmod]; exact hst2.put rfl,q8,rfl⟩,rfl⟩,?_,fun q hq=>by simp at hq ⊢; grind⟩
   refine (List.Perm.nodup_iff ?_).1 hnd
   have e1 : b :: (f1' ++ (f' ++ f2')) = ((b :: f1') ++ f') ++ f2':=by simp
   have e2 : f' ++ (b :: (f1' ++ f2')) = (f' ++ (b :: f1')) ++ f2':=by simp
   rw [e1,e2]
   exact List.Perm.append_right _ List.perm_append_comm
theorem Ak {α : Type} [Rep α] {m : List (κ × List α)} {l : List α} {k : κ} {st : Nat} (h : Env n a e) (hM : M St w0 w (osl NoB l u :: mapH kv (Qd NoB) m k v b st :: its)) (hw : Goes ops ⟨none,.entryStore t x y z,ty,pos,af,g⟩ a)
  (hx : opv e x = some (.map (some b))) (hy : opv e y = some (vI st)) (hzv : opv e z = some u)
  (K : ∀ w a,M St w0 w (Tj kv (Qd NoB) (U2 m k l) b :: its) → Env n a e → wpList P ops Q rest a w) : wpList P ops Q (⟨none,.entryStore t x y z,ty,pos,af,g⟩ :: rest) a w:=by
 have hE : ElOk (α:=List α) NoB (Qd NoB):=KD
 obtain ⟨fq,⟨es,clock,m1,m2,es1,e0,es2,f1,f2,h2,h3,h4,h5,h6,h7,h8,h9,h10,_⟩,_⟩:=(show M St w0 w ([osl NoB l u] ++ mapH kv (Qd NoB) m k v b st :: its) from hM).get
 have hbl : b < w.heap.size:=(Array.getElem?_eq_some_iff.1 h2).1
 have hfi : es.findIdx? (fun e=>(e.born : Int) == (st : Int)) = some es1.length:=by
  have e0' : es.findIdx? (fun e=>(e.born : Int) == (st : Int)) = es.toList.findIdx? (fun e=>(e.born : Int) == (st : Int)):=by cases es; simp
  rw [e0',h3,List.findIdx?_append]
  have hp:=h9.1
  rw [h3,List.pairwise_append] at hp
  have hno : es1.findIdx? (fun e=>(e.born : Int) == (st : Int)) = none:=by
   rw [List.findIdx?_eq_none_iff]
   intro q hq
   have:=hp.2.2 q hq e0 (by simp)
   simp only [beq_eq_false_iff_ne,ne_eq]
   omega
  rw [hno,List.findIdx?_cons]
  simp [h7]
 have hset:=MapKept.run_setObj_map (P:=P) (.map (es.modify es1.length fun e=>{ e with val:=u }) clock) h2
 have hmod:=JM (fun e=>{ e with val:=u }) h3
 have hint : (asInt (vI st)).run P w = .ok (st : Int) w:=by simp [asInt,asIntOf]
 refine Ad h hw rfl (w':={ w with heap:=w.heap.setIfInBounds b (.map (es.modify es1.length fun e=>{ e with val:=u }) clock) }) (by simp only [execOp,h.ev hx,h.ev hy,h.ev hzv]; simp [Instr.entryStore,MapKept.run_getObj_map h2,hint,hfi,hset]) fun a ha=>K _ _ ?_ ha
 have hM2 : M St w0 w ((fun w fp=>∃ f1 f2,fp = f1 ++ f2 ∧ Vy NoB w l u f1 ∧ mapH kv (Qd NoB) m k v b st w f2) :: its):=hM.packL (m:=[_,_]) (fun w w' fp ⟨f1,f2,e,k1,k2⟩ hb=>⟨f1,f2,e,Vy.loc k1 (fun b h=>hb b (by subst e; rcases h with h | h; exact .inl (by simp [h]); exact h.elim)),Bi hE noB _ _ _ k2 (fun b h=>hb b (by subst e; rcases h with h | h; exact .inl (by simp [h]); exact .inr h))⟩)
  (fun fp ⟨f1,_,e,_,k1,f2,_,e2,_,k2,e3⟩=>⟨f1,f2,by rw [e,e2,e3]; simp,k1,k2⟩)
 refine hM2.mapTurn (new:=[_]) (fun fp ⟨f1,f2,e,_,es',c',m1',m2',es1',e',es2',g1,g2,_,_,_,_,_,_,_,_,_,e0⟩=>by rw [e,e0]; simp) ?_
 rintro fp ⟨p1,p2,rfl,k1,es',c',m1',m2',es1',e',es2',g1,g2,j1,j2,j3,j4,j5,j6,j7,j8,j9,rfl⟩ hnd hlt
 rw [h2] at j1
 simp only [Option.some.injEq,Obj.map.injEq] at j1
 obtain ⟨rfl,rfl⟩:=j1
 obtain ⟨n1,n2,n3⟩:=List.nodup_append.1 hnd
 obtain ⟨n4,n5⟩:=List.nodup_cons.1 n2
 obtain ⟨n6,n7,n8⟩:=List.nodup_append.1 n5
 have hlen : es1.length = es1'.length:=by
  have hfi' : es.findIdx? (fun e=>(e.born : Int) == (st : Int)) = some es1'.length:=by
   have e0' : es.findIdx? (fun e=>(e.born : Int) == (st : Int)) = es.toList.findIdx? (fun e=>(e.born : Int) == (st : Int)):=by cases es; simp
   rw [e0',j2,List.findIdx?_append]
   have hp:=j8.1
   rw [j2,List.pairwise_append] at hp
   have hno : es1'.findIdx? (fun e=>(e.born : Int) == (st : Int)) = none:=by
    rw [List.findIdx?_eq_none_iff]
    intro q hq
    have:=hp.2.2 q hq e' (by simp)
    simp only [beq_eq_false_iff_ne,ne_eq]
    omega
   rw [hno,List.findIdx?_cons]
   simp [j6]
  rw [hfi] at hfi'
  simpa using hfi'
 obtain ⟨rfl,hee⟩:=List.append_inj (h3.symm.trans j2) hlen
 simp only [List.cons.injEq] at hee
 obtain ⟨rfl,rfl⟩:=hee
 have hne : ∀ q,(q ∈ p1 ∨ q ∈ g1 ∨ q ∈ g2) → q ≠ b:=by
  rintro q (h | h | h) rfl
  ·exact n3 q h q (by simp) rfl
  ·exact n4 (by simp [h])
  ·exact n4 (by simp [h])
 refine ⟨b :: (g1 ++ (p1 ++ g2)),⟨_,[],by simp,Qq hE noB,⟨_,clock,g1 ++ (p1 ++ g2),JC w b _ hbl,?_,by rw [hmod]; rw [h3] at h9; exact h9.put rfl,rfl⟩,rfl⟩,?_,fun q hq=>by simp at hq ⊢; grind⟩
 ·rw [hmod,j9]
  refine (j3.loc hE fun q hq=>Vz w _ (hne q (by rcases hq with h | h; exact .inr (.inl h); exact h.elim))).app (m2:=(k,l) :: m2') ⟨_,es2,p1,g2,rfl,rfl,j5,Vy.loc k1 fun q hq=>Vz w _ (hne q (by rcases hq with h | h; exact .inl h; exact h.elim)),j4.loc hE fun q hq=>Vz w _ (hne q (by rcases hq with h | h; exact .inr (.inr h); exact h.elim))⟩
 ·refine List.nodup_cons.2 ⟨fun h=>?_,List.nodup_append.2 ⟨n6,List.nodup_append.2 ⟨n1,n7,fun p hp q hq=>n3 p hp q (by simp [hq])⟩,fun p hp q hq=>?_⟩⟩
  ·simp only [List.mem_append] at h
   rcases h with h | h | h
   ·exact hne b (.inr (.inl h)) rfl
   ·exact hne b (.inl h) rfl
   ·exact hne b (.inr (.inr h)) rfl
  ·rcases List.mem_append.1 hq with h | h
   ·exact fun e=>n3 q h p (by simp [hp]) e.symm
   ·exact n8 p hp q h
end
end Go.Proofs.Ytkajmkegelcfjaa
namespace Go.Proofs.Ytkajmkegelcfjaa
open Go
section
open Go.RowKit
def upto {α : Type} (f : Nat → α) (k : Nat) : List α:=(List.range k).map f
def KpB (n₀ Bs : Nat) (W W' : World) : Prop:=Below n₀ W W' ∧ W'.heap[Bs]? = W.heap[Bs]?
theorem KpB.trans {n₀ Bs : Nat} {A B C : World} (h : KpB n₀ Bs A B) (k : KpB n₀ Bs B C) : KpB n₀ Bs A C:=⟨h.1.trans k.1,k.2.trans h.2⟩
def backF (zs : List UInt8) (k : Nat) : Int × UInt8:=((zs.length : Int) - 1 - k,(zs[zs.length - 1 - k]?.getD 0))
def Byts (n₀ : Nat) (W : World) (p : Option Addr) (zs : List UInt8) : Prop :=
 zs = [] ∨ ∃ b off,p = some ⟨b,off,none⟩ ∧ b < n₀ ∧ ∀ j,j < zs.length → W.cell? ⟨b,off + j,none⟩ = some (.int .u8 (zs[j]?.getD 0).toNat)
theorem Byts.below {n₀ : Nat} {A B : World} (h : Below n₀ A B) {p : Option Addr} {zs : List UInt8} : Byts n₀ A p zs → Byts n₀ B p zs
 | .inl e=>.inl e
 | .inr ⟨b,off,e,hb,hc⟩=>.inr ⟨b,off,e,hb,fun j hj=>(h.cell (p:=⟨b,off + j,none⟩) hb).trans (hc j hj)⟩
end
end Go.Proofs.Ytkajmkegelcfjaa
namespace Go.Proofs.Ytkajmkegelcfjaa
open Go
section
variable {P : Program} {St : Nat → Prop} {w0 w : World} {its : List Item} {n : Nat} {a : Act} {e : List (Nat × Value)} {ops : Array Oper} {rest : List Oper} {Q : Exit → Act → World → Prop} {v : Value} {x : Operand} {t ty : TypeId} {pos : String} {af : Array Edge} {g : Option (Nat × Bool)}
def clr {α : Type} (l : List α) (i : Int) (z : α) : Option (List α):=if 0 ≤ i ∧ i < l.length then some (l.take i.toNat ++ List.replicate (l.length - i.toNat) z) else none
end
end Go.Proofs.Ytkajmkegelcfjaa
namespace Go.Proofs.Ytkajmkegelcfjaa
open Go
section
variable {n : Nat} {a : Act} {e : List (Nat × Value)} {w w' : World} {P : Program} {ops : Array Oper} {rest : List Oper} {Q : Exit → Act → World → Prop}
variable {d : Nat} {ty t : TypeId} {pos : String} {af : Array Edge} {g : Option (Nat × Bool)} {p q : Operand}
theorem s_max {t' : TypeId} {x y : Int} (h : Env n a e) (hw : Goes ops ⟨some d,.call ⟨.builtin .max,[p,q].toArray,[t,t'].toArray⟩,ty,pos,af,g⟩ a) (hd : d < n) (hp : opv e p = some (vI x)) (hq : opv e q = some (vI y))
  (k : ∀ a,Env n a ((d,vI (if y > x then y else x)) :: e) → wpList P ops Q rest a w) : wpList P ops Q (⟨some d,.call ⟨.builtin .max,[p,q].toArray,[t,t'].toArray⟩,ty,pos,af,g⟩ :: rest) a w:=by
 exact XC h hw rfl hd (by
  simp only [execOp,resolve]
  simp [invoke,builtin,Builtin.max_,Builtin.max2,h.ev hp,h.ev hq]) k
theorem Kw {e : TypeId} {D : TypeDesc} {by_ : Nat} {z : List Value} (he : Ty P e D 1 by_ z) (hD : Qe D = false) {xs : Array Value} {i : Nat} {v : Value} (h : xs[i]? = some v) (w : World) : (part e xs i).run P w = .ok v w:=by
 unfold part
 simp [TT he,hD,h]
theorem jv {α : Type} [Flat α] [DecidableEq α] {f1 f2 : Field} {z1 z2 : List Value} {b1 b2 : Nat} (p q : α → Int) (ht : P.underlying t = some (.struct [f1, f2].toArray)) (hs : P.stoodInHeld t = false) (n1 : (f1.name == "_") = false) (n2 : (f2.name == "_") = false)
  (o1 : f1.offset = 0) (o2 : f2.offset = 1) (t1 : Ty P f1.type (.int .i64) 1 b1 z1) (t2 : Ty P f2.type (.int .i64) 1 b2 z2) (he : ∀ x : α,Flat.enc x = [vI (p x),vI (q x)]) (hx : ∀ x y : α,p x = p y → q x = q y → x = y) : EqOk P t 2 α true:=by
 intro d w x y
 have hf : P.fieldsOf t = [f1,f2].toArray:=by simp [Program.fieldsOf,ht]
 show (Op.equalIn ((d + 1) + 1) t (.agg (Flat.enc x).toArray) (.agg (Flat.enc y).toArray)).run P w = _
 rw [run_equalIn_struct w (d + 1) t _ _ (by rw [hf]; exact ht) hs,hf,he x,he y]
 have n1 : f1.name ≠ "_" := by simpa using n1
 have n2 : f2.name ≠ "_" := by simpa using n2
 have a1:=Kw (P:=P) t1 rfl (xs:=[vI (p x),vI (q x)].toArray) (i:=0) (v:=vI (p x)) rfl w
 have a2:=Kw (P:=P) t1 rfl (xs:=[vI (p y),vI (q y)].toArray) (i:=0) (v:=vI (p y)) rfl w
 have a3:=Kw (P:=P) t2 rfl (xs:=[vI (p x),vI (q x)].toArray) (i:=1) (v:=vI (q x)) rfl w
 have a4:=Kw (P:=P) t2 rfl (xs:=[vI (p y),vI (q y)].toArray) (i:=1) (v:=vI (q y)) rfl w
 have c1 : (Op.equalIn (d + 1) f1.type (vI (p x)) (vI (p y))).run P w = .ok (p x == p y) w:=run_equalIn_int (P:=P) w d f1.type .i64 .i64 (p x) (p y) t1.und
 have c2 : (Op.equalIn (d + 1) f2.type (vI (q x)) (vI (q y))).run P w = .ok (q x == q y) w:=run_equalIn_int (P:=P) w d f2.type .i64 .i64 (q x) (q y) t2.und
 have hA : (Op.eqFields (d + 1) [vI (p x),vI (q x)].toArray [vI (p y),vI (q y)].toArray [f1,f2]).run P w = .ok (decide (p x = p y) && decide (q x = q y)) w:=by
  unfold Op.eqFields
  rw [if_pos n1,o1,Sem.run_bind,a1,Result.andThen_ok,Sem.run_bind,a2,Result.andThen_ok,Sem.run_bind,c1,Result.andThen_ok]
  by_cases e1 : p x = p y
  ·have : (p x == p y) = true:=by simpa using e1
   rw [this,if_neg (by decide)]
   unfold Op.eqFields
   rw [if_pos n2,o2,Sem.run_bind,a3,Result.andThen_ok,Sem.run_bind,a4,Result.andThen_ok,Sem.run_bind,c2,Result.andThen_ok]
   by_cases e2 : q x = q y
   ·have : (q x == q y) = true:=by simpa using e2
    rw [this,if_neg (by decide)]
    unfold Op.eqFields
    simp [e1,e2]
   ·have : (q x == q y) = false:=by simpa using e2
    rw [this,if_pos (by decide)]
    simp [e2]
  ·have : (p x == p y) = false:=by simpa using e1
   rw [this,if_pos (by decide)]
   simp [e1]
 have hB : (decide (p x = p y) && decide (q x = q y)) = decide (x = y):=by
  by_cases h : x = y
  ·simp [h]
  ·have : ¬ (p x = p y ∧ q x = q y):=fun ⟨h1,h2⟩=>h (hx x y h1 h2)
   by_cases e1 : p x = p y
   ·have e2 : ¬ q x = q y:=fun e2=>this ⟨e1,e2⟩
    simp [h,e2]
   ·simp [h,e1]
 rw [← hB]
 exact hA
end
section
variable {St : Nat → Prop} {w0 w : World} {its m r : List Item} {mk mk1 mk2 : Mk} {D : Nat → Bool} {u : Nat → Value} {s : Nat} {v : Value} {A B : Item}
theorem tg1 {b : Bool} (h : b = true) : tog b A B = B:=by subst h; rfl
theorem tg0 {b : Bool} (h : b = false) : tog b A B = A:=by subst h; rfl
theorem K8 {i j : Nat} (h : D j = true) : Yl D i j = true:=by unfold Yl; by_cases e : j = i <;> simp [e,h]
theorem KF {i : Nat} : Yl D i i = true:=by simp [Yl]
theorem Bx {i j : Nat} (h : D j = false) (hne : j ≠ i) : Yl D i j = false:=by unfold Yl; rw [if_neg hne]; exact h
theorem M.tailP (h : M St w0 w (m ++ r)) : M St w0 w (m ++ [allI St r]):=by
 obtain ⟨h1,h2,fp,h3,h4,h5⟩:=h
 obtain ⟨f,g,rfl,k1,k2⟩:=Wl.split h3
 exact ⟨h1,h2,_,Wl.append k1 (Wl.one jx k2),h4,h5⟩
theorem M.tailU (h : M St w0 w (m ++ [allI St r])) : M St w0 w (m ++ r):=by
 obtain ⟨h1,h2,fp,h3,h4,h5⟩:=h
 obtain ⟨f,g,rfl,k1,g1,g2,rfl,_,k2,e⟩:=Wl.split h3
 cases e
 rw [List.append_nil] at h4 h5
 exact ⟨h1,h2,_,Wl.append k1 k2,h4,h5⟩
theorem M.qS {p : List Nat × (List Bool → List Value → Item)} (h : M St w0 w ((A :: its) ++ qL mk (fun _=>false) u)) (e : ∀ us,p.2 (p.1.map fun _=>false) us = A) : M St w0 w (its ++ qL (p :: mk) (fun _=>false) u):=by
 have h' : M St w0 w (A :: (its ++ qL mk (fun _=>false) u)):=h
 rw [← e (p.1.map u)] at h'
 exact M.push h'
theorem M.qTogS {p : List Nat × (List Bool → List Value → Item)} (h : M St w0 w (B :: (its ++ (qL mk1 D u ++ qL mk2 D u)))) (hi : ((mk1 ++ mk2).all fun p=>p.1.all fun k=>k != s) = true)
  (e : p.2 (p.1.map (Yl D s)) (p.1.map (VN u s v)) = B) : M St w0 w (its ++ qL (mk1 ++ p :: mk2) (Yl D s) (VN u s v)):=by
 have hne':=noti hi
 rw [Ap,Qz (fun p hp=>hne' p (List.mem_append_left _ hp)),Qz (fun p hp=>hne' p (List.mem_append_right _ hp)),e]
 have h5 : M St w0 w (B :: ((its ++ qL mk1 D u) ++ qL mk2 D u)):=by simpa using h
 simpa using M.push h5
end
section
variable {n : Nat} {a : Act} {e : List (Nat × Value)} {w : World} {P : Program}
theorem k_ret4 {fn : Func} {R : Ending → World → Prop} {r1 r2 r3 r4 : ResultVar} {v1 v2 v3 v4 : Value} (hE : Env n a e) (hres : fn.results = #[r1,r2,r3,r4]) (h1 : ZY P w a r1 v1) (h2 : ZY P w a r2 v2) (h3 : ZY P w a r3 v3) (h4 : ZY P w a r4 v4)
  (hR : R (.returned (.tuple [v1,v2,v3,v4].toArray)) w) : bodyPost P fn R .ret a w:=by
 refine bodyPost_ret ?_ hE.df hR
 rw [Th,hres]
 simp [XG h1,XG h2,XG h3,XG h4]
theorem k_ret5 {fn : Func} {R : Ending → World → Prop} {r1 r2 r3 r4 r5 : ResultVar} {v1 v2 v3 v4 v5 : Value} (hE : Env n a e) (hres : fn.results = #[r1,r2,r3,r4,r5]) (h1 : ZY P w a r1 v1) (h2 : ZY P w a r2 v2) (h3 : ZY P w a r3 v3) (h4 : ZY P w a r4 v4) (h5 : ZY P w a r5 v5)
  (hR : R (.returned (.tuple [v1,v2,v3,v4,v5].toArray)) w) : bodyPost P fn R .ret a w:=by
 refine bodyPost_ret ?_ hE.df hR
 rw [Th,hres]
 simp [XG h1,XG h2,XG h3,XG h4,XG h5]
end
end Go.Proofs.Ytkajmkegelcfjaa
