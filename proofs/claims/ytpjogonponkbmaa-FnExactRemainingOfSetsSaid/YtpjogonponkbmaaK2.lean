/- The walk library: what this claim needs of it. -/
import Derived.Test.YtpjogonponkbmaaK1
set_option linter.unusedVariables false
set_option linter.unusedSimpArgs false
set_option linter.unusedSectionVars false
namespace Go.Proofs.Ytpjogonponkbmaa
open Go

theorem Ur {σ ρ τ : Type} {s : σ} {f : σ → Option τ} {g : ρ → Option τ} {r : τ} (h : (Fl.nx s : Fl σ ρ).el f g = some r) : f s = some r:=h
def ZW (v : Value) (i : Nat) : Value:=match v with
 | .tuple vs=>vs.toList.getD i undef
 | _=>undef
def UX (v : Value) (cs : List Value) : Item:=fun w fp=>∃ b,v = ptr b 0 ∧ raw b cs w fp
def Qn (there stored : Bool) (v : Value) (z c : List Value) : Item:=if there = true then (if stored = true then UX v c else UX v z) else Go.Proofs.Ytpjogonponkbmaa.emp
abbrev Gs:=List (List Nat × (List Value → Value → Prop))
abbrev Mk:=List (List Nat × (List Bool → List Value → Item))
def qL (mk : Mk) (D : Nat → Bool) (u : Nat → Value) : List Item:=mk.map fun p=>p.2 (p.1.map D) (p.1.map u)
def mkO (j : Nat) (f : Value → Item) : List Nat × (List Bool → List Value → Item):=([j],fun bs us=>opt (bs.headD false) (f (us.headD undef)))
def mkC (j s : Nat) (z c : List Value) : List Nat × (List Bool → List Value → Item):=([j,s],fun bs us=>Qn (bs.headD false) (bs.getD 1 false) (us.headD undef) z c)
def GOk (gs : Gs) (D : Nat → Bool) (u : Nat → Value) : Prop:=∀ j,D j = true → ∀ g,gs[j]? = some g → (∀ k ∈ g.1,D k = true) ∧ g.2 (g.1.map u) (u j)
theorem JR {D : Nat → Bool} {u : Nat → Value} {i : Nat} {v : Value} {l : List Nat} (h : i ∉ l) : l.map (Vw D i) = l.map D ∧ l.map (W2 u i v) = l.map u:=by
 constructor <;> apply List.map_congr_left <;> intro k hk <;> have : k ≠ i:=(fun e=>h (e ▸ hk))
 ·simp [Vw,this]
 ·simp [W2,this]
theorem T5 {mk : Mk} {D : Nat → Bool} {u : Nat → Value} {i : Nat} {v : Value} (hi : ∀ p ∈ mk,i ∉ p.1) : qL mk (Vw D i) (W2 u i v) = qL mk D u:=by
 unfold qL
 apply List.map_congr_left
 intro p hp
 obtain ⟨h1,h2⟩:=JR (D:=D) (u:=u) (v:=v) (hi p hp)
 rw [h1,h2]
theorem GOk.upd {gs : Gs} {D : Nat → Bool} {u : Nat → Value} {i : Nat} {v : Value} (h : GOk gs D u) (hD : D i = false) (hi : ∀ g,gs[i]? = some g → (∀ k ∈ g.1,D k = true) ∧ g.2 (g.1.map u) v) : GOk gs (Vw D i) (W2 u i v):=by
 have tr : ∀ k,D k = true → Vw D i k = true:=fun k hk=>by
  unfold Vw
  split
  ·rfl
  ·exact hk
 have nm : ∀ l : List Nat,(∀ k ∈ l,D k = true) → i ∉ l:=fun l hl hm=>by have:=hl i hm; rw [hD] at this; cases this
 intro j hj g hg
 by_cases hji : j = i
 ·subst hji
  obtain ⟨h1,h2⟩:=hi g hg
  refine ⟨fun k hk=>tr k (h1 k hk),?_⟩
  rw [(JR (D:=D) (u:=u) (v:=v) (nm _ h1)).2]
  simpa [W2] using h2
 ·have hj' : D j = true:=by unfold Vw at hj; rwa [if_neg hji] at hj
  obtain ⟨h1,h2⟩:=h j hj' g hg
  refine ⟨fun k hk=>tr k (h1 k hk),?_⟩
  rw [(JR (D:=D) (u:=u) (v:=v) (nm _ h1)).2]
  simpa [W2,hji] using h2
theorem GOk.put {gs : Gs} {D : Nat → Bool} {u : Nat → Value} {i : Nat} {v : Value} {ks : List Nat} {pr : List Value → Value → Prop} (h : GOk gs D u) (hD : D i = false) (hi : gs[i]? = some (ks,pr)) (h1 : ∀ k ∈ ks,D k = true) (h2 : pr (ks.map u) v) : GOk gs (Vw D i) (W2 u i v) :=
 h.upd hD fun g hg=>by rw [hi] at hg; cases hg; exact ⟨h1,h2⟩
theorem ZO {D : Nat → Bool} : ∀ k ∈ ([] : List Nat),D k = true:=fun _ h=>by cases h
theorem J9 {D : Nat → Bool} {k : Nat} {ks : List Nat} (h : D k = true) (hs : ∀ k ∈ ks,D k = true) : ∀ j ∈ k :: ks,D j = true:=fun j hj=>by
 rcases List.mem_cons.1 hj with rfl | hj
 ·exact h
 ·exact hs j hj
theorem Hb {gs : Gs} {u : Nat → Value} : GOk gs (fun _=>false) u:=fun _ h=>by cases h
def allI (St : Nat → Prop) (l : List Item) : Item:=fun w fp=>Wo St w l fp
theorem locNO {α : Type} [Rep α] {x : α} {cs : List Value} {r : List Item} (h : H6 r) : H6 (own NoB x cs :: r):=by
 intro it hi
 rcases List.mem_cons.1 hi with rfl | hi
 ·exact T9 fun _ h=>h
 ·exact h it hi
theorem Env.dummy {n : Nat} {a : Act} {e : List (Nat × Value)} {t : Nat} (h : Env n a e) (ht : n ≤ t) : Env n a ((t,undef) :: e):=by
 refine ⟨h.sz,h.df,fun s v hs=>?_⟩
 simp only [List.lookup_cons] at hs
 by_cases hst : s = t
 ·subst hst
  simp at hs
  subst hs
  rw [Array.getD_eq_getD_getElem?,Array.getElem?_eq_none (by rw [h.sz]; exact ht)]; rfl
 ·rw [show (s == t) = false by simpa using hst] at hs
  exact h.get s v hs
section
variable {St : Nat → Prop} {w0 w : World} {its pre post : List Item} {mk mk1 mk2 : Mk} {D : Nat → Bool} {u : Nat → Value} {i s b : Nat} {v : Value} {z c : List Value}
theorem noti (h : (mk.all fun p=>p.1.all fun k=>k != i) = true) : ∀ p ∈ mk,i ∉ p.1:=by
 intro p hp hm
 have:=List.all_eq_true.1 (List.all_eq_true.1 h p hp) i hm
 simp at this
theorem M.qKeep (h : M St w0 w (its ++ qL mk D u)) (hi : (mk.all fun p=>p.1.all fun k=>k != i) = true) : M St w0 w (its ++ qL mk (Vw D i) (W2 u i v)):=by
 rw [T5 (noti hi)]; exact h
theorem Bj {mk1 mk2 : Mk} {p : List Nat × (List Bool → List Value → Item)} : qL (mk1 ++ p :: mk2) D u = qL mk1 D u ++ (p.2 (p.1.map D) (p.1.map u) :: qL mk2 D u):=by simp [qL]
theorem M.qPut {p : List Nat × (List Bool → List Value → Item)} {it : Item} (h : M St w0 w (it :: (its ++ qL (mk1 ++ p :: mk2) D u))) (hi : ((mk1 ++ mk2).all fun p=>p.1.all fun k=>k != i) = true)
  (h1 : p.2 (p.1.map D) (p.1.map u) = Go.Proofs.Ytpjogonponkbmaa.emp) (h2 : p.2 (p.1.map (Vw D i)) (p.1.map (W2 u i v)) = it) : M St w0 w (its ++ qL (mk1 ++ p :: mk2) (Vw D i) (W2 u i v)):=by
 have hne:=noti hi
 rw [Bj] at h ⊢
 rw [T5 (fun p hp=>hne p (List.mem_append_left _ hp)),T5 (fun p hp=>hne p (List.mem_append_right _ hp)),h2]
 rw [h1] at h
 have h3 : M St w0 w ((it :: (its ++ qL mk1 D u)) ++ Go.Proofs.Ytpjogonponkbmaa.emp :: qL mk2 D u):=by simpa using h
 have h4:=h3.pull.drop
 have h5 : M St w0 w (it :: ((its ++ qL mk1 D u) ++ qL mk2 D u)):=by simpa using h4
 simpa using M.push h5
theorem M.qFill {f : Value → Item} (h : M St w0 w (f v :: (its ++ qL (mk1 ++ mkO i f :: mk2) D u))) (hi : ((mk1 ++ mk2).all fun p=>p.1.all fun k=>k != i) = true) (hD : D i = false) :
  M St w0 w (its ++ qL (mk1 ++ mkO i f :: mk2) (Vw D i) (W2 u i v)) :=
 M.qPut h hi (by simp [mkO,hD,TH]) (by simp [mkO,Vw,W2,Qg])
theorem M.qAlloc (h : M St w0 w (raw b z :: (its ++ qL (mk1 ++ mkC i s z c :: mk2) D u))) (hi : ((mk1 ++ mk2).all fun p=>p.1.all fun k=>k != i) = true) (hD : D i = false) (hs : D s = false) (hne : s ≠ i) :
  M St w0 w (its ++ qL (mk1 ++ mkC i s z c :: mk2) (Vw D i) (W2 u i (ptr b 0))):=by
 have h' : M St w0 w (UX (ptr b 0) z :: (its ++ qL (mk1 ++ mkC i s z c :: mk2) D u)):=h.pack1 (fun w w' fp ⟨b',e,k⟩ hb=>⟨b',e,VZ w w' fp k hb⟩) fun fp k=>⟨b,rfl,k⟩
 refine M.qPut h' hi (by simp [mkC,hD,Qn]) ?_
 simp [mkC,Vw,W2,Qn,hne,hs]
theorem M.openCell {there stored : Bool} (h : M St w0 w (pre ++ Qn there stored v z c :: post)) (ht : there = true) : ∃ b,v = ptr b 0 ∧ M St w0 w (raw b (if stored = true then c else z) :: (pre ++ post)):=by
 have h1:=h.pull
 obtain ⟨fp,hfp,_⟩:=h1.head
 subst ht
 have e : Qn true stored v z c = UX v (if stored = true then c else z):=by cases stored <;> rfl
 rw [e] at hfp h1
 obtain ⟨b,hb,_⟩:=hfp
 exact ⟨b,hb,h1.pack1 VZ fun fp ⟨b',e',k⟩=>by rw [hb] at e'; simp [ptr] at e'; subst e'; exact k⟩
theorem M.qStore (h : M St w0 w (raw b c :: (its ++ (qL mk1 D u ++ qL mk2 D u)))) (hi : ((mk1 ++ mk2).all fun p=>p.1.all fun k=>k != s) = true) (hj : D i = true) (hb : u i = ptr b 0) (hne : i ≠ s) :
  M St w0 w (its ++ qL (mk1 ++ mkC i s z c :: mk2) (Vw D s) (W2 u s v)):=by
 have hne':=noti hi
 rw [Bj,T5 (fun p hp=>hne' p (List.mem_append_left _ hp)),T5 (fun p hp=>hne' p (List.mem_append_right _ hp))]
 have e : (mkC i s z c).2 ((mkC i s z c).1.map (Vw D s)) ((mkC i s z c).1.map (W2 u s v)) = UX (ptr b 0) c:=by
  simp [mkC,Vw,W2,Qn,hne,hj,hb]
 rw [e]
 have h' : M St w0 w (UX (ptr b 0) c :: (its ++ (qL mk1 D u ++ qL mk2 D u))):=h.pack1 (fun w w' fp ⟨b',e,k⟩ hb=>⟨b',e,VZ w w' fp k hb⟩) fun fp k=>⟨b,rfl,k⟩
 have h5 : M St w0 w (UX (ptr b 0) c :: ((its ++ qL mk1 D u) ++ qL mk2 D u)):=by simpa using h'
 simpa using M.push h5
end

def tog (b : Bool) (A B : Item) : Item:=if b = true then B else A
def mkT (s : Nat) (A B : Item) : List Nat × (List Bool → List Value → Item):=([s],fun bs _=>tog (bs.headD false) A B)
section
variable {St : Nat → Prop} {w0 w : World} {its pre post : List Item} {mk mk1 mk2 : Mk} {D : Nat → Bool} {u : Nat → Value} {s : Nat} {v : Value} {A B : Item}
theorem M.q0 (h : M St w0 w its) (u : Nat → Value) : M St w0 w (its ++ qL [] (fun _=>false) u):=by simpa [qL] using h
theorem M.qE {p : List Nat × (List Bool → List Value → Item)} (h : M St w0 w (its ++ qL mk (fun _=>false) u)) (he : ∀ us,p.2 (p.1.map fun _=>false) us = Go.Proofs.Ytpjogonponkbmaa.emp) : M St w0 w (its ++ qL (p :: mk) (fun _=>false) u):=by
 have : M St w0 w (Go.Proofs.Ytpjogonponkbmaa.emp :: (its ++ qL mk (fun _=>false) u)):=h.emp
 rw [← he (p.1.map u)] at this
 exact M.push this
theorem M.qT (h : M St w0 w ((A :: its) ++ qL mk (fun _=>false) u)) : M St w0 w (its ++ qL (mkT s A B :: mk) (fun _=>false) u):=M.push (pre:=its) (post:=qL mk (fun _=>false) u) h
theorem emO {j : Nat} {f : Value → Item} : ∀ us,(mkO j f).2 ((mkO j f).1.map fun _=>false) us = Go.Proofs.Ytpjogonponkbmaa.emp:=fun _=>by simp [mkO,TH]
theorem emC {j s : Nat} {z c : List Value} : ∀ us,(mkC j s z c).2 ((mkC j s z c).1.map fun _=>false) us = Go.Proofs.Ytpjogonponkbmaa.emp:=fun _=>rfl
theorem M.togA {b : Bool} (h : M St w0 w (pre ++ tog b A B :: post)) (hb : b = false) : M St w0 w (pre ++ A :: post):=by subst hb; exact h
theorem M.togB {b : Bool} (h : M St w0 w (pre ++ tog b A B :: post)) (hb : b = true) : M St w0 w (pre ++ B :: post):=by subst hb; exact h
theorem M.qTog (h : M St w0 w (B :: (its ++ (qL mk1 D u ++ qL mk2 D u)))) (hi : ((mk1 ++ mk2).all fun p=>p.1.all fun k=>k != s) = true) : M St w0 w (its ++ qL (mk1 ++ mkT s A B :: mk2) (Vw D s) (W2 u s v)):=by
 have hne':=noti hi
 rw [Bj,T5 (fun p hp=>hne' p (List.mem_append_left _ hp)),T5 (fun p hp=>hne' p (List.mem_append_right _ hp))]
 have e : (mkT s A B).2 ((mkT s A B).1.map (Vw D s)) ((mkT s A B).1.map (W2 u s v)) = B:=by simp [mkT,Vw,tog]
 rw [e]
 have h5 : M St w0 w (B :: ((its ++ qL mk1 D u) ++ qL mk2 D u)):=by simpa using h
 simpa using M.push h5
end

def DrawI3 (P : Program) (l hd tl : List Oper) (Q : Exit → Act → World → Prop) (n : Nat) (ts : List Nat) (e0 : List (Nat × Value)) (I : (Nat → Bool) → (Nat → Value) → World → Prop) (listed : Array Bool) (a : Act) (w : World) : Prop :=
 ((∀ i,i < hd.length → dn listed i) ∧ ∃ k,k ≤ tl.length ∧ (∀ j,j < k → dn listed (hd.length + j)) ∧ (∀ j,k ≤ j → j < tl.length → ¬ dn listed (hd.length + j)) ∧ wpList P l.toArray Q (tl.drop k) a w) ∨
 ((¬ ∀ i,i < hd.length → dn listed i) ∧ (∀ j,hd.length ≤ j → ¬ dn listed j) ∧ ∃ u,Env n a (VP ts 0 u e0) ∧ I (fun j=>listed.getD j false) u w)

theorem Ut {P : Program} {id : Nat} {hd tl : List Oper} {Q : Exit → Act → World → Prop} {a : Act} {w : World} {n : Nat} {e0 : List (Nat × Value)}
  (hm : P.follows .mixedOrders = true) (hE : Tr (hd ++ tl) 0 = true) (hT : Ju (hd ++ tl) hd.length = true)
  (ts : List Nat) (hn : ts.Nodup) (I : (Nat → Bool) → (Nat → Value) → World → Prop)
  (h0 : Env n a e0) (hM0 : ∀ u,I (fun _=>false) u w.drew)
  (hstep : ∀ (i : Nat) (o : Oper),hd[i]? = some o → ∀ a w (u : Nat → Value) (D : Nat → Bool),Env n a (VP ts 0 u e0) → I D u w → D i = false → (∀ (j : Nat) (p : Oper) (e : Edge),hd[j]? = some p → e ∈ p.after.toList → Region.binds .any e = true → D j = true → D e.on = true) →
   (∀ (k : Nat) (e : Edge),o.after.toList[k]? = some e → Region.binds .any e = true → D e.on = true) →
   wpList P (hd ++ tl).toArray (nrm fun a' w'=>∃ v t,ts[i]? = some t ∧ Env n a' ((t,v) :: VP ts 0 u e0) ∧ I (Vw D i) (W2 u i v) w') [o] a w)
  (htail : ∀ a w u D,Env n a (VP ts 0 u e0) → I D u w → (∀ j,j < hd.length → D j = true) → wpList P (hd ++ tl).toArray Q tl a w) :
  (Code.region id (hd ++ tl).toArray true).wp P Q a w:=by
 refine wp_region_any hm ?_
 generalize hl : hd ++ tl = l at *
 have hln : l.length = hd.length + tl.length:=by rw [← hl]; simp
 have hbl : (bef l []).length = l.length:=by
  have : ∀ (r : List Oper) (acc : List Nat),(bef r acc).length = acc.length + r.length:=by
   intro r; induction r with
   | nil=>intro acc; simp [bef]
   | cons o r ih=>intro acc; rw [bef,ih]; simp; omega
  rw [this]; simp
 have tailDone : ∀ listed i o,l[i]? = some o → hd.length ≤ i → KR l (dn listed) → (∀ e ∈ o.after.toList,Region.binds .any e = true → dn listed e.on) → ∀ j,j < i → dn listed j:=by
  intro listed i o hi hle hdc hp j hj
  have hil:=(List.getElem?_eq_some_iff.1 hi).1
  have hbit : ((bef l []).getD i 0).testBit j = true:=by
   unfold Ju at hT
   simp only [List.all_eq_true] at hT
   have:=hT i (by simpa using hil)
   simp only [Bool.or_eq_true,decide_eq_true_eq,List.all_eq_true] at this
   rcases this with h | h
   ·omega
   ·exact h j (by simpa using hj)
  exact Qk l l [] 0 rfl (by simp) (fun i hi=>absurd hi (Nat.not_lt_zero i)) i (by rw [hbl]; exact hil) (dn listed) hdc (fun o' e ho' he hb=>by rw [hi] at ho'; cases ho'; exact hp e he hb) j hbit
 have hfuel : ((List.range l.length).filter fun i=>!(Array.replicate l.toArray.size false).getD i false).length ≤ l.toArray.size:=by
  refine Nat.le_trans (List.length_filter_le _ _) ?_; simp
 have hnot0 : ∀ i,¬ dn (Array.replicate l.toArray.size false) i:=by
  intro i; unfold dn; rw [Array.getD_eq_getD_getElem?,Array.getElem?_replicate]; split <;> simp
 refine U9 hE (DrawI3 P l hd tl Q n ts e0 I) ?_ ?_ _ _ _ _ (by simp) hfuel (fun i o e _ _ _ h=>absurd h (hnot0 i)) ?_
 ·intro listed i o a w hsz hi hnd hdc hp hI
  have hil:=(List.getElem?_eq_some_iff.1 hi).1
  by_cases hh : i < hd.length
  ·-- a head operation
   have hnall : ¬ ∀ i,i < hd.length → dn listed i:=fun h=>hnd (h i hh)
   obtain ⟨h,_⟩ | ⟨_,ht0,u,k1,k2⟩:=hI
   ·exact absurd h hnall
   have hio : hd[i]? = some o:=by rw [← hl] at hi; rwa [List.getElem?_append_left hh] at hi
   refine JL (by simpa using hi) ?_
   have hs:=hstep i o hio a w u (fun j=>listed.getD j false) k1 k2 (by simpa [dn] using hnd) (fun j p e hj he hb hdj=>hdc j p e (by rw [← hl,List.getElem?_append_left (List.getElem?_eq_some_iff.1 hj).1]; exact hj) he hb hdj) (fun k e hk hb=>hp e (List.mem_of_getElem? hk) hb)
   have hmono : ∀ (X Y : Act → World → Prop),(∀ a w,X a w → Y a w) → ∀ a w,wpList P l.toArray (nrm X) [o] a w → wpList P l.toArray (nrm Y) [o] a w:=by
    intro X Y hXY a w h
    unfold wpList at h ⊢
    split
    ·rename_i hw
     rw [if_pos hw] at h
     rcases h with h | ⟨_,a',w',h⟩
     ·exact .inl (Oper.wp_mono2 (fun _ _ h=>hXY _ _ h) (fun _ _ _ h=>h.elim) (fun ⟨_,_,h⟩=>h.elim) h)
     ·exact h.elim
    ·rename_i hw
     rw [if_neg hw] at h
     exact hXY _ _ h
   refine hmono _ _ ?_ a w hs
   rintro a' w' ⟨v,t,hti,hEnv,hM'⟩
   have hEnv':=hEnv.upd hn hti
   have hset : ∀ j,dn (listed.setIfInBounds i true) j ↔ (j = i ∨ dn listed j):=fun j=>Ta (by omega)
   have hD : (fun j=>(listed.setIfInBounds i true).getD j false) = Vw (fun j=>listed.getD j false) i:=by
    funext j
    unfold Vw
    by_cases hj : j = i
    ·rw [if_pos hj]; exact (hset j).2 (.inl hj)
    ·rw [if_neg hj]
     rw [Bool.eq_iff_iff]
     exact (hset j).trans ⟨fun h=>h.resolve_left hj,.inr⟩
   have htn : ∀ j,hd.length ≤ j → ¬ dn (listed.setIfInBounds i true) j:=by
    intro j hj hd'
    rcases (hset j).1 hd' with rfl | hj'
    ·omega
    ·exact ht0 j hj hj'
   rw [← hD] at hM'
   by_cases hall : ∀ j,j < hd.length → dn (listed.setIfInBounds i true) j
   ·exact .inl ⟨hall,0,Nat.zero_le _,fun j hj=>by omega,fun j _ _=>htn _ (by omega),htail a' w' _ _ hEnv' hM' (fun j hj=>hall j hj)⟩
   ·exact .inr ⟨hall,htn,_,hEnv',hM'⟩
  ·have hdone:=tailDone listed i o hi (by omega) hdc hp
   have hall : ∀ j,j < hd.length → dn listed j:=fun j hj=>hdone j (by omega)
   obtain ⟨_,k,hk,k1,k2,k3⟩ | ⟨h,_⟩:=hI
   case inr=>exact absurd hall h
   have hki : hd.length + k = i:=by
    rcases Nat.lt_trichotomy (hd.length + k) i with h | h | h
    ·exact absurd (hdone _ h) (k2 k (Nat.le_refl _) (by omega))
    ·exact h
    ·exact absurd (by have:=k1 (i - hd.length) (by omega); rwa [show hd.length + (i - hd.length) = i by omega] at this) hnd
   have hto : tl[k]? = some o:=by
    rw [← hl] at hi
    rw [List.getElem?_append_right (by omega)] at hi
    rwa [show i - hd.length = k by omega] at hi
   have hdr : tl.drop k = o :: tl.drop (k + 1):=by
    rw [List.drop_eq_getElem_cons (List.getElem?_eq_some_iff.1 hto).1]
    congr 1
    exact (List.getElem?_eq_some_iff.1 hto).2
   rw [hdr] at k3
   refine wpOp_mono (fun a' w' hl=>?_) (QS (by simpa using hi) k3)
   have hset : ∀ j,dn (listed.setIfInBounds i true) j ↔ (j = i ∨ dn listed j):=fun j=>Ta (by omega)
   have hall' : ∀ j,j < hd.length → dn (listed.setIfInBounds i true) j:=fun j hj=>(hset j).2 (.inr (hall j hj))
   refine .inl ⟨hall',k + 1,(List.getElem?_eq_some_iff.1 hto).1,fun j hj=>(hset _).2 ?_,fun j hj1 hj2 hd'=>?_,hl⟩
   ·rcases Nat.lt_or_ge j k with h | h
    ·exact .inr (k1 j h)
    ·exact .inl (by omega)
   ·rcases (hset _).1 hd' with h | h
    ·omega
    ·exact k2 j (by omega) hj2 h
 ·intro listed a w hsz hall hI
  have hall' : ∀ i,i < hd.length → dn listed i:=fun i hi=>hall i (by omega)
  obtain ⟨_,k,hk,k1,k2,k3⟩ | ⟨h,_⟩:=hI
  case inr=>exact absurd hall' h
  have : k = tl.length:=by
   rcases Nat.lt_or_ge k tl.length with h | h
   ·exact absurd (hall (hd.length + k) (by omega)) (k2 k (Nat.le_refl _) h)
   ·omega
  subst this
  rw [List.drop_length] at k3
  exact k3
 ·have hu : ∀ (r : List Nat) (j : Nat) (u : Nat → Value),(∀ k t,r[k]? = some t → u (j + k) = a.tmps.getD t undef) → Env n a (VP r j u e0):=by
   intro r
   induction r with
   | nil=>intro j u _; exact h0
   | cons t r ih =>
    intro j u hu
    have h1:=ih (j + 1) u (fun k s hk=>by have:=hu (k + 1) s (by simpa using hk); rwa [show j + (k + 1) = j + 1 + k by omega] at this)
    refine ⟨h1.sz,h1.df,fun s x hs=>?_⟩
    simp only [VP,List.lookup_cons] at hs
    by_cases hst : s = t
    ·subst hst
     simp at hs
     rw [← hs]
     exact (hu 0 s rfl).symm
    ·rw [show (s == t) = false by simpa using hst] at hs
     exact h1.get s x hs
  have hEnv : Env n a (VP ts 0 (fun j=>a.tmps.getD (ts.getD j 0) undef) e0):=hu ts 0 _ (fun k t hk=>by simp [List.getD_eq_getElem?_getD,hk])
  have hDf : (fun j=>(Array.replicate l.toArray.size false).getD j false) = fun _=>false:=by
   funext j
   have:=hnot0 j
   unfold dn at this
   simpa using this
  by_cases hall : ∀ i,i < hd.length → dn (Array.replicate l.toArray.size false) i
  ·have hnil : hd.length = 0:=by
    rcases Nat.eq_zero_or_pos hd.length with h | h
    ·exact h
    ·exact absurd (hall 0 h) (hnot0 0)
   exact .inl ⟨hall,0,Nat.zero_le _,fun j hj=>by omega,fun j _ _=>hnot0 _,htail a _ _ _ hEnv (hM0 _) (fun j hj=>by omega)⟩
  ·refine .inr ⟨hall,fun j _=>hnot0 j,_,hEnv,?_⟩
   rw [hDf]
   exact hM0 _
end Go.Proofs.Ytpjogonponkbmaa
namespace Go.Proofs.Ytpjogonponkbmaa
open Go

abbrev FillA (sz : Nat) (z : List Value) (parts : List (Nat × Value)) (cs : List Value) : Prop:=Instr.fill (fun i=>some (i * sz,sz)) z.toArray parts = some cs.toArray
theorem Y7 {sz : Nat} {z : List Value} : FillA sz z [] z:=rfl
section
variable {n : Nat} {a : Act} {e : List (Nat × Value)} {w w' : World} {P : Program} {ops : Array Oper} {rest : List Oper} {Q : Exit → Act → World → Prop}
variable {d : Nat} {ty t : TypeId} {pos : String} {af : Array Edge} {g : Option (Nat × Bool)} {x y : Operand} {v u : Value}
theorem Be {parts : List (Nat × Operand)} {vs : List (Nat × Value)} (h : Env n a e) (hxs : UU e (parts.map (·.2)) = some (vs.map (·.2))) (hix : parts.map (·.1) = vs.map (·.1)) :
  (parts.map fun (p : Nat × Operand)=>(p.1,a.eval p.2)) = vs:=by
 have h1:=h.evs hxs
 rw [List.map_map] at h1
 apply List.ext_getElem?
 intro i
 have e1 : (parts.map (·.1))[i]? = (vs.map (·.1))[i]?:=by rw [hix]
 have e2 : (parts.map (a.eval ∘ fun (p : Nat × Operand)=>p.2))[i]? = (vs.map (·.2))[i]?:=by rw [h1]
 simp only [List.getElem?_map] at e1 e2 ⊢
 cases hp : parts[i]? with
 | none =>
  rw [hp] at e1
  cases hq : vs[i]? with
  | none=>rfl
  | some q=>rw [hq] at e1; simp at e1
 | some p =>
  rw [hp] at e1 e2
  cases hq : vs[i]? with
  | none=>rw [hq] at e1; simp at e1
  | some q =>
   rw [hq] at e1 e2
   simp only [Option.map_some,Option.some.injEq] at e1 e2 ⊢
   exact Prod.ext e1 e2
theorem XV {el N : Nat} {parts : List (Nat × Operand)} {vs : List (Nat × Value)} {z cs ze : List Value} {sz by_ esz eby : Nat} {D De : TypeDesc} (h : Env n a e) (hw : Goes ops ⟨some d,.build t parts.toArray,ty,pos,af,g⟩ a) (hd : d < n)
  (hxs : UU e (parts.map (·.2)) = some (vs.map (·.2))) (hix : parts.map (·.1) = vs.map (·.1)) (ht : Ty P t D sz by_ z) (hD : D = .array N el) (he : Ty P el De esz eby ze) (hf : FillA esz z vs cs)
  (k : ∀ a,Env n a ((d,.agg cs.toArray) :: e) → wpList P ops Q rest a w) : wpList P ops Q (⟨some d,.build t parts.toArray,ty,pos,af,g⟩ :: rest) a w:=by
 refine XX h hw rfl hd (w':=w) ?_ k
 have hvals:=Be h hxs hix
 have hb : P.built t vs = some cs.toArray:=by
  obtain ⟨i,zv,h1,h2,_,h3,h4⟩:=ht.get
  obtain ⟨ie,_,k1,k2,_,_,_⟩:=he.get
  have hu:=ht.und
  rw [hD] at hu
  unfold Program.built
  rw [h1,hu]
  simp only [h3,k1,k2]
  have h5 : zv.cells = z.toArray:=by rw [← h4]
  simp only [h5]
  exact hf
 simp only [execOp]
 have : (parts.toArray.map fun (p : Nat × Operand)=>(p.1,a.eval p.2)) = vs.toArray:=by rw [List.map_toArray,hvals]
 simp only [Sem.run_bind]
 rw [show (Instr.build t (parts.toArray.map fun (i,x)=>(i,a.eval x))).run P w = .ok (.agg cs.toArray) w from by
  have h2:=run_build (P:=P) w t (parts.toArray.map fun (i,x)=>(i,a.eval x)) cs.toArray (by
   have : (parts.toArray.map fun (i,x)=>(i,a.eval x)).toList = vs:=by simpa using hvals
   rw [this]; exact hb)
  exact h2]
 rfl

theorem enc_at {α : Type} [Flat α] {N i : Nat} {v : Vector α N} {x : α} (hi : v.toList[i]? = some x) : ∃ c1 c2,Flat.enc v = c1 ++ (Flat.enc x ++ c2) ∧ c1.length = i * Flat.n α:=by
 refine ⟨Yi (v.toList.take i),Yi (v.toList.drop (i + 1)),UB hi,?_⟩
 rw [Wi,List.length_take,Nat.min_eq_left (Nat.le_of_lt (List.getElem?_eq_some_iff.1 hi).1)]
theorem UC {α : Type} [Flat α] {N el sz by_ : Nat} {z : List Value} {De : TypeDesc} {K : IntKind} {i : Int} {v : Vector α N} {x0 : α} (h : Env n a e) (hw : Goes ops ⟨some d,.index t x y,ty,pos,af,g⟩ a) (hd : d < n)
  (hx : opv e x = some (.agg (Flat.enc v).toArray)) (hy : opv e y = some (.int K i)) (ht : P.underlying t = some (.array N el)) (he : Ty P el De sz by_ z) (hD : KJ De = false) (hs : sz = Flat.n α) (hi : (0 ≤ i ∧ i < N) ∧ v.toList[i.toNat]? = some x0) (hu : Flat.enc x0 = [u])
  (k : ∀ a,Env n a ((d,u) :: e) → wpList P ops Q rest a w) : wpList P ops Q (⟨some d,.index t x y,ty,pos,af,g⟩ :: rest) a w:=by
 obtain ⟨c1,c2,e1,e2⟩:=enc_at hi.2
 subst hs
 have hg : (Flat.enc v)[i.toNat * Flat.n α]? = some u:=by
  rw [e1,hu,← e2]
  simp
 exact XX h hw rfl hd (by
  simp only [execOp,h.ev hx,h.ev hy]
  simp [Instr.index,asIntOf,run_underlying ht,hi.1,XU he,part,TL he,hD,hg]) k
theorem Xy {b o : Nat} (h : Env n a e) (hw : Goes ops ⟨some d,.nilCheck x,ty,pos,af,g⟩ a) (hd : d < n) (hx : opv e x = some (ptr b o))
  (k : ∀ a,Env n a ((d,ptr b o) :: e) → wpList P ops Q rest a w) : wpList P ops Q (⟨some d,.nilCheck x,ty,pos,af,g⟩ :: rest) a w :=
 XX h hw rfl hd (by simp only [execOp,h.ev hx]; rfl) k
end
theorem Aw {α : Type} [Flat α] {N b : Nat} {w : World} {v : Vector α N} (h : At w b 0 (Flat.enc v)) : Rep.sat (fun c=>c = b) w v.toList [.slice (some ⟨b,0,none⟩) N N] []:=by
 refine ⟨some ⟨b,0,none⟩,N,by simp,by simp,fun _=>rfl,Flat.enc v,[],?_,h,.inl ⟨fun _=>rfl,rfl⟩⟩
 show ZT _ w v.toList (Yi v.toList) []
 generalize v.toList = l
 induction l with
 | nil=>exact ⟨rfl,rfl⟩
 | cons x l ih=>exact ⟨_,_,[],[],rfl,rfl,⟨rfl,rfl⟩,ih⟩
section
variable {n : Nat} {a : Act} {e : List (Nat × Value)} {w w' : World} {P : Program} {ops : Array Oper} {rest : List Oper} {Q : Exit → Act → World → Prop}
variable {d : Nat} {ty t : TypeId} {pos : String} {af : Array Edge} {g : Option (Nat × Bool)} {x y : Operand} {v u : Value}
theorem Uj {N el sz by_ b : Nat} {z : List Value} {D : TypeDesc} {K : IntKind} {i : Int} (h : Env n a e) (hw : Goes ops ⟨some d,.indexAddr t x y,ty,pos,af,g⟩ a) (hd : d < n)
  (hx : opv e x = some (.slice (some ⟨b,0,none⟩) N N)) (hy : opv e y = some (.int K i)) (ht : P.underlying t = some (.slice el)) (he : Ty P el D sz by_ z) (hi : 0 ≤ i ∧ i < N)
  (k : ∀ a,Env n a ((d,ptr b (0 + i.toNat * sz)) :: e) → wpList P ops Q rest a w) : wpList P ops Q (⟨some d,.indexAddr t x y,ty,pos,af,g⟩ :: rest) a w :=
 XX h hw rfl hd (by
  simp only [execOp,h.ev hx,h.ev hy]
  simp [Instr.indexAt,asIntOf,run_underlying ht,Instr.sureAddr,hi,XU he,Addr.add_lit]) k
end
theorem k_ret0 {n : Nat} {a : Act} {e : List (Nat × Value)} {w : World} {P : Program} {fn : Func} {R : Ending → World → Prop} (hE : Env n a e) (hres : fn.results = #[]) (hR : R (.returned (.tuple [].toArray)) w) : bodyPost P fn R .ret a w:=by
 refine bodyPost_ret ?_ hE.df hR
 rw [T4,hres]
 simp
theorem AU {n : Nat} {a : Act} {e : List (Nat × Value)} {w : World} {P : Program} {fn : Func} {R : Ending → World → Prop} (hE : Env n a e) (hres : fn.results = #[]) (hR : R (.returned (.tuple [].toArray)) w) : bodyPost P fn R .normal a w:=k_ret0 hE hres hR
structure Ref (α : Type) where
 v : α
 deriving DecidableEq,Inhabited
instance {α : Type} [Dat α] : Dat (Ref α):=⟨fun x=>Dat.bd x.v,fun x=>Dat.sz x.v + 1⟩
def RefSat {α : Type} [Rep α] (S : Nat → Prop) (w : World) (x : Ref α) (cs : List Value) (fp : List Nat) : Prop :=
 ∃ b ds fpe,cs = [ptr b 0] ∧ Rep.sat S w x.v ds fpe ∧ At w b 0 ds ∧ ((S b ∧ fp = fpe) ∨ (fp = b :: fpe ∧ ∃ T,w.heap[b]? = some (.cells ds.toArray T (0,0))))
instance {α : Type} [Rep α] : Rep (Ref α) where
 n:=1
 sat:=RefSat
 len:=by rintro S w x cs fp ⟨b,ds,fpe,rfl,_⟩; rfl
 loc:=by
  rintro S w w' x cs fp ⟨b,ds,fpe,rfl,h1,h2,h3⟩ hb
  rcases h3 with ⟨h3,rfl⟩ | ⟨rfl,T,h3⟩
  ·exact ⟨b,ds,fp,rfl,Rep.loc h1 hb,h2.loc (hb _ (.inr h3)),.inl ⟨h3,rfl⟩⟩
  ·exact ⟨b,ds,fpe,rfl,Rep.loc h1 (fun b h=>hb b (by simp; grind)),h2.loc (hb _ (by simp)),.inr ⟨rfl,T,by rw [hb _ (by simp)]; exact h3⟩⟩
 ro:=by
  rintro S S' w x cs fp ⟨b,ds,fpe,rfl,h1,h2,h3⟩ hb
  rcases h3 with ⟨h3,rfl⟩ | ⟨rfl,T,h3⟩
  ·exact ⟨b,ds,[],rfl,Rep.ro h1 hb,h2,.inl ⟨hb _ (.inr h3),rfl⟩⟩
  ·exact ⟨b,ds,[],rfl,Rep.ro h1 (fun b h=>hb b (by simp; grind)),h2,.inl ⟨hb _ (by simp),rfl⟩⟩
 wk:=by
  rintro S S' w x cs fp ⟨b,ds,fpe,rfl,h1,h2,h3⟩ hb
  rcases h3 with ⟨h3,rfl⟩ | ⟨rfl,T,h3⟩
  ·exact ⟨b,ds,fp,rfl,Rep.wk h1 hb,h2,.inl ⟨hb _ h3,rfl⟩⟩
  ·exact ⟨b,ds,fpe,rfl,Rep.wk h1 hb,h2,.inr ⟨rfl,T,h3⟩⟩
 lt:=by
  rintro S w x cs fp ⟨b,ds,fpe,rfl,h1,h2,h3⟩ c hc
  rcases h3 with ⟨h3,rfl⟩ | ⟨rfl,T,h3⟩
  ·exact Rep.lt h1 c hc
  ·rcases List.mem_cons.1 hc with rfl | hc
   ·rcases Nat.lt_or_ge c w.heap.size with h | h
    ·exact h
    ·rw [Array.getElem?_eq_none h] at h3; cases h3
   ·exact Rep.lt h1 c hc
 cell:=by
  rintro S w x cs fp ⟨b,ds,fpe,rfl,_⟩ v hv
  simp at hv; subst hv; rfl
section
variable {α : Type} [Rep α] {S : Nat → Prop} {w w0 : World} {x : Ref α} {fp : List Nat} {u : Value} {St : Nat → Prop} {its : List Item} {b : Nat} {ds : List Value}
theorem JA (h : Rep.sat S w x [u] fp) : u.cells.toList = [u]:=by obtain ⟨b,ds,fpe,e,_⟩:=h; obtain rfl:=(List.cons.inj e).1; rfl
theorem Kw {cs : List Value} (h : Rep.sat S w x cs fp) : ∃ v,cs = [v]:=by obtain ⟨b,ds,fpe,e,_⟩:=h; exact ⟨_,e⟩
theorem Vy (h : Rep.sat S w x [u] []) : ∃ b ds,u = ptr b 0 ∧ Rep.sat S w x.v ds [] ∧ At w b 0 ds ∧ S b:=by
 obtain ⟨b,ds,fpe,e,h1,h2,h3⟩:=h
 rcases h3 with ⟨h3,rfl⟩ | ⟨h3,_⟩
 ·exact ⟨b,ds,(List.cons.inj e).1,h1,h2,h3⟩
 ·cases h3
theorem M.toRef {x : α} {S : Nat → Prop} (h : M St w0 w (raw b ds :: own S x ds :: its)) (hS : ∀ b,S b → St b) : M St w0 w (own S (⟨x⟩ : Ref α) [ptr b 0] :: its) :=
 h.pack2 (T9 hS) fun f g h1 h2=>by
  obtain ⟨rfl,T,h3⟩:=h1
  exact ⟨b,ds,g,rfl,h2,At.of_heap h3,.inr ⟨rfl,T,h3⟩⟩
theorem M.toRefF {α : Type} [Flat α] {x : α} (h : M St w0 w (raw b (Flat.enc x) :: its)) : M St w0 w (own NoB (⟨x⟩ : Ref α) [ptr b 0] :: its) :=
 h.pack1 (T9 fun _ h=>h.elim) fun f h1=>by
  obtain ⟨rfl,T,h3⟩:=h1
  exact ⟨b,Flat.enc x,[],rfl,⟨rfl,rfl⟩,At.of_heap h3,.inr ⟨rfl,T,h3⟩⟩
end
end Go.Proofs.Ytpjogonponkbmaa
namespace Go.Proofs.Ytpjogonponkbmaa
open Go

section
variable {n : Nat} {a : Act} {e : List (Nat × Value)} {w w' : World} {P : Program} {ops : Array Oper} {rest : List Oper} {Q : Exit → Act → World → Prop}
variable {d : Nat} {ty t : TypeId} {pos : String} {af : Array Edge} {g : Option (Nat × Bool)} {x y : Operand} {v u : Value}
variable {St : Nat → Prop} {w0 : World} {its : List Item}

def BC {α : Type} [Rep α] (w : World) : List α → List Value → Prop
 | [],[]=>True
 | x :: l,v :: vs=>Ro w x [v] ∧ BC w l vs
 | _,_=>False
theorem BC.elems {α : Type} [Rep α] {w : World} : ∀ {l : List α} {vs : List Value},BC w l vs → ZT (Old w) w l vs []
 | [],[],_=>⟨rfl,rfl⟩
 | _ :: _,v :: vs,h=>⟨[v],vs,[],[],rfl,rfl,h.1,BC.elems h.2⟩
 | [],_ :: _,h=>h.elim
 | _ :: _,[],h=>h.elim
def toArr {α : Type} (N : Nat) (l : List α) : Option (Vector α N):=if h : N ≤ l.length then some ⟨(l.take N).toArray,by simp [h]⟩ else none
theorem ZT.takeF {α : Type} [Rep α] {S : Nat → Prop} {w : World} : ∀ {l : List α} {cs : List Value} {fp : List Nat} (k : Nat),ZT S w l cs fp → ∃ f g,fp = f ++ g ∧ ZT S w (l.take k) (cs.take (k * Rep.n α)) f
 | l,cs,fp,0,h=>⟨[],fp,rfl,by simp [ZT]⟩
 | [],cs,fp,k + 1,h=>by obtain ⟨rfl,rfl⟩:=h; exact ⟨[],[],rfl,by simp [ZT]⟩
 | x :: l,cs,fp,k + 1,h=>by
  obtain ⟨c,cs',f,fp',rfl,rfl,h1,h2⟩:=h
  obtain ⟨f1,g1,rfl,h3⟩:=ZT.takeF k h2
  refine ⟨f ++ f1,g1,by simp,?_⟩
  rw [List.take_succ_cons,Nat.add_mul,Nat.one_mul,Nat.add_comm,show Rep.n α + k * Rep.n α = c.length + k * Rep.n α by rw [Rep.len h1],List.take_length_add_append]
  exact ⟨c,_,f,f1,rfl,rfl,h1,h3⟩
theorem Vd.cut {α : Type} [Rep α] {S : Nat → Prop} {l r : List α} {fp : List Nat} {j : Int} (h : Vd S w l v fp) (hb : slc l 0 j = some r) : ∃ fp',Vd S w r (WF v (0 : Int).toNat j.toNat (Rep.n α)) fp' ∧ fp'.Sublist fp:=by
 obtain ⟨⟨_,h1,h2⟩,rfl⟩:=Qj hb
 obtain ⟨p,cap,rfl,hc,h⟩:=h
 have e0 : (0 : Int).toNat = 0:=rfl
 have hlen : ((l.take j.toNat).drop 0).length = j.toNat:=by simp; omega
 rw [e0,List.drop_zero] at *
 rcases h with ⟨rfl,rfl,hp⟩ | ⟨b,o,ecs,fpe,rfl,k1,k2,rfl,k3⟩
 ·have : j.toNat = 0:=by omega
  rw [this] at *
  refine ⟨[],⟨p,0,by simp [WF],by simp,.inl ⟨rfl,rfl,hp⟩⟩,List.nil_sublist _⟩
 ·obtain ⟨f,g,rfl,k4⟩:=ZT.takeF j.toNat k1
  have hadd : (if cap = 0 then some (⟨b,o,none⟩ : Addr) else some ((⟨b,o,none⟩ : Addr).add (0 * Rep.n α))) = some ⟨b,o,none⟩:=by
   split
   ·rfl
   ·rw [Addr.add_lit]; simp
  refine ⟨b :: f,⟨some ⟨b,o,none⟩,cap,?_,by rw [hlen]; omega,.inr ⟨b,o,_,f,rfl,k4,fun i c hi=>k2 i c ?_,rfl,k3⟩⟩,by simp⟩
  ·simp only [WF,Option.map_some,hlen,Nat.sub_zero,hadd]
  ·rw [List.getElem?_take] at hi
   split at hi
   ·exact hi
   ·cases hi
theorem M.cut {α : Type} [Rep α] {S : Nat → Prop} {l r : List α} {j : Int} (hM : M St w0 w (osl S l v :: its)) (hS : ∀ b,S b → St b) (hb : slc l 0 j = some r) : M St w0 w (osl S r (WF v (0 : Int).toNat j.toNat (Rep.n α)) :: its):=by
 refine hM.turn (new:=[osl S r _]) rfl rfl rfl (Nat.le_refl _) ?_
 intro fp hfp _ hnd
 obtain ⟨fp',h1,h2⟩:=Vd.cut hfp hb
 exact ⟨fun _ _ _=>rfl,fp',⟨fp',[],by simp,Ub hS,h1,rfl⟩,h2.nodup hnd,fun b hb=>.inl (h2.subset hb)⟩

end
section
variable {n : Nat} {a : Act} {e : List (Nat × Value)} {w w' : World} {P : Program} {ops : Array Oper} {rest : List Oper} {Q : Exit → Act → World → Prop}
variable {d : Nat} {ty t : TypeId} {pos : String} {af : Array Edge} {g : Option (Nat × Bool)} {x y : Operand} {v u : Value}
variable {St : Nat → Prop} {w0 : World} {its : List Item}
def LitSat {α : Type} [Rep α] (S : Nat → Prop) (w : World) : List α → List Value → Prop
 | [],[]=>True
 | x :: l,v :: vs=>Rep.sat S w x [v] [] ∧ LitSat S w l vs
 | _,_=>False
end
end Go.Proofs.Ytpjogonponkbmaa
namespace Go.Proofs.Ytpjogonponkbmaa
open Go

def litP (v : Value) (m : Nat) (vs : List Value) : Item:=fun w fp=>∃ b,v = .slice (some ⟨b,0,none⟩) m m ∧ raw b vs w fp
def mkL (i : Nat) (ds : List Nat) (m : Nat) (f : List Value → List Value) : List Nat × (List Bool → List Value → Item):=(i :: ds,fun bs us=>opt (bs.headD false) (litP (us.headD undef) m (f us.tail)))
section
variable {St : Nat → Prop} {w0 w : World} {its pre post : List Item} {mk : Mk} {D : Nat → Bool} {u : Nat → Value} {i k m b : Nat} {ds : List Nat} {v : Value} {vs : List Value} {f : List Value → List Value}
end

def prm (a b : Bool) (x y : Item) : Item:=if b = true then y else opt a x
def mkP (j i : Nat) (f g : Value → Item) : List Nat × (List Bool → List Value → Item):=([j,i],fun bs us=>prm (bs.headD false) (bs.getD 1 false) (f (us.headD undef)) (g (us.getD 1 undef)))
section
variable {St : Nat → Prop} {w0 w : World} {its pre post : List Item} {mk1 mk2 : Mk} {D : Nat → Bool} {u : Nat → Value} {i j : Nat} {v : Value} {a b : Bool} {x y : Item} {f g : Value → Item}
end
def mkD (i s k : Nat) (z : List Value) (f : Value → List Value) : List Nat × (List Bool → List Value → Item):=([i,s,k],fun bs us=>Qn (bs.headD false) (bs.getD 1 false) (us.headD undef) z (f (us.getD 2 undef)))
section
variable {St : Nat → Prop} {w0 w : World} {its : List Item} {mk1 mk2 : Mk} {D : Nat → Bool} {u : Nat → Value} {i s k b : Nat} {v : Value} {z c c' : List Value} {f : Value → List Value}
end
theorem flq {α : Type} [Flat α] {x y : α} : (Flat.enc x).length = (Flat.enc y).length:=(Flat.len x).trans (Flat.len y).symm
theorem zle {a b : Nat} (h : a = b) : 0 + a ≤ b:=by omega
theorem bvx {α β : Type} {N : Nat} {v : Vector α N} {i : Int} {f : α → Option β} {r : β} (h : (Zy v i).bind f = some r) : ∃ x,((0 ≤ i ∧ i < N) ∧ v.toList[i.toNat]? = some x) ∧ f x = some r:=by
 obtain ⟨x,e,h⟩:=bind_some h
 exact ⟨x,B7 e,h⟩
theorem bix {α β : Type} {l : List α} {i : Int} {f : α → Option β} {r : β} (h : (idx l i).bind f = some r) : ∃ x,((0 ≤ i ∧ i < l.length) ∧ l[i.toNat]? = some x) ∧ f x = some r:=by
 obtain ⟨x,e,h⟩:=bind_some h
 exact ⟨x,Al e,h⟩
theorem ois {α : Type} {x y : α} (h : some x = some y) : y = x:=(Option.some.inj h).symm
theorem nbl {a b : Nat} (h : Nat.ble a b = true) : a ≤ b:=Nat.le_of_ble_eq_true h
theorem ld {d n : Nat} (h : d < n:=by decide) : d < n:=h
def cmpB : List UInt8 → List UInt8 → Int
 | [],[]=>0
 | [],_ :: _=>-1
 | _ :: _,[]=>1
 | x :: l,y :: m=>if x < y then -1 else if y < x then 1 else cmpB l m
section
variable {n : Nat} {a : Act} {e : List (Nat × Value)} {w w' : World} {P : Program} {ops : Array Oper} {rest : List Oper} {Q : Exit → Act → World → Prop}
variable {d : Nat} {ty t : TypeId} {pos : String} {af : Array Edge} {g : Option (Nat × Bool)} {x y : Operand} {v u : Value}
end
end Go.Proofs.Ytpjogonponkbmaa
namespace Go.Proofs.Ytpjogonponkbmaa
open Go

theorem zv_of {P : Program} {t : TypeId} {v : Value} (h : (P.info? t).bind (·.zero) = some v) (w : World) : (zeroValue t).run P w = .ok v w:=by
 obtain ⟨i,h1,h2⟩:=Option.bind_eq_some_iff.1 h
 simp [zeroValue,typeInfo,h1,h2]
def mget {κ α : Type} [DecidableEq κ] : List (κ × α) → κ → Option α
 | [],_=>none
 | p :: m,k=>if p.1 = k then some p.2 else mget m k
def mset {κ α : Type} [DecidableEq κ] : List (κ × α) → κ → α → List (κ × α)
 | [],k,x=>[(k,x)]
 | p :: m,k,x=>if p.1 = k then (k,x) :: m else p :: mset m k x
def AI {κ : Type} [DecidableEq κ] : List κ → List MapEntry → Nat → κ → Option (Nat × Value)
 | x :: ks,e :: es,i,k=>if x = k then some (i,e.val) else AI ks es (i + 1) k
 | _,_,_,_=>none
structure KeyOk (P : Program) (t : TypeId) {κ : Type} [DecidableEq κ] (kv : κ → Value) : Prop where
 check : ∀ (e : Bool) (w : World) (k : κ),(Instr.checkKey e 10000 t (kv k)).run P w = .ok () w
 find : ∀ (w : World) (k : κ) (ks : List κ) (es : List MapEntry),es.map (·.key) = ks.map kv → (Instr.findKey t (kv k) es).run P w = .ok (AI ks es 0 k) w
 same : ∀ k,Instr.sameBits 10000 (kv k) (kv k) = true
structure ElOk {α : Type} (S : Nat → Prop) (E : World → α → Value → List Nat → Prop) : Prop where
 loc : ∀ {w w' : World} {x : α} {u : Value} {f : List Nat},E w x u f → (∀ b,(b ∈ f ∨ S b) → w'.heap[b]? = w.heap[b]?) → E w' x u f
 lt : ∀ {w : World} {x : α} {u : Value} {f : List Nat},E w x u f → ∀ b ∈ f,b < w.heap.size
def satE {α : Type} [Rep α] (S : Nat → Prop) : World → α → Value → List Nat → Prop:=fun w x u f=>Rep.sat S w x [u] f
def oslE {α : Type} [Rep α] (S : Nat → Prop) : World → List α → Value → List Nat → Prop:=fun w l u f=>Vd S w l u f
def Uo {κ α : Type} (kv : κ → Value) (E : World → α → Value → List Nat → Prop) (w : World) : List (κ × α) → List MapEntry → List Nat → Prop
 | [],es,fp=>es = [] ∧ fp = []
 | p :: m,es,fp=>∃ e es' f fp',es = e :: es' ∧ fp = f ++ fp' ∧ e.key = kv p.1 ∧ E w p.2 e.val f ∧ Uo kv E w m es' fp'
def Tx (es : List MapEntry) (clock : Nat) : Prop:=es.Pairwise (fun a b=>a.born < b.born) ∧ ∀ e ∈ es,e.born < clock
def mapI {κ α : Type} (kv : κ → Value) (E : World → α → Value → List Nat → Prop) (m : List (κ × α)) (b : Nat) : Item:=fun w fp =>
 ∃ es clock fpe,w.heap[b]? = some (.map es clock) ∧ Uo kv E w m es.toList fpe ∧ Tx es.toList clock ∧ fp = b :: fpe
def mapH {κ α : Type} [DecidableEq κ] (kv : κ → Value) (E : World → α → Value → List Nat → Prop) (m : List (κ × α)) (k : κ) (u : Value) (b st : Nat) : Item:=fun w fp =>
 ∃ es clock m1 m2 es1 e es2 f1 f2,w.heap[b]? = some (.map es clock) ∧ es.toList = es1 ++ e :: es2 ∧ Uo kv E w m1 es1 f1 ∧ Uo kv E w m2 es2 f2 ∧ e.key = kv k ∧ e.born = st ∧ e.val = u ∧ Tx es.toList clock ∧
  (∀ x,mset m k x = m1 ++ (k,x) :: m2) ∧ fp = b :: (f1 ++ f2)
section
variable {κ α : Type} {kv : κ → Value} {S St : Nat → Prop} {E : World → α → Value → List Nat → Prop} {w w' w0 : World}
theorem Uo.keys : ∀ {m : List (κ × α)} {es : List MapEntry} {fp : List Nat},Uo kv E w m es fp → es.map (·.key) = (m.map (·.1)).map kv
 | [],_,_,h=>by rw [h.1]; rfl
 | p :: m,_,_,h=>by
  obtain ⟨e,es',f,fp',rfl,_,h1,_,h2⟩:=h
  simp [h1,Uo.keys h2]
theorem Uo.loc (hE : ElOk S E) : ∀ {m : List (κ × α)} {es : List MapEntry} {fp : List Nat},Uo kv E w m es fp → (∀ b,(b ∈ fp ∨ S b) → w'.heap[b]? = w.heap[b]?) → Uo kv E w' m es fp
 | [],_,_,h,_=>h
 | p :: m,_,_,h,hb=>by
  obtain ⟨e,es',f,fp',rfl,rfl,h1,h2,h3⟩:=h
  exact ⟨e,es',f,fp',rfl,rfl,h1,hE.loc h2 (fun b h=>hb b (by simp; grind)),Uo.loc hE h3 (fun b h=>hb b (by simp; grind))⟩
end
section
variable {κ α : Type} [DecidableEq κ] {kv : κ → Value} {S St : Nat → Prop} {E : World → α → Value → List Nat → Prop} {w w' w0 : World} {its : List Item}
omit [DecidableEq κ] in
theorem Uo.app : ∀ {m1 m2 : List (κ × α)} {es1 es2 : List MapEntry} {f1 f2 : List Nat},Uo kv E w m1 es1 f1 → Uo kv E w m2 es2 f2 → Uo kv E w (m1 ++ m2) (es1 ++ es2) (f1 ++ f2)
 | [],_,_,_,_,_,h,k=>by obtain ⟨rfl,rfl⟩:=h; exact k
 | p :: m,_,_,_,_,_,h,k=>by
  obtain ⟨e,es',f,fp',rfl,rfl,h1,h2,h3⟩:=h
  exact ⟨e,es' ++ _,f,fp' ++ _,by simp,by simp,h1,h2,Uo.app h3 k⟩
theorem Tx.push {es : List MapEntry} {clock : Nat} (h : Tx es clock) (k u : Value) : Tx (es ++ [{ key:=k,val:=u,born:=clock }]) (clock + 1):=by
 refine ⟨List.pairwise_append.2 ⟨h.1,by simp,fun a ha b hb=>?_⟩,fun e he=>?_⟩
 ·simp at hb; subst hb; exact h.2 a ha
 ·rcases List.mem_append.1 he with he | he
  ·have:=h.2 e he; omega
  ·simp at he; subst he; exact Nat.lt_succ_self _
theorem Tx.put {es1 es2 : List MapEntry} {e e' : MapEntry} {clock : Nat} (h : Tx (es1 ++ e :: es2) clock) (hb : e'.born = e.born) : Tx (es1 ++ e' :: es2) clock:=by
 obtain ⟨h1,h2⟩:=h
 rw [List.pairwise_append,List.pairwise_cons] at h1
 obtain ⟨a1,⟨a2,a3⟩,a4⟩:=h1
 refine ⟨List.pairwise_append.2 ⟨a1,List.pairwise_cons.2 ⟨fun b hb'=>by rw [hb]; exact a2 b hb',a3⟩,fun a ha b hb'=>?_⟩,fun q hq=>?_⟩
 ·rcases List.mem_cons.1 hb' with rfl | hb'
  ·rw [hb]; exact a4 a ha e (by simp)
  ·exact a4 a ha b (by simp [hb'])
 ·rcases List.mem_append.1 hq with hq | hq
  ·exact h2 q (by simp [hq])
  ·rcases List.mem_cons.1 hq with rfl | hq
   ·rw [hb]; exact h2 e (by simp)
   ·exact h2 q (by simp [hq])
omit [DecidableEq κ] in
end
section
variable {n : Nat} {a : Act} {e : List (Nat × Value)} {w w' : World} {P : Program} {ops : Array Oper} {rest : List Oper} {Q : Exit → Act → World → Prop}
variable {d : Nat} {ty t kt el : TypeId} {pos : String} {af : Array Edge} {g : Option (Nat × Bool)} {x y z : Operand} {v u : Value}
variable {St S : Nat → Prop} {w0 : World} {its pre post : List Item} {κ α : Type} {kv : κ → Value} {m : List (κ × α)} {b : Nat} {E : World → α → Value → List Nat → Prop}
variable [DecidableEq κ]
def Hc {α : Type} (m : List (κ × α)) (k : κ) (b : Nat) (v : Value) (w : World) : Prop:=∃ es clock,w.heap[b]? = some (.map es clock) ∧ v = ((AI (m.map (·.1)) es.toList 0 k).map (·.2)).getD (.slice none 0 0)
def mapV {α : Type} (kv : κ → Value) (E : World → List α → Value → List Nat → Prop) (m : List (κ × List α)) (l : List α) (v : Value) (b : Nat) : Item:=fun w fp=>mapI kv E m b w fp ∧ ∃ k,Hc m k b v w ∧ l = (mget m k).getD []
theorem Hc.keep {m : List (κ × α)} {k : κ} (h : Hc m k b v w) (hk : Kept (Old w) w w') : Hc m k b v w':=by
 obtain ⟨es,c,h1,h2⟩:=h
 exact ⟨es,c,(hk.block b (Array.getElem?_eq_some_iff.1 h1).1).trans h1,h2⟩
end
end Go.Proofs.Ytpjogonponkbmaa
namespace Go.Proofs.Ytpjogonponkbmaa
open Go
section
open Go.RowKit
def upto {α : Type} (f : Nat → α) (k : Nat) : List α:=(List.range k).map f
def KpB (n₀ Bs : Nat) (W W' : World) : Prop:=Below n₀ W W' ∧ W'.heap[Bs]? = W.heap[Bs]?
theorem KpB.trans {n₀ Bs : Nat} {A B C : World} (h : KpB n₀ Bs A B) (k : KpB n₀ Bs B C) : KpB n₀ Bs A C:=⟨h.1.trans k.1,k.2.trans h.2⟩
def backF (zs : List UInt8) (k : Nat) : Int × UInt8:=((zs.length : Int) - 1 - k,(zs[zs.length - 1 - k]?.getD 0))
def Byts (n₀ : Nat) (W : World) (p : Option Addr) (zs : List UInt8) : Prop :=
 zs = [] ∨ ∃ b off,p = some ⟨b,off,none⟩ ∧ b < n₀ ∧ ∀ j,j < zs.length → W.cell? ⟨b,off + j,none⟩ = some (.int .u8 (zs[j]?.getD 0).toNat)
theorem Byts.below {n₀ : Nat} {A B : World} (h : Below n₀ A B) {p : Option Addr} {zs : List UInt8} : Byts n₀ A p zs → Byts n₀ B p zs
 | .inl e=>.inl e
 | .inr ⟨b,off,e,hb,hc⟩=>.inr ⟨b,off,e,hb,fun j hj=>(h.cell (p:=⟨b,off + j,none⟩) hb).trans (hc j hj)⟩
end
end Go.Proofs.Ytpjogonponkbmaa
namespace Go.Proofs.Ytpjogonponkbmaa
open Go
section
variable {P : Program} {St : Nat → Prop} {w0 w : World} {its : List Item} {n : Nat} {a : Act} {e : List (Nat × Value)} {ops : Array Oper} {rest : List Oper} {Q : Exit → Act → World → Prop} {v : Value} {x : Operand} {t ty : TypeId} {pos : String} {af : Array Edge} {g : Option (Nat × Bool)}
theorem K6 {α : Type} [Flat α] {l l' : List α} {k : Nat} {seg : List Value} {fp : List Nat} (hO : Vd NoB w l v fp) (hlen : l'.length = l.length) (he : Yi l' = Z3 (Yi l) k seg) (hfit : k + seg.length ≤ (Yi l).length) (hne : 0 < l.length) (hc : ∀ v ∈ seg,v.oneCell' = true) :
  (storeCells ⟨sb v,so v + k,none⟩ seg).run P w = .ok () (w.setCells (sb v) (so v + k) seg) ∧ fp = [sb v] ∧ Vd NoB (w.setCells (sb v) (so v + k) seg) l' v [sb v] ∧
   (∃ c T fz,w.heap[sb v]? = some (.cells c T fz) ∧ so v + (Yi l).length ≤ c.size ∧ ∀ i,i < c.size → ¬ (fz.1 ≤ i ∧ i < fz.2)):=by
 obtain ⟨p,cap,rfl,hcap,hO⟩:=hO
 rcases hO with ⟨rfl,_⟩ | ⟨b,o,ecs,fpe,rfl,k1,k2,rfl,k3⟩
 ·omega
 obtain ⟨rfl,rfl⟩:=YN.1 k1
 obtain ⟨c,T,fz,hheap,hsize,hfz⟩:=k3
 have hsb : sb (.slice (some ⟨b,o,none⟩) l.length cap) = b:=rfl
 have hso : so (.slice (some ⟨b,o,none⟩) l.length cap) = o:=rfl
 rw [hsb,hso]
 have hel:=Wi l
 have hcl : o + (Yi l).length ≤ c.size:=by
  have h1 : l.length * Flat.n α ≤ cap * Rep.n α:=Nat.mul_le_mul_right _ hcap
  rw [hel]; omega
 have hfit2 : o + k + seg.length ≤ c.size:=by omega
 have hst:=U7 (P:=P) (o:=o + k) (vs:=seg) hheap hfit2 hfz hc
 refine ⟨hst,rfl,⟨some ⟨b,o,none⟩,cap,by rw [hlen],by omega,.inr ⟨b,o,Yi l',[],rfl,YN.2 ⟨rfl,rfl⟩,?_,rfl,?_⟩⟩,c,T,fz,hheap,hcl,hfz⟩
 ·have hh:=YH b T fz seg (o + k) w c hheap hfit2
  intro j vv hv
  have hj:=(List.getElem?_eq_some_iff.1 hv).1
  rw [he,XQ hfit] at hj
  simp only [World.cell?,hh,Option.isSome_none,Bool.false_eq_true,if_false]
  rw [List.getElem?_toArray]
  have hrow : ∀ j,j < (Yi l).length → c.toList[o + j]? = (Yi l)[j]?:=by
   intro j hj
   have:=k2 j _ (List.getElem?_eq_getElem hj)
   simp only [World.cell?,hheap,Option.isSome_none,Bool.false_eq_true,if_false] at this
   rw [List.getElem?_eq_getElem hj]
   simpa using this
  rw [he] at hv
  simp only [Z3] at hv ⊢
  have hclen : o + (Yi l).length ≤ c.toList.length:=by simpa using hcl
  by_cases hj1 : j < k
  ·rw [List.getElem?_append_left (by simp; omega),List.getElem?_take,if_pos hj1] at hv
   rw [List.getElem?_append_left (by simp at hclen ⊢; omega),List.getElem?_take,if_pos (by omega),hrow j hj]
   exact hv
  ·rw [List.getElem?_append_right (by simp; omega)] at hv
   rw [List.getElem?_append_right (by simp; omega)]
   have e1 : (List.take k (Yi l)).length = k:=by simp; omega
   have e2 : (List.take (o + k) c.toList).length = o + k:=by simp at hclen ⊢; omega
   rw [e1] at hv
   rw [e2,show o + j - (o + k) = j - k by omega]
   by_cases hj2 : j - k < seg.length
   ·rw [List.getElem?_append_left hj2] at hv ⊢; exact hv
   ·rw [List.getElem?_append_right (by omega),List.getElem?_drop] at hv ⊢
    rw [show o + k + seg.length + (j - k - seg.length) = o + j by omega,hrow j hj]
    rw [show k + seg.length + (j - k - seg.length) = j by omega] at hv
    exact hv
 ·refine ⟨_,T,fz,YH b T fz seg _ w c hheap hfit2,?_,?_⟩
  ·rw [List.size_toArray,XQ (by simpa using hfit2)]; simpa using hsize
  ·intro j hj
   rw [List.size_toArray,XQ (by simpa using hfit2)] at hj
   exact hfz j (by simpa using hj)
theorem M.setRow (P : Program) {α : Type} [Flat α] {l l' : List α} {k : Nat} {seg : List Value} (hM : M St w0 w (osl NoB l v :: its)) (hlen : l'.length = l.length) (he : Yi l' = Z3 (Yi l) k seg) (hfit : k + seg.length ≤ (Yi l).length) (hne : 0 < l.length) (hc : ∀ v ∈ seg,v.oneCell' = true) :
  M St w0 (w.setCells (sb v) (so v + k) seg) (osl NoB l' v :: its):=by
 refine M.turn (new:=[osl NoB l' v]) hM (ZY _ _ _ _).1 (ZY _ _ _ _).2.1 (ZY _ _ _ _).2.2 (by rw [Vz]; exact Nat.le_refl _) ?_
 intro fp hfp hlt hnd
 obtain ⟨_,rfl,hO,_⟩:=K6 (P:=P) hfp hlen he hfit hne hc
 exact ⟨fun b hb _=>Vb _ _ (by simpa using hb) _ _ _,[sb v],⟨[sb v],[],rfl,Ub noB,hO,rfl⟩,by simp,fun b hb=>.inl hb⟩
def clr {α : Type} (l : List α) (i : Int) (z : α) : Option (List α):=if 0 ≤ i ∧ i < l.length then some (l.take i.toNat ++ List.replicate (l.length - i.toNat) z) else none
theorem HM {α : Type} [Flat α] {z : α} {zv : Value} (hz : Flat.enc z = [zv]) : ∀ m,Yi (List.replicate m z) = List.replicate m zv
 | 0=>rfl
 | m + 1=>by rw [List.replicate_succ,List.replicate_succ]; show Flat.enc z ++ Yi _ = _; rw [hz,HM hz m]; rfl
theorem Ay {α : Type} [Flat α] {l l' : List α} {zero : α} {zv : Value} {el : TypeId} {i : Int} (h : Env n a e) (hM : M St w0 w (osl NoB l v :: its)) (hw : Goes ops ⟨none,.call ⟨.builtin .clear,[x].toArray,[t].toArray⟩,ty,pos,af,g⟩ a)
  (hx : opv e x = some (WF v i.toNat (l.length : Int).toNat 1)) (ht : P.underlying t = some (.slice el)) (hz : ∀ w,(zeroValue el).run P w = .ok zv w) (hzv : Flat.enc zero = [zv]) (hcl : zv.cells = #[zv]) (h1 : zv.oneCell' = true) (hn : Flat.n α = 1) (hl : clr l i zero = some l')
  (k : ∀ w a,M St w0 w (osl NoB l' v :: its) → Env n a e → wpList P ops Q rest a w) : wpList P ops Q (⟨none,.call ⟨.builtin .clear,[x].toArray,[t].toArray⟩,ty,pos,af,g⟩ :: rest) a w:=by
 unfold clr at hl
 split at hl
 ·rename_i hi
  obtain ⟨i,rfl⟩ : ∃ j : Nat,i = j:=⟨i.toNat,by omega⟩
  have hi : i < l.length:=by omega
  obtain rfl:=Option.some.inj hl
  simp only [Int.toNat_natCast] at hx k
  have hel:=Wi l
  rw [hn,Nat.mul_one] at hel
  have het : Yi (l.take i) = (Yi l).take i:=by
   have e2 : Yi l = Yi (l.take i) ++ Yi (l.drop i):=by rw [← Uf,List.take_append_drop]
   have e3 : (Yi (l.take i)).length = i:=by rw [Wi,hn,List.length_take]; omega
   rw [e2,List.take_left' e3]
  have he : Yi (l.take i ++ List.replicate (l.length - i) zero) = Z3 (Yi l) i (List.replicate (l.length - i) zv):=by
   rw [Uf,HM hzv,het]
   unfold Z3
   rw [List.length_replicate,List.drop_eq_nil_of_le (by omega),List.append_nil]
  have hseg : ∀ v ∈ List.replicate (l.length - i) zv,v.oneCell' = true:=fun u hu=>by rw [List.eq_of_mem_replicate hu]; exact h1
  have hlen : (l.take i ++ List.replicate (l.length - i) zero).length = l.length:=by simp; omega
  have hfit : i + (List.replicate (l.length - i) zv).length ≤ (Yi l).length:=by simp; omega
  obtain ⟨fp0,hfp0,_⟩:=hM.head
  obtain ⟨hr,_,_,c,T,fz,hheap,hsz,hfz⟩:=K6 (P:=P) hfp0 hlen he hfit (by omega) hseg
  have hM':=M.setRow P hM hlen he hfit (by omega) hseg
  obtain ⟨p,cap,rfl,hcap,hO⟩:=hfp0
  rcases hO with ⟨rfl,_⟩ | ⟨b,o,ecs,fpe,rfl,k1,k2,rfl,k3⟩
  ·omega
  have hsb : sb (.slice (some ⟨b,o,none⟩) l.length cap) = b:=rfl
  have hso : so (.slice (some ⟨b,o,none⟩) l.length cap) = o:=rfl
  rw [hsb,hso] at hr hM'
  rw [hsb] at hheap; rw [hso] at hsz
  have hx' : opv e x = some (.slice (some ⟨b,o + i,none⟩) (l.length - i) (cap - i)):=by
   rw [hx]
   simp only [WF,show ¬ cap = i by omega,if_false,Option.map_some,Nat.mul_one,Addr.add_lit]
  have hrun:=Lib.run_clear_slice (P:=P) w t el ty zv ht hz hcl h1 b (o + i) (l.length - i) (cap - i) (by omega) (fun j hj=>by
   have : o + i + j < c.size:=by omega
   simp [World.cell?,hheap,this]) (fun j hj=>by
   simp only [World.frozen?,hheap]
   have:=hfz (o + i + j) (by omega)
   simp only [Bool.and_eq_false_iff,decide_eq_false_iff_not]
   omega)
  have hr2 : (execOp a.eval ⟨none,.call ⟨.builtin .clear,[x].toArray,[t].toArray⟩,ty,pos,af,g⟩).run P w = .ok (.value (.tuple #[])) (w.setCells b (o + i) (List.replicate (l.length - i) zv)):=by
   simp only [execOp,resolve]
   simp [invoke,builtin,h.ev hx',hrun,Result.andThen]
  unfold wpList
  rw [if_pos hw]
  refine .inl ?_
  unfold Oper.wp
  rw [hr2,Oper.upon_value]
  exact k _ _ hM' h
 ·cases hl
end
end Go.Proofs.Ytpjogonponkbmaa
