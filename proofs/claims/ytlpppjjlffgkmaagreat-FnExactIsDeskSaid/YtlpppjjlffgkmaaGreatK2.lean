/- The walk library: what this claim needs of it. -/
import Derived.Test.YtlpppjjlffgkmaaGreatK1
set_option linter.unusedVariables false
set_option linter.unusedSimpArgs false
set_option linter.unusedSectionVars false
namespace Go.Proofs.YtlpppjjlffgkmaaGreat
open Go

theorem X7 {σ ρ τ : Type} {s : σ} {f : σ → Option τ} {g : ρ → Option τ} {r : τ} (h : (Fl.nx s : Fl σ ρ).el f g = some r) : f s = some r:=h
def tupGet (v : Value) (i : Nat) : Value:=match v with
 | .tuple vs=>vs.toList.getD i undef
 | _=>undef
def UI (v : Value) (cs : List Value) : Item:=fun w fp=>∃ b,v = ptr b 0 ∧ raw b cs w fp
def HG (there stored : Bool) (v : Value) (z c : List Value) : Item:=if there = true then (if stored = true then UI v c else UI v z) else Go.Proofs.YtlpppjjlffgkmaaGreat.emp
abbrev Gs:=List (List Nat × (List Value → Value → Prop))
abbrev Mk:=List (List Nat × (List Bool → List Value → Item))
def qL (mk : Mk) (D : Nat → Bool) (u : Nat → Value) : List Item:=mk.map fun p=>p.2 (p.1.map D) (p.1.map u)
def mkO (j : Nat) (f : Value → Item) : List Nat × (List Bool → List Value → Item):=([j],fun bs us=>opt (bs.headD false) (f (us.headD undef)))
def mkC (j s : Nat) (z c : List Value) : List Nat × (List Bool → List Value → Item):=([j,s],fun bs us=>HG (bs.headD false) (bs.getD 1 false) (us.headD undef) z c)
def GOk (gs : Gs) (D : Nat → Bool) (u : Nat → Value) : Prop:=∀ j,D j = true → ∀ g,gs[j]? = some g → (∀ k ∈ g.1,D k = true) ∧ g.2 (g.1.map u) (u j)
theorem Av {D : Nat → Bool} {u : Nat → Value} {i : Nat} {v : Value} {l : List Nat} (h : i ∉ l) : l.map (US D i) = l.map D ∧ l.map (Uq u i v) = l.map u:=by
 constructor <;> apply List.map_congr_left <;> intro k hk <;> have : k ≠ i:=(fun e=>h (e ▸ hk))
 ·simp [US,this]
 ·simp [Uq,this]
theorem J8 {mk : Mk} {D : Nat → Bool} {u : Nat → Value} {i : Nat} {v : Value} (hi : ∀ p ∈ mk,i ∉ p.1) : qL mk (US D i) (Uq u i v) = qL mk D u:=by
 unfold qL
 apply List.map_congr_left
 intro p hp
 obtain ⟨h1,h2⟩:=Av (D:=D) (u:=u) (v:=v) (hi p hp)
 rw [h1,h2]
theorem GOk.upd {gs : Gs} {D : Nat → Bool} {u : Nat → Value} {i : Nat} {v : Value} (h : GOk gs D u) (hD : D i = false) (hi : ∀ g,gs[i]? = some g → (∀ k ∈ g.1,D k = true) ∧ g.2 (g.1.map u) v) : GOk gs (US D i) (Uq u i v):=by
 have tr : ∀ k,D k = true → US D i k = true:=fun k hk=>by
  unfold US
  split
  ·rfl
  ·exact hk
 have nm : ∀ l : List Nat,(∀ k ∈ l,D k = true) → i ∉ l:=fun l hl hm=>by have:=hl i hm; rw [hD] at this; cases this
 intro j hj g hg
 by_cases hji : j = i
 ·subst hji
  obtain ⟨h1,h2⟩:=hi g hg
  refine ⟨fun k hk=>tr k (h1 k hk),?_⟩
  rw [(Av (D:=D) (u:=u) (v:=v) (nm _ h1)).2]
  simpa [Uq] using h2
 ·have hj' : D j = true:=by unfold US at hj; rwa [if_neg hji] at hj
  obtain ⟨h1,h2⟩:=h j hj' g hg
  refine ⟨fun k hk=>tr k (h1 k hk),?_⟩
  rw [(Av (D:=D) (u:=u) (v:=v) (nm _ h1)).2]
  simpa [Uq,hji] using h2
theorem GOk.put {gs : Gs} {D : Nat → Bool} {u : Nat → Value} {i : Nat} {v : Value} {ks : List Nat} {pr : List Value → Value → Prop} (h : GOk gs D u) (hD : D i = false) (hi : gs[i]? = some (ks,pr)) (h1 : ∀ k ∈ ks,D k = true) (h2 : pr (ks.map u) v) : GOk gs (US D i) (Uq u i v) :=
 h.upd hD fun g hg=>by rw [hi] at hg; cases hg; exact ⟨h1,h2⟩
theorem ZN {D : Nat → Bool} : ∀ k ∈ ([] : List Nat),D k = true:=fun _ h=>by cases h
theorem Ae {gs : Gs} {u : Nat → Value} : GOk gs (fun _=>false) u:=fun _ h=>by cases h
def allI (St : Nat → Prop) (l : List Item) : Item:=fun w fp=>XS St w l fp
theorem qt {α : Type} [Rep α] {x : α} {cs : List Value} {r : List Item} (h : qg r) : qg (own NoB x cs :: r):=by
 intro it hi
 rcases List.mem_cons.1 hi with rfl | hi
 ·exact Vo fun _ h=>h
 ·exact h it hi
theorem Env.dummy {n : Nat} {a : Act} {e : List (Nat × Value)} {t : Nat} (h : Env n a e) (ht : n ≤ t) : Env n a ((t,undef) :: e):=by
 refine ⟨h.sz,h.df,fun s v hs=>?_⟩
 simp only [List.lookup_cons] at hs
 by_cases hst : s = t
 ·subst hst
  simp at hs
  subst hs
  rw [Array.getD_eq_getD_getElem?,Array.getElem?_eq_none (by rw [h.sz]; exact ht)]; rfl
 ·rw [show (s == t) = false by simpa using hst] at hs
  exact h.get s v hs
section
variable {St : Nat → Prop} {w0 w : World} {its pre post : List Item} {mk mk1 mk2 : Mk} {D : Nat → Bool} {u : Nat → Value} {i s b : Nat} {v : Value} {z c : List Value}
theorem noti (h : (mk.all fun p=>p.1.all fun k=>k != i) = true) : ∀ p ∈ mk,i ∉ p.1:=by
 intro p hp hm
 have:=List.all_eq_true.1 (List.all_eq_true.1 h p hp) i hm
 simp at this
theorem M.qKeep (h : M St w0 w (its ++ qL mk D u)) (hi : (mk.all fun p=>p.1.all fun k=>k != i) = true) : M St w0 w (its ++ qL mk (US D i) (Uq u i v)):=by
 rw [J8 (noti hi)]; exact h
theorem kb {mk1 mk2 : Mk} {p : List Nat × (List Bool → List Value → Item)} : qL (mk1 ++ p :: mk2) D u = qL mk1 D u ++ (p.2 (p.1.map D) (p.1.map u) :: qL mk2 D u):=by simp [qL]
theorem M.qPut {p : List Nat × (List Bool → List Value → Item)} {it : Item} (h : M St w0 w (it :: (its ++ qL (mk1 ++ p :: mk2) D u))) (hi : ((mk1 ++ mk2).all fun p=>p.1.all fun k=>k != i) = true)
  (h1 : p.2 (p.1.map D) (p.1.map u) = Go.Proofs.YtlpppjjlffgkmaaGreat.emp) (h2 : p.2 (p.1.map (US D i)) (p.1.map (Uq u i v)) = it) : M St w0 w (its ++ qL (mk1 ++ p :: mk2) (US D i) (Uq u i v)):=by
 have hne:=noti hi
 rw [kb] at h ⊢
 rw [J8 (fun p hp=>hne p (List.mem_append_left _ hp)),J8 (fun p hp=>hne p (List.mem_append_right _ hp)),h2]
 rw [h1] at h
 have h3 : M St w0 w ((it :: (its ++ qL mk1 D u)) ++ Go.Proofs.YtlpppjjlffgkmaaGreat.emp :: qL mk2 D u):=by simpa using h
 have h4:=h3.pull.drop
 have h5 : M St w0 w (it :: ((its ++ qL mk1 D u) ++ qL mk2 D u)):=by simpa using h4
 simpa using M.push h5
theorem M.qFill {f : Value → Item} (h : M St w0 w (f v :: (its ++ qL (mk1 ++ mkO i f :: mk2) D u))) (hi : ((mk1 ++ mk2).all fun p=>p.1.all fun k=>k != i) = true) (hD : D i = false) :
  M St w0 w (its ++ qL (mk1 ++ mkO i f :: mk2) (US D i) (Uq u i v)) :=
 M.qPut h hi (by simp [mkO,hD,QZ]) (by simp [mkO,US,Uq,Jp])
theorem M.qAlloc (h : M St w0 w (raw b z :: (its ++ qL (mk1 ++ mkC i s z c :: mk2) D u))) (hi : ((mk1 ++ mk2).all fun p=>p.1.all fun k=>k != i) = true) (hD : D i = false) (hs : D s = false) (hne : s ≠ i) :
  M St w0 w (its ++ qL (mk1 ++ mkC i s z c :: mk2) (US D i) (Uq u i (ptr b 0))):=by
 have h' : M St w0 w (UI (ptr b 0) z :: (its ++ qL (mk1 ++ mkC i s z c :: mk2) D u)):=h.pack1 (fun w w' fp ⟨b',e,k⟩ hb=>⟨b',e,XQ w w' fp k hb⟩) fun fp k=>⟨b,rfl,k⟩
 refine M.qPut h' hi (by simp [mkC,hD,HG]) ?_
 simp [mkC,US,Uq,HG,hne,hs]
theorem M.openCell {there stored : Bool} (h : M St w0 w (pre ++ HG there stored v z c :: post)) (ht : there = true) : ∃ b,v = ptr b 0 ∧ M St w0 w (raw b (if stored = true then c else z) :: (pre ++ post)):=by
 have h1:=h.pull
 obtain ⟨fp,hfp,_⟩:=h1.head
 subst ht
 have e : HG true stored v z c = UI v (if stored = true then c else z):=by cases stored <;> rfl
 rw [e] at hfp h1
 obtain ⟨b,hb,_⟩:=hfp
 exact ⟨b,hb,h1.pack1 XQ fun fp ⟨b',e',k⟩=>by rw [hb] at e'; simp [ptr] at e'; subst e'; exact k⟩
theorem M.qStore (h : M St w0 w (raw b c :: (its ++ (qL mk1 D u ++ qL mk2 D u)))) (hi : ((mk1 ++ mk2).all fun p=>p.1.all fun k=>k != s) = true) (hj : D i = true) (hb : u i = ptr b 0) (hne : i ≠ s) :
  M St w0 w (its ++ qL (mk1 ++ mkC i s z c :: mk2) (US D s) (Uq u s v)):=by
 have hne':=noti hi
 rw [kb,J8 (fun p hp=>hne' p (List.mem_append_left _ hp)),J8 (fun p hp=>hne' p (List.mem_append_right _ hp))]
 have e : (mkC i s z c).2 ((mkC i s z c).1.map (US D s)) ((mkC i s z c).1.map (Uq u s v)) = UI (ptr b 0) c:=by
  simp [mkC,US,Uq,HG,hne,hj,hb]
 rw [e]
 have h' : M St w0 w (UI (ptr b 0) c :: (its ++ (qL mk1 D u ++ qL mk2 D u))):=h.pack1 (fun w w' fp ⟨b',e,k⟩ hb=>⟨b',e,XQ w w' fp k hb⟩) fun fp k=>⟨b,rfl,k⟩
 have h5 : M St w0 w (UI (ptr b 0) c :: ((its ++ qL mk1 D u) ++ qL mk2 D u)):=by simpa using h'
 simpa using M.push h5
end

def tog (b : Bool) (A B : Item) : Item:=if b = true then B else A
def mkT (s : Nat) (A B : Item) : List Nat × (List Bool → List Value → Item):=([s],fun bs _=>tog (bs.headD false) A B)
section
variable {St : Nat → Prop} {w0 w : World} {its pre post : List Item} {mk mk1 mk2 : Mk} {D : Nat → Bool} {u : Nat → Value} {s : Nat} {v : Value} {A B : Item}
theorem M.q0 (h : M St w0 w its) (u : Nat → Value) : M St w0 w (its ++ qL [] (fun _=>false) u):=by simpa [qL] using h
theorem M.qE {p : List Nat × (List Bool → List Value → Item)} (h : M St w0 w (its ++ qL mk (fun _=>false) u)) (he : ∀ us,p.2 (p.1.map fun _=>false) us = Go.Proofs.YtlpppjjlffgkmaaGreat.emp) : M St w0 w (its ++ qL (p :: mk) (fun _=>false) u):=by
 have : M St w0 w (Go.Proofs.YtlpppjjlffgkmaaGreat.emp :: (its ++ qL mk (fun _=>false) u)):=h.emp
 rw [← he (p.1.map u)] at this
 exact M.push this
theorem M.qT (h : M St w0 w ((A :: its) ++ qL mk (fun _=>false) u)) : M St w0 w (its ++ qL (mkT s A B :: mk) (fun _=>false) u):=M.push (pre:=its) (post:=qL mk (fun _=>false) u) h
theorem emO {j : Nat} {f : Value → Item} : ∀ us,(mkO j f).2 ((mkO j f).1.map fun _=>false) us = Go.Proofs.YtlpppjjlffgkmaaGreat.emp:=fun _=>by simp [mkO,QZ]
theorem emC {j s : Nat} {z c : List Value} : ∀ us,(mkC j s z c).2 ((mkC j s z c).1.map fun _=>false) us = Go.Proofs.YtlpppjjlffgkmaaGreat.emp:=fun _=>rfl
theorem M.togA {b : Bool} (h : M St w0 w (pre ++ tog b A B :: post)) (hb : b = false) : M St w0 w (pre ++ A :: post):=by subst hb; exact h
theorem M.togB {b : Bool} (h : M St w0 w (pre ++ tog b A B :: post)) (hb : b = true) : M St w0 w (pre ++ B :: post):=by subst hb; exact h
theorem M.qTog (h : M St w0 w (B :: (its ++ (qL mk1 D u ++ qL mk2 D u)))) (hi : ((mk1 ++ mk2).all fun p=>p.1.all fun k=>k != s) = true) : M St w0 w (its ++ qL (mk1 ++ mkT s A B :: mk2) (US D s) (Uq u s v)):=by
 have hne':=noti hi
 rw [kb,J8 (fun p hp=>hne' p (List.mem_append_left _ hp)),J8 (fun p hp=>hne' p (List.mem_append_right _ hp))]
 have e : (mkT s A B).2 ((mkT s A B).1.map (US D s)) ((mkT s A B).1.map (Uq u s v)) = B:=by simp [mkT,US,tog]
 rw [e]
 have h5 : M St w0 w (B :: ((its ++ qL mk1 D u) ++ qL mk2 D u)):=by simpa using h
 simpa using M.push h5
end

def DrawI3 (P : Program) (l hd tl : List Oper) (Q : Exit → Act → World → Prop) (n : Nat) (ts : List Nat) (e0 : List (Nat × Value)) (I : (Nat → Bool) → (Nat → Value) → World → Prop) (listed : Array Bool) (a : Act) (w : World) : Prop :=
 ((∀ i,i < hd.length → dn listed i) ∧ ∃ k,k ≤ tl.length ∧ (∀ j,j < k → dn listed (hd.length + j)) ∧ (∀ j,k ≤ j → j < tl.length → ¬ dn listed (hd.length + j)) ∧ wpList P l.toArray Q (tl.drop k) a w) ∨
 ((¬ ∀ i,i < hd.length → dn listed i) ∧ (∀ j,hd.length ≤ j → ¬ dn listed j) ∧ ∃ u,Env n a (TH ts 0 u e0) ∧ I (fun j=>listed.getD j false) u w)

theorem TU {P : Program} {id : Nat} {hd tl : List Oper} {Q : Exit → Act → World → Prop} {a : Act} {w : World} {n : Nat} {e0 : List (Nat × Value)}
  (hm : P.follows .mixedOrders = true) (hE : Jf (hd ++ tl) 0 = true) (hT : z8 (hd ++ tl) hd.length = true)
  (ts : List Nat) (hn : ts.Nodup) (I : (Nat → Bool) → (Nat → Value) → World → Prop)
  (h0 : Env n a e0) (hM0 : ∀ u,I (fun _=>false) u w.drew)
  (hstep : ∀ (i : Nat) (o : Oper),hd[i]? = some o → ∀ a w (u : Nat → Value) (D : Nat → Bool),Env n a (TH ts 0 u e0) → I D u w → D i = false → (∀ (j : Nat) (p : Oper) (e : Edge),hd[j]? = some p → e ∈ p.after.toList → Region.binds .any e = true → D j = true → D e.on = true) →
   (∀ (k : Nat) (e : Edge),o.after.toList[k]? = some e → Region.binds .any e = true → D e.on = true) →
   wpList P (hd ++ tl).toArray (nrm fun a' w'=>∃ v t,ts[i]? = some t ∧ Env n a' ((t,v) :: TH ts 0 u e0) ∧ I (US D i) (Uq u i v) w') [o] a w)
  (htail : ∀ a w u D,Env n a (TH ts 0 u e0) → I D u w → (∀ j,j < hd.length → D j = true) → wpList P (hd ++ tl).toArray Q tl a w) :
  (Code.region id (hd ++ tl).toArray true).wp P Q a w:=by
 refine wp_region_any hm ?_
 generalize hl : hd ++ tl = l at *
 have hln : l.length = hd.length + tl.length:=by rw [← hl]; simp
 have hbl : (bef l []).length = l.length:=by
  have : ∀ (r : List Oper) (acc : List Nat),(bef r acc).length = acc.length + r.length:=by
   intro r; induction r with
   | nil=>intro acc; simp [bef]
   | cons o r ih=>intro acc; rw [bef,ih]; simp; omega
  rw [this]; simp
 have tailDone : ∀ listed i o,l[i]? = some o → hd.length ≤ i → zb l (dn listed) → (∀ e ∈ o.after.toList,Region.binds .any e = true → dn listed e.on) → ∀ j,j < i → dn listed j:=by
  intro listed i o hi hle hdc hp j hj
  have hil:=(List.getElem?_eq_some_iff.1 hi).1
  have hbit : ((bef l []).getD i 0).testBit j = true:=by
   unfold z8 at hT
   simp only [List.all_eq_true] at hT
   have:=hT i (by simpa using hil)
   simp only [Bool.or_eq_true,decide_eq_true_eq,List.all_eq_true] at this
   rcases this with h | h
   ·omega
   ·exact h j (by simpa using hj)
  exact HL l l [] 0 rfl (by simp) (fun i hi=>absurd hi (Nat.not_lt_zero i)) i (by rw [hbl]; exact hil) (dn listed) hdc (fun o' e ho' he hb=>by rw [hi] at ho'; cases ho'; exact hp e he hb) j hbit
 have hfuel : ((List.range l.length).filter fun i=>!(Array.replicate l.toArray.size false).getD i false).length ≤ l.toArray.size:=by
  refine Nat.le_trans (List.length_filter_le _ _) ?_; simp
 have hnot0 : ∀ i,¬ dn (Array.replicate l.toArray.size false) i:=by
  intro i; unfold dn; rw [Array.getD_eq_getD_getElem?,Array.getElem?_replicate]; split <;> simp
 refine KM hE (DrawI3 P l hd tl Q n ts e0 I) ?_ ?_ _ _ _ _ (by simp) hfuel (fun i o e _ _ _ h=>absurd h (hnot0 i)) ?_
 ·intro listed i o a w hsz hi hnd hdc hp hI
  have hil:=(List.getElem?_eq_some_iff.1 hi).1
  by_cases hh : i < hd.length
  ·-- a head operation
   have hnall : ¬ ∀ i,i < hd.length → dn listed i:=fun h=>hnd (h i hh)
   obtain ⟨h,_⟩ | ⟨_,ht0,u,k1,k2⟩:=hI
   ·exact absurd h hnall
   have hio : hd[i]? = some o:=by rw [← hl] at hi; rwa [List.getElem?_append_left hh] at hi
   refine yO (by simpa using hi) ?_
   have hs:=hstep i o hio a w u (fun j=>listed.getD j false) k1 k2 (by simpa [dn] using hnd) (fun j p e hj he hb hdj=>hdc j p e (by rw [← hl,List.getElem?_append_left (List.getElem?_eq_some_iff.1 hj).1]; exact hj) he hb hdj) (fun k e hk hb=>hp e (List.mem_of_getElem? hk) hb)
   have hmono : ∀ (X Y : Act → World → Prop),(∀ a w,X a w → Y a w) → ∀ a w,wpList P l.toArray (nrm X) [o] a w → wpList P l.toArray (nrm Y) [o] a w:=by
    intro X Y hXY a w h
    unfold wpList at h ⊢
    split
    ·rename_i hw
     rw [if_pos hw] at h
     rcases h with h | ⟨_,a',w',h⟩
     ·exact .inl (Oper.wp_mono2 (fun _ _ h=>hXY _ _ h) (fun _ _ _ h=>h.elim) (fun ⟨_,_,h⟩=>h.elim) h)
     ·exact h.elim
    ·rename_i hw
     rw [if_neg hw] at h
     exact hXY _ _ h
   refine hmono _ _ ?_ a w hs
   rintro a' w' ⟨v,t,hti,hEnv,hM'⟩
   have hEnv':=hEnv.upd hn hti
   have hset : ∀ j,dn (listed.setIfInBounds i true) j ↔ (j = i ∨ dn listed j):=fun j=>KT (by omega)
   have hD : (fun j=>(listed.setIfInBounds i true).getD j false) = US (fun j=>listed.getD j false) i:=by
    funext j
    unfold US
    by_cases hj : j = i
    ·rw [if_pos hj]; exact (hset j).2 (.inl hj)
    ·rw [if_neg hj]
     rw [Bool.eq_iff_iff]
     exact (hset j).trans ⟨fun h=>h.resolve_left hj,.inr⟩
   have htn : ∀ j,hd.length ≤ j → ¬ dn (listed.setIfInBounds i true) j:=by
    intro j hj hd'
    rcases (hset j).1 hd' with rfl | hj'
    ·omega
    ·exact ht0 j hj hj'
   rw [← hD] at hM'
   by_cases hall : ∀ j,j < hd.length → dn (listed.setIfInBounds i true) j
   ·exact .inl ⟨hall,0,Nat.zero_le _,fun j hj=>by omega,fun j _ _=>htn _ (by omega),htail a' w' _ _ hEnv' hM' (fun j hj=>hall j hj)⟩
   ·exact .inr ⟨hall,htn,_,hEnv',hM'⟩
  ·have hdone:=tailDone listed i o hi (by omega) hdc hp
   have hall : ∀ j,j < hd.length → dn listed j:=fun j hj=>hdone j (by omega)
   obtain ⟨_,k,hk,k1,k2,k3⟩ | ⟨h,_⟩:=hI
   case inr=>exact absurd hall h
   have hki : hd.length + k = i:=by
    rcases Nat.lt_trichotomy (hd.length + k) i with h | h | h
    ·exact absurd (hdone _ h) (k2 k (Nat.le_refl _) (by omega))
    ·exact h
    ·exact absurd (by have:=k1 (i - hd.length) (by omega); rwa [show hd.length + (i - hd.length) = i by omega] at this) hnd
   have hto : tl[k]? = some o:=by
    rw [← hl] at hi
    rw [List.getElem?_append_right (by omega)] at hi
    rwa [show i - hd.length = k by omega] at hi
   have hdr : tl.drop k = o :: tl.drop (k + 1):=by
    rw [List.drop_eq_getElem_cons (List.getElem?_eq_some_iff.1 hto).1]
    congr 1
    exact (List.getElem?_eq_some_iff.1 hto).2
   rw [hdr] at k3
   refine wpOp_mono (fun a' w' hl=>?_) (HR (by simpa using hi) k3)
   have hset : ∀ j,dn (listed.setIfInBounds i true) j ↔ (j = i ∨ dn listed j):=fun j=>KT (by omega)
   have hall' : ∀ j,j < hd.length → dn (listed.setIfInBounds i true) j:=fun j hj=>(hset j).2 (.inr (hall j hj))
   refine .inl ⟨hall',k + 1,(List.getElem?_eq_some_iff.1 hto).1,fun j hj=>(hset _).2 ?_,fun j hj1 hj2 hd'=>?_,hl⟩
   ·rcases Nat.lt_or_ge j k with h | h
    ·exact .inr (k1 j h)
    ·exact .inl (by omega)
   ·rcases (hset _).1 hd' with h | h
    ·omega
    ·exact k2 j (by omega) hj2 h
 ·intro listed a w hsz hall hI
  have hall' : ∀ i,i < hd.length → dn listed i:=fun i hi=>hall i (by omega)
  obtain ⟨_,k,hk,k1,k2,k3⟩ | ⟨h,_⟩:=hI
  case inr=>exact absurd hall' h
  have : k = tl.length:=by
   rcases Nat.lt_or_ge k tl.length with h | h
   ·exact absurd (hall (hd.length + k) (by omega)) (k2 k (Nat.le_refl _) h)
   ·omega
  subst this
  rw [List.drop_length] at k3
  exact k3
 ·have hu : ∀ (r : List Nat) (j : Nat) (u : Nat → Value),(∀ k t,r[k]? = some t → u (j + k) = a.tmps.getD t undef) → Env n a (TH r j u e0):=by
   intro r
   induction r with
   | nil=>intro j u _; exact h0
   | cons t r ih =>
    intro j u hu
    have h1:=ih (j + 1) u (fun k s hk=>by have:=hu (k + 1) s (by simpa using hk); rwa [show j + (k + 1) = j + 1 + k by omega] at this)
    refine ⟨h1.sz,h1.df,fun s x hs=>?_⟩
    simp only [TH,List.lookup_cons] at hs
    by_cases hst : s = t
    ·subst hst
     simp at hs
     rw [← hs]
     exact (hu 0 s rfl).symm
    ·rw [show (s == t) = false by simpa using hst] at hs
     exact h1.get s x hs
  have hEnv : Env n a (TH ts 0 (fun j=>a.tmps.getD (ts.getD j 0) undef) e0):=hu ts 0 _ (fun k t hk=>by simp [List.getD_eq_getElem?_getD,hk])
  have hDf : (fun j=>(Array.replicate l.toArray.size false).getD j false) = fun _=>false:=by
   funext j
   have:=hnot0 j
   unfold dn at this
   simpa using this
  by_cases hall : ∀ i,i < hd.length → dn (Array.replicate l.toArray.size false) i
  ·have hnil : hd.length = 0:=by
    rcases Nat.eq_zero_or_pos hd.length with h | h
    ·exact h
    ·exact absurd (hall 0 h) (hnot0 0)
   exact .inl ⟨hall,0,Nat.zero_le _,fun j hj=>by omega,fun j _ _=>hnot0 _,htail a _ _ _ hEnv (hM0 _) (fun j hj=>by omega)⟩
  ·refine .inr ⟨hall,fun j _=>hnot0 j,_,hEnv,?_⟩
   rw [hDf]
   exact hM0 _
end Go.Proofs.YtlpppjjlffgkmaaGreat
namespace Go.Proofs.YtlpppjjlffgkmaaGreat
open Go

abbrev FillA (sz : Nat) (z : List Value) (parts : List (Nat × Value)) (cs : List Value) : Prop:=Instr.fill (fun i=>some (i * sz,sz)) z.toArray parts = some cs.toArray
theorem Yu {sz : Nat} {z : List Value} : FillA sz z [] z:=rfl
section
variable {n : Nat} {a : Act} {e : List (Nat × Value)} {w w' : World} {P : Program} {ops : Array Oper} {rest : List Oper} {Q : Exit → Act → World → Prop}
variable {d : Nat} {ty t : TypeId} {pos : String} {af : Array Edge} {g : Option (Nat × Bool)} {x y : Operand} {v u : Value}
theorem kK {parts : List (Nat × Operand)} {vs : List (Nat × Value)} (h : Env n a e) (hxs : Kh e (parts.map (·.2)) = some (vs.map (·.2))) (hix : parts.map (·.1) = vs.map (·.1)) :
  (parts.map fun (p : Nat × Operand)=>(p.1,a.eval p.2)) = vs:=by
 have h1:=h.evs hxs
 rw [List.map_map] at h1
 apply List.ext_getElem?
 intro i
 have e1 : (parts.map (·.1))[i]? = (vs.map (·.1))[i]?:=by rw [hix]
 have e2 : (parts.map (a.eval ∘ fun (p : Nat × Operand)=>p.2))[i]? = (vs.map (·.2))[i]?:=by rw [h1]
 simp only [List.getElem?_map] at e1 e2 ⊢
 cases hp : parts[i]? with
 | none =>
  rw [hp] at e1
  cases hq : vs[i]? with
  | none=>rfl
  | some q=>rw [hq] at e1; simp at e1
 | some p =>
  rw [hp] at e1 e2
  cases hq : vs[i]? with
  | none=>rw [hq] at e1; simp at e1
  | some q =>
   rw [hq] at e1 e2
   simp only [Option.map_some,Option.some.injEq] at e1 e2 ⊢
   exact Prod.ext e1 e2
theorem YU {el N : Nat} {parts : List (Nat × Operand)} {vs : List (Nat × Value)} {z cs ze : List Value} {sz by_ esz eby : Nat} {D De : TypeDesc} (h : Env n a e) (hw : Goes ops ⟨some d,.build t parts.toArray,ty,pos,af,g⟩ a) (hd : d < n)
  (hxs : Kh e (parts.map (·.2)) = some (vs.map (·.2))) (hix : parts.map (·.1) = vs.map (·.1)) (ht : Ty P t D sz by_ z) (hD : D = .array N el) (he : Ty P el De esz eby ze) (hf : FillA esz z vs cs)
  (k : ∀ a,Env n a ((d,.agg cs.toArray) :: e) → wpList P ops Q rest a w) : wpList P ops Q (⟨some d,.build t parts.toArray,ty,pos,af,g⟩ :: rest) a w:=by
 refine Xy h hw rfl hd (w':=w) ?_ k
 have hvals:=kK h hxs hix
 have hb : P.built t vs = some cs.toArray:=by
  obtain ⟨i,zv,h1,h2,_,h3,h4⟩:=ht.get
  obtain ⟨ie,_,k1,k2,_,_,_⟩:=he.get
  have hu:=ht.und
  rw [hD] at hu
  unfold Program.built
  rw [h1,hu]
  simp only [h3,k1,k2]
  have h5 : zv.cells = z.toArray:=by rw [← h4]
  simp only [h5]
  exact hf
 simp only [execOp]
 have : (parts.toArray.map fun (p : Nat × Operand)=>(p.1,a.eval p.2)) = vs.toArray:=by rw [List.map_toArray,hvals]
 simp only [Sem.run_bind]
 rw [show (Instr.build t (parts.toArray.map fun (i,x)=>(i,a.eval x))).run P w = .ok (.agg cs.toArray) w from by
  have h2:=run_build (P:=P) w t (parts.toArray.map fun (i,x)=>(i,a.eval x)) cs.toArray (by
   have : (parts.toArray.map fun (i,x)=>(i,a.eval x)).toList = vs:=by simpa using hvals
   rw [this]; exact hb)
  exact h2]
 rfl

theorem enc_at {α : Type} [Flat α] {N i : Nat} {v : Vector α N} {x : α} (hi : v.toList[i]? = some x) : ∃ c1 c2,Flat.enc v = c1 ++ (Flat.enc x ++ c2) ∧ c1.length = i * Flat.n α:=by
 refine ⟨YR (v.toList.take i),YR (v.toList.drop (i + 1)),Qt hi,?_⟩
 rw [Ur,List.length_take,Nat.min_eq_left (Nat.le_of_lt (List.getElem?_eq_some_iff.1 hi).1)]
theorem Q6 {α : Type} [Flat α] {N el sz by_ : Nat} {z : List Value} {De : TypeDesc} {K : IntKind} {i : Int} {v : Vector α N} {x0 : α} (h : Env n a e) (hw : Goes ops ⟨some d,.index t x y,ty,pos,af,g⟩ a) (hd : d < n)
  (hx : opv e x = some (.agg (Flat.enc v).toArray)) (hy : opv e y = some (.int K i)) (ht : P.underlying t = some (.array N el)) (he : Ty P el De sz by_ z) (hD : Kz De = false) (hs : sz = Flat.n α) (hi : (0 ≤ i ∧ i < N) ∧ v.toList[i.toNat]? = some x0) (hu : Flat.enc x0 = [u])
  (k : ∀ a,Env n a ((d,u) :: e) → wpList P ops Q rest a w) : wpList P ops Q (⟨some d,.index t x y,ty,pos,af,g⟩ :: rest) a w:=by
 obtain ⟨c1,c2,e1,e2⟩:=enc_at hi.2
 subst hs
 have hg : (Flat.enc v)[i.toNat * Flat.n α]? = some u:=by
  rw [e1,hu,← e2]
  simp
 exact Xy h hw rfl hd (by
  simp only [execOp,h.ev hx,h.ev hy]
  simp [Instr.index,asIntOf,run_underlying ht,hi.1,Xp he,part,KE he,hD,hg]) k
theorem Wh {b o : Nat} (h : Env n a e) (hw : Goes ops ⟨some d,.nilCheck x,ty,pos,af,g⟩ a) (hd : d < n) (hx : opv e x = some (ptr b o))
  (k : ∀ a,Env n a ((d,ptr b o) :: e) → wpList P ops Q rest a w) : wpList P ops Q (⟨some d,.nilCheck x,ty,pos,af,g⟩ :: rest) a w :=
 Xy h hw rfl hd (by simp only [execOp,h.ev hx]; rfl) k
end
theorem Zcl {α : Type} [Flat α] {N b : Nat} {w : World} {v : Vector α N} (h : At w b 0 (Flat.enc v)) : Rep.sat (fun c=>c = b) w v.toList [.slice (some ⟨b,0,none⟩) N N] []:=by
 refine ⟨some ⟨b,0,none⟩,N,by simp,by simp,fun _=>rfl,Flat.enc v,[],?_,h,.inl ⟨fun _=>rfl,rfl⟩⟩
 show Z2 _ w v.toList (YR v.toList) []
 generalize v.toList = l
 induction l with
 | nil=>exact ⟨rfl,rfl⟩
 | cons x l ih=>exact ⟨_,_,[],[],rfl,rfl,⟨rfl,rfl⟩,ih⟩
section
variable {n : Nat} {a : Act} {e : List (Nat × Value)} {w w' : World} {P : Program} {ops : Array Oper} {rest : List Oper} {Q : Exit → Act → World → Prop}
variable {d : Nat} {ty t : TypeId} {pos : String} {af : Array Edge} {g : Option (Nat × Bool)} {x y : Operand} {v u : Value}
theorem QJ {N el sz by_ b : Nat} {z : List Value} {D : TypeDesc} {K : IntKind} {i : Int} (h : Env n a e) (hw : Goes ops ⟨some d,.indexAddr t x y,ty,pos,af,g⟩ a) (hd : d < n)
  (hx : opv e x = some (.slice (some ⟨b,0,none⟩) N N)) (hy : opv e y = some (.int K i)) (ht : P.underlying t = some (.slice el)) (he : Ty P el D sz by_ z) (hi : 0 ≤ i ∧ i < N)
  (k : ∀ a,Env n a ((d,ptr b (0 + i.toNat * sz)) :: e) → wpList P ops Q rest a w) : wpList P ops Q (⟨some d,.indexAddr t x y,ty,pos,af,g⟩ :: rest) a w :=
 Xy h hw rfl hd (by
  simp only [execOp,h.ev hx,h.ev hy]
  simp [Instr.indexAt,asIntOf,run_underlying ht,Instr.sureAddr,hi,Xp he,Addr.add_lit]) k
end
theorem k_ret0 {n : Nat} {a : Act} {e : List (Nat × Value)} {w : World} {P : Program} {fn : Func} {R : Ending → World → Prop} (hE : Env n a e) (hres : fn.results = #[]) (hR : R (.returned (.tuple [].toArray)) w) : bodyPost P fn R .ret a w:=by
 refine bodyPost_ret ?_ hE.df hR
 rw [J3,hres]
 simp
theorem Zds {n : Nat} {a : Act} {e : List (Nat × Value)} {w : World} {P : Program} {fn : Func} {R : Ending → World → Prop} (hE : Env n a e) (hres : fn.results = #[]) (hR : R (.returned (.tuple [].toArray)) w) : bodyPost P fn R .normal a w:=k_ret0 hE hres hR
structure Ref (α : Type) where
 v : α
 deriving DecidableEq,Inhabited
instance {α : Type} [Dat α] : Dat (Ref α):=⟨fun x=>Dat.bd x.v,fun x=>Dat.sz x.v + 1⟩
def RefSat {α : Type} [Rep α] (S : Nat → Prop) (w : World) (x : Ref α) (cs : List Value) (fp : List Nat) : Prop :=
 ∃ b ds fpe,cs = [ptr b 0] ∧ Rep.sat S w x.v ds fpe ∧ At w b 0 ds ∧ ((S b ∧ fp = fpe) ∨ (fp = b :: fpe ∧ ∃ T,w.heap[b]? = some (.cells ds.toArray T (0,0))))
instance {α : Type} [Rep α] : Rep (Ref α) where
 n:=1
 sat:=RefSat
 len:=by rintro S w x cs fp ⟨b,ds,fpe,rfl,_⟩; rfl
 loc:=by
  rintro S w w' x cs fp ⟨b,ds,fpe,rfl,h1,h2,h3⟩ hb
  rcases h3 with ⟨h3,rfl⟩ | ⟨rfl,T,h3⟩
  ·exact ⟨b,ds,fp,rfl,Rep.loc h1 hb,h2.loc (hb _ (.inr h3)),.inl ⟨h3,rfl⟩⟩
  ·exact ⟨b,ds,fpe,rfl,Rep.loc h1 (fun b h=>hb b (by simp; grind)),h2.loc (hb _ (by simp)),.inr ⟨rfl,T,by rw [hb _ (by simp)]; exact h3⟩⟩
 ro:=by
  rintro S S' w x cs fp ⟨b,ds,fpe,rfl,h1,h2,h3⟩ hb
  rcases h3 with ⟨h3,rfl⟩ | ⟨rfl,T,h3⟩
  ·exact ⟨b,ds,[],rfl,Rep.ro h1 hb,h2,.inl ⟨hb _ (.inr h3),rfl⟩⟩
  ·exact ⟨b,ds,[],rfl,Rep.ro h1 (fun b h=>hb b (by simp; grind)),h2,.inl ⟨hb _ (by simp),rfl⟩⟩
 wk:=by
  rintro S S' w x cs fp ⟨b,ds,fpe,rfl,h1,h2,h3⟩ hb
  rcases h3 with ⟨h3,rfl⟩ | ⟨rfl,T,h3⟩
  ·exact ⟨b,ds,fp,rfl,Rep.wk h1 hb,h2,.inl ⟨hb _ h3,rfl⟩⟩
  ·exact ⟨b,ds,fpe,rfl,Rep.wk h1 hb,h2,.inr ⟨rfl,T,h3⟩⟩
 lt:=by
  rintro S w x cs fp ⟨b,ds,fpe,rfl,h1,h2,h3⟩ c hc
  rcases h3 with ⟨h3,rfl⟩ | ⟨rfl,T,h3⟩
  ·exact Rep.lt h1 c hc
  ·rcases List.mem_cons.1 hc with rfl | hc
   ·rcases Nat.lt_or_ge c w.heap.size with h | h
    ·exact h
    ·rw [Array.getElem?_eq_none h] at h3; cases h3
   ·exact Rep.lt h1 c hc
 cell:=by
  rintro S w x cs fp ⟨b,ds,fpe,rfl,_⟩ v hv
  simp at hv; subst hv; rfl
section
variable {α : Type} [Rep α] {S : Nat → Prop} {w w0 : World} {x : Ref α} {fp : List Nat} {u : Value} {St : Nat → Prop} {its : List Item} {b : Nat} {ds : List Value}
theorem H8 (h : Rep.sat S w x [u] fp) : u.cells.toList = [u]:=by obtain ⟨b,ds,fpe,e,_⟩:=h; obtain rfl:=(List.cons.inj e).1; rfl
theorem JG {cs : List Value} (h : Rep.sat S w x cs fp) : ∃ v,cs = [v]:=by obtain ⟨b,ds,fpe,e,_⟩:=h; exact ⟨_,e⟩
theorem TP (h : Rep.sat S w x [u] []) : ∃ b ds,u = ptr b 0 ∧ Rep.sat S w x.v ds [] ∧ At w b 0 ds ∧ S b:=by
 obtain ⟨b,ds,fpe,e,h1,h2,h3⟩:=h
 rcases h3 with ⟨h3,rfl⟩ | ⟨h3,_⟩
 ·exact ⟨b,ds,(List.cons.inj e).1,h1,h2,h3⟩
 ·cases h3
theorem M.toRef {x : α} {S : Nat → Prop} (h : M St w0 w (raw b ds :: own S x ds :: its)) (hS : ∀ b,S b → St b) : M St w0 w (own S (⟨x⟩ : Ref α) [ptr b 0] :: its) :=
 h.pack2 (Vo hS) fun f g h1 h2=>by
  obtain ⟨rfl,T,h3⟩:=h1
  exact ⟨b,ds,g,rfl,h2,At.of_heap h3,.inr ⟨rfl,T,h3⟩⟩
theorem M.toRefF {α : Type} [Flat α] {x : α} (h : M St w0 w (raw b (Flat.enc x) :: its)) : M St w0 w (own NoB (⟨x⟩ : Ref α) [ptr b 0] :: its) :=
 h.pack1 (Vo fun _ h=>h.elim) fun f h1=>by
  obtain ⟨rfl,T,h3⟩:=h1
  exact ⟨b,Flat.enc x,[],rfl,⟨rfl,rfl⟩,At.of_heap h3,.inr ⟨rfl,T,h3⟩⟩
end
end Go.Proofs.YtlpppjjlffgkmaaGreat
namespace Go.Proofs.YtlpppjjlffgkmaaGreat
open Go

section
variable {n : Nat} {a : Act} {e : List (Nat × Value)} {w w' : World} {P : Program} {ops : Array Oper} {rest : List Oper} {Q : Exit → Act → World → Prop}
variable {d : Nat} {ty t : TypeId} {pos : String} {af : Array Edge} {g : Option (Nat × Bool)} {x y : Operand} {v u : Value}
variable {St : Nat → Prop} {w0 : World} {its : List Item}

theorem flat1 : ∀ {vs : List Value},(∀ v ∈ vs,v.cells.toList = [v]) → (vs.map (·.cells.toList)).flatten = vs
 | [],_=>rfl
 | v :: vs,h=>by rw [List.map_cons,List.flatten_cons,h v (by simp),flat1 (fun u hu=>h u (by simp [hu]))]; rfl
theorem zE {xs : List Operand} {vs : List Value} {m el by_ : Nat} {D : TypeDesc} {z : List Value}
  (h : Env n a e) (hM : M St w0 w its) (hw : Goes ops ⟨some d,.buildSlice t m (KC 0 xs).toArray,ty,pos,af,g⟩ a) (hd : d < n) (hxs : Kh e xs = some vs) (hm : vs.length = m)
  (ht : P.underlying t = some (.slice el)) (he : Ty P el D 1 by_ z) (hsmall : m ≤ 16777216) (hcell : ∀ v ∈ vs,v.cells.toList = [v])
  (k : ∀ b w a,M St w0 w (raw b vs :: its) → Env n a ((d,.slice (some ⟨b,0,none⟩) m m) :: e) → wpList P ops Q rest a w) : wpList P ops Q (⟨some d,.buildSlice t m (KC 0 xs).toArray,ty,pos,af,g⟩ :: rest) a w:=by
 have hsz:=Xp he
 obtain ⟨zv,hzv,hzc⟩:=Kx he w
 have hc1 : ∀ v ∈ vs,v.cells.size = 1:=fun v hv=>by have:=congrArg List.length (hcell v hv); simpa using this
 have hnum:=h.numbered xs 0 vs hxs
 have hsub : ∀ cs : Array Value,cs.size = m * 1 → Instr.fill (fun i=>some (i * 1,1)) cs (numbered 0 vs) = some vs.toArray:=by
  intro cs hcs
  rw [zB 1 _ (fun _=>rfl) vs 0 cs hc1 (by simp [hm,hcs])]
  congr 2
  rw [Nat.zero_mul,flat1 hcell]
  exact Zr (by simp [hcs,hm])
 have hrun : (Instr.buildSlice t m ((KC 0 xs).toArray.map fun (i,x)=>(i,a.eval x))).run P w = .ok (.slice (some ⟨w.heap.size,0,none⟩) m m) (w.alloc (.cells vs.toArray el)):=by
  have hparts : ((KC 0 xs).toArray.map fun (i,x)=>(i,a.eval x)).toList = numbered 0 vs:=by simpa using hnum
  have hlim : ¬ (m * 1 > 2 ^ 24):=by omega
  have hfill : ∀ zz : Array Value,Instr.fill (fun i=>some (i * 1,1)) ((Array.range (m * 1)).map (zz[· % zz.size]!)) (numbered 0 vs) = some vs.toArray:=fun zz=>hsub _ (by simp)
  unfold Instr.buildSlice
  simp only [Sem.run_bind,run_underlying ht,Result.andThen_ok,hsz,if_neg hlim,hparts]
  by_cases h0 : m * 1 = 0
  ·simp only [if_pos h0,pure_bind]
   rw [hfill]
   simp [newRow]
  ·simp only [if_neg h0,pure_bind,Sem.run_bind,hzv,Result.andThen_ok]
   rw [hfill]
   simp [newRow]
 exact Xy h hw rfl hd (v:=.slice (some ⟨w.heap.size,0,none⟩) m m) (w':=w.alloc (.cells vs.toArray el)) (by simp only [execOp]; simp only [Sem.run_bind,hrun]; rfl) fun a ha=>k _ _ _ (hM.alloc vs el) ha
def ja {α : Type} [Rep α] (w : World) : List α → List Value → Prop
 | [],[]=>True
 | x :: l,v :: vs=>Ro w x [v] ∧ ja w l vs
 | _,_=>False
theorem ja.elems {α : Type} [Rep α] {w : World} : ∀ {l : List α} {vs : List Value},ja w l vs → Z2 (Old w) w l vs []
 | [],[],_=>⟨rfl,rfl⟩
 | _ :: _,v :: vs,h=>⟨[v],vs,[],[],rfl,rfl,h.1,ja.elems h.2⟩
 | [],_ :: _,h=>h.elim
 | _ :: _,[],h=>h.elim
theorem M.rawLt {b : Nat} {cs : List Value} {pre post : List Item} (h : M St w0 w (pre ++ raw b cs :: post)) : b < w.heap.size:=by
 obtain ⟨fp,⟨rfl,_⟩,h1⟩:=h.get
 exact h1 b (by simp)
theorem Zbn {α : Type} [Rep α] {l : List α} {vs : List Value} {b m : Nat} (hA : At w b 0 vs) (hb : b < w.heap.size) (h : ja w l vs) (hm : l.length = m) : Ro w l [.slice (some ⟨b,0,none⟩) m m]:=by
 subst hm
 exact ⟨some ⟨b,0,none⟩,l.length,rfl,Nat.le_refl _,fun _=>rfl,vs,[],h.elems,hA,.inl ⟨fun _=>hb,rfl⟩⟩

def Q7 {α : Type} (N : Nat) (l : List α) : Option (Vector α N):=if h : N ≤ l.length then some ⟨(l.take N).toArray,by simp [h]⟩ else none
theorem Kb {α : Type} {N : Nat} {l : List α} {v : Vector α N} (h : Q7 N l = some v) : N ≤ l.length ∧ v.toList = l.take N:=by
 unfold Q7 at h
 split at h
 ·rename_i h0
  simp only [Option.some.injEq] at h
  subst h
  exact ⟨h0,rfl⟩
 ·cases h
theorem Ar {α : Type} [Rep α] {S : Nat → Prop} {l : List α} {fp : List Nat} {N el : Nat} (h : Env n a e) (hw : Goes ops ⟨some d,.sliceToArrayPointer t x,ty,pos,af,g⟩ a) (hd : d < n) (hx : opv e x = some v)
  (ht : P.underlying t = some (.array N el)) (hs : Rep.sat S w l [v] fp) (hN : N ≤ l.length) (h0 : 0 < N)
  (k : ∀ a,Env n a ((d,ptr (sb v) (so v)) :: e) → wpList P ops Q rest a w) : wpList P ops Q (⟨some d,.sliceToArrayPointer t x,ty,pos,af,g⟩ :: rest) a w:=by
 obtain ⟨p,cap,hv,hc,hp⟩:=hs
 simp only [List.cons.injEq,and_true] at hv
 subst hv
 refine Xy h hw rfl hd (w':=w) ?_ k
 have hlt : ¬ (l.length < N):=by omega
 cases p with
 | none=>have:=hp.1; omega
 | some q =>
  obtain ⟨h1,_⟩:=hp
  obtain ⟨q1,q2,q3⟩:=q
  have h1:=h1 (by omega)
  simp only at h1
  subst h1
  simp only [execOp,h.ev hx]
  simp [Instr.arrayAt,run_underlying ht,hlt,sb,so]
theorem z7 {α : Type} [Flat α] : ∀ (l : List α) (k : Nat),YR (l.take k) = (YR l).take (k * Flat.n α)
 | [],k=>by simp [YR]
 | x :: l,0=>by simp [YR]
 | x :: l,k + 1=>by
  rw [List.take_succ_cons,YR,YR,z7 l k,Nat.add_mul,Nat.one_mul,Nat.add_comm]
  rw [← Flat.len x,List.take_length_add_append]
theorem yC {α : Type} [Flat α] {S : Nat → Prop} {l : List α} {fp : List Nat} {N : Nat} {X : Vector α N} (hs : Rep.sat S w l [v] fp) (hX : Q7 N l = some X) (h0 : 0 < N) : At w (sb v) (so v) (Flat.enc X):=by
 obtain ⟨hN,hl⟩:=Kb hX
 obtain ⟨p,cap,hv,hc,hp⟩:=hs
 simp only [List.cons.injEq,and_true] at hv
 subst hv
 cases p with
 | none=>have:=hp.1; omega
 | some q =>
  obtain ⟨h1,ecs,fpe,h2,h3,_⟩:=hp
  obtain ⟨rfl,_⟩:=Xn.1 h2
  have h1:=h1 (by omega)
  obtain ⟨q1,q2,q3⟩:=q
  simp only at h1
  subst h1
  show At w q1 q2 (YR X.toList)
  rw [hl,z7]
  intro i c hi
  refine h3 i c ?_
  rw [List.getElem?_take] at hi
  split at hi
  ·exact hi
  ·cases hi

theorem Z2.takeF {α : Type} [Rep α] {S : Nat → Prop} {w : World} : ∀ {l : List α} {cs : List Value} {fp : List Nat} (k : Nat),Z2 S w l cs fp → ∃ f g,fp = f ++ g ∧ Z2 S w (l.take k) (cs.take (k * Rep.n α)) f
 | l,cs,fp,0,h=>⟨[],fp,rfl,by simp [Z2]⟩
 | [],cs,fp,k + 1,h=>by obtain ⟨rfl,rfl⟩:=h; exact ⟨[],[],rfl,by simp [Z2]⟩
 | x :: l,cs,fp,k + 1,h=>by
  obtain ⟨c,cs',f,fp',rfl,rfl,h1,h2⟩:=h
  obtain ⟨f1,g1,rfl,h3⟩:=Z2.takeF k h2
  refine ⟨f ++ f1,g1,by simp,?_⟩
  rw [List.take_succ_cons,Nat.add_mul,Nat.one_mul,Nat.add_comm,show Rep.n α + k * Rep.n α = c.length + k * Rep.n α by rw [Rep.len h1],List.take_length_add_append]
  exact ⟨c,_,f,f1,rfl,rfl,h1,h3⟩
theorem Wq.cut {α : Type} [Rep α] {S : Nat → Prop} {l r : List α} {fp : List Nat} {j : Int} (h : Wq S w l v fp) (hb : slc l 0 j = some r) : ∃ fp',Wq S w r (Z9 v (0 : Int).toNat j.toNat (Rep.n α)) fp' ∧ fp'.Sublist fp:=by
 obtain ⟨⟨_,h1,h2⟩,rfl⟩:=Hh hb
 obtain ⟨p,cap,rfl,hc,h⟩:=h
 have e0 : (0 : Int).toNat = 0:=rfl
 have hlen : ((l.take j.toNat).drop 0).length = j.toNat:=by simp; omega
 rw [e0,List.drop_zero] at *
 rcases h with ⟨rfl,rfl,hp⟩ | ⟨b,o,ecs,fpe,rfl,k1,k2,rfl,k3⟩
 ·have : j.toNat = 0:=by omega
  rw [this] at *
  refine ⟨[],⟨p,0,by simp [Z9],by simp,.inl ⟨rfl,rfl,hp⟩⟩,List.nil_sublist _⟩
 ·obtain ⟨f,g,rfl,k4⟩:=Z2.takeF j.toNat k1
  have hadd : (if cap = 0 then some (⟨b,o,none⟩ : Addr) else some ((⟨b,o,none⟩ : Addr).add (0 * Rep.n α))) = some ⟨b,o,none⟩:=by
   split
   ·rfl
   ·rw [Addr.add_lit]; simp
  refine ⟨b :: f,⟨some ⟨b,o,none⟩,cap,?_,by rw [hlen]; omega,.inr ⟨b,o,_,f,rfl,k4,fun i c hi=>k2 i c ?_,rfl,k3⟩⟩,by simp⟩
  ·simp only [Z9,Option.map_some,hlen,Nat.sub_zero,hadd]
  ·rw [List.getElem?_take] at hi
   split at hi
   ·exact hi
   ·cases hi
theorem M.cut {α : Type} [Rep α] {S : Nat → Prop} {l r : List α} {j : Int} (hM : M St w0 w (osl S l v :: its)) (hS : ∀ b,S b → St b) (hb : slc l 0 j = some r) : M St w0 w (osl S r (Z9 v (0 : Int).toNat j.toNat (Rep.n α)) :: its):=by
 refine hM.turn (new:=[osl S r _]) rfl rfl rfl (Nat.le_refl _) ?_
 intro fp hfp _ hnd
 obtain ⟨fp',h1,h2⟩:=Wq.cut hfp hb
 exact ⟨fun _ _ _=>rfl,fp',⟨fp',[],by simp,QH hS,h1,rfl⟩,h2.nodup hnd,fun b hb=>.inl (h2.subset hb)⟩

theorem jp {el : TypeId} (h : Env n a e) (hw : Goes ops ⟨some d,.call ⟨.builtin .cap,[x].toArray,[t].toArray⟩,ty,pos,af,g⟩ a) (hd : d < n)
  (hx : opv e x = some (.slice none 0 0)) (ht : P.underlying t = some (.slice el))
  (k : ∀ a,Env n a ((d,vI 0) :: e) → wpList P ops Q rest a w) : wpList P ops Q (⟨some d,.call ⟨.builtin .cap,[x].toArray,[t].toArray⟩,ty,pos,af,g⟩ :: rest) a w :=
 Xy h hw rfl hd (by
  simp only [execOp,resolve]
  simp [invoke,builtin,h.ev hx,Builtin.cap_,run_underlying ht,goInt]) k
theorem jz {el : TypeId} (h : Env n a e) (hw : Goes ops ⟨some d,.call ⟨.builtin .len,[x].toArray,[t].toArray⟩,ty,pos,af,g⟩ a) (hd : d < n)
  (hx : opv e x = some (.slice none 0 0)) (ht : P.underlying t = some (.slice el))
  (k : ∀ a,Env n a ((d,vI 0) :: e) → wpList P ops Q rest a w) : wpList P ops Q (⟨some d,.call ⟨.builtin .len,[x].toArray,[t].toArray⟩,ty,pos,af,g⟩ :: rest) a w :=
 TQ (l:=([] : List Int)) h hw hd hx ht (XG (S:=NoB)) k
theorem qi {el sz by_ : Nat} {z : List Value} {D : TypeDesc} {hi : Operand} {K : IntKind} (h : Env n a e) (hw : Goes ops ⟨some d,.slice t x none (some hi) none,ty,pos,af,g⟩ a) (hd : d < n)
  (hx : opv e x = some (.slice none 0 0)) (hhi : opv e hi = some (.int K 0)) (ht : P.underlying t = some (.slice el)) (he : Ty P el D sz by_ z)
  (k : ∀ a,Env n a ((d,.slice none 0 0) :: e) → wpList P ops Q rest a w) : wpList P ops Q (⟨some d,.slice t x none (some hi) none,ty,pos,af,g⟩ :: rest) a w :=
 Ap (l:=([] : List Int)) (r:=[]) (vlo:=none) (vhi:=some (.int K 0)) (i:=0) (j:=0) h hw hd hx rfl (Za5 hhi) rfl rfl ht he (XG (S:=NoB)) rfl k
theorem yn (z : Array Value) (m : Nat) : (Builtin.zeroCells z m).toList = (List.replicate m z.toList).flatten:=by
 have:=yh z.toList m
 rw [← this]
 simp [Builtin.zeroCells,madeCells]
theorem Zay {α : Type} [Rep α] {K : IntKind} {c : Int} {tn el : TypeId} {kn : IntKind} {D : TypeDesc} {by_ : Nat} {z : List Value} {zero : α} {l : List α}
  (h : Env n a e) (hM : M St w0 w its) (hw : Goes ops ⟨some d,.call ⟨.builtin .append,[x,y].toArray,[t,tn].toArray⟩,ty,pos,af,g⟩ a) (hd : d < n) (hx : opv e x = some (.slice none 0 0)) (hy : opv e y = some (.int K c))
  (ht : P.underlying t = some (.slice el)) (htn : P.underlying tn = some (.int kn)) (he : Ty P el D (Rep.n α) by_ z) (hzl : z.length = Rep.n α) (h0 : 0 < by_) (hn : 0 < Rep.n α) (hz : ∀ w,Rep.sat NoB w zero z []) (hb : mkS by_ zero c = some l)
  (k : ∀ v' w a,M St w0 w (osl NoB l v' :: its) → Env n a ((d,v') :: e) → wpList P ops Q rest a w) : wpList P ops Q (⟨some d,.call ⟨.builtin .append,[x,y].toArray,[t,tn].toArray⟩,ty,pos,af,g⟩ :: rest) a w:=by
 unfold mkS at hb
 split at hb
 case isFalse=>cases hb
 rename_i hc
 obtain ⟨hc0,hcb⟩:=hc
 simp only [Option.some.injEq] at hb
 subst hb
 obtain ⟨i,zv,hi,hsz,hby,hzz,hzc⟩:=he.get
 have hcb' : c ≤ 140737488355328:=by
  have : c * 1 ≤ c * by_:=Int.mul_le_mul_of_nonneg_left (by omega) hc0
  omega
 obtain ⟨m,rfl⟩ : ∃ m : Nat,c = m:=⟨c.toNat,by omega⟩
 rw [Int.toNat_natCast] at *
 have hmb : m * by_ ≤ 140737488355328:=by
  have : ((m * by_ : Nat) : Int) ≤ 140737488355328:=by rw [Int.natCast_mul]; exact hcb
  omega
 by_cases hm : m = 0
 ·subst hm
  refine Xy h hw rfl hd (v:=.slice none 0 0) (w':=w) ?_ fun a ha=>k _ _ _ (M.nilS NoB noB hM) ha
  simp only [execOp,resolve]
  simp [invoke,builtin,h.ev hx,h.ev hy,Builtin.append_,run_underlying ht,run_underlying htn,sizeOf,typeInfo,hi,asInt,asIntOf,IntKind.wrap_i64]
 ·have hr:=Lib.run_append_nil_zeros (P:=P) w t tn ty el i zv K kn ht htn hi hzz m (by omega) (by rw [hsz]; omega) (by omega) (by rw [hby]; omega)
  have hgc:=grownCap_ge w m 0 el
  refine Xy h hw rfl hd (v:=.slice (some ⟨w.heap.size,0,none⟩) m (grownCap w m 0 el)) (w':=w.drew.alloc (.cells (Builtin.zeroCells zv.cells m ++ Builtin.zeroCells zv.cells (grownCap w m 0 el - m)) el)) (by simp only [execOp,resolve]; simp [invoke,builtin,h.ev hx,h.ev hy,hr]) fun a ha=>k _ _ _ ?_ ha
  have hcells : Builtin.zeroCells zv.cells m ++ Builtin.zeroCells zv.cells (grownCap w m 0 el - m) = ((List.replicate m z).flatten ++ (List.replicate (grownCap w m 0 el - m) z).flatten).toArray:=by
   apply Array.ext'
   rw [Array.toList_append,yn,yn,hzc]
  rw [hcells]
  have hnew:=U1 w.drew (.cells ((List.replicate m z).flatten ++ (List.replicate (grownCap w m 0 el - m) z).flatten).toArray el)
  have hat:=At.of_heap hnew
  rw [At.append] at hat
  refine (hM.drew).add (new:=[osl NoB (List.replicate m zero) _]) (Kept.alloc _ _) ⟨[w.heap.size],⟨[w.heap.size],[],rfl,QH (fun _ h=>h),⟨some ⟨w.heap.size,0,none⟩,grownCap w m 0 el,by simp,by simpa using hgc,.inr ⟨w.heap.size,0,_,[],rfl,QM (hz _) _,hat.1,rfl,?_⟩⟩,rfl⟩,by simp,fun b hb=>by simp at hb; subst hb; exact ⟨Nat.le_refl _,by simp⟩⟩
  refine ⟨_,el,(0,0),hnew,?_,by intro j _; simp⟩
  have e1 : ∀ q : Nat,((List.replicate q z).flatten).length = q * Rep.n α:=fun q=>by simp [hzl]
  rw [List.size_toArray,List.length_append,e1,e1,← Nat.add_mul,Nat.zero_add,show m + (grownCap w m 0 el - m) = grownCap w m 0 el by omega]
  exact Nat.le_refl _
end
section
variable {n : Nat} {a : Act} {e : List (Nat × Value)} {w w' : World} {P : Program} {ops : Array Oper} {rest : List Oper} {Q : Exit → Act → World → Prop}
variable {d : Nat} {ty t : TypeId} {pos : String} {af : Array Edge} {g : Option (Nat × Bool)} {x y : Operand} {v u : Value}
variable {St : Nat → Prop} {w0 : World} {its : List Item}
def LitSat {α : Type} [Rep α] (S : Nat → Prop) (w : World) : List α → List Value → Prop
 | [],[]=>True
 | x :: l,v :: vs=>Rep.sat S w x [v] [] ∧ LitSat S w l vs
 | _,_=>False
end
end Go.Proofs.YtlpppjjlffgkmaaGreat
namespace Go.Proofs.YtlpppjjlffgkmaaGreat
open Go

def litP (v : Value) (m : Nat) (vs : List Value) : Item:=fun w fp=>∃ b,v = .slice (some ⟨b,0,none⟩) m m ∧ raw b vs w fp
def mkL (i : Nat) (ds : List Nat) (m : Nat) (f : List Value → List Value) : List Nat × (List Bool → List Value → Item):=(i :: ds,fun bs us=>opt (bs.headD false) (litP (us.headD undef) m (f us.tail)))
section
variable {St : Nat → Prop} {w0 w : World} {its pre post : List Item} {mk : Mk} {D : Nat → Bool} {u : Nat → Value} {i k m b : Nat} {ds : List Nat} {v : Value} {vs : List Value} {f : List Value → List Value}
theorem Zci {St : Nat → Prop} : Loc St (litP v m vs):=fun w w' fp ⟨b,e,k⟩ hb=>⟨b,e,XQ w w' fp k hb⟩
theorem emL : ∀ us,(mkL i ds m f).2 ((mkL i ds m f).1.map fun _=>false) us = Go.Proofs.YtlpppjjlffgkmaaGreat.emp:=fun _=>by simp [mkL,QZ]
theorem litE (hD : D i = false) : (mkL i ds m f).2 ((mkL i ds m f).1.map D) ((mkL i ds m f).1.map u) = Go.Proofs.YtlpppjjlffgkmaaGreat.emp:=by simp [mkL,hD,QZ]
theorem M.litFill (h : M St w0 w (raw b (f (ds.map u)) :: (its ++ qL (mk ++ [mkL i ds m f]) D u))) (hi : ((mk ++ []).all fun p=>p.1.all fun k=>k != i) = true) (hD : D i = false) (hd : (ds.all fun k=>k != i) = true) :
  M St w0 w (its ++ qL (mk ++ [mkL i ds m f]) (US D i) (Uq u i (.slice (some ⟨b,0,Option.none⟩) m m))):=by
 have hne : i ∉ ds:=fun hm=>by have:=List.all_eq_true.1 hd i hm; simp at this
 have h' : M St w0 w (litP (.slice (some ⟨b,0,Option.none⟩) m m) m (f (ds.map u)) :: (its ++ qL (mk ++ [mkL i ds m f]) D u)):=h.pack1 Zci fun fp k=>⟨b,rfl,k⟩
 refine M.qPut (mk1:=mk) (mk2:=[]) h' hi (litE hD) ?_
 obtain ⟨e1,e2⟩:=Av (D:=D) (u:=u) (v:=.slice (some ⟨b,0,Option.none⟩) m m) hne
 simp only [mkL,List.map_cons,e2]
 simp [US,Uq,Jp]
theorem M.litOpen (h : M St w0 w (litP v m vs :: its)) : ∃ b,v = .slice (some ⟨b,0,Option.none⟩) m m ∧ M St w0 w (raw b vs :: its):=by
 obtain ⟨fp,⟨b,hb,_⟩,_⟩:=h.head
 exact ⟨b,hb,h.pack1 XQ fun fp ⟨b',e',k⟩=>by rw [hb] at e'; simp at e'; subst e'; exact k⟩
end

def prm (a b : Bool) (x y : Item) : Item:=if b = true then y else opt a x
def mkP (j i : Nat) (f g : Value → Item) : List Nat × (List Bool → List Value → Item):=([j,i],fun bs us=>prm (bs.headD false) (bs.getD 1 false) (f (us.headD undef)) (g (us.getD 1 undef)))
section
variable {St : Nat → Prop} {w0 w : World} {its pre post : List Item} {mk1 mk2 : Mk} {D : Nat → Bool} {u : Nat → Value} {i j : Nat} {v : Value} {a b : Bool} {x y : Item} {f g : Value → Item}
end
def mkD (i s k : Nat) (z : List Value) (f : Value → List Value) : List Nat × (List Bool → List Value → Item):=([i,s,k],fun bs us=>HG (bs.headD false) (bs.getD 1 false) (us.headD undef) z (f (us.getD 2 undef)))
section
variable {St : Nat → Prop} {w0 w : World} {its : List Item} {mk1 mk2 : Mk} {D : Nat → Bool} {u : Nat → Value} {i s k b : Nat} {v : Value} {z c c' : List Value} {f : Value → List Value}
end
theorem flq {α : Type} [Flat α] {x y : α} : (Flat.enc x).length = (Flat.enc y).length:=(Flat.len x).trans (Flat.len y).symm
theorem zle {a b : Nat} (h : a = b) : 0 + a ≤ b:=by omega
theorem bvx {α β : Type} {N : Nat} {v : Vector α N} {i : Int} {f : α → Option β} {r : β} (h : (ZC v i).bind f = some r) : ∃ x,((0 ≤ i ∧ i < N) ∧ v.toList[i.toNat]? = some x) ∧ f x = some r:=by
 obtain ⟨x,e,h⟩:=bind_some h
 exact ⟨x,Zak e,h⟩
theorem bix {α β : Type} {l : List α} {i : Int} {f : α → Option β} {r : β} (h : (idx l i).bind f = some r) : ∃ x,((0 ≤ i ∧ i < l.length) ∧ l[i.toNat]? = some x) ∧ f x = some r:=by
 obtain ⟨x,e,h⟩:=bind_some h
 exact ⟨x,Za6 e,h⟩
theorem ois {α : Type} {x y : α} (h : some x = some y) : y = x:=(Option.some.inj h).symm
theorem nbl {a b : Nat} (h : Nat.ble a b = true) : a ≤ b:=Nat.le_of_ble_eq_true h
theorem ld {d n : Nat} (h : d < n:=by decide) : d < n:=h
theorem Zbq {p : Value → Prop} : ∀ v ∈ ([] : List Value),p v:=fun _ h=>by cases h
theorem yX {p : Value → Prop} {x : Value} {l : List Value} (h : p x) (hs : ∀ v ∈ l,p v) : ∀ v ∈ x :: l,p v:=fun v hv=>by
 rcases List.mem_cons.1 hv with rfl | hv
 ·exact h
 ·exact hs v hv

def KA : List UInt8 → List UInt8 → Int
 | [],[]=>0
 | [],_ :: _=>-1
 | _ :: _,[]=>1
 | x :: l,y :: m=>if x < y then -1 else if y < x then 1 else KA l m
theorem kg (p : Nat → Bool) (n : Nat) : (List.range (n + 1)).find? p = if p 0 then some 0 else ((List.range n).find? fun i=>p (i + 1)).map Nat.succ:=by
 rw [List.range_succ_eq_map,List.find?_cons,List.find?_map]
 cases p 0 <;> rfl
theorem cmp_eq : ∀ (a b : List UInt8),Extern.BytealgCompare.cmp ⟨a.toArray⟩ ⟨b.toArray⟩ = KA a b:=by
 have gen : ∀ (a b : List UInt8),(match (List.range (min a.length b.length)).find? fun i=>a[i]! != b[i]! with
   | some i=>if a[i]! < b[i]! then (-1 : Int) else 1
   | none=>if a.length < b.length then -1 else if a.length > b.length then 1 else 0) = KA a b:=by
  intro a
  induction a with
  | nil=>intro b; cases b <;> simp [KA]
  | cons x a ih =>
   intro b
   cases b with
   | nil=>simp [KA]
   | cons y b =>
    have e : min (x :: a).length (y :: b).length = min a.length b.length + 1:=by simp only [List.length_cons]; omega
    rw [e,kg]
    by_cases hxy : x = y
    ·subst hxy
     have hlt : ¬ x < x:=UInt8.lt_irrefl x
     have:=ih b
     simp only [List.getElem!_cons_zero,bne_self_eq_false,Bool.false_eq_true,if_false,List.getElem!_cons_succ,KA,hlt]
     rw [← this]
     cases (List.range (min a.length b.length)).find? fun i=>a[i]! != b[i]! with
     | none=>simp
     | some i=>simp
    ·have hne : (x != y) = true:=by simpa using hxy
     simp only [List.getElem!_cons_zero,hne,if_true,KA]
     by_cases h1 : x < y
     ·simp [h1]
     ·have h2 : y < x:=by
       rcases UInt8.lt_or_lt_of_ne hxy with h | h
       ·exact absurd h h1
       ·exact h
      simp [h1,h2]
 intro a b
 rw [← gen a b]
 unfold Extern.BytealgCompare.cmp
 have g1 : ∀ (l : List UInt8) (i : Nat),(⟨l.toArray⟩ : ByteArray)[i]! = l[i]!:=fun l i=>by
  by_cases h : i < l.length
  ·rw [getElem!_pos _ i (by exact h),getElem!_pos l i h]; rfl
  ·rw [getElem!_neg _ i (by exact h),getElem!_neg l i h]
 simp only [g1]
 rfl
section
variable {n : Nat} {a : Act} {e : List (Nat × Value)} {w w' : World} {P : Program} {ops : Array Oper} {rest : List Oper} {Q : Exit → Act → World → Prop}
variable {d : Nat} {ty t : TypeId} {pos : String} {af : Array Edge} {g : Option (Nat × Bool)} {x y : Operand} {v u : Value}
theorem Bw {S : Nat → Prop} {l : List UInt8} {fp : List Nat} (hs : Rep.sat S w l [v] fp) : (Extern.Bytes.bytesOf v).run P w = .ok ⟨l.toArray⟩ w:=by
 obtain ⟨p,cap,hv,hc,hp⟩:=hs
 simp only [List.cons.injEq,and_true] at hv
 subst hv
 cases p with
 | none =>
  have : l = []:=List.eq_nil_of_length_eq_zero (by have:=hp.1; omega)
  subst this
  rfl
 | some q =>
  obtain ⟨h1,ecs,fpe,h2,h3,_⟩:=hp
  by_cases hl0 : l = []
  ·subst hl0; rfl
  have h1:=h1 (by have:=List.length_pos_iff.2 hl0; omega)
  obtain ⟨q1,q2,q3⟩:=q
  simp only at h1
  subst h1
  obtain ⟨rfl,rfl⟩:=Xn.1 h2
  have hl:=Lib.run_loadBytesX (P:=P) w (l.map fun b=>(b.toNat : Int)) ⟨q1,q2,none⟩ .empty (fun j x hj=>by
   have hjl : j < l.length:=by simpa using (List.getElem?_eq_some_iff.1 hj).1
   rw [Addr.add_lit]
   have:=h3 j (Value.int .u8 (l[j].toNat : Int)) (by rw [zk]; simp [hjl])
   rw [this]
   simp [List.getElem?_eq_getElem hjl] at hj
   subst hj
   rfl)
  rw [List.length_map] at hl
  show (Extern.Bytes.loadBytes ⟨q1,q2,none⟩ l.length .empty).run P w = _
  rw [hl]
  have:=Hs l
  congr 1
  rw [this]
  apply ByteArray.ext
  show (#[] : Array UInt8) ++ l.toArray = l.toArray
  simp
theorem AI {S S2 : Nat → Prop} {l m : List UInt8} {fp fq : List Nat} {f : Nat} {fn : Func} {ats : Array TypeId} {xs : List Operand} (h : Env n a e) (hw : Goes ops ⟨some d,.call ⟨.value (.func f),xs.toArray,ats⟩,ty,pos,af,g⟩ a) (hd : d < n)
  (hxs : Kh e xs = some [v, u]) (hf : P.funcs[f]? = some fn) (hb : fn.body.isNone = true) (hn : (fn.name == "runtime.NumGoroutine") = false) (hnx : Extern.findNext fn = none) (hfd : Extern.find fn = some Extern.BytealgCompare.compare)
  (hs : Rep.sat S w l [v] fp) (hs2 : Rep.sat S2 w m [u] fq) (k : ∀ a,Env n a ((d,vI (KA l m)) :: e) → wpList P ops Q rest a w) : wpList P ops Q (⟨some d,.call ⟨.value (.func f),xs.toArray,ats⟩,ty,pos,af,g⟩ :: rest) a w:=by
 refine Xy h hw rfl hd (w':=w) ?_ k
 have hr : (Extern.BytealgCompare.compare #[v,u]).run P w = .ok (vI (KA l m)) w:=by
  show (do pure (goInt (Extern.BytealgCompare.cmp (← Extern.Bytes.bytesOf v) (← Extern.Bytes.bytesOf u)))).run P w = _
  simp only [Sem.run_bind,Bw (P:=P) hs,Bw (P:=P) hs2,Result.andThen_ok,cmp_eq]
  rfl
 simp only [execOp,resolve,Act.eval]
 simp only [Deferred.ofValue,Sem.run_bind,pure,Sem.run,Result.andThen_ok,invoke]
 have hargs : (xs.toArray.map a.eval) = #[v,u]:=by simp [h.evs hxs]
 simp only [hargs,Array.append_empty]
 have:=run_callFunc_extern (P:=P) hf hn hb hnx hfd #[v,u] w
 simpa [hr] using this
end
end Go.Proofs.YtlpppjjlffgkmaaGreat
namespace Go.Proofs.YtlpppjjlffgkmaaGreat
open Go

def mget {κ α : Type} [DecidableEq κ] : List (κ × α) → κ → Option α
 | [],_=>none
 | p :: m,k=>if p.1 = k then some p.2 else mget m k
def mset {κ α : Type} [DecidableEq κ] : List (κ × α) → κ → α → List (κ × α)
 | [],k,x=>[(k,x)]
 | p :: m,k,x=>if p.1 = k then (k,x) :: m else p :: mset m k x
def Zcj {κ : Type} [DecidableEq κ] : List κ → List MapEntry → Nat → κ → Option (Nat × Value)
 | x :: ks,e :: es,i,k=>if x = k then some (i,e.val) else Zcj ks es (i + 1) k
 | _,_,_,_=>none
structure KeyOk (P : Program) (t : TypeId) {κ : Type} [DecidableEq κ] (kv : κ → Value) : Prop where
 check : ∀ (e : Bool) (w : World) (k : κ),(Instr.checkKey e 10000 t (kv k)).run P w = .ok () w
 find : ∀ (w : World) (k : κ) (ks : List κ) (es : List MapEntry),es.map (·.key) = ks.map kv → (Instr.findKey t (kv k) es).run P w = .ok (Zcj ks es 0 k) w
 same : ∀ k,Instr.sameBits 10000 (kv k) (kv k) = true
structure ElOk {α : Type} (S : Nat → Prop) (E : World → α → Value → List Nat → Prop) : Prop where
 loc : ∀ {w w' : World} {x : α} {u : Value} {f : List Nat},E w x u f → (∀ b,(b ∈ f ∨ S b) → w'.heap[b]? = w.heap[b]?) → E w' x u f
 lt : ∀ {w : World} {x : α} {u : Value} {f : List Nat},E w x u f → ∀ b ∈ f,b < w.heap.size
def satE {α : Type} [Rep α] (S : Nat → Prop) : World → α → Value → List Nat → Prop:=fun w x u f=>Rep.sat S w x [u] f
def oslE {α : Type} [Rep α] (S : Nat → Prop) : World → List α → Value → List Nat → Prop:=fun w l u f=>Wq S w l u f
def QR {κ α : Type} (kv : κ → Value) (E : World → α → Value → List Nat → Prop) (w : World) : List (κ × α) → List MapEntry → List Nat → Prop
 | [],es,fp=>es = [] ∧ fp = []
 | p :: m,es,fp=>∃ e es' f fp',es = e :: es' ∧ fp = f ++ fp' ∧ e.key = kv p.1 ∧ E w p.2 e.val f ∧ QR kv E w m es' fp'
def Jh (es : List MapEntry) (clock : Nat) : Prop:=es.Pairwise (fun a b=>a.born < b.born) ∧ ∀ e ∈ es,e.born < clock
def mapI {κ α : Type} (kv : κ → Value) (E : World → α → Value → List Nat → Prop) (m : List (κ × α)) (b : Nat) : Item:=fun w fp =>
 ∃ es clock fpe,w.heap[b]? = some (.map es clock) ∧ QR kv E w m es.toList fpe ∧ Jh es.toList clock ∧ fp = b :: fpe
def mapH {κ α : Type} [DecidableEq κ] (kv : κ → Value) (E : World → α → Value → List Nat → Prop) (m : List (κ × α)) (k : κ) (u : Value) (b st : Nat) : Item:=fun w fp =>
 ∃ es clock m1 m2 es1 e es2 f1 f2,w.heap[b]? = some (.map es clock) ∧ es.toList = es1 ++ e :: es2 ∧ QR kv E w m1 es1 f1 ∧ QR kv E w m2 es2 f2 ∧ e.key = kv k ∧ e.born = st ∧ e.val = u ∧ Jh es.toList clock ∧
  (∀ x,mset m k x = m1 ++ (k,x) :: m2) ∧ fp = b :: (f1 ++ f2)
section
variable {κ α : Type} {kv : κ → Value} {S St : Nat → Prop} {E : World → α → Value → List Nat → Prop} {w w' w0 : World}
theorem QR.keys : ∀ {m : List (κ × α)} {es : List MapEntry} {fp : List Nat},QR kv E w m es fp → es.map (·.key) = (m.map (·.1)).map kv
 | [],_,_,h=>by rw [h.1]; rfl
 | p :: m,_,_,h=>by
  obtain ⟨e,es',f,fp',rfl,_,h1,_,h2⟩:=h
  simp [h1,QR.keys h2]
theorem QR.loc (hE : ElOk S E) : ∀ {m : List (κ × α)} {es : List MapEntry} {fp : List Nat},QR kv E w m es fp → (∀ b,(b ∈ fp ∨ S b) → w'.heap[b]? = w.heap[b]?) → QR kv E w' m es fp
 | [],_,_,h,_=>h
 | p :: m,_,_,h,hb=>by
  obtain ⟨e,es',f,fp',rfl,rfl,h1,h2,h3⟩:=h
  exact ⟨e,es',f,fp',rfl,rfl,h1,hE.loc h2 (fun b h=>hb b (by simp; grind)),QR.loc hE h3 (fun b h=>hb b (by simp; grind))⟩
end
section
variable {κ α : Type} [DecidableEq κ] {kv : κ → Value} {S St : Nat → Prop} {E : World → α → Value → List Nat → Prop} {w w' w0 : World} {its : List Item}
omit [DecidableEq κ] in
theorem QR.app : ∀ {m1 m2 : List (κ × α)} {es1 es2 : List MapEntry} {f1 f2 : List Nat},QR kv E w m1 es1 f1 → QR kv E w m2 es2 f2 → QR kv E w (m1 ++ m2) (es1 ++ es2) (f1 ++ f2)
 | [],_,_,_,_,_,h,k=>by obtain ⟨rfl,rfl⟩:=h; exact k
 | p :: m,_,_,_,_,_,h,k=>by
  obtain ⟨e,es',f,fp',rfl,rfl,h1,h2,h3⟩:=h
  exact ⟨e,es' ++ _,f,fp' ++ _,by simp,by simp,h1,h2,QR.app h3 k⟩
theorem Jh.push {es : List MapEntry} {clock : Nat} (h : Jh es clock) (k u : Value) : Jh (es ++ [{ key:=k,val:=u,born:=clock }]) (clock + 1):=by
 refine ⟨List.pairwise_append.2 ⟨h.1,by simp,fun a ha b hb=>?_⟩,fun e he=>?_⟩
 ·simp at hb; subst hb; exact h.2 a ha
 ·rcases List.mem_append.1 he with he | he
  ·have:=h.2 e he; omega
  ·simp at he; subst he; exact Nat.lt_succ_self _
theorem Jh.put {es1 es2 : List MapEntry} {e e' : MapEntry} {clock : Nat} (h : Jh (es1 ++ e :: es2) clock) (hb : e'.born = e.born) : Jh (es1 ++ e' :: es2) clock:=by
 obtain ⟨h1,h2⟩:=h
 rw [List.pairwise_append,List.pairwise_cons] at h1
 obtain ⟨a1,⟨a2,a3⟩,a4⟩:=h1
 refine ⟨List.pairwise_append.2 ⟨a1,List.pairwise_cons.2 ⟨fun b hb'=>by rw [hb]; exact a2 b hb',a3⟩,fun a ha b hb'=>?_⟩,fun q hq=>?_⟩
 ·rcases List.mem_cons.1 hb' with rfl | hb'
  ·rw [hb]; exact a4 a ha e (by simp)
  ·exact a4 a ha b (by simp [hb'])
 ·rcases List.mem_append.1 hq with hq | hq
  ·exact h2 q (by simp [hq])
  ·rcases List.mem_cons.1 hq with rfl | hq
   ·rw [hb]; exact h2 e (by simp)
   ·exact h2 q (by simp [hq])
omit [DecidableEq κ] in
end
section
variable {n : Nat} {a : Act} {e : List (Nat × Value)} {w w' : World} {P : Program} {ops : Array Oper} {rest : List Oper} {Q : Exit → Act → World → Prop}
variable {d : Nat} {ty t kt el : TypeId} {pos : String} {af : Array Edge} {g : Option (Nat × Bool)} {x y z : Operand} {v u : Value}
variable {St S : Nat → Prop} {w0 : World} {its pre post : List Item} {κ α : Type} {kv : κ → Value} {m : List (κ × α)} {b : Nat} {E : World → α → Value → List Nat → Prop}
variable [DecidableEq κ]
def yt {α : Type} (m : List (κ × α)) (k : κ) (b : Nat) (v : Value) (w : World) : Prop:=∃ es clock,w.heap[b]? = some (.map es clock) ∧ v = ((Zcj (m.map (·.1)) es.toList 0 k).map (·.2)).getD (.slice none 0 0)
def mapV {α : Type} (kv : κ → Value) (E : World → List α → Value → List Nat → Prop) (m : List (κ × List α)) (l : List α) (v : Value) (b : Nat) : Item:=fun w fp=>mapI kv E m b w fp ∧ ∃ k,yt m k b v w ∧ l = (mget m k).getD []
theorem yt.keep {m : List (κ × α)} {k : κ} (h : yt m k b v w) (hk : Kept (Old w) w w') : yt m k b v w':=by
 obtain ⟨es,c,h1,h2⟩:=h
 exact ⟨es,c,(hk.block b (Array.getElem?_eq_some_iff.1 h1).1).trans h1,h2⟩
end
end Go.Proofs.YtlpppjjlffgkmaaGreat
namespace Go.Proofs.YtlpppjjlffgkmaaGreat
open Go
section
open Go.RowKit
def upto {α : Type} (f : Nat → α) (k : Nat) : List α:=(List.range k).map f
def KpB (n₀ Bs : Nat) (W W' : World) : Prop:=Below n₀ W W' ∧ W'.heap[Bs]? = W.heap[Bs]?
theorem KpB.trans {n₀ Bs : Nat} {A B C : World} (h : KpB n₀ Bs A B) (k : KpB n₀ Bs B C) : KpB n₀ Bs A C:=⟨h.1.trans k.1,k.2.trans h.2⟩
def backF (zs : List UInt8) (k : Nat) : Int × UInt8:=((zs.length : Int) - 1 - k,(zs[zs.length - 1 - k]?.getD 0))
def Byts (n₀ : Nat) (W : World) (p : Option Addr) (zs : List UInt8) : Prop :=
 zs = [] ∨ ∃ b off,p = some ⟨b,off,none⟩ ∧ b < n₀ ∧ ∀ j,j < zs.length → W.cell? ⟨b,off + j,none⟩ = some (.int .u8 (zs[j]?.getD 0).toNat)
theorem Byts.below {n₀ : Nat} {A B : World} (h : Below n₀ A B) {p : Option Addr} {zs : List UInt8} : Byts n₀ A p zs → Byts n₀ B p zs
 | .inl e=>.inl e
 | .inr ⟨b,off,e,hb,hc⟩=>.inr ⟨b,off,e,hb,fun j hj=>(h.cell (p:=⟨b,off + j,none⟩) hb).trans (hc j hj)⟩
end
end Go.Proofs.YtlpppjjlffgkmaaGreat
namespace Go.Proofs.YtlpppjjlffgkmaaGreat
open Go
section
variable {P : Program} {St : Nat → Prop} {w0 w : World} {its : List Item} {n : Nat} {a : Act} {e : List (Nat × Value)} {ops : Array Oper} {rest : List Oper} {Q : Exit → Act → World → Prop} {v : Value} {x : Operand} {t ty : TypeId} {pos : String} {af : Array Edge} {g : Option (Nat × Bool)}
def clr {α : Type} (l : List α) (i : Int) (z : α) : Option (List α):=if 0 ≤ i ∧ i < l.length then some (l.take i.toNat ++ List.replicate (l.length - i.toNat) z) else none
end
end Go.Proofs.YtlpppjjlffgkmaaGreat
namespace Go.Proofs.YtlpppjjlffgkmaaGreat
open Go
section
variable {n : Nat} {a : Act} {e : List (Nat × Value)} {w w' : World} {P : Program} {ops : Array Oper} {rest : List Oper} {Q : Exit → Act → World → Prop}
variable {d : Nat} {ty t : TypeId} {pos : String} {af : Array Edge} {g : Option (Nat × Bool)} {p q : Operand}
end
section
variable {St : Nat → Prop} {w0 w : World} {its m r : List Item} {mk mk1 mk2 : Mk} {D : Nat → Bool} {u : Nat → Value} {s : Nat} {v : Value} {A B : Item}
end
section
variable {n : Nat} {a : Act} {e : List (Nat × Value)} {w : World} {P : Program}
end
class CL (l : List (List Value)) (n : outParam Nat) : Prop where
 h : QO l = n
instance cl_nil : CL [] 0:=⟨rfl⟩
instance cl_one {v : Value} {r : List (List Value)} {m : Nat} [h : CL r m] : CL ([v] :: r) (1 + m):=⟨by rw [QO,h.h]; rfl⟩
instance cl_enc {α : Type} [Flat α] {x : α} {r : List (List Value)} {m : Nat} [h : CL r m] : CL (Flat.enc x :: r) (Flat.n α + m):=⟨by rw [QO,h.h,Flat.len]⟩
instance cl_cat {l r : List (List Value)} {n m : Nat} [k : CL l n] [h : CL r m] : CL (cat l :: r) (n + m):=⟨by rw [QO,h.h,JK k.h]⟩
theorem jB : ∀ a b : List (List Value),QO (a ++ b) = QO a + QO b
 | [],b=>by simp [QO]
 | c :: a,b=>by rw [List.cons_append,QO,QO,jB a b,Nat.add_assoc]
instance cl_app {a b : List (List Value)} {n m : Nat} [h : CL a n] [k : CL b m] : CL (a ++ b) (n + m):=⟨by rw [jB,h.h,k.h]⟩
theorem ck {l : List (List Value)} {n : Nat} [h : CL l n] : QO l = n:=h.h
theorem cq {l : List (List Value)} {n : Nat} [h : CL l n] : (cat l).length = n:=JK h.h
theorem kq {P : Program} {l : Array Oper} {w : World} {n t i : Nat} {a : Act} {e : List (Nat × Value)} {v : Value} {ts : List Nat} {G : Value → World → Prop} (h1 : ts[i]? = some t) (hE : Env n a ((t,v) :: e)) (g : G v w) :
  wpList P l (nrm fun a' w'=>Kept (Old w) w w' ∧ ∃ v t,ts[i]? = some t ∧ Env n a' ((t,v) :: e) ∧ G v w') [] a w:=⟨Kept.refl _ _,_,_,h1,hE,g⟩
theorem M.rawAt0 {St : Nat → Prop} {w0 w : World} {b : Nat} {cs : List Value} {r : List Item} (h : M St w0 w (raw b cs :: r)) : At w b 0 cs:=M.rawAt (pre:=[]) h
theorem M.pull1 {St : Nat → Prop} {w0 w : World} {it : Item} {r : List Item} {a0 : Item} (h : M St w0 w (a0 :: it :: r)) : M St w0 w (it :: a0 :: r):=M.pull (pre:=[a0]) h
theorem M.rawAt1 {St : Nat → Prop} {w0 w : World} {b : Nat} {cs : List Value} {r : List Item} {a0 : Item} (h : M St w0 w (a0 :: raw b cs :: r)) : At w b 0 cs:=M.rawAt (pre:=[a0]) h
theorem M.pull2 {St : Nat → Prop} {w0 w : World} {it : Item} {r : List Item} {a0 a1 : Item} (h : M St w0 w (a0 :: a1 :: it :: r)) : M St w0 w (it :: a0 :: a1 :: r):=M.pull (pre:=[a0,a1]) h
theorem M.rawAt2 {St : Nat → Prop} {w0 w : World} {b : Nat} {cs : List Value} {r : List Item} {a0 a1 : Item} (h : M St w0 w (a0 :: a1 :: raw b cs :: r)) : At w b 0 cs:=M.rawAt (pre:=[a0,a1]) h
theorem M.pull3 {St : Nat → Prop} {w0 w : World} {it : Item} {r : List Item} {a0 a1 a2 : Item} (h : M St w0 w (a0 :: a1 :: a2 :: it :: r)) : M St w0 w (it :: a0 :: a1 :: a2 :: r):=M.pull (pre:=[a0,a1,a2]) h
theorem M.rawAt3 {St : Nat → Prop} {w0 w : World} {b : Nat} {cs : List Value} {r : List Item} {a0 a1 a2 : Item} (h : M St w0 w (a0 :: a1 :: a2 :: raw b cs :: r)) : At w b 0 cs:=M.rawAt (pre:=[a0,a1,a2]) h
theorem M.pull4 {St : Nat → Prop} {w0 w : World} {it : Item} {r : List Item} {a0 a1 a2 a3 : Item} (h : M St w0 w (a0 :: a1 :: a2 :: a3 :: it :: r)) : M St w0 w (it :: a0 :: a1 :: a2 :: a3 :: r):=M.pull (pre:=[a0,a1,a2,a3]) h
theorem M.rawAt4 {St : Nat → Prop} {w0 w : World} {b : Nat} {cs : List Value} {r : List Item} {a0 a1 a2 a3 : Item} (h : M St w0 w (a0 :: a1 :: a2 :: a3 :: raw b cs :: r)) : At w b 0 cs:=M.rawAt (pre:=[a0,a1,a2,a3]) h
theorem M.rawAt5 {St : Nat → Prop} {w0 w : World} {b : Nat} {cs : List Value} {r : List Item} {a0 a1 a2 a3 a4 : Item} (h : M St w0 w (a0 :: a1 :: a2 :: a3 :: a4 :: raw b cs :: r)) : At w b 0 cs:=M.rawAt (pre:=[a0,a1,a2,a3,a4]) h
theorem M.rawAt6 {St : Nat → Prop} {w0 w : World} {b : Nat} {cs : List Value} {r : List Item} {a0 a1 a2 a3 a4 a5 : Item} (h : M St w0 w (a0 :: a1 :: a2 :: a3 :: a4 :: a5 :: raw b cs :: r)) : At w b 0 cs:=M.rawAt (pre:=[a0,a1,a2,a3,a4,a5]) h
theorem M.pull7 {St : Nat → Prop} {w0 w : World} {it : Item} {r : List Item} {a0 a1 a2 a3 a4 a5 a6 : Item} (h : M St w0 w (a0 :: a1 :: a2 :: a3 :: a4 :: a5 :: a6 :: it :: r)) : M St w0 w (it :: a0 :: a1 :: a2 :: a3 :: a4 :: a5 :: a6 :: r):=M.pull (pre:=[a0,a1,a2,a3,a4,a5,a6]) h
theorem M.rawAt7 {St : Nat → Prop} {w0 w : World} {b : Nat} {cs : List Value} {r : List Item} {a0 a1 a2 a3 a4 a5 a6 : Item} (h : M St w0 w (a0 :: a1 :: a2 :: a3 :: a4 :: a5 :: a6 :: raw b cs :: r)) : At w b 0 cs:=M.rawAt (pre:=[a0,a1,a2,a3,a4,a5,a6]) h
theorem M.pull8 {St : Nat → Prop} {w0 w : World} {it : Item} {r : List Item} {a0 a1 a2 a3 a4 a5 a6 a7 : Item} (h : M St w0 w (a0 :: a1 :: a2 :: a3 :: a4 :: a5 :: a6 :: a7 :: it :: r)) : M St w0 w (it :: a0 :: a1 :: a2 :: a3 :: a4 :: a5 :: a6 :: a7 :: r):=M.pull (pre:=[a0,a1,a2,a3,a4,a5,a6,a7]) h
theorem M.rawAt8 {St : Nat → Prop} {w0 w : World} {b : Nat} {cs : List Value} {r : List Item} {a0 a1 a2 a3 a4 a5 a6 a7 : Item} (h : M St w0 w (a0 :: a1 :: a2 :: a3 :: a4 :: a5 :: a6 :: a7 :: raw b cs :: r)) : At w b 0 cs:=M.rawAt (pre:=[a0,a1,a2,a3,a4,a5,a6,a7]) h
abbrev Rt (w0 : World) (x : Value) : Ending → World → Prop:=fun en w'=>∃ v,en = .returned v ∧ (v = x ∧ Kept (Old w0) w0 w')
theorem kr1 {n : Nat} {a : Act} {e : List (Nat × Value)} {w w0 : World} {P : Program} {fn : Func} {t : Nat} {v : Value} (hE : Env n a e) (hres : fn.results = #[.tmp t]) (h : e.lookup t = some v) (hk : Kept (Old w0) w0 w) : bodyPost P fn (Rt w0 v) .ret a w :=
 ZS hE hres (YH hE h) ⟨_,rfl,rfl,hk⟩
theorem st2 {Ph : Nat → Oper → Prop} {o0 o1 : Oper} (h0 : Ph 0 o0) (h1 : Ph 1 o1) : ∀ i o,([o0,o1] : List Oper)[i]? = some o → Ph i o:=YE (Zc h0 (Zc h1 Yl))
theorem st3 {Ph : Nat → Oper → Prop} {o0 o1 o2 : Oper} (h0 : Ph 0 o0) (h1 : Ph 1 o1) (h2 : Ph 2 o2) : ∀ i o,([o0,o1,o2] : List Oper)[i]? = some o → Ph i o:=YE (Zc h0 (Zc h1 (Zc h2 Yl)))
theorem st4 {Ph : Nat → Oper → Prop} {o0 o1 o2 o3 : Oper} (h0 : Ph 0 o0) (h1 : Ph 1 o1) (h2 : Ph 2 o2) (h3 : Ph 3 o3) : ∀ i o,([o0,o1,o2,o3] : List Oper)[i]? = some o → Ph i o:=YE (Zc h0 (Zc h1 (Zc h2 (Zc h3 Yl))))
theorem st5 {Ph : Nat → Oper → Prop} {o0 o1 o2 o3 o4 : Oper} (h0 : Ph 0 o0) (h1 : Ph 1 o1) (h2 : Ph 2 o2) (h3 : Ph 3 o3) (h4 : Ph 4 o4) : ∀ i o,([o0,o1,o2,o3,o4] : List Oper)[i]? = some o → Ph i o:=YE (Zc h0 (Zc h1 (Zc h2 (Zc h3 (Zc h4 Yl)))))
theorem st6 {Ph : Nat → Oper → Prop} {o0 o1 o2 o3 o4 o5 : Oper} (h0 : Ph 0 o0) (h1 : Ph 1 o1) (h2 : Ph 2 o2) (h3 : Ph 3 o3) (h4 : Ph 4 o4) (h5 : Ph 5 o5) : ∀ i o,([o0,o1,o2,o3,o4,o5] : List Oper)[i]? = some o → Ph i o:=YE (Zc h0 (Zc h1 (Zc h2 (Zc h3 (Zc h4 (Zc h5 Yl))))))
theorem st7 {Ph : Nat → Oper → Prop} {o0 o1 o2 o3 o4 o5 o6 : Oper} (h0 : Ph 0 o0) (h1 : Ph 1 o1) (h2 : Ph 2 o2) (h3 : Ph 3 o3) (h4 : Ph 4 o4) (h5 : Ph 5 o5) (h6 : Ph 6 o6) : ∀ i o,([o0,o1,o2,o3,o4,o5,o6] : List Oper)[i]? = some o → Ph i o:=YE (Zc h0 (Zc h1 (Zc h2 (Zc h3 (Zc h4 (Zc h5 (Zc h6 Yl)))))))
theorem st8 {Ph : Nat → Oper → Prop} {o0 o1 o2 o3 o4 o5 o6 o7 : Oper} (h0 : Ph 0 o0) (h1 : Ph 1 o1) (h2 : Ph 2 o2) (h3 : Ph 3 o3) (h4 : Ph 4 o4) (h5 : Ph 5 o5) (h6 : Ph 6 o6) (h7 : Ph 7 o7) : ∀ i o,([o0,o1,o2,o3,o4,o5,o6,o7] : List Oper)[i]? = some o → Ph i o:=YE (Zc h0 (Zc h1 (Zc h2 (Zc h3 (Zc h4 (Zc h5 (Zc h6 (Zc h7 Yl))))))))
theorem st9 {Ph : Nat → Oper → Prop} {o0 o1 o2 o3 o4 o5 o6 o7 o8 : Oper} (h0 : Ph 0 o0) (h1 : Ph 1 o1) (h2 : Ph 2 o2) (h3 : Ph 3 o3) (h4 : Ph 4 o4) (h5 : Ph 5 o5) (h6 : Ph 6 o6) (h7 : Ph 7 o7) (h8 : Ph 8 o8) : ∀ i o,([o0,o1,o2,o3,o4,o5,o6,o7,o8] : List Oper)[i]? = some o → Ph i o:=YE (Zc h0 (Zc h1 (Zc h2 (Zc h3 (Zc h4 (Zc h5 (Zc h6 (Zc h7 (Zc h8 Yl)))))))))
theorem ky {Ph : Nat → Oper → Prop} {o0 o1 o2 o3 o4 o5 o6 o7 o8 o9 : Oper} (h0 : Ph 0 o0) (h1 : Ph 1 o1) (h2 : Ph 2 o2) (h3 : Ph 3 o3) (h4 : Ph 4 o4) (h5 : Ph 5 o5) (h6 : Ph 6 o6) (h7 : Ph 7 o7) (h8 : Ph 8 o8) (h9 : Ph 9 o9) : ∀ i o,([o0,o1,o2,o3,o4,o5,o6,o7,o8,o9] : List Oper)[i]? = some o → Ph i o:=YE (Zc h0 (Zc h1 (Zc h2 (Zc h3 (Zc h4 (Zc h5 (Zc h6 (Zc h7 (Zc h8 (Zc h9 Yl))))))))))
theorem st11 {Ph : Nat → Oper → Prop} {o0 o1 o2 o3 o4 o5 o6 o7 o8 o9 o10 : Oper} (h0 : Ph 0 o0) (h1 : Ph 1 o1) (h2 : Ph 2 o2) (h3 : Ph 3 o3) (h4 : Ph 4 o4) (h5 : Ph 5 o5) (h6 : Ph 6 o6) (h7 : Ph 7 o7) (h8 : Ph 8 o8) (h9 : Ph 9 o9) (h10 : Ph 10 o10) : ∀ i o,([o0,o1,o2,o3,o4,o5,o6,o7,o8,o9,o10] : List Oper)[i]? = some o → Ph i o:=YE (Zc h0 (Zc h1 (Zc h2 (Zc h3 (Zc h4 (Zc h5 (Zc h6 (Zc h7 (Zc h8 (Zc h9 (Zc h10 Yl)))))))))))
theorem st12 {Ph : Nat → Oper → Prop} {o0 o1 o2 o3 o4 o5 o6 o7 o8 o9 o10 o11 : Oper} (h0 : Ph 0 o0) (h1 : Ph 1 o1) (h2 : Ph 2 o2) (h3 : Ph 3 o3) (h4 : Ph 4 o4) (h5 : Ph 5 o5) (h6 : Ph 6 o6) (h7 : Ph 7 o7) (h8 : Ph 8 o8) (h9 : Ph 9 o9) (h10 : Ph 10 o10) (h11 : Ph 11 o11) : ∀ i o,([o0,o1,o2,o3,o4,o5,o6,o7,o8,o9,o10,o11] : List Oper)[i]? = some o → Ph i o:=YE (Zc h0 (Zc h1 (Zc h2 (Zc h3 (Zc h4 (Zc h5 (Zc h6 (Zc h7 (Zc h8 (Zc h9 (Zc h10 (Zc h11 Yl))))))))))))
theorem st14 {Ph : Nat → Oper → Prop} {o0 o1 o2 o3 o4 o5 o6 o7 o8 o9 o10 o11 o12 o13 : Oper} (h0 : Ph 0 o0) (h1 : Ph 1 o1) (h2 : Ph 2 o2) (h3 : Ph 3 o3) (h4 : Ph 4 o4) (h5 : Ph 5 o5) (h6 : Ph 6 o6) (h7 : Ph 7 o7) (h8 : Ph 8 o8) (h9 : Ph 9 o9) (h10 : Ph 10 o10) (h11 : Ph 11 o11) (h12 : Ph 12 o12) (h13 : Ph 13 o13) : ∀ i o,([o0,o1,o2,o3,o4,o5,o6,o7,o8,o9,o10,o11,o12,o13] : List Oper)[i]? = some o → Ph i o:=YE (Zc h0 (Zc h1 (Zc h2 (Zc h3 (Zc h4 (Zc h5 (Zc h6 (Zc h7 (Zc h8 (Zc h9 (Zc h10 (Zc h11 (Zc h12 (Zc h13 Yl))))))))))))))
theorem st16 {Ph : Nat → Oper → Prop} {o0 o1 o2 o3 o4 o5 o6 o7 o8 o9 o10 o11 o12 o13 o14 o15 : Oper} (h0 : Ph 0 o0) (h1 : Ph 1 o1) (h2 : Ph 2 o2) (h3 : Ph 3 o3) (h4 : Ph 4 o4) (h5 : Ph 5 o5) (h6 : Ph 6 o6) (h7 : Ph 7 o7) (h8 : Ph 8 o8) (h9 : Ph 9 o9) (h10 : Ph 10 o10) (h11 : Ph 11 o11) (h12 : Ph 12 o12) (h13 : Ph 13 o13) (h14 : Ph 14 o14) (h15 : Ph 15 o15) : ∀ i o,([o0,o1,o2,o3,o4,o5,o6,o7,o8,o9,o10,o11,o12,o13,o14,o15] : List Oper)[i]? = some o → Ph i o:=YE (Zc h0 (Zc h1 (Zc h2 (Zc h3 (Zc h4 (Zc h5 (Zc h6 (Zc h7 (Zc h8 (Zc h9 (Zc h10 (Zc h11 (Zc h12 (Zc h13 (Zc h14 (Zc h15 Yl))))))))))))))))
theorem st18 {Ph : Nat → Oper → Prop} {o0 o1 o2 o3 o4 o5 o6 o7 o8 o9 o10 o11 o12 o13 o14 o15 o16 o17 : Oper} (h0 : Ph 0 o0) (h1 : Ph 1 o1) (h2 : Ph 2 o2) (h3 : Ph 3 o3) (h4 : Ph 4 o4) (h5 : Ph 5 o5) (h6 : Ph 6 o6) (h7 : Ph 7 o7) (h8 : Ph 8 o8) (h9 : Ph 9 o9) (h10 : Ph 10 o10) (h11 : Ph 11 o11) (h12 : Ph 12 o12) (h13 : Ph 13 o13) (h14 : Ph 14 o14) (h15 : Ph 15 o15) (h16 : Ph 16 o16) (h17 : Ph 17 o17) : ∀ i o,([o0,o1,o2,o3,o4,o5,o6,o7,o8,o9,o10,o11,o12,o13,o14,o15,o16,o17] : List Oper)[i]? = some o → Ph i o:=YE (Zc h0 (Zc h1 (Zc h2 (Zc h3 (Zc h4 (Zc h5 (Zc h6 (Zc h7 (Zc h8 (Zc h9 (Zc h10 (Zc h11 (Zc h12 (Zc h13 (Zc h14 (Zc h15 (Zc h16 (Zc h17 Yl))))))))))))))))))
theorem st20 {Ph : Nat → Oper → Prop} {o0 o1 o2 o3 o4 o5 o6 o7 o8 o9 o10 o11 o12 o13 o14 o15 o16 o17 o18 o19 : Oper} (h0 : Ph 0 o0) (h1 : Ph 1 o1) (h2 : Ph 2 o2) (h3 : Ph 3 o3) (h4 : Ph 4 o4) (h5 : Ph 5 o5) (h6 : Ph 6 o6) (h7 : Ph 7 o7) (h8 : Ph 8 o8) (h9 : Ph 9 o9) (h10 : Ph 10 o10) (h11 : Ph 11 o11) (h12 : Ph 12 o12) (h13 : Ph 13 o13) (h14 : Ph 14 o14) (h15 : Ph 15 o15) (h16 : Ph 16 o16) (h17 : Ph 17 o17) (h18 : Ph 18 o18) (h19 : Ph 19 o19) : ∀ i o,([o0,o1,o2,o3,o4,o5,o6,o7,o8,o9,o10,o11,o12,o13,o14,o15,o16,o17,o18,o19] : List Oper)[i]? = some o → Ph i o:=YE (Zc h0 (Zc h1 (Zc h2 (Zc h3 (Zc h4 (Zc h5 (Zc h6 (Zc h7 (Zc h8 (Zc h9 (Zc h10 (Zc h11 (Zc h12 (Zc h13 (Zc h14 (Zc h15 (Zc h16 (Zc h17 (Zc h18 (Zc h19 Yl))))))))))))))))))))
theorem st21 {Ph : Nat → Oper → Prop} {o0 o1 o2 o3 o4 o5 o6 o7 o8 o9 o10 o11 o12 o13 o14 o15 o16 o17 o18 o19 o20 : Oper} (h0 : Ph 0 o0) (h1 : Ph 1 o1) (h2 : Ph 2 o2) (h3 : Ph 3 o3) (h4 : Ph 4 o4) (h5 : Ph 5 o5) (h6 : Ph 6 o6) (h7 : Ph 7 o7) (h8 : Ph 8 o8) (h9 : Ph 9 o9) (h10 : Ph 10 o10) (h11 : Ph 11 o11) (h12 : Ph 12 o12) (h13 : Ph 13 o13) (h14 : Ph 14 o14) (h15 : Ph 15 o15) (h16 : Ph 16 o16) (h17 : Ph 17 o17) (h18 : Ph 18 o18) (h19 : Ph 19 o19) (h20 : Ph 20 o20) : ∀ i o,([o0,o1,o2,o3,o4,o5,o6,o7,o8,o9,o10,o11,o12,o13,o14,o15,o16,o17,o18,o19,o20] : List Oper)[i]? = some o → Ph i o:=YE (Zc h0 (Zc h1 (Zc h2 (Zc h3 (Zc h4 (Zc h5 (Zc h6 (Zc h7 (Zc h8 (Zc h9 (Zc h10 (Zc h11 (Zc h12 (Zc h13 (Zc h14 (Zc h15 (Zc h16 (Zc h17 (Zc h18 (Zc h19 (Zc h20 Yl)))))))))))))))))))))
theorem kh {Ph : Nat → Oper → Prop} {o0 o1 o2 o3 o4 o5 o6 o7 o8 o9 o10 o11 o12 o13 o14 o15 o16 o17 o18 o19 o20 o21 o22 : Oper} (h0 : Ph 0 o0) (h1 : Ph 1 o1) (h2 : Ph 2 o2) (h3 : Ph 3 o3) (h4 : Ph 4 o4) (h5 : Ph 5 o5) (h6 : Ph 6 o6) (h7 : Ph 7 o7) (h8 : Ph 8 o8) (h9 : Ph 9 o9) (h10 : Ph 10 o10) (h11 : Ph 11 o11) (h12 : Ph 12 o12) (h13 : Ph 13 o13) (h14 : Ph 14 o14) (h15 : Ph 15 o15) (h16 : Ph 16 o16) (h17 : Ph 17 o17) (h18 : Ph 18 o18) (h19 : Ph 19 o19) (h20 : Ph 20 o20) (h21 : Ph 21 o21) (h22 : Ph 22 o22) : ∀ i o,([o0,o1,o2,o3,o4,o5,o6,o7,o8,o9,o10,o11,o12,o13,o14,o15,o16,o17,o18,o19,o20,o21,o22] : List Oper)[i]? = some o → Ph i o:=YE (Zc h0 (Zc h1 (Zc h2 (Zc h3 (Zc h4 (Zc h5 (Zc h6 (Zc h7 (Zc h8 (Zc h9 (Zc h10 (Zc h11 (Zc h12 (Zc h13 (Zc h14 (Zc h15 (Zc h16 (Zc h17 (Zc h18 (Zc h19 (Zc h20 (Zc h21 (Zc h22 Yl)))))))))))))))))))))))
theorem st24 {Ph : Nat → Oper → Prop} {o0 o1 o2 o3 o4 o5 o6 o7 o8 o9 o10 o11 o12 o13 o14 o15 o16 o17 o18 o19 o20 o21 o22 o23 : Oper} (h0 : Ph 0 o0) (h1 : Ph 1 o1) (h2 : Ph 2 o2) (h3 : Ph 3 o3) (h4 : Ph 4 o4) (h5 : Ph 5 o5) (h6 : Ph 6 o6) (h7 : Ph 7 o7) (h8 : Ph 8 o8) (h9 : Ph 9 o9) (h10 : Ph 10 o10) (h11 : Ph 11 o11) (h12 : Ph 12 o12) (h13 : Ph 13 o13) (h14 : Ph 14 o14) (h15 : Ph 15 o15) (h16 : Ph 16 o16) (h17 : Ph 17 o17) (h18 : Ph 18 o18) (h19 : Ph 19 o19) (h20 : Ph 20 o20) (h21 : Ph 21 o21) (h22 : Ph 22 o22) (h23 : Ph 23 o23) : ∀ i o,([o0,o1,o2,o3,o4,o5,o6,o7,o8,o9,o10,o11,o12,o13,o14,o15,o16,o17,o18,o19,o20,o21,o22,o23] : List Oper)[i]? = some o → Ph i o:=YE (Zc h0 (Zc h1 (Zc h2 (Zc h3 (Zc h4 (Zc h5 (Zc h6 (Zc h7 (Zc h8 (Zc h9 (Zc h10 (Zc h11 (Zc h12 (Zc h13 (Zc h14 (Zc h15 (Zc h16 (Zc h17 (Zc h18 (Zc h19 (Zc h20 (Zc h21 (Zc h22 (Zc h23 Yl))))))))))))))))))))))))
theorem st25 {Ph : Nat → Oper → Prop} {o0 o1 o2 o3 o4 o5 o6 o7 o8 o9 o10 o11 o12 o13 o14 o15 o16 o17 o18 o19 o20 o21 o22 o23 o24 : Oper} (h0 : Ph 0 o0) (h1 : Ph 1 o1) (h2 : Ph 2 o2) (h3 : Ph 3 o3) (h4 : Ph 4 o4) (h5 : Ph 5 o5) (h6 : Ph 6 o6) (h7 : Ph 7 o7) (h8 : Ph 8 o8) (h9 : Ph 9 o9) (h10 : Ph 10 o10) (h11 : Ph 11 o11) (h12 : Ph 12 o12) (h13 : Ph 13 o13) (h14 : Ph 14 o14) (h15 : Ph 15 o15) (h16 : Ph 16 o16) (h17 : Ph 17 o17) (h18 : Ph 18 o18) (h19 : Ph 19 o19) (h20 : Ph 20 o20) (h21 : Ph 21 o21) (h22 : Ph 22 o22) (h23 : Ph 23 o23) (h24 : Ph 24 o24) : ∀ i o,([o0,o1,o2,o3,o4,o5,o6,o7,o8,o9,o10,o11,o12,o13,o14,o15,o16,o17,o18,o19,o20,o21,o22,o23,o24] : List Oper)[i]? = some o → Ph i o:=YE (Zc h0 (Zc h1 (Zc h2 (Zc h3 (Zc h4 (Zc h5 (Zc h6 (Zc h7 (Zc h8 (Zc h9 (Zc h10 (Zc h11 (Zc h12 (Zc h13 (Zc h14 (Zc h15 (Zc h16 (Zc h17 (Zc h18 (Zc h19 (Zc h20 (Zc h21 (Zc h22 (Zc h23 (Zc h24 Yl)))))))))))))))))))))))))
theorem gu2 {C : World → Prop} {u0 u1 : Value} : GUp C [(fun v _=>v = u0),(fun v _=>v = u1)]:=(Zw (Zw Kg))
theorem gu3 {C : World → Prop} {u0 u1 u2 : Value} : GUp C [(fun v _=>v = u0),(fun v _=>v = u1),(fun v _=>v = u2)]:=(Zw (Zw (Zw Kg)))
theorem gu4 {C : World → Prop} {u0 u1 u2 u3 : Value} : GUp C [(fun v _=>v = u0),(fun v _=>v = u1),(fun v _=>v = u2),(fun v _=>v = u3)]:=(Zw (Zw (Zw (Zw Kg))))
theorem gu5 {C : World → Prop} {u0 u1 u2 u3 u4 : Value} : GUp C [(fun v _=>v = u0),(fun v _=>v = u1),(fun v _=>v = u2),(fun v _=>v = u3),(fun v _=>v = u4)]:=(Zw (Zw (Zw (Zw (Zw Kg)))))
theorem gu6 {C : World → Prop} {u0 u1 u2 u3 u4 u5 : Value} : GUp C [(fun v _=>v = u0),(fun v _=>v = u1),(fun v _=>v = u2),(fun v _=>v = u3),(fun v _=>v = u4),(fun v _=>v = u5)]:=(Zw (Zw (Zw (Zw (Zw (Zw Kg))))))
theorem gu7 {C : World → Prop} {u0 u1 u2 u3 u4 u5 u6 : Value} : GUp C [(fun v _=>v = u0),(fun v _=>v = u1),(fun v _=>v = u2),(fun v _=>v = u3),(fun v _=>v = u4),(fun v _=>v = u5),(fun v _=>v = u6)]:=(Zw (Zw (Zw (Zw (Zw (Zw (Zw Kg)))))))
theorem gu8 {C : World → Prop} {u0 u1 u2 u3 u4 u5 u6 u7 : Value} : GUp C [(fun v _=>v = u0),(fun v _=>v = u1),(fun v _=>v = u2),(fun v _=>v = u3),(fun v _=>v = u4),(fun v _=>v = u5),(fun v _=>v = u6),(fun v _=>v = u7)]:=(Zw (Zw (Zw (Zw (Zw (Zw (Zw (Zw Kg))))))))
theorem gu9 {C : World → Prop} {u0 u1 u2 u3 u4 u5 u6 u7 u8 : Value} : GUp C [(fun v _=>v = u0),(fun v _=>v = u1),(fun v _=>v = u2),(fun v _=>v = u3),(fun v _=>v = u4),(fun v _=>v = u5),(fun v _=>v = u6),(fun v _=>v = u7),(fun v _=>v = u8)]:=(Zw (Zw (Zw (Zw (Zw (Zw (Zw (Zw (Zw Kg)))))))))
theorem gu10 {C : World → Prop} {u0 u1 u2 u3 u4 u5 u6 u7 u8 u9 : Value} : GUp C [(fun v _=>v = u0),(fun v _=>v = u1),(fun v _=>v = u2),(fun v _=>v = u3),(fun v _=>v = u4),(fun v _=>v = u5),(fun v _=>v = u6),(fun v _=>v = u7),(fun v _=>v = u8),(fun v _=>v = u9)]:=(Zw (Zw (Zw (Zw (Zw (Zw (Zw (Zw (Zw (Zw Kg))))))))))
theorem gu11 {C : World → Prop} {u0 u1 u2 u3 u4 u5 u6 u7 u8 u9 u10 : Value} : GUp C [(fun v _=>v = u0),(fun v _=>v = u1),(fun v _=>v = u2),(fun v _=>v = u3),(fun v _=>v = u4),(fun v _=>v = u5),(fun v _=>v = u6),(fun v _=>v = u7),(fun v _=>v = u8),(fun v _=>v = u9),(fun v _=>v = u10)]:=(Zw (Zw (Zw (Zw (Zw (Zw (Zw (Zw (Zw (Zw (Zw Kg)))))))))))
theorem gu12 {C : World → Prop} {u0 u1 u2 u3 u4 u5 u6 u7 u8 u9 u10 u11 : Value} : GUp C [(fun v _=>v = u0),(fun v _=>v = u1),(fun v _=>v = u2),(fun v _=>v = u3),(fun v _=>v = u4),(fun v _=>v = u5),(fun v _=>v = u6),(fun v _=>v = u7),(fun v _=>v = u8),(fun v _=>v = u9),(fun v _=>v = u10),(fun v _=>v = u11)]:=(Zw (Zw (Zw (Zw (Zw (Zw (Zw (Zw (Zw (Zw (Zw (Zw Kg))))))))))))
theorem gu14 {C : World → Prop} {u0 u1 u2 u3 u4 u5 u6 u7 u8 u9 u10 u11 u12 u13 : Value} : GUp C [(fun v _=>v = u0),(fun v _=>v = u1),(fun v _=>v = u2),(fun v _=>v = u3),(fun v _=>v = u4),(fun v _=>v = u5),(fun v _=>v = u6),(fun v _=>v = u7),(fun v _=>v = u8),(fun v _=>v = u9),(fun v _=>v = u10),(fun v _=>v = u11),(fun v _=>v = u12),(fun v _=>v = u13)]:=(Zw (Zw (Zw (Zw (Zw (Zw (Zw (Zw (Zw (Zw (Zw (Zw (Zw (Zw Kg))))))))))))))
theorem gu16 {C : World → Prop} {u0 u1 u2 u3 u4 u5 u6 u7 u8 u9 u10 u11 u12 u13 u14 u15 : Value} : GUp C [(fun v _=>v = u0),(fun v _=>v = u1),(fun v _=>v = u2),(fun v _=>v = u3),(fun v _=>v = u4),(fun v _=>v = u5),(fun v _=>v = u6),(fun v _=>v = u7),(fun v _=>v = u8),(fun v _=>v = u9),(fun v _=>v = u10),(fun v _=>v = u11),(fun v _=>v = u12),(fun v _=>v = u13),(fun v _=>v = u14),(fun v _=>v = u15)]:=(Zw (Zw (Zw (Zw (Zw (Zw (Zw (Zw (Zw (Zw (Zw (Zw (Zw (Zw (Zw (Zw Kg))))))))))))))))
theorem gu18 {C : World → Prop} {u0 u1 u2 u3 u4 u5 u6 u7 u8 u9 u10 u11 u12 u13 u14 u15 u16 u17 : Value} : GUp C [(fun v _=>v = u0),(fun v _=>v = u1),(fun v _=>v = u2),(fun v _=>v = u3),(fun v _=>v = u4),(fun v _=>v = u5),(fun v _=>v = u6),(fun v _=>v = u7),(fun v _=>v = u8),(fun v _=>v = u9),(fun v _=>v = u10),(fun v _=>v = u11),(fun v _=>v = u12),(fun v _=>v = u13),(fun v _=>v = u14),(fun v _=>v = u15),(fun v _=>v = u16),(fun v _=>v = u17)]:=(Zw (Zw (Zw (Zw (Zw (Zw (Zw (Zw (Zw (Zw (Zw (Zw (Zw (Zw (Zw (Zw (Zw (Zw Kg))))))))))))))))))
theorem gu20 {C : World → Prop} {u0 u1 u2 u3 u4 u5 u6 u7 u8 u9 u10 u11 u12 u13 u14 u15 u16 u17 u18 u19 : Value} : GUp C [(fun v _=>v = u0),(fun v _=>v = u1),(fun v _=>v = u2),(fun v _=>v = u3),(fun v _=>v = u4),(fun v _=>v = u5),(fun v _=>v = u6),(fun v _=>v = u7),(fun v _=>v = u8),(fun v _=>v = u9),(fun v _=>v = u10),(fun v _=>v = u11),(fun v _=>v = u12),(fun v _=>v = u13),(fun v _=>v = u14),(fun v _=>v = u15),(fun v _=>v = u16),(fun v _=>v = u17),(fun v _=>v = u18),(fun v _=>v = u19)]:=(Zw (Zw (Zw (Zw (Zw (Zw (Zw (Zw (Zw (Zw (Zw (Zw (Zw (Zw (Zw (Zw (Zw (Zw (Zw (Zw Kg))))))))))))))))))))
theorem gu21 {C : World → Prop} {u0 u1 u2 u3 u4 u5 u6 u7 u8 u9 u10 u11 u12 u13 u14 u15 u16 u17 u18 u19 u20 : Value} : GUp C [(fun v _=>v = u0),(fun v _=>v = u1),(fun v _=>v = u2),(fun v _=>v = u3),(fun v _=>v = u4),(fun v _=>v = u5),(fun v _=>v = u6),(fun v _=>v = u7),(fun v _=>v = u8),(fun v _=>v = u9),(fun v _=>v = u10),(fun v _=>v = u11),(fun v _=>v = u12),(fun v _=>v = u13),(fun v _=>v = u14),(fun v _=>v = u15),(fun v _=>v = u16),(fun v _=>v = u17),(fun v _=>v = u18),(fun v _=>v = u19),(fun v _=>v = u20)]:=(Zw (Zw (Zw (Zw (Zw (Zw (Zw (Zw (Zw (Zw (Zw (Zw (Zw (Zw (Zw (Zw (Zw (Zw (Zw (Zw (Zw Kg)))))))))))))))))))))
theorem gu23 {C : World → Prop} {u0 u1 u2 u3 u4 u5 u6 u7 u8 u9 u10 u11 u12 u13 u14 u15 u16 u17 u18 u19 u20 u21 u22 : Value} : GUp C [(fun v _=>v = u0),(fun v _=>v = u1),(fun v _=>v = u2),(fun v _=>v = u3),(fun v _=>v = u4),(fun v _=>v = u5),(fun v _=>v = u6),(fun v _=>v = u7),(fun v _=>v = u8),(fun v _=>v = u9),(fun v _=>v = u10),(fun v _=>v = u11),(fun v _=>v = u12),(fun v _=>v = u13),(fun v _=>v = u14),(fun v _=>v = u15),(fun v _=>v = u16),(fun v _=>v = u17),(fun v _=>v = u18),(fun v _=>v = u19),(fun v _=>v = u20),(fun v _=>v = u21),(fun v _=>v = u22)]:=(Zw (Zw (Zw (Zw (Zw (Zw (Zw (Zw (Zw (Zw (Zw (Zw (Zw (Zw (Zw (Zw (Zw (Zw (Zw (Zw (Zw (Zw (Zw Kg)))))))))))))))))))))))
theorem gu25 {C : World → Prop} {u0 u1 u2 u3 u4 u5 u6 u7 u8 u9 u10 u11 u12 u13 u14 u15 u16 u17 u18 u19 u20 u21 u22 u23 u24 : Value} : GUp C [(fun v _=>v = u0),(fun v _=>v = u1),(fun v _=>v = u2),(fun v _=>v = u3),(fun v _=>v = u4),(fun v _=>v = u5),(fun v _=>v = u6),(fun v _=>v = u7),(fun v _=>v = u8),(fun v _=>v = u9),(fun v _=>v = u10),(fun v _=>v = u11),(fun v _=>v = u12),(fun v _=>v = u13),(fun v _=>v = u14),(fun v _=>v = u15),(fun v _=>v = u16),(fun v _=>v = u17),(fun v _=>v = u18),(fun v _=>v = u19),(fun v _=>v = u20),(fun v _=>v = u21),(fun v _=>v = u22),(fun v _=>v = u23),(fun v _=>v = u24)]:=(Zw (Zw (Zw (Zw (Zw (Zw (Zw (Zw (Zw (Zw (Zw (Zw (Zw (Zw (Zw (Zw (Zw (Zw (Zw (Zw (Zw (Zw (Zw (Zw (Zw Kg)))))))))))))))))))))))))
theorem cbm {P : Program} {f : Nat} {fn : Func} {c : Code} (h : P.funcs[f]? = some fn) (h2 : (fn.name == "runtime.NumGoroutine") = false := by decide) (h3 : fn.body = some c := by rfl) : Callable P f := ⟨_, _, h, h2, h3⟩
theorem ce {n : Nat} {e : List (Nat × Value)} {P : Program} {w : World} {f : Nat} {fn : Func} {c : Code} {vs : List Value} {R : Ending → World → Prop} (hf : P.funcs[f]? = some fn) (k : ∀ a,Env n a e → c.wp P (bodyPost P fn R) a w)
  (hb : fn.body = some c:=by rfl) (hn : fn.ntmps = n:=by rfl) (hl : vs.length ≤ n:=by exact nbl rfl) (he : Bn 0 vs = e:=by rfl) : Calls P f vs.toArray w R:=Zdm hf hb hn hl he k
theorem qm {P : Program} {l : Array Oper} {n d i : Nat} {ts : List Nat} {e0 : List (Nat × Value)} {x : Operand} {v : Value} {ty : TypeId} {pos : String} {af : Array Edge} {G : Value → World → Prop} {C : World → Prop} {H : (Nat → Value) → World → Prop}
  (hx : ∀ u,opv (TH ts 0 u e0) x = some v:=by exact fun _=>rfl) (ht : ts[i]? = some d:=by rfl) (g : ∀ w,G v w:=by exact fun _=>rfl) (hd : d < n:=by decide) :
  ∀ a w (u : Nat → Value),Env n a (TH ts 0 u e0) → C w → H u w → wpList P l (nrm fun a' w'=>Kept (Old w) w w' ∧ ∃ v t,ts[i]? = some t ∧ Env n a' ((t,v) :: TH ts 0 u e0) ∧ G v w') [⟨some d,.move x,ty,pos,af,none⟩] a w :=
 fun _ w u hE _ _=>Y3 hE Zd hd (hx u) fun _ hE=>kq ht hE (g w)
section
variable {n : Nat} {a : Act} {e : List (Nat × Value)} {w w' : World} {P : Program} {ops : Array Oper} {rest : List Oper} {Q : Exit → Act → World → Prop} {d : Nat} {ty ty' : TypeId} {pos : String} {af : Array Edge} {g : Option (Nat × Bool)} {x y z : Operand} {v : Value}
theorem Ze  (h : Env n a e) (hx : opv e x = some v) (k : ∀ a,Env n a ((d,v) :: e) → wpList P ops Q rest a w) (hd : d < n:=by decide) : wpList P ops Q (⟨some d,.move x,ty,pos,af,none⟩ :: rest) a w :=
 Y3 h Zd hd hx k
theorem Zb  (h : Env n a e) (hx : opv e x = some v) (k : ∀ a,Env n a ((d,v) :: e) → wpList P ops Q rest a w) (hd : d < n:=by decide) : wpList P ops Q (⟨some d,.assign x,ty,pos,af,none⟩ :: rest) a w :=
 Zck h Zd hd hx k
theorem ZG  (h : Env n a e) (hx : opv e x = some (vT true)) (hy : opv e y = some v) (k : ∀ a,Env n a ((d,v) :: e) → wpList P ops Q rest a w) (hd : d < n:=by decide) : wpList P ops Q (⟨some d,.pick x y z,ty,pos,af,none⟩ :: rest) a w :=
 qp h Zd hd hx hy k
theorem ZL  (h : Env n a e) (hx : opv e x = some (vT false)) (hz : opv e z = some v) (k : ∀ a,Env n a ((d,v) :: e) → wpList P ops Q rest a w) (hd : d < n:=by decide) : wpList P ops Q (⟨some d,.pick x y z,ty,pos,af,none⟩ :: rest) a w :=
 qI h Zd hd hx hz k
theorem Zk {op : BinOp} {t2 : TypeId} {K : IntKind} {p q : Int} (h : Env n a e) (hx : opv e x = some (.int K p)) (hy : opv e y = some (.int K q)) (hv : QU op K p q = some v) (k : ∀ a,Env n a ((d,v) :: e) → wpList P ops Q rest a w) (hd : d < n:=by decide) : wpList P ops Q (⟨some d,.binOp op ty' x y t2,ty,pos,af,none⟩ :: rest) a w :=
 Wa h Zd hd hx hy hv k
theorem YO {p : Bool} (h : Env n a e) (hx : opv e x = some (vT p)) (k : ∀ a,Env n a ((d,vT (!p)) :: e) → wpList P ops Q rest a w) (hd : d < n:=by decide) : wpList P ops Q (⟨some d,.unOp .not ty' x,ty,pos,af,none⟩ :: rest) a w :=
 Jt h Zd hd hx k
end
section
variable {n : Nat} {a : Act} {e : List (Nat × Value)} {w w' : World} {P : Program} {ops : Array Oper} {rest : List Oper} {Q : Exit → Act → World → Prop} {d : Nat} {ty t : TypeId} {pos : String} {af : Array Edge} {g : Option (Nat × Bool)} {x y : Operand} {v : Value} {St : Nat → Prop} {w0 : World} {its : List Item}
theorem Zz {D : TypeDesc} {sz by_ : Nat} {z : List Value} (h : Env n a e) (hM : M St w0 w its) (ht : Ty P t D sz by_ z) (k : ∀ b w a,M St w0 w (raw b z :: its) → Env n a ((d,ptr b 0) :: e) → wpList P ops Q rest a w) (hd : d < n:=by decide) : wpList P ops Q (⟨some d,.alloc t,ty,pos,af,none⟩ :: rest) a w :=
 Zdu h hM Zd hd ht k
theorem Zx {D : TypeDesc} {sz by_ : Nat} {z : List Value} {b o : Nat} (h : Env n a e) (hx : opv e x = some (ptr b o)) (ht : Ty P t D sz by_ z) (hD : Kz D = false) (hA : At w b o [v]) (k : ∀ a,Env n a ((d,v) :: e) → wpList P ops Q rest a w) (hd : d < n:=by decide) : wpList P ops Q (⟨some d,.load t x,ty,pos,af,none⟩ :: rest) a w :=
 ZY h Zd hd hx ht hD hA k
theorem Zn {D : TypeDesc} {sz by_ : Nat} {z : List Value} {b o : Nat} {cs : List Value} (h : Env n a e) (hx : opv e x = some (ptr b o)) (ht : Ty P t D sz by_ z) (hD : Kz D = true) (hA : At w b o cs) (hl : cs.length = sz) (k : ∀ a,Env n a ((d,.agg cs.toArray) :: e) → wpList P ops Q rest a w) (hd : d < n:=by decide) : wpList P ops Q (⟨some d,.load t x,ty,pos,af,none⟩ :: rest) a w :=
 TY h Zd hd hx ht hD hA hl k
theorem Zg {f off b o : Nat} (h : Env n a e) (hx : opv e x = some (ptr b o)) (hf : Fd P t f off) (k : ∀ a,Env n a ((d,ptr b (o + off)) :: e) → wpList P ops Q rest a w) (hd : d < n:=by decide) : wpList P ops Q (⟨some d,.fieldAddr t x f,ty,pos,af,none⟩ :: rest) a w :=
 ZB h Zd hd hx hf k
theorem Zm {N el sz by_ b o : Nat} {z : List Value} {D : TypeDesc} {K : IntKind} {i : Int} (h : Env n a e) (hx : opv e x = some (ptr b o)) (hy : opv e y = some (.int K i)) (ht : P.underlying t = some (.array N el)) (he : Ty P el D sz by_ z) (hi : 0 ≤ i ∧ i < N) (k : ∀ a,Env n a ((d,ptr b (o + i.toNat * sz)) :: e) → wpList P ops Q rest a w) (hd : d < n:=by decide) : wpList P ops Q (⟨some d,.indexAddr t x y,ty,pos,af,none⟩ :: rest) a w :=
 Ka h Zd hd hx hy ht he hi k
theorem ZK {α : Type} [Rep α] {S : Nat → Prop} {l : List α} {fp : List Nat} {el sz by_ : Nat} {z : List Value} {D : TypeDesc} {K : IntKind} {i : Int} (h : Env n a e) (hx : opv e x = some v) (hy : opv e y = some (.int K i)) (ht : P.underlying t = some (.slice el)) (he : Ty P el D sz by_ z) (hs : Rep.sat S w l [v] fp) (hi : 0 ≤ i ∧ i < l.length) (k : ∀ a,Env n a ((d,ptr (sb v) (so v + i.toNat * sz)) :: e) → wpList P ops Q rest a w) (hd : d < n:=by decide) : wpList P ops Q (⟨some d,.indexAddr t x y,ty,pos,af,none⟩ :: rest) a w :=
 V3 h Zd hd hx hy ht he hs hi k
theorem ZZ {α : Type} [Rep α] {S : Nat → Prop} {l : List α} {fp : List Nat} {el : TypeId} (h : Env n a e) (hx : opv e x = some v) (ht : P.underlying t = some (.slice el)) (hs : Rep.sat S w l [v] fp) (k : ∀ a,Env n a ((d,vI l.length) :: e) → wpList P ops Q rest a w) (hd : d < n:=by decide) : wpList P ops Q (⟨some d,.call ⟨.builtin .len,[x].toArray,[t].toArray⟩,ty,pos,af,none⟩ :: rest) a w :=
 TQ h Zd hd hx ht hs k
theorem Zv {f : Nat} {xs : List Operand} {ats : Array TypeId} {vs : List Value} {R : Value → World → Prop} (h : Env n a e) (hxs : Kh e xs = some vs) (hf : Callable P f) (hc : Calls P f vs.toArray w fun en w'=>∃ v,en = .returned v ∧ R v w') (k : ∀ v w' a,R v w' → Env n a ((d,v) :: e) → wpList P ops Q rest a w') (hd : d < n:=by decide) : wpList P ops Q (⟨some d,.call ⟨.value (.func f),xs.toArray,ats⟩,ty,pos,af,none⟩ :: rest) a w :=
 WL h Zd hd hxs hf hc k
end
end Go.Proofs.YtlpppjjlffgkmaaGreat
namespace Go.Proofs.YtlpppjjlffgkmaaGreat

end Go.Proofs.YtlpppjjlffgkmaaGreat
