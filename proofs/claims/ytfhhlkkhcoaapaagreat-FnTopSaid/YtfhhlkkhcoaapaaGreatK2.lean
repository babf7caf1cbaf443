/- The walk library: what this claim needs of it. -/
import Derived.Test.YtfhhlkkhcoaapaaGreatK1
set_option linter.unusedVariables false
set_option linter.unusedSimpArgs false
set_option linter.unusedSectionVars false
namespace Go.Proofs.YtfhhlkkhcoaapaaGreat
section
open Go

theorem JM {σ ρ τ : Type} {s : σ} {f : σ → Option τ} {g : ρ → Option τ} {r : τ} (h : (Fl.nx s : Fl σ ρ).el f g = some r) : f s = some r:=h
def Uj (v : Value) (i : Nat) : Value:=match v with
 | .tuple vs=>vs.toList.getD i undef
 | _=>undef
def Th (v : Value) (cs : List Value) : Item:=λw fp=>∃ b,v = ptr b 0 ∧ raw b cs w fp
def Bo (there stored : Bool) (v : Value) (z c : List Value) : Item:=if there = true then (if stored = true then Th v c else Th v z) else Go.Proofs.YtfhhlkkhcoaapaaGreat.emp
abbrev Gs:=List (List Nat × (List Value → Value → Prop))
abbrev Mk:=List (List Nat × (List Bool → List Value → Item))
def qL (mk : Mk) (D : Nat → Bool) (u : Nat → Value) : List Item:=mk.map λp=>p.2 (p.1.map D) (p.1.map u)
def mkO (j : Nat) (f : Value → Item) : List Nat × (List Bool → List Value → Item):=([j],λbs us=>opt (bs.headD false) (f (us.headD undef)))
def mkC (j s : Nat) (z c : List Value) : List Nat × (List Bool → List Value → Item):=([j,s],λbs us=>Bo (bs.headD false) (bs.getD 1 false) (us.headD undef) z c)
def GOk (gs : Gs) (D : Nat → Bool) (u : Nat → Value) : Prop:=∀ j,D j = true → ∀ g,gs[j]? = some g → (∀ k ∈ g.1,D k = true) ∧ g.2 (g.1.map u) (u j)
theorem qU {D : Nat → Bool} {u : Nat → Value} {i : Nat} {v : Value} {l : List Nat} (h : i ∉ l) : l.map (XY D i) = l.map D ∧ l.map (V0 u i v) = l.map u:=by
 constructor <;> apply List.map_congr_left <;> intro k hk <;> have : k ≠ i:=(λe=>h (e ▸ hk))
 ·simp [XY,this]
 simp [V0,this]
theorem HS {mk : Mk} {D : Nat → Bool} {u : Nat → Value} {i : Nat} {v : Value} (hi : ∀ p ∈ mk,i ∉ p.1) : qL mk (XY D i) (V0 u i v) = qL mk D u:=by
 unfold qL
 apply List.map_congr_left
 intro p hp
 obtain ⟨h1,h2⟩:=qU (D:=D) (u:=u) (v:=v) (hi p hp)
 rw [h1,h2]
theorem GOk.upd {gs : Gs} {D : Nat → Bool} {u : Nat → Value} {i : Nat} {v : Value} (h : GOk gs D u) (hD : D i = false) (hi : ∀ g,gs[i]? = some g → (∀ k ∈ g.1,D k = true) ∧ g.2 (g.1.map u) v) : GOk gs (XY D i) (V0 u i v):=by
 have tr : ∀ k,D k = true → XY D i k = true:=λk hk=>by
  unfold XY
  split
  ·rfl
  ·exact hk
 have nm : ∀ l : List Nat,(∀ k ∈ l,D k = true) → i ∉ l:=λl hl hm=>by have:=hl i hm; rw [hD] at this; cases this
 intro j hj g hg
 by_cases hji : j = i
 ·subst hji
  obtain ⟨h1,h2⟩:=hi g hg
  refine ⟨λk hk=>tr k (h1 k hk),?_⟩
  rw [(qU (D:=D) (u:=u) (v:=v) (nm _ h1)).2]
  simpa [V0] using h2
 have hj' : D j = true:=by unfold XY at hj; rwa [if_neg hji] at hj
 obtain ⟨h1,h2⟩:=h j hj' g hg
 refine ⟨λk hk=>tr k (h1 k hk),?_⟩
 rw [(qU (D:=D) (u:=u) (v:=v) (nm _ h1)).2]
 simpa [V0,hji] using h2
theorem Zg1 {D : Nat → Bool} : ∀ k ∈ ([] : List Nat),D k = true:=λ_ h=>by cases h
theorem Zfe {D : Nat → Bool} {k : Nat} {ks : List Nat} (h : D k = true) (hs : ∀ k ∈ ks,D k = true) : ∀ j ∈ k :: ks,D j = true:=λj hj=>by
 rcases List.mem_cons.1 hj with rfl | hj
 ·exact h
 ·exact hs j hj
theorem gok0 {gs : Gs} {u : Nat → Value} : GOk gs (λ_=>false) u:=λ_ h=>by cases h
def qF (St : Nat → Prop) (l : List Item) : Item:=λw fp=>XN St w l fp
theorem Zb1 {St : Nat → Prop} {l : List Item} : Loc St (qF St l):=λ_ _ _ h hb=>XN.loc h hb
theorem He {α : Type} [Rep α] {x : α} {cs : List Value} {r : List Item} (h : Zdg r) : Zdg (own NoB x cs :: r):=by
 intro it hi
 rcases List.mem_cons.1 hi with rfl | hi
 ·exact Xl λ_ h=>h
 exact h it hi
theorem Env.dummy {n : Nat} {a : Act} {e : List (Nat × Value)} {t : Nat} (h : Env n a e) (ht : n ≤ t) : Env n a ((t,undef) :: e):=by
 refine ⟨h.sz,h.df,λs v hs=>?_⟩
 simp only [List.lookup_cons] at hs
 by_cases hst : s = t
 ·subst hst
  simp at hs
  subst hs
  rw [Array.getD_eq_getD_getElem?,Array.getElem?_eq_none (by rw [h.sz]; exact ht)]; rfl
 rw [show (s == t) = false by simpa using hst] at hs
 exact h.get s v hs
section
variable {St : Nat → Prop} {w0 w : World} {its pre post : List Item} {mk mk1 mk2 : Mk} {D : Nat → Bool} {u : Nat → Value} {i s b : Nat} {v : Value} {z c : List Value}
theorem noti (h : (mk.all λp=>p.1.all λk=>k != i) = true) : ∀ p ∈ mk,i ∉ p.1:=by
 intro p hp hm
 have:=List.all_eq_true.1 (List.all_eq_true.1 h p hp) i hm
 simp at this
theorem M.qKeep (h : M St w0 w (its ++ qL mk D u)) (hi : (mk.all λp=>p.1.all λk=>k != i) = true) : M St w0 w (its ++ qL mk (XY D i) (V0 u i v)):=by
 rw [HS (noti hi)]; exact h
theorem J3 {mk1 mk2 : Mk} {p : List Nat × (List Bool → List Value → Item)} : qL (mk1 ++ p :: mk2) D u = qL mk1 D u ++ (p.2 (p.1.map D) (p.1.map u) :: qL mk2 D u):=by simp [qL]
theorem M.qPut {p : List Nat × (List Bool → List Value → Item)} {it : Item} (h : M St w0 w (it :: (its ++ qL (mk1 ++ p :: mk2) D u))) (hi : ((mk1 ++ mk2).all λp=>p.1.all λk=>k != i) = true)
  (h1 : p.2 (p.1.map D) (p.1.map u) = Go.Proofs.YtfhhlkkhcoaapaaGreat.emp) (h2 : p.2 (p.1.map (XY D i)) (p.1.map (V0 u i v)) = it) : M St w0 w (its ++ qL (mk1 ++ p :: mk2) (XY D i) (V0 u i v)):=by
 have hne:=noti hi
 rw [J3] at h ⊢
 rw [HS (λp hp=>hne p (List.mem_append_left _ hp)),HS (λp hp=>hne p (List.mem_append_right _ hp)),h2]
 rw [h1] at h
 have h3 : M St w0 w ((it :: (its ++ qL mk1 D u)) ++ Go.Proofs.YtfhhlkkhcoaapaaGreat.emp :: qL mk2 D u):=by simpa using h
 have h4:=h3.pl.drop
 have h5 : M St w0 w (it :: ((its ++ qL mk1 D u) ++ qL mk2 D u)):=by simpa using h4
 simpa using M.push h5
theorem M.qFill {f : Value → Item} (h : M St w0 w (f v :: (its ++ qL (mk1 ++ mkO i f :: mk2) D u))) (hi : ((mk1 ++ mk2).all λp=>p.1.all λk=>k != i) = true) (hD : D i = false) :
  M St w0 w (its ++ qL (mk1 ++ mkO i f :: mk2) (XY D i) (V0 u i v)) :=
 M.qPut h hi (by simp [mkO,hD,zJ]) (by simp [mkO,XY,V0,yQ])
theorem M.qAlloc (h : M St w0 w (raw b z :: (its ++ qL (mk1 ++ mkC i s z c :: mk2) D u))) (hi : ((mk1 ++ mk2).all λp=>p.1.all λk=>k != i) = true) (hD : D i = false) (hs : D s = false) (hne : s ≠ i) :
  M St w0 w (its ++ qL (mk1 ++ mkC i s z c :: mk2) (XY D i) (V0 u i (ptr b 0))):=by
 have h' : M St w0 w (Th (ptr b 0) z :: (its ++ qL (mk1 ++ mkC i s z c :: mk2) D u)):=h.pack1 (λw w' fp ⟨b',e,k⟩ hb=>⟨b',e,XR w w' fp k hb⟩) λfp k=>⟨b,rfl,k⟩
 refine M.qPut h' hi (by simp [mkC,hD,Bo]) ?_
 simp [mkC,XY,V0,Bo,hne,hs]
theorem M.openCell {there stored : Bool} (h : M St w0 w (pre ++ Bo there stored v z c :: post)) (ht : there = true) : ∃ b,v = ptr b 0 ∧ M St w0 w (raw b (if stored = true then c else z) :: (pre ++ post)):=by
 have h1:=h.pl
 obtain ⟨fp,hfp,_⟩:=h1.head
 subst ht
 have e : Bo true stored v z c = Th v (if stored = true then c else z):=by cases stored <;> rfl
 rw [e] at hfp h1
 obtain ⟨b,hb,_⟩:=hfp
 exact ⟨b,hb,h1.pack1 XR λfp ⟨b',e',k⟩=>by rw [hb] at e'; simp [ptr] at e'; subst e'; exact k⟩
theorem M.qStore (h : M St w0 w (raw b c :: (its ++ (qL mk1 D u ++ qL mk2 D u)))) (hi : ((mk1 ++ mk2).all λp=>p.1.all λk=>k != s) = true) (hj : D i = true) (hb : u i = ptr b 0) (hne : i ≠ s) :
  M St w0 w (its ++ qL (mk1 ++ mkC i s z c :: mk2) (XY D s) (V0 u s v)):=by
 have hne':=noti hi
 rw [J3,HS (λp hp=>hne' p (List.mem_append_left _ hp)),HS (λp hp=>hne' p (List.mem_append_right _ hp))]
 have e : (mkC i s z c).2 ((mkC i s z c).1.map (XY D s)) ((mkC i s z c).1.map (V0 u s v)) = Th (ptr b 0) c:=by
  simp [mkC,XY,V0,Bo,hne,hj,hb]
 rw [e]
 have h' : M St w0 w (Th (ptr b 0) c :: (its ++ (qL mk1 D u ++ qL mk2 D u))):=h.pack1 (λw w' fp ⟨b',e,k⟩ hb=>⟨b',e,XR w w' fp k hb⟩) λfp k=>⟨b,rfl,k⟩
 have h5 : M St w0 w (Th (ptr b 0) c :: ((its ++ qL mk1 D u) ++ qL mk2 D u)):=by simpa using h'
 simpa using M.push h5
end

def tog (b : Bool) (A B : Item) : Item:=if b = true then B else A
def mkT (s : Nat) (A B : Item) : List Nat × (List Bool → List Value → Item):=([s],λbs _=>tog (bs.headD false) A B)
section
variable {St : Nat → Prop} {w0 w : World} {its pre post : List Item} {mk mk1 mk2 : Mk} {D : Nat → Bool} {u : Nat → Value} {s : Nat} {v : Value} {A B : Item}
theorem M.q0 (h : M St w0 w its) (u : Nat → Value) : M St w0 w (its ++ qL [] (λ_=>false) u):=by simpa [qL] using h
theorem M.qE {p : List Nat × (List Bool → List Value → Item)} (h : M St w0 w (its ++ qL mk (λ_=>false) u)) (he : ∀ us,p.2 (p.1.map λ_=>false) us = Go.Proofs.YtfhhlkkhcoaapaaGreat.emp) : M St w0 w (its ++ qL (p :: mk) (λ_=>false) u):=by
 have : M St w0 w (Go.Proofs.YtfhhlkkhcoaapaaGreat.emp :: (its ++ qL mk (λ_=>false) u)):=h.emp
 rw [← he (p.1.map u)] at this
 exact M.push this
theorem M.qT (h : M St w0 w ((A :: its) ++ qL mk (λ_=>false) u)) : M St w0 w (its ++ qL (mkT s A B :: mk) (λ_=>false) u):=M.push (pre:=its) (post:=qL mk (λ_=>false) u) h
theorem emO {j : Nat} {f : Value → Item} : ∀ us,(mkO j f).2 ((mkO j f).1.map λ_=>false) us = Go.Proofs.YtfhhlkkhcoaapaaGreat.emp:=λ_=>by simp [mkO,zJ]
theorem emC {j s : Nat} {z c : List Value} : ∀ us,(mkC j s z c).2 ((mkC j s z c).1.map λ_=>false) us = Go.Proofs.YtfhhlkkhcoaapaaGreat.emp:=λ_=>rfl
theorem M.togA {b : Bool} (h : M St w0 w (pre ++ tog b A B :: post)) (hb : b = false) : M St w0 w (pre ++ A :: post):=by subst hb; exact h
theorem M.togB {b : Bool} (h : M St w0 w (pre ++ tog b A B :: post)) (hb : b = true) : M St w0 w (pre ++ B :: post):=by subst hb; exact h
theorem M.qTog (h : M St w0 w (B :: (its ++ (qL mk1 D u ++ qL mk2 D u)))) (hi : ((mk1 ++ mk2).all λp=>p.1.all λk=>k != s) = true) : M St w0 w (its ++ qL (mk1 ++ mkT s A B :: mk2) (XY D s) (V0 u s v)):=by
 have hne':=noti hi
 rw [J3,HS (λp hp=>hne' p (List.mem_append_left _ hp)),HS (λp hp=>hne' p (List.mem_append_right _ hp))]
 have e : (mkT s A B).2 ((mkT s A B).1.map (XY D s)) ((mkT s A B).1.map (V0 u s v)) = B:=by simp [mkT,XY,tog]
 rw [e]
 have h5 : M St w0 w (B :: ((its ++ qL mk1 D u) ++ qL mk2 D u)):=by simpa using h
 simpa using M.push h5
end

def DrawI3 (P : Program) (l hd tl : List Oper) (Q : Exit → Act → World → Prop) (n : Nat) (ts : List Nat) (e0 : List (Nat × Value)) (I : (Nat → Bool) → (Nat → Value) → World → Prop) (listed : Array Bool) (a : Act) (w : World) : Prop :=
 ((∀ i,i < hd.length → dn listed i) ∧ ∃ k,k ≤ tl.length ∧ (∀ j,j < k → dn listed (hd.length + j)) ∧ (∀ j,k ≤ j → j < tl.length → ¬ dn listed (hd.length + j)) ∧ wpList P l.toArray Q (tl.drop k) a w) ∨
 ((¬ ∀ i,i < hd.length → dn listed i) ∧ (∀ j,hd.length ≤ j → ¬ dn listed j) ∧ ∃ u,Env n a (KD ts 0 u e0) ∧ I (λj=>listed.getD j false) u w)

theorem Zqy {P : Program} {id : Nat} {hd tl : List Oper} {Q : Exit → Act → World → Prop} {a : Act} {w : World} {n : Nat} {e0 : List (Nat × Value)}
  (hm : P.follows .mixedOrders = true) (hE : Aa (hd ++ tl) 0 = true) (hT : Zd2 (hd ++ tl) hd.length = true)
  (ts : List Nat) (hn : ts.Nodup) (I : (Nat → Bool) → (Nat → Value) → World → Prop)
  (h0 : Env n a e0) (hM0 : ∀ u,I (λ_=>false) u w.drew)
  (hstep : ∀ (i : Nat) (o : Oper),hd[i]? = some o → ∀ a w (u : Nat → Value) (D : Nat → Bool),Env n a (KD ts 0 u e0) → I D u w → D i = false → (∀ (j : Nat) (p : Oper) (e : Edge),hd[j]? = some p → e ∈ p.after.toList → Region.binds .any e = true → D j = true → D e.on = true) →
   (∀ (k : Nat) (e : Edge),o.after.toList[k]? = some e → Region.binds .any e = true → D e.on = true) →
   wpList P (hd ++ tl).toArray (nrm λa' w'=>∃ v t,ts[i]? = some t ∧ Env n a' ((t,v) :: KD ts 0 u e0) ∧ I (XY D i) (V0 u i v) w') [o] a w)
  (htail : ∀ a w u D,Env n a (KD ts 0 u e0) → I D u w → (∀ j,j < hd.length → D j = true) → wpList P (hd ++ tl).toArray Q tl a w) :
  (Code.region id (hd ++ tl).toArray true).wp P Q a w:=by
 refine wp_region_any hm ?_
 generalize hl : hd ++ tl = l at *
 have hln : l.length = hd.length + tl.length:=by rw [← hl]; simp
 have hbl : (bef l []).length = l.length:=by
  have : ∀ (r : List Oper) (acc : List Nat),(bef r acc).length = acc.length + r.length:=by
   intro r; induction r with
   | nil=>intro acc; simp [bef]
   | cons o r ih=>intro acc; rw [bef,ih]; simp; omega
  rw [this]; simp
 have tailDone : ∀ listed i o,l[i]? = some o → hd.length ≤ i → Zdu l (dn listed) → (∀ e ∈ o.after.toList,Region.binds .any e = true → dn listed e.on) → ∀ j,j < i → dn listed j:=by
  intro listed i o hi hle hdc hp j hj
  have hil:=(List.getElem?_eq_some_iff.1 hi).1
  have hbit : ((bef l []).getD i 0).testBit j = true:=by
   unfold Zd2 at hT
   simp only [List.all_eq_true] at hT
   have:=hT i (by simpa using hil)
   simp only [Bool.or_eq_true,decide_eq_true_eq,List.all_eq_true] at this
   rcases this with h | h
   ·omega
   ·exact h j (by simpa using hj)
  exact Za3 l l [] 0 rfl (by simp) (λi hi=>absurd hi (Nat.not_lt_zero i)) i (by rw [hbl]; exact hil) (dn listed) hdc (λo' e ho' he hb=>by rw [hi] at ho'; cases ho'; exact hp e he hb) j hbit
 have hfuel : ((List.range l.length).filter λi=>!(Array.replicate l.toArray.size false).getD i false).length ≤ l.toArray.size:=by
  refine Nat.le_trans (List.length_filter_le _ _) ?_; simp
 have hnot0 : ∀ i,¬ dn (Array.replicate l.toArray.size false) i:=by
  intro i; unfold dn; rw [Array.getD_eq_getD_getElem?,Array.getElem?_replicate]; split <;> simp
 refine y4 hE (DrawI3 P l hd tl Q n ts e0 I) ?_ ?_ _ _ _ _ (by simp) hfuel (λi o e _ _ _ h=>absurd h (hnot0 i)) ?_
 ·intro listed i o a w hsz hi hnd hdc hp hI
  have hil:=(List.getElem?_eq_some_iff.1 hi).1
  by_cases hh : i < hd.length
  ·-- a head operation
   have hnall : ¬ ∀ i,i < hd.length → dn listed i:=λh=>hnd (h i hh)
   obtain ⟨h,_⟩ | ⟨_,ht0,u,k1,k2⟩:=hI
   ·exact absurd h hnall
   have hio : hd[i]? = some o:=by rw [← hl] at hi; rwa [List.getElem?_append_left hh] at hi
   refine Zkf (by simpa using hi) ?_
   have hs:=hstep i o hio a w u (λj=>listed.getD j false) k1 k2 (by simpa [dn] using hnd) (λj p e hj he hb hdj=>hdc j p e (by rw [← hl,List.getElem?_append_left (List.getElem?_eq_some_iff.1 hj).1]; exact hj) he hb hdj) (λk e hk hb=>hp e (List.mem_of_getElem? hk) hb)
   have hmono : ∀ (X Y : Act → World → Prop),(∀ a w,X a w → Y a w) → ∀ a w,wpList P l.toArray (nrm X) [o] a w → wpList P l.toArray (nrm Y) [o] a w:=by
    intro X Y hXY a w h
    unfold wpList at h ⊢
    split
    ·rename_i hw
     rw [if_pos hw] at h
     rcases h with h | ⟨_,a',w',h⟩
     ·exact .inl (Oper.wp_mono2 (λ_ _ h=>hXY _ _ h) (λ_ _ _ h=>h.elim) (λ⟨_,_,h⟩=>h.elim) h)
     ·exact h.elim
    ·rename_i hw
     rw [if_neg hw] at h
     exact hXY _ _ h
   refine hmono _ _ ?_ a w hs
   rintro a' w' ⟨v,t,hti,hEnv,hM'⟩
   have hEnv':=hEnv.upd hn hti
   have hset : ∀ j,dn (listed.setIfInBounds i true) j ↔ (j = i ∨ dn listed j):=λj=>yD (by omega)
   have hD : (λj=>(listed.setIfInBounds i true).getD j false) = XY (λj=>listed.getD j false) i:=by
    funext j
    unfold XY
    by_cases hj : j = i
    ·rw [if_pos hj]; exact (hset j).2 (.inl hj)
    ·rw [if_neg hj]
     rw [Bool.eq_iff_iff]
     exact (hset j).trans ⟨λh=>h.resolve_left hj,.inr⟩
   have htn : ∀ j,hd.length ≤ j → ¬ dn (listed.setIfInBounds i true) j:=by
    intro j hj hd'
    rcases (hset j).1 hd' with rfl | hj'
    ·omega
    ·exact ht0 j hj hj'
   rw [← hD] at hM'
   by_cases hall : ∀ j,j < hd.length → dn (listed.setIfInBounds i true) j
   ·exact .inl ⟨hall,0,Nat.zero_le _,λj hj=>by omega,λj _ _=>htn _ (by omega),htail a' w' _ _ hEnv' hM' (λj hj=>hall j hj)⟩
   exact .inr ⟨hall,htn,_,hEnv',hM'⟩
  have hdone:=tailDone listed i o hi (by omega) hdc hp
  have hall : ∀ j,j < hd.length → dn listed j:=λj hj=>hdone j (by omega)
  obtain ⟨_,k,hk,k1,k2,k3⟩ | ⟨h,_⟩:=hI
  case inr=>exact absurd hall h
  have hki : hd.length + k = i:=by
   rcases Nat.lt_trichotomy (hd.length + k) i with h | h | h
   ·exact absurd (hdone _ h) (k2 k (Nat.le_refl _) (by omega))
   ·exact h
   ·exact absurd (by have:=k1 (i - hd.length) (by omega); rwa [show hd.length + (i - hd.length) = i by omega] at this) hnd
  have hto : tl[k]? = some o:=by
   rw [← hl] at hi
   rw [List.getElem?_append_right (by omega)] at hi
   rwa [show i - hd.length = k by omega] at hi
  have hdr : tl.drop k = o :: tl.drop (k + 1):=by
   rw [List.drop_eq_getElem_cons (List.getElem?_eq_some_iff.1 hto).1]
   congr 1
   exact (List.getElem?_eq_some_iff.1 hto).2
  rw [hdr] at k3
  refine wpOp_mono (λa' w' hl=>?_) (Zec (by simpa using hi) k3)
  have hset : ∀ j,dn (listed.setIfInBounds i true) j ↔ (j = i ∨ dn listed j):=λj=>yD (by omega)
  have hall' : ∀ j,j < hd.length → dn (listed.setIfInBounds i true) j:=λj hj=>(hset j).2 (.inr (hall j hj))
  refine .inl ⟨hall',k + 1,(List.getElem?_eq_some_iff.1 hto).1,λj hj=>(hset _).2 ?_,λj hj1 hj2 hd'=>?_,hl⟩
  ·rcases Nat.lt_or_ge j k with h | h
   ·exact .inr (k1 j h)
   exact .inl (by omega)
  rcases (hset _).1 hd' with h | h
  ·omega
  exact k2 j (by omega) hj2 h
 ·intro listed a w hsz hall hI
  have hall' : ∀ i,i < hd.length → dn listed i:=λi hi=>hall i (by omega)
  obtain ⟨_,k,hk,k1,k2,k3⟩ | ⟨h,_⟩:=hI
  case inr=>exact absurd hall' h
  have : k = tl.length:=by
   rcases Nat.lt_or_ge k tl.length with h | h
   ·exact absurd (hall (hd.length + k) (by omega)) (k2 k (Nat.le_refl _) h)
   ·omega
  subst this
  rw [List.drop_length] at k3
  exact k3
 have hu : ∀ (r : List Nat) (j : Nat) (u : Nat → Value),(∀ k t,r[k]? = some t → u (j + k) = a.tmps.getD t undef) → Env n a (KD r j u e0):=by
  intro r
  induction r with
  | nil=>intro j u _; exact h0
  | cons t r ih =>
   intro j u hu
   have h1:=ih (j + 1) u (λk s hk=>by have:=hu (k + 1) s (by simpa using hk); rwa [show j + (k + 1) = j + 1 + k by omega] at this)
   refine ⟨h1.sz,h1.df,λs x hs=>?_⟩
   simp only [KD,List.lookup_cons] at hs
   by_cases hst : s = t
   ·subst hst
    simp at hs
    rw [← hs]
    exact (hu 0 s rfl).symm
   ·rw [show (s == t) = false by simpa using hst] at hs
    exact h1.get s x hs
 have hEnv : Env n a (KD ts 0 (λj=>a.tmps.getD (ts.getD j 0) undef) e0):=hu ts 0 _ (λk t hk=>by simp [List.getD_eq_getElem?_getD,hk])
 have hDf : (λj=>(Array.replicate l.toArray.size false).getD j false) = λ_=>false:=by
  funext j
  have:=hnot0 j
  unfold dn at this
  simpa using this
 by_cases hall : ∀ i,i < hd.length → dn (Array.replicate l.toArray.size false) i
 ·have hnil : hd.length = 0:=by
   rcases Nat.eq_zero_or_pos hd.length with h | h
   ·exact h
   ·exact absurd (hall 0 h) (hnot0 0)
  exact .inl ⟨hall,0,Nat.zero_le _,λj hj=>by omega,λj _ _=>hnot0 _,htail a _ _ _ hEnv (hM0 _) (λj hj=>by omega)⟩
 refine .inr ⟨hall,λj _=>hnot0 j,_,hEnv,?_⟩
 rw [hDf]
 exact hM0 _
end
section
open Go

theorem M.unsure {St : Nat → Prop} {w0 w : World} {pre post : List Item} {it : Item} {b : Bool} (h : M St w0 w (pre ++ it :: post)) (hb : b = true) : M St w0 w (pre ++ opt b it :: post):=by subst hb; rwa [yQ]

abbrev FillA (sz : Nat) (z : List Value) (parts : List (Nat × Value)) (cs : List Value) : Prop:=Instr.fill (λi=>some (i * sz,sz)) z.toArray parts = some cs.toArray
theorem YK {sz : Nat} {z : List Value} : FillA sz z [] z:=rfl
theorem Xj {α : Type} [Flat α] {N : Nat} {v : Vector α N} {rest : List (Nat × Value)} {i : Nat} {u : Value} {x : α} {cs : List Value} {sz : Nat}
  (hs : sz = Flat.n α) (hi : i < N) (hv : u.cells.toList = Flat.enc x) (hr : FillA sz (Flat.enc (v.setIfInBounds i x)) rest cs) : FillA sz (Flat.enc v) ((i,u) :: rest) cs:=by
 subst hs
 have hi' : (0 : Int) ≤ (i : Int) ∧ (i : Int) < N:=⟨by omega,by omega⟩
 have hus : u.cells.size = Flat.n α:=by
  have:=congrArg List.length hv
  simpa [Flat.len] using this
 have hfit : i * Flat.n α + u.cells.toList.length ≤ (Flat.enc v).length:=by
  have:=ZS (v:=v) (x:=x) hi'
  rw [hv]
  simpa using this
 have hf:=HH u.cells.toList 0 (i * Flat.n α) (Flat.enc v).toArray (by simpa using hfit)
 have hz : u.cells.zipIdx.foldl (λcs (c,j)=>cs.setIfInBounds (i * Flat.n α + j) c) (Flat.enc v).toArray = (Y7 (Flat.enc v) (i * Flat.n α) u.cells.toList).toArray:=by
  rw [← Array.foldl_toList,Array.toList_zipIdx]
  simpa using hf
 have hsp:=Zaz (Zlm (v:=v) (x:=x) hi')
 unfold FillA
 rw [Instr.fill]
 simp only []
 rw [if_neg (by
  have h1 : i * Flat.n α + u.cells.size ≤ (Flat.enc v).length:=by simpa using hfit
  simp [hus] at h1 ⊢
  omega)]
 rw [hz,hv]
 have e : ((i : Int)).toNat = i:=rfl
 rw [e] at hsp
 rw [hsp]
 exact hr
section
variable {n : Nat} {a : Act} {e : List (Nat × Value)} {w w' : World} {P : Program} {ops : Array Oper} {rest : List Oper} {Q : Exit → Act → World → Prop}
variable {d : Nat} {ty t : TypeId} {pos : String} {af : Array Edge} {g : Option (Nat × Bool)} {x y : Operand} {v u : Value}
theorem Zka {parts : List (Nat × Operand)} {vs : List (Nat × Value)} (h : Env n a e) (hxs : J1 e (parts.map (·.2)) = some (vs.map (·.2))) (hix : parts.map (·.1) = vs.map (·.1)) :
  (parts.map λ(p : Nat × Operand)=>(p.1,a.eval p.2)) = vs:=by
 have h1:=h.evs hxs
 rw [List.map_map] at h1
 apply List.ext_getElem?
 intro i
 have e1 : (parts.map (·.1))[i]? = (vs.map (·.1))[i]?:=by rw [hix]
 have e2 : (parts.map (a.eval ∘ λ(p : Nat × Operand)=>p.2))[i]? = (vs.map (·.2))[i]?:=by rw [h1]
 simp only [List.getElem?_map] at e1 e2 ⊢
 cases hp : parts[i]? with
 | none =>
  rw [hp] at e1
  cases hq : vs[i]? with
  | none=>rfl
  | some q=>rw [hq] at e1; simp at e1
 | some p =>
  rw [hp] at e1 e2
  cases hq : vs[i]? with
  | none=>rw [hq] at e1; simp at e1
  | some q =>
   rw [hq] at e1 e2
   simp only [Option.map_some,Option.some.injEq] at e1 e2 ⊢
   exact Prod.ext e1 e2
theorem Xi {el N : Nat} {parts : List (Nat × Operand)} {vs : List (Nat × Value)} {z cs ze : List Value} {sz by_ esz eby : Nat} {D De : TypeDesc} (h : Env n a e) (hw : Goes ops ⟨some d,.build t parts.toArray,ty,pos,af,g⟩ a) (hd : d < n)
  (hxs : J1 e (parts.map (·.2)) = some (vs.map (·.2))) (hix : parts.map (·.1) = vs.map (·.1)) (ht : Ty P t D sz by_ z) (hD : D = .array N el) (he : Ty P el De esz eby ze) (hf : FillA esz z vs cs)
  (k : ∀ a,Env n a ((d,.agg cs.toArray) :: e) → wpList P ops Q rest a w) : wpList P ops Q (⟨some d,.build t parts.toArray,ty,pos,af,g⟩ :: rest) a w:=by
 refine XV h hw rfl hd (w':=w) ?_ k
 have hvals:=Zka h hxs hix
 have hb : P.built t vs = some cs.toArray:=by
  obtain ⟨i,zv,h1,h2,_,h3,h4⟩:=ht.get
  obtain ⟨ie,_,k1,k2,_,_,_⟩:=he.get
  have hu:=ht.und
  rw [hD] at hu
  unfold Program.built
  rw [h1,hu]
  simp only [h3,k1,k2]
  have h5 : zv.cells = z.toArray:=by rw [← h4]
  simp only [h5]
  exact hf
 simp only [execOp]
 have : (parts.toArray.map λ(p : Nat × Operand)=>(p.1,a.eval p.2)) = vs.toArray:=by rw [List.map_toArray,hvals]
 simp only [Sem.run_bind]
 rw [show (Instr.build t (parts.toArray.map λ(i,x)=>(i,a.eval x))).run P w = .ok (.agg cs.toArray) w from by
  have h2:=run_build (P:=P) w t (parts.toArray.map λ(i,x)=>(i,a.eval x)) cs.toArray (by
   have : (parts.toArray.map λ(i,x)=>(i,a.eval x)).toList = vs:=by simpa using hvals
   rw [this]; exact hb)
  exact h2]
 rfl

theorem enc_at {α : Type} [Flat α] {N i : Nat} {v : Vector α N} {x : α} (hi : v.toList[i]? = some x) : ∃ c1 c2,Flat.enc v = c1 ++ (Flat.enc x ++ c2) ∧ c1.length = i * Flat.n α:=by
 refine ⟨XA (v.toList.take i),XA (v.toList.drop (i + 1)),JV hi,?_⟩
 rw [Tw,List.length_take,Nat.min_eq_left (Nat.le_of_lt (List.getElem?_eq_some_iff.1 hi).1)]
theorem Hg {α : Type} [Flat α] {N el sz by_ : Nat} {z : List Value} {De : TypeDesc} {K : IntKind} {i : Int} {v : Vector α N} {x0 : α} (h : Env n a e) (hw : Goes ops ⟨some d,.index t x y,ty,pos,af,g⟩ a) (hd : d < n)
  (hx : opv e x = some (.agg (Flat.enc v).toArray)) (hy : opv e y = some (.int K i)) (ht : P.underlying t = some (.array N el)) (he : Ty P el De sz by_ z) (hD : BC De = false) (hs : sz = Flat.n α) (hi : (0 ≤ i ∧ i < N) ∧ v.toList[i.toNat]? = some x0) (hu : Flat.enc x0 = [u])
  (k : ∀ a,Env n a ((d,u) :: e) → wpList P ops Q rest a w) : wpList P ops Q (⟨some d,.index t x y,ty,pos,af,g⟩ :: rest) a w:=by
 obtain ⟨c1,c2,e1,e2⟩:=enc_at hi.2
 subst hs
 have hg : (Flat.enc v)[i.toNat * Flat.n α]? = some u:=by
  rw [e1,hu,← e2]
  simp
 exact XV h hw rfl hd (by
  simp only [execOp,h.ev hx,h.ev hy]
  simp [Instr.index,asIntOf,run_underlying ht,hi.1,WC he,part,BU he,hD,hg]) k
theorem Ya {b o : Nat} (h : Env n a e) (hw : Goes ops ⟨some d,.nilCheck x,ty,pos,af,g⟩ a) (hd : d < n) (hx : opv e x = some (ptr b o))
  (k : ∀ a,Env n a ((d,ptr b o) :: e) → wpList P ops Q rest a w) : wpList P ops Q (⟨some d,.nilCheck x,ty,pos,af,g⟩ :: rest) a w :=
 XV h hw rfl hd (by simp only [execOp,h.ev hx]; rfl) k
end
theorem Zpu {α : Type} [Flat α] {N b : Nat} {w : World} {v : Vector α N} (h : At w b 0 (Flat.enc v)) : Rep.sat (λc=>c = b) w v.toList [.slice (some ⟨b,0,none⟩) N N] []:=by
 refine ⟨some ⟨b,0,none⟩,N,by simp,by simp,λ_=>rfl,Flat.enc v,[],?_,h,.inl ⟨λ_=>rfl,rfl⟩⟩
 show YA _ w v.toList (XA v.toList) []
 generalize v.toList = l
 induction l with
 | nil=>exact ⟨rfl,rfl⟩
 | cons x l ih=>exact ⟨_,_,[],[],rfl,rfl,⟨rfl,rfl⟩,ih⟩
section
variable {n : Nat} {a : Act} {e : List (Nat × Value)} {w w' : World} {P : Program} {ops : Array Oper} {rest : List Oper} {Q : Exit → Act → World → Prop}
variable {d : Nat} {ty t : TypeId} {pos : String} {af : Array Edge} {g : Option (Nat × Bool)} {x y : Operand} {v u : Value}
theorem Hd {N el sz by_ b : Nat} {z : List Value} {D : TypeDesc} {K : IntKind} {i : Int} (h : Env n a e) (hw : Goes ops ⟨some d,.indexAddr t x y,ty,pos,af,g⟩ a) (hd : d < n)
  (hx : opv e x = some (.slice (some ⟨b,0,none⟩) N N)) (hy : opv e y = some (.int K i)) (ht : P.underlying t = some (.slice el)) (he : Ty P el D sz by_ z) (hi : 0 ≤ i ∧ i < N)
  (k : ∀ a,Env n a ((d,ptr b (0 + i.toNat * sz)) :: e) → wpList P ops Q rest a w) : wpList P ops Q (⟨some d,.indexAddr t x y,ty,pos,af,g⟩ :: rest) a w :=
 XV h hw rfl hd (by
  simp only [execOp,h.ev hx,h.ev hy]
  simp [Instr.indexAt,asIntOf,run_underlying ht,Instr.sureAddr,hi,WC he,Addr.add_lit]) k
end
theorem k_ret0 {n : Nat} {a : Act} {e : List (Nat × Value)} {w : World} {P : Program} {fn : Func} {R : Ending → World → Prop} (hE : Env n a e) (hres : fn.results = #[]) (hR : R (.returned (.tuple [].toArray)) w) : bodyPost P fn R .ret a w:=by
 refine bodyPost_ret ?_ hE.df hR
 rw [Ba,hres]
 simp
theorem Zro {n : Nat} {a : Act} {e : List (Nat × Value)} {w : World} {P : Program} {fn : Func} {R : Ending → World → Prop} (hE : Env n a e) (hres : fn.results = #[]) (hR : R (.returned (.tuple [].toArray)) w) : bodyPost P fn R .normal a w:=k_ret0 hE hres hR
structure Ref (α : Type) where
 v : α
 deriving DecidableEq,Inhabited
instance {α : Type} [Dat α] : Dat (Ref α):=⟨λx=>Dat.bd x.v,λx=>Dat.sz x.v + 1⟩
def RefSat {α : Type} [Rep α] (S : Nat → Prop) (w : World) (x : Ref α) (cs : List Value) (fp : List Nat) : Prop :=
 ∃ b ds fpe,cs = [ptr b 0] ∧ Rep.sat S w x.v ds fpe ∧ At w b 0 ds ∧ ((S b ∧ fp = fpe) ∨ (fp = b :: fpe ∧ ∃ T,w.heap[b]? = some (.cells ds.toArray T (0,0))))
instance {α : Type} [Rep α] : Rep (Ref α) where
 n:=1
 sat:=RefSat
 len:=by rintro S w x cs fp ⟨b,ds,fpe,rfl,_⟩; rfl
 loc:=by
  rintro S w w' x cs fp ⟨b,ds,fpe,rfl,h1,h2,h3⟩ hb
  rcases h3 with ⟨h3,rfl⟩ | ⟨rfl,T,h3⟩
  ·exact ⟨b,ds,fp,rfl,Rep.loc h1 hb,h2.loc (hb _ (.inr h3)),.inl ⟨h3,rfl⟩⟩
  ·exact ⟨b,ds,fpe,rfl,Rep.loc h1 (λb h=>hb b (by simp; grind)),h2.loc (hb _ (by simp)),.inr ⟨rfl,T,by rw [hb _ (by simp)]; exact h3⟩⟩
 ro:=by
  rintro S S' w x cs fp ⟨b,ds,fpe,rfl,h1,h2,h3⟩ hb
  rcases h3 with ⟨h3,rfl⟩ | ⟨rfl,T,h3⟩
  ·exact ⟨b,ds,[],rfl,Rep.ro h1 hb,h2,.inl ⟨hb _ (.inr h3),rfl⟩⟩
  ·exact ⟨b,ds,[],rfl,Rep.ro h1 (λb h=>hb b (by simp; grind)),h2,.inl ⟨hb _ (by simp),rfl⟩⟩
 wk:=by
  rintro S S' w x cs fp ⟨b,ds,fpe,rfl,h1,h2,h3⟩ hb
  rcases h3 with ⟨h3,rfl⟩ | ⟨rfl,T,h3⟩
  ·exact ⟨b,ds,fp,rfl,Rep.wk h1 hb,h2,.inl ⟨hb _ h3,rfl⟩⟩
  ·exact ⟨b,ds,fpe,rfl,Rep.wk h1 hb,h2,.inr ⟨rfl,T,h3⟩⟩
 lt:=by
  rintro S w x cs fp ⟨b,ds,fpe,rfl,h1,h2,h3⟩ c hc
  rcases h3 with ⟨h3,rfl⟩ | ⟨rfl,T,h3⟩
  ·exact Rep.lt h1 c hc
  ·rcases List.mem_cons.1 hc with rfl | hc
   ·rcases Nat.lt_or_ge c w.heap.size with h | h
    ·exact h
    ·rw [Array.getElem?_eq_none h] at h3; cases h3
   ·exact Rep.lt h1 c hc
 cell:=by
  rintro S w x cs fp ⟨b,ds,fpe,rfl,_⟩ v hv
  simp at hv; subst hv; rfl
section
variable {α : Type} [Rep α] {S : Nat → Prop} {w w0 : World} {x : Ref α} {fp : List Nat} {u : Value} {St : Nat → Prop} {its : List Item} {b : Nat} {ds : List Value}
theorem zG (h : Rep.sat S w x [u] fp) : u.cells.toList = [u]:=by obtain ⟨b,ds,fpe,e,_⟩:=h; obtain rfl:=(List.cons.inj e).1; rfl
theorem By {cs : List Value} (h : Rep.sat S w x cs fp) : ∃ v,cs = [v]:=by obtain ⟨b,ds,fpe,e,_⟩:=h; exact ⟨_,e⟩
theorem TV (h : Rep.sat S w x [u] []) : ∃ b ds,u = ptr b 0 ∧ Rep.sat S w x.v ds [] ∧ At w b 0 ds ∧ S b:=by
 obtain ⟨b,ds,fpe,e,h1,h2,h3⟩:=h
 rcases h3 with ⟨h3,rfl⟩ | ⟨h3,_⟩
 ·exact ⟨b,ds,(List.cons.inj e).1,h1,h2,h3⟩
 cases h3
theorem M.toRef {x : α} {S : Nat → Prop} (h : M St w0 w (raw b ds :: own S x ds :: its)) (hS : ∀ b,S b → St b) : M St w0 w (own S (⟨x⟩ : Ref α) [ptr b 0] :: its) :=
 h.pack2 (Xl hS) λf g h1 h2=>by
  obtain ⟨rfl,T,h3⟩:=h1
  exact ⟨b,ds,g,rfl,h2,At.of_heap h3,.inr ⟨rfl,T,h3⟩⟩
theorem M.toRefF {α : Type} [Flat α] {x : α} (h : M St w0 w (raw b (Flat.enc x) :: its)) : M St w0 w (own NoB (⟨x⟩ : Ref α) [ptr b 0] :: its) :=
 h.pack1 (Xl λ_ h=>h.elim) λf h1=>by
  obtain ⟨rfl,T,h3⟩:=h1
  exact ⟨b,Flat.enc x,[],rfl,⟨rfl,rfl⟩,At.of_heap h3,.inr ⟨rfl,T,h3⟩⟩
end
end
section
open Go

section
variable {n : Nat} {a : Act} {e : List (Nat × Value)} {w w' : World} {P : Program} {ops : Array Oper} {rest : List Oper} {Q : Exit → Act → World → Prop}
variable {d : Nat} {ty t : TypeId} {pos : String} {af : Array Edge} {g : Option (Nat × Bool)} {x y : Operand} {v u : Value}
variable {St : Nat → Prop} {w0 : World} {its : List Item}

theorem flat1 : ∀ {vs : List Value},(∀ v ∈ vs,v.cells.toList = [v]) → (vs.map (·.cells.toList)).flatten = vs
 | [],_=>rfl
 | v :: vs,h=>by rw [List.map_cons,List.flatten_cons,h v (by simp),flat1 (λu hu=>h u (by simp [hu]))]; rfl
theorem TB {xs : List Operand} {vs : List Value} {m el by_ : Nat} {D : TypeDesc} {z : List Value}
  (h : Env n a e) (hM : M St w0 w its) (hw : Goes ops ⟨some d,.buildSlice t m (Hc 0 xs).toArray,ty,pos,af,g⟩ a) (hd : d < n) (hxs : J1 e xs = some vs) (hm : vs.length = m)
  (ht : P.underlying t = some (.slice el)) (he : Ty P el D 1 by_ z) (hsmall : m ≤ 16777216) (hcell : ∀ v ∈ vs,v.cells.toList = [v])
  (k : ∀ b w a,M St w0 w (raw b vs :: its) → Env n a ((d,.slice (some ⟨b,0,none⟩) m m) :: e) → wpList P ops Q rest a w) : wpList P ops Q (⟨some d,.buildSlice t m (Hc 0 xs).toArray,ty,pos,af,g⟩ :: rest) a w:=by
 have hsz:=WC he
 obtain ⟨zv,hzv,hzc⟩:=BI he w
 have hc1 : ∀ v ∈ vs,v.cells.size = 1:=λv hv=>by have:=congrArg List.length (hcell v hv); simpa using this
 have hnum:=h.numbered xs 0 vs hxs
 have hsub : ∀ cs : Array Value,cs.size = m * 1 → Instr.fill (λi=>some (i * 1,1)) cs (numbered 0 vs) = some vs.toArray:=by
  intro cs hcs
  rw [Zb2 1 _ (λ_=>rfl) vs 0 cs hc1 (by simp [hm,hcs])]
  congr 2
  rw [Nat.zero_mul,flat1 hcell]
  exact Zg (by simp [hcs,hm])
 have hrun : (Instr.buildSlice t m ((Hc 0 xs).toArray.map λ(i,x)=>(i,a.eval x))).run P w = .ok (.slice (some ⟨w.heap.size,0,none⟩) m m) (w.alloc (.cells vs.toArray el)):=by
  have hparts : ((Hc 0 xs).toArray.map λ(i,x)=>(i,a.eval x)).toList = numbered 0 vs:=by simpa using hnum
  have hlim : ¬ (m * 1 > 2 ^ 24):=by omega
  have hfill : ∀ zz : Array Value,Instr.fill (λi=>some (i * 1,1)) ((Array.range (m * 1)).map (zz[· % zz.size]!)) (numbered 0 vs) = some vs.toArray:=λzz=>hsub _ (by simp)
  unfold Instr.buildSlice
  simp only [Sem.run_bind,run_underlying ht,Result.andThen_ok,hsz,if_neg hlim,hparts]
  by_cases h0 : m * 1 = 0
  ·simp only [if_pos h0,pure_bind]
   rw [hfill]
   simp [newRow]
  ·simp only [if_neg h0,pure_bind,Sem.run_bind,hzv,Result.andThen_ok]
   rw [hfill]
   simp [newRow]
 exact XV h hw rfl hd (v:=.slice (some ⟨w.heap.size,0,none⟩) m m) (w':=w.alloc (.cells vs.toArray el)) (by simp only [execOp]; simp only [Sem.run_bind,hrun]; rfl) λa ha=>k _ _ _ (hM.alloc vs el) ha
def Zh8 {α : Type} [Rep α] (w : World) : List α → List Value → Prop
 | [],[]=>True
 | x :: l,v :: vs=>Ro w x [v] ∧ Zh8 w l vs
 | _,_=>False
theorem Zh8.elems {α : Type} [Rep α] {w : World} : ∀ {l : List α} {vs : List Value},Zh8 w l vs → YA (Old w) w l vs []
 | [],[],_=>⟨rfl,rfl⟩
 | _ :: _,v :: vs,h=>⟨[v],vs,[],[],rfl,rfl,h.1,Zh8.elems h.2⟩
 | [],_ :: _,h=>h.elim
 | _ :: _,[],h=>h.elim
theorem M.rawLt {b : Nat} {cs : List Value} {pre post : List Item} (h : M St w0 w (pre ++ raw b cs :: post)) : b < w.heap.size:=by
 obtain ⟨fp,⟨rfl,_⟩,h1⟩:=h.get
 exact h1 b (by simp)
theorem Ac {α : Type} [Rep α] {l : List α} {vs : List Value} {b m : Nat} (hA : At w b 0 vs) (hb : b < w.heap.size) (h : Zh8 w l vs) (hm : l.length = m) : Ro w l [.slice (some ⟨b,0,none⟩) m m]:=by
 subst hm
 exact ⟨some ⟨b,0,none⟩,l.length,rfl,Nat.le_refl _,λ_=>rfl,vs,[],h.elems,hA,.inl ⟨λ_=>hb,rfl⟩⟩

def JS {α : Type} (N : Nat) (l : List α) : Option (Vector α N):=if h : N ≤ l.length then some ⟨(l.take N).toArray,by simp [h]⟩ else none
theorem J0 {α : Type} {N : Nat} {l : List α} {v : Vector α N} (h : JS N l = some v) : N ≤ l.length ∧ v.toList = l.take N:=by
 unfold JS at h
 split at h
 ·rename_i h0
  simp only [Option.some.injEq] at h
  subst h
  exact ⟨h0,rfl⟩
 cases h
theorem jo {α : Type} [Rep α] {S : Nat → Prop} {l : List α} {fp : List Nat} {N el : Nat} (h : Env n a e) (hw : Goes ops ⟨some d,.sliceToArrayPointer t x,ty,pos,af,g⟩ a) (hd : d < n) (hx : opv e x = some v)
  (ht : P.underlying t = some (.array N el)) (hs : Rep.sat S w l [v] fp) (hN : N ≤ l.length) (h0 : 0 < N)
  (k : ∀ a,Env n a ((d,ptr (sb v) (so v)) :: e) → wpList P ops Q rest a w) : wpList P ops Q (⟨some d,.sliceToArrayPointer t x,ty,pos,af,g⟩ :: rest) a w:=by
 obtain ⟨p,cap,hv,hc,hp⟩:=hs
 simp only [List.cons.injEq,and_true] at hv
 subst hv
 refine XV h hw rfl hd (w':=w) ?_ k
 have hlt : ¬ (l.length < N):=by omega
 cases p with
 | none=>have:=hp.1; omega
 | some q =>
  obtain ⟨h1,_⟩:=hp
  obtain ⟨q1,q2,q3⟩:=q
  have h1:=h1 (by omega)
  simp only at h1
  subst h1
  simp only [execOp,h.ev hx]
  simp [Instr.arrayAt,run_underlying ht,hlt,sb,so]
theorem Zeq {α : Type} [Flat α] : ∀ (l : List α) (k : Nat),XA (l.take k) = (XA l).take (k * Flat.n α)
 | [],k=>by simp [XA]
 | x :: l,0=>by simp [XA]
 | x :: l,k + 1=>by
  rw [List.take_succ_cons,XA,XA,Zeq l k,Nat.add_mul,Nat.one_mul,Nat.add_comm]
  rw [← Flat.len x,List.take_length_add_append]
theorem Za9 {α : Type} [Flat α] {S : Nat → Prop} {l : List α} {fp : List Nat} {N : Nat} {X : Vector α N} (hs : Rep.sat S w l [v] fp) (hX : JS N l = some X) (h0 : 0 < N) : At w (sb v) (so v) (Flat.enc X):=by
 obtain ⟨hN,hl⟩:=J0 hX
 obtain ⟨p,cap,hv,hc,hp⟩:=hs
 simp only [List.cons.injEq,and_true] at hv
 subst hv
 cases p with
 | none=>have:=hp.1; omega
 | some q =>
  obtain ⟨h1,ecs,fpe,h2,h3,_⟩:=hp
  obtain ⟨rfl,_⟩:=XG.1 h2
  have h1:=h1 (by omega)
  obtain ⟨q1,q2,q3⟩:=q
  simp only at h1
  subst h1
  show At w q1 q2 (XA X.toList)
  rw [hl,Zeq]
  intro i c hi
  refine h3 i c ?_
  rw [List.getElem?_take] at hi
  split at hi
  ·exact hi
  ·cases hi

theorem YA.takeF {α : Type} [Rep α] {S : Nat → Prop} {w : World} : ∀ {l : List α} {cs : List Value} {fp : List Nat} (k : Nat),YA S w l cs fp → ∃ f g,fp = f ++ g ∧ YA S w (l.take k) (cs.take (k * Rep.n α)) f
 | l,cs,fp,0,h=>⟨[],fp,rfl,by simp [YA]⟩
 | [],cs,fp,k + 1,h=>by obtain ⟨rfl,rfl⟩:=h; exact ⟨[],[],rfl,by simp [YA]⟩
 | x :: l,cs,fp,k + 1,h=>by
  obtain ⟨c,cs',f,fp',rfl,rfl,h1,h2⟩:=h
  obtain ⟨f1,g1,rfl,h3⟩:=YA.takeF k h2
  refine ⟨f ++ f1,g1,by simp,?_⟩
  rw [List.take_succ_cons,Nat.add_mul,Nat.one_mul,Nat.add_comm,show Rep.n α + k * Rep.n α = c.length + k * Rep.n α by rw [Rep.len h1],List.take_length_add_append]
  exact ⟨c,_,f,f1,rfl,rfl,h1,h3⟩
theorem UO.cut {α : Type} [Rep α] {S : Nat → Prop} {l r : List α} {fp : List Nat} {j : Int} (h : UO S w l v fp) (hb : slc l 0 j = some r) : ∃ fp',UO S w r (ZV v (0 : Int).toNat j.toNat (Rep.n α)) fp' ∧ fp'.Sublist fp:=by
 obtain ⟨⟨_,h1,h2⟩,rfl⟩:=jb hb
 obtain ⟨p,cap,rfl,hc,h⟩:=h
 have e0 : (0 : Int).toNat = 0:=rfl
 have hlen : ((l.take j.toNat).drop 0).length = j.toNat:=by simp; omega
 rw [e0,List.drop_zero] at *
 rcases h with ⟨rfl,rfl,hp⟩ | ⟨b,o,ecs,fpe,rfl,k1,k2,rfl,k3⟩
 ·have : j.toNat = 0:=by omega
  rw [this] at *
  refine ⟨[],⟨p,0,by simp [ZV],by simp,.inl ⟨rfl,rfl,hp⟩⟩,List.nil_sublist _⟩
 obtain ⟨f,g,rfl,k4⟩:=YA.takeF j.toNat k1
 have hadd : (if cap = 0 then some (⟨b,o,none⟩ : Addr) else some ((⟨b,o,none⟩ : Addr).add (0 * Rep.n α))) = some ⟨b,o,none⟩:=by
  split
  ·rfl
  ·rw [Addr.add_lit]; simp
 refine ⟨b :: f,⟨some ⟨b,o,none⟩,cap,?_,by rw [hlen]; omega,.inr ⟨b,o,_,f,rfl,k4,λi c hi=>k2 i c ?_,rfl,k3⟩⟩,by simp⟩
 ·simp only [ZV,Option.map_some,hlen,Nat.sub_zero,hadd]
 rw [List.getElem?_take] at hi
 split at hi
 ·exact hi
 cases hi
theorem M.cut {α : Type} [Rep α] {S : Nat → Prop} {l r : List α} {j : Int} (hM : M St w0 w (osl S l v :: its)) (hS : ∀ b,S b → St b) (hb : slc l 0 j = some r) : M St w0 w (osl S r (ZV v (0 : Int).toNat j.toNat (Rep.n α)) :: its):=by
 refine hM.turn (new:=[osl S r _]) rfl rfl rfl (Nat.le_refl _) ?_
 intro fp hfp _ hnd
 obtain ⟨fp',h1,h2⟩:=UO.cut hfp hb
 exact ⟨λ_ _ _=>rfl,fp',⟨fp',[],by simp,TP hS,h1,rfl⟩,h2.nodup hnd,λb hb=>.inl (h2.subset hb)⟩

theorem Zh9 {el : TypeId} (h : Env n a e) (hw : Goes ops ⟨some d,.call ⟨.builtin .cap,[x].toArray,[t].toArray⟩,ty,pos,af,g⟩ a) (hd : d < n)
  (hx : opv e x = some (.slice none 0 0)) (ht : P.underlying t = some (.slice el))
  (k : ∀ a,Env n a ((d,vI 0) :: e) → wpList P ops Q rest a w) : wpList P ops Q (⟨some d,.call ⟨.builtin .cap,[x].toArray,[t].toArray⟩,ty,pos,af,g⟩ :: rest) a w :=
 XV h hw rfl hd (by
  simp only [execOp,resolve]
  simp [invoke,builtin,h.ev hx,Builtin.cap_,run_underlying ht,goInt]) k
theorem Zhf {el : TypeId} (h : Env n a e) (hw : Goes ops ⟨some d,.call ⟨.builtin .len,[x].toArray,[t].toArray⟩,ty,pos,af,g⟩ a) (hd : d < n)
  (hx : opv e x = some (.slice none 0 0)) (ht : P.underlying t = some (.slice el))
  (k : ∀ a,Env n a ((d,vI 0) :: e) → wpList P ops Q rest a w) : wpList P ops Q (⟨some d,.call ⟨.builtin .len,[x].toArray,[t].toArray⟩,ty,pos,af,g⟩ :: rest) a w :=
 Q7 (l:=([] : List Int)) h hw hd hx ht (J9 (S:=NoB)) k
theorem Zji {el sz by_ : Nat} {z : List Value} {D : TypeDesc} {hi : Operand} {K : IntKind} (h : Env n a e) (hw : Goes ops ⟨some d,.slice t x none (some hi) none,ty,pos,af,g⟩ a) (hd : d < n)
  (hx : opv e x = some (.slice none 0 0)) (hhi : opv e hi = some (.int K 0)) (ht : P.underlying t = some (.slice el)) (he : Ty P el D sz by_ z)
  (k : ∀ a,Env n a ((d,.slice none 0 0) :: e) → wpList P ops Q rest a w) : wpList P ops Q (⟨some d,.slice t x none (some hi) none,ty,pos,af,g⟩ :: rest) a w :=
 Uk (l:=([] : List Int)) (r:=[]) (vlo:=none) (vhi:=some (.int K 0)) (i:=0) (j:=0) h hw hd hx rfl (Ju hhi) rfl rfl ht he (J9 (S:=NoB)) rfl k
theorem Zet (z : Array Value) (m : Nat) : (Builtin.zeroCells z m).toList = (List.replicate m z.toList).flatten:=by
 have:=Zen z.toList m
 rw [← this]
 simp [Builtin.zeroCells,madeCells]
theorem Zm8 {α : Type} [Rep α] {K : IntKind} {c : Int} {tn el : TypeId} {kn : IntKind} {D : TypeDesc} {by_ : Nat} {z : List Value} {zero : α} {l : List α}
  (h : Env n a e) (hM : M St w0 w its) (hw : Goes ops ⟨some d,.call ⟨.builtin .append,[x,y].toArray,[t,tn].toArray⟩,ty,pos,af,g⟩ a) (hd : d < n) (hx : opv e x = some (.slice none 0 0)) (hy : opv e y = some (.int K c))
  (ht : P.underlying t = some (.slice el)) (htn : P.underlying tn = some (.int kn)) (he : Ty P el D (Rep.n α) by_ z) (hzl : z.length = Rep.n α) (h0 : 0 < by_) (hn : 0 < Rep.n α) (hz : ∀ w,Rep.sat NoB w zero z []) (hb : mkS by_ zero c = some l)
  (k : ∀ v' w a,M St w0 w (osl NoB l v' :: its) → Env n a ((d,v') :: e) → wpList P ops Q rest a w) : wpList P ops Q (⟨some d,.call ⟨.builtin .append,[x,y].toArray,[t,tn].toArray⟩,ty,pos,af,g⟩ :: rest) a w:=by
 unfold mkS at hb
 split at hb
 case isFalse=>cases hb
 rename_i hc
 obtain ⟨hc0,hcb⟩:=hc
 simp only [Option.some.injEq] at hb
 subst hb
 obtain ⟨i,zv,hi,hsz,hby,hzz,hzc⟩:=he.get
 have hcb' : c ≤ 140737488355328:=by
  have : c * 1 ≤ c * by_:=Int.mul_le_mul_of_nonneg_left (by omega) hc0
  omega
 obtain ⟨m,rfl⟩ : ∃ m : Nat,c = m:=⟨c.toNat,by omega⟩
 rw [Int.toNat_natCast] at *
 have hmb : m * by_ ≤ 140737488355328:=by
  have : ((m * by_ : Nat) : Int) ≤ 140737488355328:=by rw [Int.natCast_mul]; exact hcb
  omega
 by_cases hm : m = 0
 ·subst hm
  refine XV h hw rfl hd (v:=.slice none 0 0) (w':=w) ?_ λa ha=>k _ _ _ (M.nilS NoB noB hM) ha
  simp only [execOp,resolve]
  simp [invoke,builtin,h.ev hx,h.ev hy,Builtin.append_,run_underlying ht,run_underlying htn,sizeOf,typeInfo,hi,asInt,asIntOf,IntKind.wrap_i64]
 have hr:=Lib.run_append_nil_zeros (P:=P) w t tn ty el i zv K kn ht htn hi hzz m (by omega) (by rw [hsz]; omega) (by omega) (by rw [hby]; omega)
 have hgc:=grownCap_ge w m 0 el
 refine XV h hw rfl hd (v:=.slice (some ⟨w.heap.size,0,none⟩) m (grownCap w m 0 el)) (w':=w.drew.alloc (.cells (Builtin.zeroCells zv.cells m ++ Builtin.zeroCells zv.cells (grownCap w m 0 el - m)) el)) (by simp only [execOp,resolve]; simp [invoke,builtin,h.ev hx,h.ev hy,hr]) λa ha=>k _ _ _ ?_ ha
 have Ab : Builtin.zeroCells zv.cells m ++ Builtin.zeroCells zv.cells (grownCap w m 0 el - m) = ((List.replicate m z).flatten ++ (List.replicate (grownCap w m 0 el - m) z).flatten).toArray:=by
  apply Array.ext'
  rw [Array.toList_append,Zet,Zet,hzc]
 rw [Ab]
 have hnew:=heap_alloc_new w.drew (.cells ((List.replicate m z).flatten ++ (List.replicate (grownCap w m 0 el - m) z).flatten).toArray el)
 have hat:=At.of_heap hnew
 rw [At.append] at hat
 refine (hM.drew).add (new:=[osl NoB (List.replicate m zero) _]) (Kept.alloc _ _) ⟨[w.heap.size],⟨[w.heap.size],[],rfl,TP (λ_ h=>h),⟨some ⟨w.heap.size,0,none⟩,grownCap w m 0 el,by simp,by simpa using hgc,.inr ⟨w.heap.size,0,_,[],rfl,Hq (hz _) _,hat.1,rfl,?_⟩⟩,rfl⟩,by simp,λb hb=>by simp at hb; subst hb; exact ⟨Nat.le_refl _,by simp⟩⟩
 refine ⟨_,el,(0,0),hnew,?_,by intro j _; simp⟩
 have e1 : ∀ q : Nat,((List.replicate q z).flatten).length = q * Rep.n α:=λq=>by simp [hzl]
 rw [List.size_toArray,List.length_append,e1,e1,← Nat.add_mul,Nat.zero_add,show m + (grownCap w m 0 el - m) = grownCap w m 0 el by omega]
 exact Nat.le_refl _
end
theorem Zod (p q : Int) (h : 0 ≤ q) : shV .shr .u64 p q = some (vU (Qp p q)):=by simp [shV,Int.not_lt.2 h,Qp,IntKind.bits]
section
variable {n : Nat} {a : Act} {e : List (Nat × Value)} {w w' : World} {P : Program} {ops : Array Oper} {rest : List Oper} {Q : Exit → Act → World → Prop}
variable {d : Nat} {ty t : TypeId} {pos : String} {af : Array Edge} {g : Option (Nat × Bool)} {x y : Operand} {v u : Value}
variable {St : Nat → Prop} {w0 : World} {its : List Item}
theorem XN.locs : ∀ {l : List Item} {fp : List Nat},XN St w l fp → ∀ it ∈ l,Loc St it
 | [],_,_,_,h=>by cases h
 | i :: l,_,⟨_,_,_,h1,_,h2⟩,it,h=>by
  rcases List.mem_cons.1 h with rfl | h
  ·exact h1
  ·exact XN.locs h2 it h
theorem XN.reloc2 {St' : Nat → Prop} : ∀ {l : List Item} {fp : List Nat},XN St' w l fp → (∀ it ∈ l,Loc St it) → XN St w l fp
 | [],_,h,_=>h
 | i :: l,_,⟨f,f',e,_,h1,h2⟩,hl=>⟨f,f',e,hl i (by simp),h1,XN.reloc2 h2 λit h=>hl it (by simp [h])⟩
theorem M.freeze {α : Type} [Rep α] {S : Nat → Prop} {x : α} {cs : List Value} (tk : List Item) {rest : List Item} (h : M St w0 w (own S x cs :: (tk ++ rest))) (hS : ∀ b,S b → St b) :
  ∃ St',(∀ b,St b → St' b) ∧ Rep.sat St' w x cs [] ∧ M St' w w (tk ++ rest) ∧ ∀ w' new,Zdg new → M St' w w' (new ++ rest) → M St w0 w' (own S x cs :: (new ++ rest)):=by
 obtain ⟨hk,hs,fp,⟨f,g,rfl,hl,h1,h2⟩,hnd,hlt⟩:=h
 obtain ⟨n1,n2,n3⟩:=List.nodup_append.1 hnd
 refine ⟨λb=>St b ∨ b ∈ f,λb hb=>.inl hb,Rep.ro h1 (λb hb=>hb.elim .inr λh=>.inl (hS b h)),⟨Kept.refl _ _,?_,g,h2.mono (λb hb=>.inl hb),n2,λb hb=>⟨?_,(hlt b (by simp [hb])).2⟩⟩,?_⟩
 ·rintro b (hb | hb)
  ·exact Nat.lt_of_lt_of_le (hs b hb) hk.size
  exact (hlt b (by simp [hb])).2
 ·rintro (hb' | hb')
  ·exact (hlt b (by simp [hb])).1 hb'
  exact n3 b hb' b hb rfl
 rintro w' new hnew ⟨k1,k2,gp,k3,k4,k5⟩
 refine ⟨hk.trans (k1.mono λb hb=>.inl hb),hs,f ++ gp,?_,?_,?_⟩
 ·refine ⟨f,gp,rfl,Xl hS,Rep.loc h1 (λb hb=>k1.block b (hb.elim .inr λh=>.inl (hS b h))),k3.reloc2 λit hit=>?_⟩
  rcases List.mem_append.1 hit with hit | hit
  ·exact (hnew it hit).mono noB
  exact h2.locs it (List.mem_append_right _ hit)
 ·refine List.nodup_append.2 ⟨n1,k4,λa ha b hb e=>?_⟩
  subst e
  exact (k5 a hb).1 (.inr ha)
 intro b hb
 rcases List.mem_append.1 hb with hb | hb
 ·exact ⟨(hlt b (by simp [hb])).1,Nat.lt_of_lt_of_le (hlt b (by simp [hb])).2 k1.size⟩
 exact ⟨λh=>(k5 b hb).1 (.inl h),(k5 b hb).2⟩
theorem M.rdw {β : Type} [Rep β] {St' : Nat → Prop} {x : β} {cs : List Value} (h : M St w0 w its) (hx : Rep.sat St w0 x cs []) (hs : ∀ b,St b → St' b) : Rep.sat St' w x cs [] :=
 Rep.ro (h.rd hx) λb hb=>hb.elim (λh=>by cases h) (hs b)
def LitSat {α : Type} [Rep α] (S : Nat → Prop) (w : World) : List α → List Value → Prop
 | [],[]=>True
 | x :: l,v :: vs=>Rep.sat S w x [v] [] ∧ LitSat S w l vs
 | _,_=>False
end
end
section
open Go

def litP (v : Value) (m : Nat) (vs : List Value) : Item:=λw fp=>∃ b,v = .slice (some ⟨b,0,none⟩) m m ∧ raw b vs w fp
def mkL (i : Nat) (ds : List Nat) (m : Nat) (f : List Value → List Value) : List Nat × (List Bool → List Value → Item):=(i :: ds,λbs us=>opt (bs.headD false) (litP (us.headD undef) m (f us.tail)))
section
variable {St : Nat → Prop} {w0 w : World} {its pre post : List Item} {mk : Mk} {D : Nat → Bool} {u : Nat → Value} {i k m b : Nat} {ds : List Nat} {v : Value} {vs : List Value} {f : List Value → List Value}
theorem Zno {St : Nat → Prop} : Loc St (litP v m vs):=λw w' fp ⟨b,e,k⟩ hb=>⟨b,e,XR w w' fp k hb⟩
theorem emL : ∀ us,(mkL i ds m f).2 ((mkL i ds m f).1.map λ_=>false) us = Go.Proofs.YtfhhlkkhcoaapaaGreat.emp:=λ_=>by simp [mkL,zJ]
theorem litE (hD : D i = false) : (mkL i ds m f).2 ((mkL i ds m f).1.map D) ((mkL i ds m f).1.map u) = Go.Proofs.YtfhhlkkhcoaapaaGreat.emp:=by simp [mkL,hD,zJ]
theorem M.litOff (h : M St w0 w (its ++ qL (mk ++ [mkL i ds m f]) D u)) (hD : D i = false) : M St w0 w (its ++ qL mk D u):=by
 rw [J3,litE hD] at h
 have h2 : M St w0 w ((its ++ qL mk D u) ++ Go.Proofs.YtfhhlkkhcoaapaaGreat.emp :: []):=by simpa [qL] using h
 simpa using h2.pl.drop
theorem M.litOn (h : M St w0 w (its ++ qL mk (XY D k) (V0 u k v))) (hD : D i = false) (hk : i ≠ k) : M St w0 w (its ++ qL (mk ++ [mkL i ds m f]) (XY D k) (V0 u k v)):=by
 rw [J3,litE (by simp [XY,hk,hD])]
 have h2:=M.push (pre:=its ++ qL mk (XY D k) (V0 u k v)) (post:=[]) (it:=Go.Proofs.YtfhhlkkhcoaapaaGreat.emp) (by simpa using h.emp)
 simpa [qL] using h2
theorem M.litFill (h : M St w0 w (raw b (f (ds.map u)) :: (its ++ qL (mk ++ [mkL i ds m f]) D u))) (hi : ((mk ++ []).all λp=>p.1.all λk=>k != i) = true) (hD : D i = false) (hd : (ds.all λk=>k != i) = true) :
  M St w0 w (its ++ qL (mk ++ [mkL i ds m f]) (XY D i) (V0 u i (.slice (some ⟨b,0,Option.none⟩) m m))):=by
 have hne : i ∉ ds:=λhm=>by have:=List.all_eq_true.1 hd i hm; simp at this
 have h' : M St w0 w (litP (.slice (some ⟨b,0,Option.none⟩) m m) m (f (ds.map u)) :: (its ++ qL (mk ++ [mkL i ds m f]) D u)):=h.pack1 Zno λfp k=>⟨b,rfl,k⟩
 refine M.qPut (mk1:=mk) (mk2:=[]) h' hi (litE hD) ?_
 obtain ⟨e1,e2⟩:=qU (D:=D) (u:=u) (v:=.slice (some ⟨b,0,Option.none⟩) m m) hne
 simp only [mkL,List.map_cons,e2]
 simp [XY,V0,yQ]
theorem M.litOpen (h : M St w0 w (litP v m vs :: its)) : ∃ b,v = .slice (some ⟨b,0,Option.none⟩) m m ∧ M St w0 w (raw b vs :: its):=by
 obtain ⟨fp,⟨b,hb,_⟩,_⟩:=h.head
 exact ⟨b,hb,h.pack1 XR λfp ⟨b',e',k⟩=>by rw [hb] at e'; simp at e'; subst e'; exact k⟩
end

def prm (a b : Bool) (x y : Item) : Item:=if b = true then y else opt a x
def mkP (j i : Nat) (f g : Value → Item) : List Nat × (List Bool → List Value → Item):=([j,i],λbs us=>prm (bs.headD false) (bs.getD 1 false) (f (us.headD undef)) (g (us.getD 1 undef)))
section
variable {St : Nat → Prop} {w0 w : World} {its pre post : List Item} {mk1 mk2 : Mk} {D : Nat → Bool} {u : Nat → Value} {i j : Nat} {v : Value} {a b : Bool} {x y : Item} {f g : Value → Item}
end
def mkD (i s k : Nat) (z : List Value) (f : Value → List Value) : List Nat × (List Bool → List Value → Item):=([i,s,k],λbs us=>Bo (bs.headD false) (bs.getD 1 false) (us.headD undef) z (f (us.getD 2 undef)))
section
variable {St : Nat → Prop} {w0 w : World} {its : List Item} {mk1 mk2 : Mk} {D : Nat → Bool} {u : Nat → Value} {i s k b : Nat} {v : Value} {z c c' : List Value} {f : Value → List Value}
theorem emD : ∀ us,(mkD i s k z f).2 ((mkD i s k z f).1.map λ_=>false) us = Go.Proofs.YtfhhlkkhcoaapaaGreat.emp:=λ_=>rfl
theorem M.recell (h : M St w0 w (raw b c :: its)) (e : c = c') : M St w0 w (raw b c' :: its):=e ▸ h
theorem M.dOff (h : M St w0 w (its ++ qL (mk1 ++ mkD i s k z f :: mk2) D u)) (hs : D s = false) : M St w0 w (its ++ qL (mk1 ++ mkC i s z [] :: mk2) D u):=by
 have e : qL (mk1 ++ mkD i s k z f :: mk2) D u = qL (mk1 ++ mkC i s z [] :: mk2) D u:=by
  rw [J3,J3]
  simp [mkD,mkC,Bo,hs]
 rwa [e] at h
theorem M.dOn (h : M St w0 w (its ++ qL (mk1 ++ mkC i s z [] :: mk2) (XY D k) (V0 u k v))) (hs : D s = false) (hne : s ≠ k) : M St w0 w (its ++ qL (mk1 ++ mkD i s k z f :: mk2) (XY D k) (V0 u k v)):=by
 have e : qL (mk1 ++ mkD i s k z f :: mk2) (XY D k) (V0 u k v) = qL (mk1 ++ mkC i s z [] :: mk2) (XY D k) (V0 u k v):=by
  rw [J3,J3]
  simp [mkD,mkC,Bo,XY,hs,hne]
 rwa [e]
theorem M.qAllocD (h : M St w0 w (raw b z :: (its ++ qL (mk1 ++ mkD i s k z f :: mk2) D u))) (hi : ((mk1 ++ mk2).all λp=>p.1.all λk=>k != i) = true) (hD : D i = false) (hs : D s = false) (hne : s ≠ i) :
  M St w0 w (its ++ qL (mk1 ++ mkD i s k z f :: mk2) (XY D i) (V0 u i (ptr b 0))):=by
 have h' : M St w0 w (Th (ptr b 0) z :: (its ++ qL (mk1 ++ mkD i s k z f :: mk2) D u)):=h.pack1 (λw w' fp ⟨b',e,k⟩ hb=>⟨b',e,XR w w' fp k hb⟩) λfp k=>⟨b,rfl,k⟩
 refine M.qPut h' hi (by simp [mkD,hD,Bo]) ?_
 simp [mkD,XY,V0,Bo,hne,hs]
theorem M.qStoreD (h : M St w0 w (raw b (f (u k)) :: (its ++ (qL mk1 D u ++ qL mk2 D u)))) (hi : ((mk1 ++ mk2).all λp=>p.1.all λk=>k != s) = true) (hj : D i = true) (hb : u i = ptr b 0) (hne : i ≠ s) (hk : k ≠ s) :
  M St w0 w (its ++ qL (mk1 ++ mkD i s k z f :: mk2) (XY D s) (V0 u s v)):=by
 have hne':=noti hi
 rw [J3,HS (λp hp=>hne' p (List.mem_append_left _ hp)),HS (λp hp=>hne' p (List.mem_append_right _ hp))]
 have e : (mkD i s k z f).2 ((mkD i s k z f).1.map (XY D s)) ((mkD i s k z f).1.map (V0 u s v)) = Th (ptr b 0) (f (u k)):=by
  simp [mkD,XY,V0,Bo,hne,hj,hb,hk]
 rw [e]
 have h' : M St w0 w (Th (ptr b 0) (f (u k)) :: (its ++ (qL mk1 D u ++ qL mk2 D u))):=h.pack1 (λw w' fp ⟨b',e,k⟩ hb=>⟨b',e,XR w w' fp k hb⟩) λfp k=>⟨b,rfl,k⟩
 have h5 : M St w0 w (Th (ptr b 0) (f (u k)) :: ((its ++ qL mk1 D u) ++ qL mk2 D u)):=by simpa using h'
 simpa using M.push h5
end
theorem M.rawOsl {α : Type} [Flat α] {St : Nat → Prop} {w0 w : World} {its : List Item} {N b : Nat} {v : Vector α N} (h : M St w0 w (raw b (Flat.enc v) :: its)) : M St w0 w (osl NoB v.toList (.slice (some ⟨b,0,Option.none⟩) N N) :: its) :=
 h.pack1 (TP noB) λfp ⟨e,T,hh⟩=>by
  refine ⟨some ⟨b,0,Option.none⟩,N,by simp,by simp,.inr ⟨b,0,Flat.enc v,[],rfl,XG.2 ⟨rfl,rfl⟩,At.of_heap hh,e,⟨_,T,(0,0),hh,?_,λi _ hi=>by omega⟩⟩⟩
  have h1 : (Flat.enc v).toArray.size = N * Rep.n α:=Flat.len v
  rw [h1]; omega
theorem flq {α : Type} [Flat α] {x y : α} : (Flat.enc x).length = (Flat.enc y).length:=(Flat.len x).trans (Flat.len y).symm
theorem zle {a b : Nat} (h : a = b) : 0 + a ≤ b:=by omega
theorem bvx {α β : Type} {N : Nat} {v : Vector α N} {i : Int} {f : α → Option β} {r : β} (h : (ZP v i).bind f = some r) : ∃ x,((0 ≤ i ∧ i < N) ∧ v.toList[i.toNat]? = some x) ∧ f x = some r:=by
 obtain ⟨x,e,h⟩:=bind_some h
 exact ⟨x,Zng e,h⟩
theorem bix {α β : Type} {l : List α} {i : Int} {f : α → Option β} {r : β} (h : (idx l i).bind f = some r) : ∃ x,((0 ≤ i ∧ i < l.length) ∧ l[i.toNat]? = some x) ∧ f x = some r:=by
 obtain ⟨x,e,h⟩:=bind_some h
 exact ⟨x,Zpm e,h⟩
theorem ois {α : Type} {x y : α} (h : some x = some y) : y = x:=(Option.some.inj h).symm
theorem nbl {a b : Nat} (h : Nat.ble a b = true) : a ≤ b:=Nat.le_of_ble_eq_true h
theorem ld {d n : Nat} (h : d < n:=by decide) : d < n:=h
theorem Aq {p : Value → Prop} : ∀ v ∈ ([] : List Value),p v:=λ_ h=>by cases h
theorem WL {p : Value → Prop} {x : Value} {l : List Value} (h : p x) (hs : ∀ v ∈ l,p v) : ∀ v ∈ x :: l,p v:=λv hv=>by
 rcases List.mem_cons.1 hv with rfl | hv
 ·exact h
 ·exact hs v hv

def cmpB : List UInt8 → List UInt8 → Int
 | [],[]=>0
 | [],_ :: _=>-1
 | _ :: _,[]=>1
 | x :: l,y :: m=>if x < y then -1 else if y < x then 1 else cmpB l m
section
variable {n : Nat} {a : Act} {e : List (Nat × Value)} {w w' : World} {P : Program} {ops : Array Oper} {rest : List Oper} {Q : Exit → Act → World → Prop}
variable {d : Nat} {ty t : TypeId} {pos : String} {af : Array Edge} {g : Option (Nat × Bool)} {x y : Operand} {v u : Value}
end
end
section
open Go

theorem Znj {P : Program} {t : TypeId} {v : Value} (h : (P.info? t).bind (·.zero) = some v) (w : World) : (zeroValue t).run P w = .ok v w:=by
 obtain ⟨i,h1,h2⟩:=Option.bind_eq_some_iff.1 h
 simp [zeroValue,typeInfo,h1,h2]
def X7 {κ α : Type} [DecidableEq κ] : List (κ × α) → κ → Option α
 | [],_=>none
 | p :: m,k=>if p.1 = k then some p.2 else X7 m k
def KR {κ α : Type} [DecidableEq κ] : List (κ × α) → κ → α → List (κ × α)
 | [],k,x=>[(k,x)]
 | p :: m,k,x=>if p.1 = k then (k,x) :: m else p :: KR m k x
def KL {κ : Type} [DecidableEq κ] : List κ → List MapEntry → Nat → κ → Option (Nat × Value)
 | x :: ks,e :: es,i,k=>if x = k then some (i,e.val) else KL ks es (i + 1) k
 | _,_,_,_=>none
structure KeyOk (P : Program) (t : TypeId) {κ : Type} [DecidableEq κ] (kv : κ → Value) : Prop where
 check : ∀ (e : Bool) (w : World) (k : κ),(Instr.checkKey e 10000 t (kv k)).run P w = .ok () w
 find : ∀ (w : World) (k : κ) (ks : List κ) (es : List MapEntry),es.map (·.key) = ks.map kv → (Instr.findKey t (kv k) es).run P w = .ok (KL ks es 0 k) w
 same : ∀ k,Instr.sameBits 10000 (kv k) (kv k) = true
theorem qf {K : IntKind} : ∀ (ks : List Int) (es : List MapEntry) (i : Nat) (k : Int),es.map (·.key) = ks.map (Value.int K) → Instr.findNow (.int K) (.int K k) es i = some (KL ks es i k)
 | [],[],_,_,_=>rfl
 | [],_ :: _,_,_,h=>by simp at h
 | _ :: _,[],_,_,h=>by simp at h
 | x :: ks,e :: es,i,k,h=>by
  simp only [List.map_cons,List.cons.injEq] at h
  unfold Instr.findNow
  rw [h.1]
  simp only [Instr.sameNow,if_true,KL]
  by_cases hx : x = k
  ·subst hx; simp
  ·have : (k == x) = false:=by simpa using λh=>hx h.symm
   rw [this,if_neg hx]
   exact qf ks es (i + 1) k h.2
theorem HK {P : Program} {t : TypeId} {K : IntKind} (h : P.underlying t = some (.int K)) : KeyOk P t (Value.int K) where
 check:=λe w k=>MapKept.run_checkKey h (by first | trivial | rfl | simp [MapKept.IsKey]) e 9999
 find:=λw k ks es he=>by simp [Instr.findKey,run_underlying h,qf ks es 0 k he]
 same:=λk=>by show (K == K && k == k) = true; simp

structure ElOk {α : Type} (S : Nat → Prop) (E : World → α → Value → List Nat → Prop) : Prop where
 loc : ∀ {w w' : World} {x : α} {u : Value} {f : List Nat},E w x u f → (∀ b,(b ∈ f ∨ S b) → w'.heap[b]? = w.heap[b]?) → E w' x u f
 lt : ∀ {w : World} {x : α} {u : Value} {f : List Nat},E w x u f → ∀ b ∈ f,b < w.heap.size
def satE {α : Type} [Rep α] (S : Nat → Prop) : World → α → Value → List Nat → Prop:=λw x u f=>Rep.sat S w x [u] f
def oslE {α : Type} [Rep α] (S : Nat → Prop) : World → List α → Value → List Nat → Prop:=λw l u f=>UO S w l u f
def Qd {κ α : Type} (kv : κ → Value) (E : World → α → Value → List Nat → Prop) (w : World) : List (κ × α) → List MapEntry → List Nat → Prop
 | [],es,fp=>es = [] ∧ fp = []
 | p :: m,es,fp=>∃ e es' f fp',es = e :: es' ∧ fp = f ++ fp' ∧ e.key = kv p.1 ∧ E w p.2 e.val f ∧ Qd kv E w m es' fp'
def Q3 (es : List MapEntry) (clock : Nat) : Prop:=es.Pairwise (λa b=>a.born < b.born) ∧ ∀ e ∈ es,e.born < clock
def U1 {κ α : Type} (kv : κ → Value) (E : World → α → Value → List Nat → Prop) (m : List (κ × α)) (b : Nat) : Item:=λw fp =>
 ∃ es clock fpe,w.heap[b]? = some (.map es clock) ∧ Qd kv E w m es.toList fpe ∧ Q3 es.toList clock ∧ fp = b :: fpe
def mapH {κ α : Type} [DecidableEq κ] (kv : κ → Value) (E : World → α → Value → List Nat → Prop) (m : List (κ × α)) (k : κ) (u : Value) (b st : Nat) : Item:=λw fp =>
 ∃ es clock m1 m2 es1 e es2 f1 f2,w.heap[b]? = some (.map es clock) ∧ es.toList = es1 ++ e :: es2 ∧ Qd kv E w m1 es1 f1 ∧ Qd kv E w m2 es2 f2 ∧ e.key = kv k ∧ e.born = st ∧ e.val = u ∧ Q3 es.toList clock ∧
  (∀ x,KR m k x = m1 ++ (k,x) :: m2) ∧ fp = b :: (f1 ++ f2)
section
variable {κ α : Type} {kv : κ → Value} {S St : Nat → Prop} {E : World → α → Value → List Nat → Prop} {w w' w0 : World}
theorem Qd.keys : ∀ {m : List (κ × α)} {es : List MapEntry} {fp : List Nat},Qd kv E w m es fp → es.map (·.key) = (m.map (·.1)).map kv
 | [],_,_,h=>by rw [h.1]; rfl
 | p :: m,_,_,h=>by
  obtain ⟨e,es',f,fp',rfl,_,h1,_,h2⟩:=h
  simp [h1,Qd.keys h2]
theorem Qd.loc (hE : ElOk S E) : ∀ {m : List (κ × α)} {es : List MapEntry} {fp : List Nat},Qd kv E w m es fp → (∀ b,(b ∈ fp ∨ S b) → w'.heap[b]? = w.heap[b]?) → Qd kv E w' m es fp
 | [],_,_,h,_=>h
 | p :: m,_,_,h,hb=>by
  obtain ⟨e,es',f,fp',rfl,rfl,h1,h2,h3⟩:=h
  exact ⟨e,es',f,fp',rfl,rfl,h1,hE.loc h2 (λb h=>hb b (by simp; grind)),Qd.loc hE h3 (λb h=>hb b (by simp; grind))⟩
theorem zc (hE : ElOk S E) {m : List (κ × α)} {b : Nat} (hS : ∀ b,S b → St b) : Loc St (U1 kv E m b):=by
 rintro w w' fp ⟨es,c,fpe,h1,h2,h3,rfl⟩ hb
 exact ⟨es,c,fpe,by rw [hb b (by simp)]; exact h1,h2.loc hE (λk hk=>hb k (by rcases hk with h | h; exact .inl (by simp [h]); exact .inr (hS k h))),h3,rfl⟩
end
section
variable {κ α : Type} [DecidableEq κ] {kv : κ → Value} {S St : Nat → Prop} {E : World → α → Value → List Nat → Prop} {w w' w0 : World} {its : List Item}
theorem A2 : ∀ (ks : List κ) (es : List MapEntry) (i : Nat) (k : κ),KL ks es (i + 1) k = (KL ks es i k).map λp=>(p.1 + 1,p.2)
 | [],_,_,_=>by simp [KL]
 | _ :: _,[],_,_=>by simp [KL]
 | x :: ks,e :: es,i,k=>by
  unfold KL
  by_cases h : x = k
  ·simp [h]
  ·simp [h,A2 ks es (i + 1) k]
theorem yF (k : κ) : ∀ {m : List (κ × α)} {es : List MapEntry} {fp : List Nat},Qd kv E w m es fp →
  (X7 m k = none ∧ KL (m.map (·.1)) es 0 k = none ∧ ∀ x,KR m k x = m ++ [(k,x)]) ∨
  ∃ m1 x0 m2 es1 e es2 f1 f f2,X7 m k = some x0 ∧ KL (m.map (·.1)) es 0 k = some (es1.length,e.val) ∧ es = es1 ++ e :: es2 ∧ fp = f1 ++ (f ++ f2) ∧ Qd kv E w m1 es1 f1 ∧ e.key = kv k ∧ E w x0 e.val f ∧ Qd kv E w m2 es2 f2 ∧
   (∀ x,KR m k x = m1 ++ (k,x) :: m2) ∧ m = m1 ++ (k,x0) :: m2
 | [],_,_,h=>by obtain ⟨rfl,rfl⟩:=h; exact .inl ⟨rfl,rfl,λ_=>rfl⟩
 | p :: m,_,_,h=>by
  obtain ⟨e,es',f,fp',rfl,rfl,h1,h2,h3⟩:=h
  by_cases hk : p.1 = k
  ·refine .inr ⟨[],p.2,m,[],e,es',[],f,fp',by simp [X7,hk],by simp [KL,hk],rfl,rfl,⟨rfl,rfl⟩,by rw [h1,hk],h2,h3,λx=>by simp [KR,hk],by rw [← hk]; rfl⟩
  ·have hf : KL ((p :: m).map (·.1)) (e :: es') 0 k = (KL (m.map (·.1)) es' 0 k).map λq=>(q.1 + 1,q.2):=by
    rw [← A2]; simp [KL,hk]
   rcases yF k h3 with ⟨g1,g2,g3⟩ | ⟨m1,x0,m2,es1,e',es2,f1,f',f2,g1,g2,rfl,rfl,g3,g4,g5,g6,g7,g8⟩
   ·exact .inl ⟨by simp [X7,hk,g1],by rw [hf,g2]; rfl,λx=>by simp [KR,hk,g3]⟩
   ·exact .inr ⟨p :: m1,x0,m2,e :: es1,e',es2,f ++ f1,f',f2,by simp [X7,hk,g1],by rw [hf,g2]; simp,rfl,by simp,⟨e,es1,f,f1,rfl,rfl,h1,h2,g3⟩,g4,g5,g6,λx=>by simp [KR,hk,g7],by rw [g8]; rfl⟩
omit [DecidableEq κ] in
theorem Qd.app : ∀ {m1 m2 : List (κ × α)} {es1 es2 : List MapEntry} {f1 f2 : List Nat},Qd kv E w m1 es1 f1 → Qd kv E w m2 es2 f2 → Qd kv E w (m1 ++ m2) (es1 ++ es2) (f1 ++ f2)
 | [],_,_,_,_,_,h,k=>by obtain ⟨rfl,rfl⟩:=h; exact k
 | p :: m,_,_,_,_,_,h,k=>by
  obtain ⟨e,es',f,fp',rfl,rfl,h1,h2,h3⟩:=h
  exact ⟨e,es' ++ _,f,fp' ++ _,by simp,by simp,h1,h2,Qd.app h3 k⟩
theorem Q3.push {es : List MapEntry} {clock : Nat} (h : Q3 es clock) (k u : Value) : Q3 (es ++ [{ key:=k,val:=u,born:=clock }]) (clock + 1):=by
 refine ⟨List.pairwise_append.2 ⟨h.1,by simp,λa ha b hb=>?_⟩,λe he=>?_⟩
 ·simp at hb; subst hb; exact h.2 a ha
 rcases List.mem_append.1 he with he | he
 ·have:=h.2 e he; omega
 simp at he; subst he; exact Nat.lt_succ_self _
theorem Q3.put {es1 es2 : List MapEntry} {e e' : MapEntry} {clock : Nat} (h : Q3 (es1 ++ e :: es2) clock) (hb : e'.born = e.born) : Q3 (es1 ++ e' :: es2) clock:=by
 obtain ⟨h1,h2⟩:=h
 rw [List.pairwise_append,List.pairwise_cons] at h1
 obtain ⟨a1,⟨a2,a3⟩,a4⟩:=h1
 refine ⟨List.pairwise_append.2 ⟨a1,List.pairwise_cons.2 ⟨λb hb'=>by rw [hb]; exact a2 b hb',a3⟩,λa ha b hb'=>?_⟩,λq hq=>?_⟩
 ·rcases List.mem_cons.1 hb' with rfl | hb'
  ·rw [hb]; exact a4 a ha e (by simp)
  exact a4 a ha b (by simp [hb'])
 rcases List.mem_append.1 hq with hq | hq
 ·exact h2 q (by simp [hq])
 rcases List.mem_cons.1 hq with rfl | hq
 ·rw [hb]; exact h2 e (by simp)
 exact h2 q (by simp [hq])
theorem Zmm {es : Array MapEntry} {es1 es2 : List MapEntry} {e : MapEntry} (g : MapEntry → MapEntry) (h : es.toList = es1 ++ e :: es2) : (es.modify es1.length g).toList = es1 ++ g e :: es2:=by
 rw [Array.toList_modify,h]
 clear h
 induction es1 with
 | nil=>rfl
 | cons x es1 ih=>simpa using ih
theorem get_at {es : Array MapEntry} {es1 es2 : List MapEntry} {e : MapEntry} (h : es.toList = es1 ++ e :: es2) : es[es1.length]? = some e:=by
 rw [← Array.getElem?_toList,h,List.getElem?_append_right (Nat.le_refl _)]; simp
omit [DecidableEq κ] in
theorem M.mapNew (hE : ElOk S E) (hM : M St w0 w its) (hS : ∀ b,S b → St b) : M St w0 (w.alloc (.map #[] 0)) (U1 kv E ([] : List (κ × α)) w.heap.size :: its) :=
 hM.addS (new:=[_]) (Kept.alloc _ _) ⟨[w.heap.size],⟨[w.heap.size],[],rfl,zc hE hS,⟨#[],0,[],heap_alloc_new _ _,⟨rfl,rfl⟩,⟨by simp,by simp⟩,rfl⟩,rfl⟩,by simp,λb hb=>by simp at hb; subst hb; simp⟩
theorem M.mapTurn {it : Item} {new : List Item} {b : Nat} {o : Obj} (hM : M St w0 w (it :: its)) (hin : ∀ fp,it w fp → b ∈ fp)
  (hn : ∀ fp,it w fp → fp.Nodup → (∀ q ∈ fp,¬ St q ∧ q < w.heap.size) → ∃ fp',XN St { w with heap:=w.heap.setIfInBounds b o } new fp' ∧ fp'.Nodup ∧ ∀ q ∈ fp',q ∈ fp) : M St w0 { w with heap:=w.heap.setIfInBounds b o } (new ++ its) :=
 hM.turn (new:=new) rfl rfl rfl (by simp) λfp h1 h2 h3=>by
  obtain ⟨fp',k1,k2,k3⟩:=hn fp h1 h3 h2
  exact ⟨λq hq _=>by simp [show ¬ b = q from λe=>hq (e ▸ hin fp h1)],fp',k1,k2,λq hq=>.inl (k3 q hq)⟩
theorem Zg7 (w : World) (b : Nat) (o : Obj) (h : b < w.heap.size) : ({ w with heap:=w.heap.setIfInBounds b o } : World).heap[b]? = some o:=by simp [h]
theorem kW (w : World) {b q : Nat} (o : Obj) (h : q ≠ b) : ({ w with heap:=w.heap.setIfInBounds b o } : World).heap[q]? = w.heap[q]?:=by simp [Ne.symm h]
end
section
variable {n : Nat} {a : Act} {e : List (Nat × Value)} {w w' : World} {P : Program} {ops : Array Oper} {rest : List Oper} {Q : Exit → Act → World → Prop}
variable {d : Nat} {ty t kt el : TypeId} {pos : String} {af : Array Edge} {g : Option (Nat × Bool)} {x y z : Operand} {v u : Value}
variable {St S : Nat → Prop} {w0 : World} {its pre post : List Item} {κ α : Type} {kv : κ → Value} {m : List (κ × α)} {b : Nat} {E : World → α → Value → List Nat → Prop}
theorem Zd3 (kv : κ → Value) (hE : ElOk S E) (h : Env n a e) (hM : M St w0 w its) (hS : ∀ b,S b → St b) (hw : Goes ops ⟨some d,.makeMap t none,ty,pos,af,g⟩ a) (hd : d < n)
  (k : ∀ b w a,M St w0 w (U1 kv E ([] : List (κ × α)) b :: its) → Env n a ((d,.map (some b)) :: e) → wpList P ops Q rest a w) : wpList P ops Q (⟨some d,.makeMap t none,ty,pos,af,g⟩ :: rest) a w :=
 XV h hw rfl hd (v:=.map (some w.heap.size)) (w':=w.alloc (.map #[] 0)) (by simp only [execOp,Option.map_none]; simp only [Sem.run_bind,show (Instr.makeMap t none).run P w = .ok (.map (some w.heap.size)) (w.alloc (.map #[] 0)) from rfl]; rfl) λa ha=>k _ _ _ (hM.mapNew hE hS) ha
variable [DecidableEq κ]
theorem Zpz (hk : KeyOk P kt kv) (ht : P.underlying t = some (.map kt el)) (hM : M St w0 w (pre ++ U1 kv E m b :: post)) (k : κ) (zv : Value) (hz : (zeroValue el).run P w = .ok zv w) (ok : Bool) :
  ∃ v,(Instr.lookup t (.map (some b)) (kv k) ok).run P w = .ok (if ok then .tuple #[v,.bool (X7 m k).isSome] else v) w ∧
   ((X7 m k = none ∧ v = zv) ∨ ∃ x fp,X7 m k = some x ∧ E w x v fp ∧ ∀ c ∈ fp,c < w.heap.size):=by
 obtain ⟨fp,⟨es,clock,fpe,h1,h2,h3,rfl⟩,hlt⟩:=hM.get
 have hf:=hk.find w k (m.map (·.1)) es.toList h2.keys
 have hc:=hk.check es.isEmpty w k
 rcases yF k h2 with ⟨g1,g2,_⟩ | ⟨m1,x0,m2,es1,e,es2,f1,f,f2,g1,g2,g3,rfl,g4,g5,g6,_,_,_⟩
 ·refine ⟨zv,?_,.inl ⟨g1,rfl⟩⟩
  rw [g2] at hf
  cases ok <;> simp [Instr.lookup,run_underlying ht,MapKept.run_getObj_map h1,hc,hf,hz,g1]
 refine ⟨e.val,?_,.inr ⟨x0,f,g1,g6,λc hc=>hlt c (by simp [hc])⟩⟩
 rw [g2] at hf
 cases ok <;> simp [Instr.lookup,run_underlying ht,MapKept.run_getObj_map h1,hc,hf,g1]
def Zf0 {α : Type} (m : List (κ × α)) (k : κ) (b : Nat) (v : Value) (w : World) : Prop:=∃ es clock,w.heap[b]? = some (.map es clock) ∧ v = ((KL (m.map (·.1)) es.toList 0 k).map (·.2)).getD (.slice none 0 0)
def mapV {α : Type} (kv : κ → Value) (E : World → List α → Value → List Nat → Prop) (m : List (κ × List α)) (l : List α) (v : Value) (b : Nat) : Item:=λw fp=>U1 kv E m b w fp ∧ ∃ k,Zf0 m k b v w ∧ l = (X7 m k).getD []
theorem Zf0.keep {m : List (κ × α)} {k : κ} (h : Zf0 m k b v w) (hk : Kept (Old w) w w') : Zf0 m k b v w':=by
 obtain ⟨es,c,h1,h2⟩:=h
 exact ⟨es,c,(hk.block b (Array.getElem?_eq_some_iff.1 h1).1).trans h1,h2⟩
end
end
section
open Go
section
open Go.RowKit
def qG {α : Type} (f : Nat → α) (k : Nat) : List α:=(List.range k).map f
theorem Zlu {α : Type} (f : Nat → α) (k : Nat) : qG f (k + 1) = qG f k ++ [f k]:=by simp [qG,List.range_succ]
theorem Zhg {α : Type} (f : Nat → α) (k : Nat) : (qG f k).length = k:=by simp [qG]
def KpB (n₀ Bs : Nat) (W W' : World) : Prop:=Below n₀ W W' ∧ W'.heap[Bs]? = W.heap[Bs]?
theorem KpB.trans {n₀ Bs : Nat} {A B C : World} (h : KpB n₀ Bs A B) (k : KpB n₀ Bs B C) : KpB n₀ Bs A C:=⟨h.1.trans k.1,k.2.trans h.2⟩
def Zbd (zs : List UInt8) (k : Nat) : Int × UInt8:=((zs.length : Int) - 1 - k,(zs[zs.length - 1 - k]?.getD 0))
theorem Znd (zs : List UInt8) : (qG (Zbd zs) zs.length).map (·.2) = zs.reverse:=by
 apply List.ext_getElem
 ·simp [qG]
 intro i h1 h2
 have hi : i < zs.length:=by simpa [qG] using h1
 have hj : zs.length - 1 - i < zs.length:=by omega
 simp [qG,Zbd,List.getElem?_eq_getElem hj]
def Byts (n₀ : Nat) (W : World) (p : Option Addr) (zs : List UInt8) : Prop :=
 zs = [] ∨ ∃ b off,p = some ⟨b,off,none⟩ ∧ b < n₀ ∧ ∀ j,j < zs.length → W.cell? ⟨b,off + j,none⟩ = some (.int .u8 (zs[j]?.getD 0).toNat)
theorem Byts.below {n₀ : Nat} {A B : World} (h : Below n₀ A B) {p : Option Addr} {zs : List UInt8} : Byts n₀ A p zs → Byts n₀ B p zs
 | .inl e=>.inl e
 | .inr ⟨b,off,e,hb,hc⟩=>.inr ⟨b,off,e,hb,λj hj=>(h.cell (p:=⟨b,off + j,none⟩) hb).trans (hc j hj)⟩
theorem KeptB {w W : World} (h : Kept (Old w) w W) {n : Nat} (hn : n ≤ w.heap.size) : Below n w W:=⟨h.os,h.tape,h.output,h.size,λk hk=>h.block k (Nat.lt_of_lt_of_le hk hn)⟩
theorem KeptF {w W : World} (h : Kept (Old w) w W) (B : Nat) : KeepsFrom B w W:=⟨h.size,λk o _ hk _=>(h.block k (Array.getElem?_eq_some_iff.1 hk).1).trans hk⟩
theorem Zkg : ∀ (l : List UInt8) (j : Nat),j < l.length → (XA l)[j]? = some (.int .u8 (l[j]?.getD 0).toNat)
 | [],j,h=>by simp at h
 | x :: l,0,_=>rfl
 | x :: l,j + 1,h=>by simpa [XA,Flat.enc] using Zkg l j (by simpa using h)
theorem Zr6 {w : World} {l : List UInt8} {v : Value} (h : Ro w l [v]) : ∃ p cap,v = .slice p l.length cap ∧ Byts w.heap.size w p l:=by
 obtain ⟨p,cap,hv,hc,hp⟩:=h
 simp only [List.cons.injEq,and_true] at hv
 refine ⟨p,cap,hv,?_⟩
 by_cases hl : l = []
 ·exact .inl hl
 cases p with
 | none=>exact absurd (List.eq_nil_of_length_eq_zero (by have:=hp.1; omega)) hl
 | some q =>
  obtain ⟨q1,q2,q3⟩:=q
  obtain ⟨h1,ecs,fpe,h2,h3,h4⟩:=hp
  have h1:=h1 (by have:=List.length_pos_iff.2 hl; omega)
  simp only at h1
  subst h1
  obtain ⟨rfl,rfl⟩:=XG.1 h2
  refine .inr ⟨q1,q2,rfl,?_,λj hj=>h3 j _ ?_⟩
  ·rcases h4 with ⟨h4,_⟩ | ⟨h4,_⟩
   ·exact h4 (by have:=List.length_pos_iff.2 hl; omega)
   ·cases h4
  ·exact Zkg l j hj
end
end
section
open Go
section
variable {P : Program} {St : Nat → Prop} {w0 w : World} {its : List Item} {n : Nat} {a : Act} {e : List (Nat × Value)} {ops : Array Oper} {rest : List Oper} {Q : Exit → Act → World → Prop} {v : Value} {x : Operand} {t ty : TypeId} {pos : String} {af : Array Edge} {g : Option (Nat × Bool)}
def clr {α : Type} (l : List α) (i : Int) (z : α) : Option (List α):=if 0 ≤ i ∧ i < l.length then some (l.take i.toNat ++ List.replicate (l.length - i.toNat) z) else none
end
end
section
open Go
section
variable {n : Nat} {a : Act} {e : List (Nat × Value)} {w w' : World} {P : Program} {ops : Array Oper} {rest : List Oper} {Q : Exit → Act → World → Prop}
variable {d : Nat} {ty t : TypeId} {pos : String} {af : Array Edge} {g : Option (Nat × Bool)} {p q : Operand}
end
section
variable {St : Nat → Prop} {w0 w : World} {its m r : List Item} {mk mk1 mk2 : Mk} {D : Nat → Bool} {u : Nat → Value} {s : Nat} {v : Value} {A B : Item}
theorem tg1 {b : Bool} (h : b = true) : tog b A B = B:=by subst h; rfl
theorem tg0 {b : Bool} (h : b = false) : tog b A B = A:=by subst h; rfl
theorem updK {i j : Nat} (h : D j = true) : XY D i j = true:=by unfold XY; by_cases e : j = i <;> simp [e,h]
theorem updS {i : Nat} : XY D i i = true:=by simp [XY]
theorem updN {i j : Nat} (h : D j = false) (hne : j ≠ i) : XY D i j = false:=by unfold XY; rw [if_neg hne]; exact h
theorem M.tailP (h : M St w0 w (m ++ r)) : M St w0 w (m ++ [qF St r]):=by
 obtain ⟨h1,h2,fp,h3,h4,h5⟩:=h
 obtain ⟨f,g,rfl,k1,k2⟩:=XN.split h3
 exact ⟨h1,h2,_,XN.append k1 (XN.one Zb1 k2),h4,h5⟩
theorem M.tailU (h : M St w0 w (m ++ [qF St r])) : M St w0 w (m ++ r):=by
 obtain ⟨h1,h2,fp,h3,h4,h5⟩:=h
 obtain ⟨f,g,rfl,k1,g1,g2,rfl,_,k2,e⟩:=XN.split h3
 cases e
 rw [List.append_nil] at h4 h5
 exact ⟨h1,h2,_,XN.append k1 k2,h4,h5⟩
theorem M.qS {p : List Nat × (List Bool → List Value → Item)} (h : M St w0 w ((A :: its) ++ qL mk (λ_=>false) u)) (e : ∀ us,p.2 (p.1.map λ_=>false) us = A) : M St w0 w (its ++ qL (p :: mk) (λ_=>false) u):=by
 have h' : M St w0 w (A :: (its ++ qL mk (λ_=>false) u)):=h
 rw [← e (p.1.map u)] at h'
 exact M.push h'
theorem M.qTogS {p : List Nat × (List Bool → List Value → Item)} (h : M St w0 w (B :: (its ++ (qL mk1 D u ++ qL mk2 D u)))) (hi : ((mk1 ++ mk2).all λp=>p.1.all λk=>k != s) = true)
  (e : p.2 (p.1.map (XY D s)) (p.1.map (V0 u s v)) = B) : M St w0 w (its ++ qL (mk1 ++ p :: mk2) (XY D s) (V0 u s v)):=by
 have hne':=noti hi
 rw [J3,HS (λp hp=>hne' p (List.mem_append_left _ hp)),HS (λp hp=>hne' p (List.mem_append_right _ hp)),e]
 have h5 : M St w0 w (B :: ((its ++ qL mk1 D u) ++ qL mk2 D u)):=by simpa using h
 simpa using M.push h5
end
section
variable {n : Nat} {a : Act} {e : List (Nat × Value)} {w : World} {P : Program}
theorem k_ret4 {fn : Func} {R : Ending → World → Prop} {r1 r2 r3 r4 : ResultVar} {v1 v2 v3 v4 : Value} (hE : Env n a e) (hres : fn.results = #[r1,r2,r3,r4]) (h1 : Z8 P w a r1 v1) (h2 : Z8 P w a r2 v2) (h3 : Z8 P w a r3 v3) (h4 : Z8 P w a r4 v4)
  (hR : R (.returned (.tuple [v1,v2,v3,v4].toArray)) w) : bodyPost P fn R .ret a w:=by
 refine bodyPost_ret ?_ hE.df hR
 rw [Ba,hres]
 simp [QQ h1,QQ h2,QQ h3,QQ h4]
end
class CL (l : List (List Value)) (n : outParam Nat) : Prop where
 h : Hp l = n
instance cl_nil : CL [] 0:=⟨rfl⟩
instance cl_one {v : Value} {r : List (List Value)} {m : Nat} [h : CL r m] : CL ([v] :: r) (1 + m):=⟨by rw [Hp,h.h]; rfl⟩
instance cl_enc {α : Type} [Flat α] {x : α} {r : List (List Value)} {m : Nat} [h : CL r m] : CL (Flat.enc x :: r) (Flat.n α + m):=⟨by rw [Hp,h.h,Flat.len]⟩
instance cl_cat {l r : List (List Value)} {n m : Nat} [k : CL l n] [h : CL r m] : CL (cat l :: r) (n + m):=⟨by rw [Hp,h.h,qX k.h]⟩
theorem Zic : ∀ a b : List (List Value),Hp (a ++ b) = Hp a + Hp b
 | [],b=>by simp [Hp]
 | c :: a,b=>by rw [List.cons_append,Hp,Hp,Zic a b,Nat.add_assoc]
instance cl_app {a b : List (List Value)} {n m : Nat} [h : CL a n] [k : CL b m] : CL (a ++ b) (n + m):=⟨by rw [Zic,h.h,k.h]⟩
theorem ck {l : List (List Value)} {n : Nat} [h : CL l n] : Hp l = n:=h.h
theorem cq {l : List (List Value)} {n : Nat} [h : CL l n] : (cat l).length = n:=qX h.h
theorem kq {P : Program} {l : Array Oper} {w : World} {n t i : Nat} {a : Act} {e : List (Nat × Value)} {v : Value} {ts : List Nat} {G : Value → World → Prop} (h1 : ts[i]? = some t) (hE : Env n a ((t,v) :: e)) (g : G v w) :
  wpList P l (nrm λa' w'=>Kept (Old w) w w' ∧ ∃ v t,ts[i]? = some t ∧ Env n a' ((t,v) :: e) ∧ G v w') [] a w:=⟨Kept.refl _ _,_,_,h1,hE,g⟩
theorem M.ra0 {St : Nat → Prop} {w0 w : World} {b : Nat} {cs : List Value} {r : List Item} (h : M St w0 w (raw b cs :: r)) : At w b 0 cs:=M.ra (pre:=[]) h
theorem M.pl1 {St : Nat → Prop} {w0 w : World} {it : Item} {r : List Item} {a0 : Item} (h : M St w0 w (a0 :: it :: r)) : M St w0 w (it :: a0 :: r):=M.pl (pre:=[a0]) h
theorem M.ra1 {St : Nat → Prop} {w0 w : World} {b : Nat} {cs : List Value} {r : List Item} {a0 : Item} (h : M St w0 w (a0 :: raw b cs :: r)) : At w b 0 cs:=M.ra (pre:=[a0]) h
theorem M.pl2 {St : Nat → Prop} {w0 w : World} {it : Item} {r : List Item} {a0 a1 : Item} (h : M St w0 w (a0 :: a1 :: it :: r)) : M St w0 w (it :: a0 :: a1 :: r):=M.pl (pre:=[a0,a1]) h
theorem M.ra2 {St : Nat → Prop} {w0 w : World} {b : Nat} {cs : List Value} {r : List Item} {a0 a1 : Item} (h : M St w0 w (a0 :: a1 :: raw b cs :: r)) : At w b 0 cs:=M.ra (pre:=[a0,a1]) h
theorem M.pl3 {St : Nat → Prop} {w0 w : World} {it : Item} {r : List Item} {a0 a1 a2 : Item} (h : M St w0 w (a0 :: a1 :: a2 :: it :: r)) : M St w0 w (it :: a0 :: a1 :: a2 :: r):=M.pl (pre:=[a0,a1,a2]) h
theorem M.ra3 {St : Nat → Prop} {w0 w : World} {b : Nat} {cs : List Value} {r : List Item} {a0 a1 a2 : Item} (h : M St w0 w (a0 :: a1 :: a2 :: raw b cs :: r)) : At w b 0 cs:=M.ra (pre:=[a0,a1,a2]) h
theorem M.pl4 {St : Nat → Prop} {w0 w : World} {it : Item} {r : List Item} {a0 a1 a2 a3 : Item} (h : M St w0 w (a0 :: a1 :: a2 :: a3 :: it :: r)) : M St w0 w (it :: a0 :: a1 :: a2 :: a3 :: r):=M.pl (pre:=[a0,a1,a2,a3]) h
theorem M.ra4 {St : Nat → Prop} {w0 w : World} {b : Nat} {cs : List Value} {r : List Item} {a0 a1 a2 a3 : Item} (h : M St w0 w (a0 :: a1 :: a2 :: a3 :: raw b cs :: r)) : At w b 0 cs:=M.ra (pre:=[a0,a1,a2,a3]) h
theorem M.pl5 {St : Nat → Prop} {w0 w : World} {it : Item} {r : List Item} {a0 a1 a2 a3 a4 : Item} (h : M St w0 w (a0 :: a1 :: a2 :: a3 :: a4 :: it :: r)) : M St w0 w (it :: a0 :: a1 :: a2 :: a3 :: a4 :: r):=M.pl (pre:=[a0,a1,a2,a3,a4]) h
theorem M.ra5 {St : Nat → Prop} {w0 w : World} {b : Nat} {cs : List Value} {r : List Item} {a0 a1 a2 a3 a4 : Item} (h : M St w0 w (a0 :: a1 :: a2 :: a3 :: a4 :: raw b cs :: r)) : At w b 0 cs:=M.ra (pre:=[a0,a1,a2,a3,a4]) h
theorem M.pl6 {St : Nat → Prop} {w0 w : World} {it : Item} {r : List Item} {a0 a1 a2 a3 a4 a5 : Item} (h : M St w0 w (a0 :: a1 :: a2 :: a3 :: a4 :: a5 :: it :: r)) : M St w0 w (it :: a0 :: a1 :: a2 :: a3 :: a4 :: a5 :: r):=M.pl (pre:=[a0,a1,a2,a3,a4,a5]) h
theorem M.ra6 {St : Nat → Prop} {w0 w : World} {b : Nat} {cs : List Value} {r : List Item} {a0 a1 a2 a3 a4 a5 : Item} (h : M St w0 w (a0 :: a1 :: a2 :: a3 :: a4 :: a5 :: raw b cs :: r)) : At w b 0 cs:=M.ra (pre:=[a0,a1,a2,a3,a4,a5]) h
theorem M.pl7 {St : Nat → Prop} {w0 w : World} {it : Item} {r : List Item} {a0 a1 a2 a3 a4 a5 a6 : Item} (h : M St w0 w (a0 :: a1 :: a2 :: a3 :: a4 :: a5 :: a6 :: it :: r)) : M St w0 w (it :: a0 :: a1 :: a2 :: a3 :: a4 :: a5 :: a6 :: r):=M.pl (pre:=[a0,a1,a2,a3,a4,a5,a6]) h
theorem M.ra7 {St : Nat → Prop} {w0 w : World} {b : Nat} {cs : List Value} {r : List Item} {a0 a1 a2 a3 a4 a5 a6 : Item} (h : M St w0 w (a0 :: a1 :: a2 :: a3 :: a4 :: a5 :: a6 :: raw b cs :: r)) : At w b 0 cs:=M.ra (pre:=[a0,a1,a2,a3,a4,a5,a6]) h
theorem M.pl8 {St : Nat → Prop} {w0 w : World} {it : Item} {r : List Item} {a0 a1 a2 a3 a4 a5 a6 a7 : Item} (h : M St w0 w (a0 :: a1 :: a2 :: a3 :: a4 :: a5 :: a6 :: a7 :: it :: r)) : M St w0 w (it :: a0 :: a1 :: a2 :: a3 :: a4 :: a5 :: a6 :: a7 :: r):=M.pl (pre:=[a0,a1,a2,a3,a4,a5,a6,a7]) h
theorem M.ra8 {St : Nat → Prop} {w0 w : World} {b : Nat} {cs : List Value} {r : List Item} {a0 a1 a2 a3 a4 a5 a6 a7 : Item} (h : M St w0 w (a0 :: a1 :: a2 :: a3 :: a4 :: a5 :: a6 :: a7 :: raw b cs :: r)) : At w b 0 cs:=M.ra (pre:=[a0,a1,a2,a3,a4,a5,a6,a7]) h
theorem M.pl9 {St : Nat → Prop} {w0 w : World} {it : Item} {r : List Item} {a0 a1 a2 a3 a4 a5 a6 a7 a8 : Item} (h : M St w0 w (a0 :: a1 :: a2 :: a3 :: a4 :: a5 :: a6 :: a7 :: a8 :: it :: r)) : M St w0 w (it :: a0 :: a1 :: a2 :: a3 :: a4 :: a5 :: a6 :: a7 :: a8 :: r):=M.pl (pre:=[a0,a1,a2,a3,a4,a5,a6,a7,a8]) h
theorem M.ra9 {St : Nat → Prop} {w0 w : World} {b : Nat} {cs : List Value} {r : List Item} {a0 a1 a2 a3 a4 a5 a6 a7 a8 : Item} (h : M St w0 w (a0 :: a1 :: a2 :: a3 :: a4 :: a5 :: a6 :: a7 :: a8 :: raw b cs :: r)) : At w b 0 cs:=M.ra (pre:=[a0,a1,a2,a3,a4,a5,a6,a7,a8]) h
theorem M.pl10 {St : Nat → Prop} {w0 w : World} {it : Item} {r : List Item} {a0 a1 a2 a3 a4 a5 a6 a7 a8 a9 : Item} (h : M St w0 w (a0 :: a1 :: a2 :: a3 :: a4 :: a5 :: a6 :: a7 :: a8 :: a9 :: it :: r)) : M St w0 w (it :: a0 :: a1 :: a2 :: a3 :: a4 :: a5 :: a6 :: a7 :: a8 :: a9 :: r):=M.pl (pre:=[a0,a1,a2,a3,a4,a5,a6,a7,a8,a9]) h
theorem M.pl11 {St : Nat → Prop} {w0 w : World} {it : Item} {r : List Item} {a0 a1 a2 a3 a4 a5 a6 a7 a8 a9 a10 : Item} (h : M St w0 w (a0 :: a1 :: a2 :: a3 :: a4 :: a5 :: a6 :: a7 :: a8 :: a9 :: a10 :: it :: r)) : M St w0 w (it :: a0 :: a1 :: a2 :: a3 :: a4 :: a5 :: a6 :: a7 :: a8 :: a9 :: a10 :: r):=M.pl (pre:=[a0,a1,a2,a3,a4,a5,a6,a7,a8,a9,a10]) h
theorem M.ra12 {St : Nat → Prop} {w0 w : World} {b : Nat} {cs : List Value} {r : List Item} {a0 a1 a2 a3 a4 a5 a6 a7 a8 a9 a10 a11 : Item} (h : M St w0 w (a0 :: a1 :: a2 :: a3 :: a4 :: a5 :: a6 :: a7 :: a8 :: a9 :: a10 :: a11 :: raw b cs :: r)) : At w b 0 cs:=M.ra (pre:=[a0,a1,a2,a3,a4,a5,a6,a7,a8,a9,a10,a11]) h
abbrev Rt (w0 : World) (x : Value) : Ending → World → Prop:=λen w'=>∃ v,en = .returned v ∧ (v = x ∧ Kept (Old w0) w0 w')
theorem kr1 {n : Nat} {a : Act} {e : List (Nat × Value)} {w w0 : World} {P : Program} {fn : Func} {t : Nat} {v : Value} (hE : Env n a e) (hres : fn.results = #[.tmp t]) (h : e.lookup t = some v) (hk : Kept (Old w0) w0 w) : bodyPost P fn (Rt w0 v) .ret a w :=
 ZT hE hres (Zy hE h) ⟨_,rfl,rfl,hk⟩
theorem st23 {Ph : Nat → Oper → Prop} {o0 o1 o2 o3 o4 o5 o6 o7 o8 o9 o10 o11 o12 o13 o14 o15 o16 o17 o18 o19 o20 o21 o22 : Oper} (h0 : Ph 0 o0) (h1 : Ph 1 o1) (h2 : Ph 2 o2) (h3 : Ph 3 o3) (h4 : Ph 4 o4) (h5 : Ph 5 o5) (h6 : Ph 6 o6) (h7 : Ph 7 o7) (h8 : Ph 8 o8) (h9 : Ph 9 o9) (h10 : Ph 10 o10) (h11 : Ph 11 o11) (h12 : Ph 12 o12) (h13 : Ph 13 o13) (h14 : Ph 14 o14) (h15 : Ph 15 o15) (h16 : Ph 16 o16) (h17 : Ph 17 o17) (h18 : Ph 18 o18) (h19 : Ph 19 o19) (h20 : Ph 20 o20) (h21 : Ph 21 o21) (h22 : Ph 22 o22) : ∀ i o,([o0,o1,o2,o3,o4,o5,o6,o7,o8,o9,o10,o11,o12,o13,o14,o15,o16,o17,o18,o19,o20,o21,o22] : List Oper)[i]? = some o → Ph i o:=Zhq (ZJ h0 (ZJ h1 (ZJ h2 (ZJ h3 (ZJ h4 (ZJ h5 (ZJ h6 (ZJ h7 (ZJ h8 (ZJ h9 (ZJ h10 (ZJ h11 (ZJ h12 (ZJ h13 (ZJ h14 (ZJ h15 (ZJ h16 (ZJ h17 (ZJ h18 (ZJ h19 (ZJ h20 (ZJ h21 (ZJ h22 Zd1)))))))))))))))))))))))
theorem gu23 {C : World → Prop} {u0 u1 u2 u3 u4 u5 u6 u7 u8 u9 u10 u11 u12 u13 u14 u15 u16 u17 u18 u19 u20 u21 u22 : Value} : GUp C [(λv _=>v = u0),(λv _=>v = u1),(λv _=>v = u2),(λv _=>v = u3),(λv _=>v = u4),(λv _=>v = u5),(λv _=>v = u6),(λv _=>v = u7),(λv _=>v = u8),(λv _=>v = u9),(λv _=>v = u10),(λv _=>v = u11),(λv _=>v = u12),(λv _=>v = u13),(λv _=>v = u14),(λv _=>v = u15),(λv _=>v = u16),(λv _=>v = u17),(λv _=>v = u18),(λv _=>v = u19),(λv _=>v = u20),(λv _=>v = u21),(λv _=>v = u22)]:=(WE (WE (WE (WE (WE (WE (WE (WE (WE (WE (WE (WE (WE (WE (WE (WE (WE (WE (WE (WE (WE (WE (WE gupN)))))))))))))))))))))))
theorem cbm {P : Program} {f : Nat} {fn : Func} {c : Code} (h : P.funcs[f]? = some fn) (h2 : (fn.name == "runtime.NumGoroutine") = false := by decide) (h3 : fn.body = some c := by rfl) : Callable P f := ⟨_, _, h, h2, h3⟩
theorem ce {n : Nat} {e : List (Nat × Value)} {P : Program} {w : World} {f : Nat} {fn : Func} {c : Code} {vs : List Value} {R : Ending → World → Prop} (hf : P.funcs[f]? = some fn) (k : ∀ a,Env n a e → c.wp P (bodyPost P fn R) a w)
  (hb : fn.body = some c:=by rfl) (hn : fn.ntmps = n:=by rfl) (hl : vs.length ≤ n:=by exact nbl rfl) (he : kk 0 vs = e:=by rfl) : Calls P f vs.toArray w R:=Zrh hf hb hn hl he k
theorem qm {P : Program} {l : Array Oper} {n d i : Nat} {ts : List Nat} {e0 : List (Nat × Value)} {x : Operand} {v : Value} {ty : TypeId} {pos : String} {af : Array Edge} {G : Value → World → Prop} {C : World → Prop} {H : (Nat → Value) → World → Prop}
  (hx : ∀ u,opv (KD ts 0 u e0) x = some v:=by exact λ_=>rfl) (ht : ts[i]? = some d:=by rfl) (g : ∀ w,G v w:=by exact λ_=>rfl) (hd : d < n:=by decide) :
  ∀ a w (u : Nat → Value),Env n a (KD ts 0 u e0) → C w → H u w → wpList P l (nrm λa' w'=>Kept (Old w) w w' ∧ ∃ v t,ts[i]? = some t ∧ Env n a' ((t,v) :: KD ts 0 u e0) ∧ G v w') [⟨some d,.move x,ty,pos,af,none⟩] a w :=
 λ_ w u hE _ _=>Zl hE Za hd (hx u) λ_ hE=>kq ht hE (g w)
section
variable {n : Nat} {a : Act} {e : List (Nat × Value)} {w w' : World} {P : Program} {ops : Array Oper} {rest : List Oper} {Q : Exit → Act → World → Prop} {d : Nat} {ty ty' : TypeId} {pos : String} {af : Array Edge} {g : Option (Nat × Bool)} {x y z : Operand} {v : Value}
theorem Zd  (h : Env n a e) (hx : opv e x = some v) (k : ∀ a,Env n a ((d,v) :: e) → wpList P ops Q rest a w) (hd : d < n:=by decide) : wpList P ops Q (⟨some d,.move x,ty,pos,af,none⟩ :: rest) a w :=
 Zl h Za hd hx k
theorem Zc  (h : Env n a e) (hx : opv e x = some v) (k : ∀ a,Env n a ((d,v) :: e) → wpList P ops Q rest a w) (hd : d < n:=by decide) : wpList P ops Q (⟨some d,.assign x,ty,pos,af,none⟩ :: rest) a w :=
 K3 h Za hd hx k
theorem Z2  (h : Env n a e) (hx : opv e x = some (vT true)) (hy : opv e y = some v) (k : ∀ a,Env n a ((d,v) :: e) → wpList P ops Q rest a w) (hd : d < n:=by decide) : wpList P ops Q (⟨some d,.pick x y z,ty,pos,af,none⟩ :: rest) a w :=
 Ji h Za hd hx hy k
theorem ZZ  (h : Env n a e) (hx : opv e x = some (vT false)) (hz : opv e z = some v) (k : ∀ a,Env n a ((d,v) :: e) → wpList P ops Q rest a w) (hd : d < n:=by decide) : wpList P ops Q (⟨some d,.pick x y z,ty,pos,af,none⟩ :: rest) a w :=
 KB h Za hd hx hz k
theorem Zm {op : BinOp} {t2 : TypeId} {K : IntKind} {p q : Int} (h : Env n a e) (hx : opv e x = some (.int K p)) (hy : opv e y = some (.int K q)) (hv : Bk op K p q = some v) (k : ∀ a,Env n a ((d,v) :: e) → wpList P ops Q rest a w) (hd : d < n:=by decide) : wpList P ops Q (⟨some d,.binOp op ty' x y t2,ty,pos,af,none⟩ :: rest) a w :=
 Ye h Za hd hx hy hv k
theorem Qe {p : Bool} (h : Env n a e) (hx : opv e x = some (vT p)) (k : ∀ a,Env n a ((d,vT (!p)) :: e) → wpList P ops Q rest a w) (hd : d < n:=by decide) : wpList P ops Q (⟨some d,.unOp .not ty' x,ty,pos,af,none⟩ :: rest) a w :=
 QH h Za hd hx k
end
section
variable {n : Nat} {a : Act} {e : List (Nat × Value)} {w w' : World} {P : Program} {ops : Array Oper} {rest : List Oper} {Q : Exit → Act → World → Prop} {d : Nat} {ty t : TypeId} {pos : String} {af : Array Edge} {g : Option (Nat × Bool)} {x y : Operand} {v : Value} {St : Nat → Prop} {w0 : World} {its : List Item}
theorem Zx {D : TypeDesc} {sz by_ : Nat} {z : List Value} (h : Env n a e) (hM : M St w0 w its) (ht : Ty P t D sz by_ z) (k : ∀ b w a,M St w0 w (raw b z :: its) → Env n a ((d,ptr b 0) :: e) → wpList P ops Q rest a w) (hd : d < n:=by decide) : wpList P ops Q (⟨some d,.alloc t,ty,pos,af,none⟩ :: rest) a w :=
 Zrk h hM Za hd ht k
theorem ZO {D : TypeDesc} {sz by_ : Nat} {z : List Value} {b o : Nat} (h : Env n a e) (hx : opv e x = some (ptr b o)) (ht : Ty P t D sz by_ z) (hD : BC D = false) (hA : At w b o [v]) (k : ∀ a,Env n a ((d,v) :: e) → wpList P ops Q rest a w) (hd : d < n:=by decide) : wpList P ops Q (⟨some d,.load t x,ty,pos,af,none⟩ :: rest) a w :=
 ZL h Za hd hx ht hD hA k
theorem Zu {D : TypeDesc} {sz by_ : Nat} {z : List Value} {b o : Nat} {cs : List Value} (h : Env n a e) (hx : opv e x = some (ptr b o)) (ht : Ty P t D sz by_ z) (hD : BC D = true) (hA : At w b o cs) (hl : cs.length = sz) (k : ∀ a,Env n a ((d,.agg cs.toArray) :: e) → wpList P ops Q rest a w) (hd : d < n:=by decide) : wpList P ops Q (⟨some d,.load t x,ty,pos,af,none⟩ :: rest) a w :=
 ZB h Za hd hx ht hD hA hl k
theorem Zr {f off b o : Nat} (h : Env n a e) (hx : opv e x = some (ptr b o)) (hf : Fd P t f off) (k : ∀ a,Env n a ((d,ptr b (o + off)) :: e) → wpList P ops Q rest a w) (hd : d < n:=by decide) : wpList P ops Q (⟨some d,.fieldAddr t x f,ty,pos,af,none⟩ :: rest) a w :=
 Zo h Za hd hx hf k
theorem ZC {N el sz by_ b o : Nat} {z : List Value} {D : TypeDesc} {K : IntKind} {i : Int} (h : Env n a e) (hx : opv e x = some (ptr b o)) (hy : opv e y = some (.int K i)) (ht : P.underlying t = some (.array N el)) (he : Ty P el D sz by_ z) (hi : 0 ≤ i ∧ i < N) (k : ∀ a,Env n a ((d,ptr b (o + i.toNat * sz)) :: e) → wpList P ops Q rest a w) (hd : d < n:=by decide) : wpList P ops Q (⟨some d,.indexAddr t x y,ty,pos,af,none⟩ :: rest) a w :=
 ZI h Za hd hx hy ht he hi k
theorem Ys {α : Type} [Rep α] {S : Nat → Prop} {l : List α} {fp : List Nat} {el sz by_ : Nat} {z : List Value} {D : TypeDesc} {K : IntKind} {i : Int} (h : Env n a e) (hx : opv e x = some v) (hy : opv e y = some (.int K i)) (ht : P.underlying t = some (.slice el)) (he : Ty P el D sz by_ z) (hs : Rep.sat S w l [v] fp) (hi : 0 ≤ i ∧ i < l.length) (k : ∀ a,Env n a ((d,ptr (sb v) (so v + i.toNat * sz)) :: e) → wpList P ops Q rest a w) (hd : d < n:=by decide) : wpList P ops Q (⟨some d,.indexAddr t x y,ty,pos,af,none⟩ :: rest) a w :=
 XD h Za hd hx hy ht he hs hi k
theorem Yp {α : Type} [Rep α] {S : Nat → Prop} {l : List α} {fp : List Nat} {el : TypeId} (h : Env n a e) (hx : opv e x = some v) (ht : P.underlying t = some (.slice el)) (hs : Rep.sat S w l [v] fp) (k : ∀ a,Env n a ((d,vI l.length) :: e) → wpList P ops Q rest a w) (hd : d < n:=by decide) : wpList P ops Q (⟨some d,.call ⟨.builtin .len,[x].toArray,[t].toArray⟩,ty,pos,af,none⟩ :: rest) a w :=
 Q7 h Za hd hx ht hs k
theorem Zn {f : Nat} {xs : List Operand} {ats : Array TypeId} {vs : List Value} {R : Value → World → Prop} (h : Env n a e) (hxs : J1 e xs = some vs) (hf : Callable P f) (hc : Calls P f vs.toArray w λen w'=>∃ v,en = .returned v ∧ R v w') (k : ∀ v w' a,R v w' → Env n a ((d,v) :: e) → wpList P ops Q rest a w') (hd : d < n:=by decide) : wpList P ops Q (⟨some d,.call ⟨.value (.func f),xs.toArray,ats⟩,ty,pos,af,none⟩ :: rest) a w :=
 ZW h Za hd hxs hf hc k
end
end
section
open Go
section
variable {n : Nat} {a : Act} {e : List (Nat × Value)} {w w' : World} {P : Program} {ops : Array Oper} {rest : List Oper} {Q : Exit → Act → World → Prop}
variable {d : Nat} {ty t : TypeId} {pos : String} {af : Array Edge} {g : Option (Nat × Bool)} {p q : Operand}
theorem Znx {t' : TypeId} {x y : Int} (h : Env n a e) (hw : Goes ops ⟨some d,.call ⟨.builtin .min,[p,q].toArray,[t,t'].toArray⟩,ty,pos,af,g⟩ a) (hd : d < n) (hp : opv e p = some (vI x)) (hq : opv e q = some (vI y))
  (k : ∀ a,Env n a ((d,vI (if y < x then y else x)) :: e) → wpList P ops Q rest a w) : wpList P ops Q (⟨some d,.call ⟨.builtin .min,[p,q].toArray,[t,t'].toArray⟩,ty,pos,af,g⟩ :: rest) a w:=by
 exact XV h hw rfl hd (by
  simp only [execOp,resolve]
  simp [invoke,builtin,Builtin.min_,Builtin.min2,h.ev hp,h.ev hq]) k
end
theorem Zpr {α : Type} [Flat α] {x : α} (h : 0 < Flat.n α) : Flat.enc x ≠ []:=λe=>by have:=Flat.len x; rw [e] at this; simp at this; omega
def mkU (i : Nat) (A : Item) (f : Value → Item) : List Nat × (List Bool → List Value → Item):=([i],λbs us=>tog (bs.headD false) A (f (us.headD undef)))
def mkW (s k b : Nat) (z : List Value) (f : Value → List Value) : List Nat × (List Bool → List Value → Item):=([s,k],λbs us=>tog (bs.headD false) (raw b z) (raw b (f (us.getD 1 undef))))
def chn : List (Bool × Item) → Item
 | []=>Go.Proofs.YtfhhlkkhcoaapaaGreat.emp
 | (b,x) :: r=>if b = true then x else chn r
def chz : List (Nat × (Value → Item)) → List Bool → List Value → List (Bool × Item)
 | p :: l,b :: bs,v :: us=>(b,p.2 v) :: chz l bs us
 | _,_,_=>[]
def mkN (l : List (Nat × (Value → Item))) : List Nat × (List Bool → List Value → Item):=(l.map (·.1),λbs us=>chn (chz l bs us))
section
variable {St : Nat → Prop} {w0 w : World} {its pre post : List Item} {mk1 mk2 : Mk} {D : Nat → Bool} {u : Nat → Value} {b : Bool} {A B X : Item} {p : List Nat × (List Bool → List Value → Item)} {r : List (Bool × Item)}
theorem M.qUnconst (h : M St w0 w (its ++ qL (mk1 ++ ([],λ_ _=>X) :: mk2) D u)) (e : p.2 (p.1.map D) (p.1.map u) = X) : M St w0 w (its ++ qL (mk1 ++ p :: mk2) D u):=by
 rw [J3,e]; rw [J3] at h; exact h
theorem M.untogB (h : M St w0 w (pre ++ B :: post)) (hb : b = true) : M St w0 w (pre ++ tog b A B :: post):=by subst hb; exact h
theorem M.chnF (h : M St w0 w (pre ++ chn ((b,X) :: r) :: post)) (hb : b = false) : M St w0 w (pre ++ chn r :: post):=by subst hb; exact h
theorem M.chnT (h : M St w0 w (pre ++ chn ((b,X) :: r) :: post)) (hb : b = true) : M St w0 w (pre ++ X :: post):=by subst hb; exact h
theorem Znw {i : Nat} {f : Value → Item} {v : Value} : (mkU i A f).2 ((mkU i A f).1.map (XY D i)) ((mkU i A f).1.map (V0 u i v)) = f v:=by simp [mkU,tog,XY,V0]
theorem mkW_on {s k b : Nat} {z : List Value} {f : Value → List Value} {v : Value} (h : k ≠ s:=by decide) : (mkW s k b z f).2 ((mkW s k b z f).1.map (XY D s)) ((mkW s k b z f).1.map (V0 u s v)) = raw b (f (u k)):=by simp [mkW,tog,XY,V0,h]
theorem Zq2 {s k b i : Nat} {z : List Value} {f : Value → List Value} {v : Value} (hs : D s = false) (h : s ≠ i:=by decide) : (mkW s k b z f).2 ((mkW s k b z f).1.map (XY D i)) ((mkW s k b z f).1.map (V0 u i v)) = raw b z:=by simp [mkW,tog,XY,hs,h]
theorem emN {l : List (Nat × (Value → Item))} : ∀ us,(mkN l).2 ((mkN l).1.map λ_=>false) us = Go.Proofs.YtfhhlkkhcoaapaaGreat.emp:=by
 show ∀ us,chn (chz l ((l.map (·.1)).map λ_=>false) us) = _
 induction l with
 | nil=>intro us; rfl
 | cons p l ih =>
  intro us
  cases us with
  | nil=>rfl
  | cons v us=>exact ih us
abbrev Off (D : Nat → Bool) (l : List (Nat × (Value → Item))) : Prop:=∀ p ∈ l,D p.1 = false
theorem offN : Off D []:=λ_ h=>by cases h
theorem offC {k : Nat} {f : Value → Item} {l : List (Nat × (Value → Item))} (h : D k = false) (r : Off D l) : Off D ((k,f) :: l):=λp hp=>by
 rcases List.mem_cons.1 hp with rfl | hp
 ·exact h
 ·exact r p hp
theorem Zfq : ∀ {l : List (Nat × (Value → Item))} {m : List (Nat × (Value → Item))},Off D l → chn (chz (l ++ m) ((l ++ m).map λp=>D p.1) ((l ++ m).map λp=>u p.1)) = chn (chz m (m.map λp=>D p.1) (m.map λp=>u p.1))
 | [],m,_=>rfl
 | p :: l,m,h=>by
  have h1:=h p (by simp)
  simp only [List.cons_append,List.map_cons,chz,chn,h1,Bool.false_eq_true,if_false]
  exact Zfq λq hq=>h q (by simp [hq])
theorem Zk9 {l : List (Nat × (Value → Item))} (h : Off D l) : (mkN l).2 ((mkN l).1.map D) ((mkN l).1.map u) = Go.Proofs.YtfhhlkkhcoaapaaGreat.emp:=by
 have:=Zfq (u:=u) (m:=[]) h
 rw [List.append_nil] at this
 simp only [mkN,List.map_map]
 exact this
theorem Ze8 {l m : List (Nat × (Value → Item))} {i : Nat} {f : Value → Item} {v : Value} (h : Off D l) (hi : (l.all λp=>p.1 != i) = true:=by rfl) : (mkN (l ++ (i,f) :: m)).2 ((mkN (l ++ (i,f) :: m)).1.map (XY D i)) ((mkN (l ++ (i,f) :: m)).1.map (V0 u i v)) = f v:=by
 have h' : Off (XY D i) l:=λp hp=>by
  have:=List.all_eq_true.1 hi p hp
  unfold XY
  rw [if_neg (by simpa using this)]
  exact h p hp
 have:=Zfq (D:=XY D i) (u:=V0 u i v) (m:=(i,f) :: m) h'
 simp only [mkN,List.map_map]
 refine Eq.trans this ?_
 simp [chz,chn,XY,V0]
end
end
section
open Go
inductive Ent where
 | p0 (v : Value)
 | pl (ds : List Nat) (f : List Value → Value)
 | mk (pr : Value → Prop)
def Ent.g : Ent → List Nat × (List Value → Value → Prop)
 | .p0 x=>([],λ_ v=>v = x)
 | .pl ds f=>(ds,λus v=>v = f us)
 | .mk pr=>([],λ_ v=>pr v)
def Ent.v (u : Nat → Value) (j : Nat) : Ent → Value
 | .p0 x=>x
 | .pl ds f=>f (ds.map u)
 | .mk _=>u j
def Ent.p (u : Nat → Value) (j t : Nat) : Ent → Nat × Value
 | .p0 x=>(t,x)
 | .pl ds f=>(t,f (ds.map u))
 | .mk _=>(t,u j)
theorem Ent.p_eq {u : Nat → Value} {j t : Nat} : ∀ {x : Ent},x.p u j t = (t,x.v u j)
 | .p0 _=>rfl
 | .pl _ _=>rfl
 | .mk _=>rfl
def jR (ts : List Nat) (i : Nat) (acc : List Ent) (u : Nat → Value) : List Edge → List (Nat × Value)
 | []=>[]
 | e :: r=>cond (Region.binds .any e && decide (e.on < i)) (match ts[e.on]?,acc[i - 1 - e.on]? with
   | some t,some x=>x.p u e.on t :: jR ts i acc u r
   | _,_=>jR ts i acc u r) (jR ts i acc u r)
def Zc0 (ts : List Nat) (u : Nat → Value) : List Ent → Nat → List (Nat × Value)
 | x :: F,i + 1=>(match ts[i]? with | some t=>x.p u i t | none=>(0,undef)) :: Zc0 ts u F i
 | _,_=>[]
theorem Zgr {ts : List Nat} {i : Nat} {acc : List Ent} {u : Nat → Value} : ∀ {es : List Edge} {p : Nat × Value},p ∈ jR ts i acc u es → ∃ e ∈ es,Region.binds .any e = true ∧ e.on < i ∧ ∃ x,ts[e.on]? = some p.1 ∧ acc[i - 1 - e.on]? = some x ∧ p.2 = x.v u e.on
 | [],p,h=>by cases h
 | e :: r,p,h=>by
  have tl : p ∈ jR ts i acc u r → ∃ e' ∈ e :: r,Region.binds .any e' = true ∧ e'.on < i ∧ ∃ x,ts[e'.on]? = some p.1 ∧ acc[i - 1 - e'.on]? = some x ∧ p.2 = x.v u e'.on:=λh=>by
   obtain ⟨e',h1,h2⟩:=Zgr h
   exact ⟨e',by simp [h1],h2⟩
  unfold jR at h
  cases hb : (Region.binds .any e && decide (e.on < i))
  ·rw [hb] at h; exact tl h
  ·rw [hb] at h
   simp only [cond_true] at h
   simp only [Bool.and_eq_true,decide_eq_true_eq] at hb
   split at h
   ·rename_i t x h1 h2
    rcases List.mem_cons.1 h with rfl | h
    ·rw [Ent.p_eq]
     exact ⟨e,by simp,hb.1,hb.2,x,h1,h2,rfl⟩
    ·exact tl h
   ·exact tl h
theorem Zbl {l : List (Nat × Value)} {s : Nat} {x : Value} (h : l.lookup s = some x) : (s,x) ∈ l:=by
 induction l with
 | nil=>cases h
 | cons p l ih =>
  obtain ⟨t,v⟩:=p
  rw [List.lookup_cons] at h
  by_cases hst : s = t
  ·subst hst; simp at h; subst h; simp
  ·rw [show (s == t) = false by simpa using hst] at h
   exact List.mem_cons_of_mem _ (ih h)
theorem yl {X Y : List (Nat × Value)} {s : Nat} : (X ++ Y).lookup s = match X.lookup s with | some x=>some x | none=>Y.lookup s:=by
 induction X with
 | nil=>rfl
 | cons p X ih =>
  obtain ⟨t,v⟩:=p
  rw [List.cons_append,List.lookup_cons,List.lookup_cons]
  cases (s == t)
  ·exact ih
  ·rfl
theorem Env.pre {n : Nat} {a : Act} {X Y : List (Nat × Value)} (h : Env n a Y) (hX : ∀ p ∈ X,Y.lookup p.1 = some p.2) : Env n a (X ++ Y):=by
 refine ⟨h.sz,h.df,λs v hs=>?_⟩
 rw [yl] at hs
 cases hx : X.lookup s with
 | none=>rw [hx] at hs; exact h.get s v hs
 | some x =>
  rw [hx] at hs
  cases hs
  exact h.get s v (hX _ (Zbl hx))
theorem Env.unpre {n : Nat} {a : Act} {X Y : List (Nat × Value)} {t : Nat} {v : Value} (h : Env n a ((t,v) :: (X ++ Y))) (hX : ∀ p ∈ X,Y.lookup p.1 = some p.2) : Env n a ((t,v) :: Y):=by
 refine ⟨h.sz,h.df,λs x hs=>h.get s x ?_⟩
 rw [List.lookup_cons] at hs ⊢
 cases hst : (s == t)
 ·rw [hst] at hs
  simp only at hs ⊢
  rw [yl]
  cases hx : X.lookup s with
  | none=>exact hs
  | some y =>
   have:=hX _ (Zbl hx)
   simp only at this
   rw [this] at hs
   exact hs
 rw [hst] at hs; exact hs
theorem zy {P : Program} {ops : Array Oper} {o : Oper} {X Y : Act → World → Prop} {a : Act} {w : World} (h : wpList P ops (nrm X) [o] a w) (hXY : ∀ a w,X a w → Y a w) : wpList P ops (nrm Y) [o] a w:=by
 unfold wpList at h ⊢
 split
 ·rename_i hw
  rw [if_pos hw] at h
  rcases h with h | ⟨_,a',w',h⟩
  ·exact .inl (Oper.wp_mono2 (λ_ _ h=>hXY _ _ h) (λ_ _ _ h=>h.elim) (λ⟨_,_,h⟩=>h.elim) h)
  exact h.elim
 rename_i hw
 rw [if_neg hw] at h
 exact hXY _ _ h
structure QC (n : Nat) (ts : List Nat) (e0 : List (Nat × Value)) (St : Nat → Prop) (w0 : World) (its : List Item) (mk : Mk) (hd : List Oper) (i : Nat) (acc : List Ent) (o : Oper) (a : Act) (w : World) (u : Nat → Value) (D : Nat → Bool) : Prop where
 E : Env n a (jR ts i acc u o.after.toList ++ KD ts 0 u e0)
 M : M St w0 w (its ++ qL mk D u)
 G : GOk (acc.reverse.map Ent.g) D u
 F : D i = false
 c : ∀ (j : Nat) (p : Oper) (e : Edge),hd[j]? = some p → e ∈ p.after.toList → Region.binds .any e = true → D j = true → D e.on = true
 p : ∀ (k : Nat) (e : Edge),o.after.toList[k]? = some e → Region.binds .any e = true → D e.on = true
section
variable (P : Program) (ops : Array Oper) (n : Nat) (ts : List Nat) (e0 : List (Nat × Value)) (St : Nat → Prop) (w0 : World) (its : List Item) (mk : Mk) (hd : List Oper)
def QOk (i : Nat) (acc : List Ent) (o : Oper) (x : Ent) : Prop :=
 ∀ a w (u : Nat → Value) (D : Nat → Bool),QC n ts e0 St w0 its mk hd i acc o a w u D → wpList P ops (nrm λa' w'=>∃ v t,ts[i]? = some t ∧ Env n a' ((t,v) :: (jR ts i acc u o.after.toList ++ KD ts 0 u e0)) ∧
  ((∀ k ∈ x.g.1,D k = true) ∧ x.g.2 (x.g.1.map u) v) ∧ M St w0 w' (its ++ qL mk (XY D i) (V0 u i v))) [o] a w
def QS : Nat → List Oper → List Ent → List Ent → Prop
 | _,[],acc,F=>F = acc
 | i,o :: r,acc,F=>∃ x,QOk P ops n ts e0 St w0 its mk hd i acc o x ∧ QS (i + 1) r (x :: acc) F
end
section
variable {P : Program} {ops : Array Oper} {n : Nat} {ts : List Nat} {e0 : List (Nat × Value)} {St : Nat → Prop} {w0 : World} {its : List Item} {mk : Mk} {hd : List Oper} {i : Nat} {acc F : List Ent} {o : Oper} {r : List Oper}
theorem QS.pre : ∀ {r : List Oper} {i : Nat} {acc F : List Ent},acc.length = i → QS P ops n ts e0 St w0 its mk hd i r acc F → F.length = i + r.length ∧ F.drop r.length = acc ∧ ∀ k o,r[k]? = some o → ∃ x,F.reverse[i + k]? = some x ∧ ∃ A,A.reverse = F.reverse.take (i + k) ∧ A.length = i + k ∧ QOk P ops n ts e0 St w0 its mk hd (i + k) A o x
 | [],i,acc,F,hi,h=>by
  obtain rfl : F = acc:=h
  exact ⟨by simpa using hi,by simp,λi o h=>by simp at h⟩
 | p :: r,i,acc,F,hi,⟨x,h1,h2⟩=>by
  obtain ⟨k1,k2,k3⟩:=QS.pre (by simp [hi]) h2
  have hrev : F.reverse.take (i + 1) = acc.reverse ++ [x]:=by
   have : F.reverse = (F.drop r.length).reverse ++ (F.take r.length).reverse:=by rw [← List.reverse_append,List.take_append_drop]
   rw [this,k2,List.reverse_cons,List.take_append_of_le_length (by simp [hi])]
   rw [List.take_of_length_le (by simp [hi])]
  refine ⟨by simp only [List.length_cons]; omega,?_,λk o hk=>?_⟩
  ·have:=congrArg (List.drop 1) k2
   rw [List.drop_drop] at this
   simpa [Nat.add_comm] using this
  ·cases k with
   | zero =>
    simp at hk; subst hk
    refine ⟨x,?_,acc,?_,by simpa using hi,h1⟩
    ·have h5 : (F.reverse.take (i + 1))[i]? = some x:=by rw [hrev,List.getElem?_append_right (by simp [hi])]; simp [hi]
     rw [List.getElem?_take_of_lt (by omega)] at h5
     simpa using h5
    ·have h6:=congrArg (List.take i) hrev
     rw [List.take_take,Nat.min_eq_left (by omega)] at h6
     rw [Nat.add_zero,h6,List.take_append_of_le_length (by simp [hi])]
     exact (List.take_of_length_le (by simp [hi])).symm
   | succ k =>
    obtain ⟨y,h3,h4⟩:=k3 k o (by simpa using hk)
    have e : i + (k + 1) = i + 1 + k:=by omega
    rw [e]
    exact ⟨y,h3,h4⟩
theorem qs0 : QS P ops n ts e0 St w0 its mk hd i [] acc acc:=rfl
theorem qsP {v : Value} (h : ∀ {a w} {u : Nat → Value} {D : Nat → Bool},QC n ts e0 St w0 its mk hd i acc o a w u D → wpList P ops (nrm λa' w'=>Kept (Old w) w w' ∧ ∃ t,ts[i]? = some t ∧ Env n a' ((t,v) :: (jR ts i acc u o.after.toList ++ KD ts 0 u e0))) [o] a w)
  (k : QS P ops n ts e0 St w0 its mk hd (i + 1) r (.p0 v :: acc) F) (hi : (mk.all λp=>p.1.all λk=>k != i) = true:=by rfl) : QS P ops n ts e0 St w0 its mk hd i (o :: r) acc F:=by
 refine ⟨.p0 v,λa w u D x=>zy (h x) ?_,k⟩
 rintro a' w' ⟨hK,t,ht,hE⟩
 exact ⟨v,t,ht,hE,⟨(λk h=>by cases h),rfl⟩,M.qKeep (x.M.keep hK) hi⟩
theorem qsD {ds : List Nat} {f : List Value → Value} (h : ∀ {a w} {u : Nat → Value} {D : Nat → Bool},QC n ts e0 St w0 its mk hd i acc o a w u D → wpList P ops (nrm λa' w'=>Kept (Old w) w w' ∧ (∀ k ∈ ds,D k = true) ∧ ∃ t,ts[i]? = some t ∧ Env n a' ((t,f (ds.map u)) :: (jR ts i acc u o.after.toList ++ KD ts 0 u e0))) [o] a w)
  (k : QS P ops n ts e0 St w0 its mk hd (i + 1) r (.pl ds f :: acc) F) (hi : (mk.all λp=>p.1.all λk=>k != i) = true:=by rfl) : QS P ops n ts e0 St w0 its mk hd i (o :: r) acc F:=by
 refine ⟨.pl ds f,λa w u D x=>zy (h x) ?_,k⟩
 rintro a' w' ⟨hK,hd',t,ht,hE⟩
 exact ⟨_,t,ht,hE,⟨hd',rfl⟩,M.qKeep (x.M.keep hK) hi⟩
theorem qsM {pr : Value → Prop} (h : ∀ {a w} {u : Nat → Value} {D : Nat → Bool},QC n ts e0 St w0 its mk hd i acc o a w u D → wpList P ops (nrm λa' w'=>∃ v t,ts[i]? = some t ∧ Env n a' ((t,v) :: (jR ts i acc u o.after.toList ++ KD ts 0 u e0)) ∧ M St w0 w' (its ++ qL mk (XY D i) (V0 u i v)) ∧ pr v) [o] a w)
  (k : QS P ops n ts e0 St w0 its mk hd (i + 1) r (.mk pr :: acc) F) : QS P ops n ts e0 St w0 its mk hd i (o :: r) acc F:=by
 refine ⟨.mk pr,λa w u D x=>zy (h x) ?_,k⟩
 rintro a' w' ⟨v,t,ht,hE,hM,hp⟩
 exact ⟨v,t,ht,hE,⟨(λk h=>by cases h),hp⟩,hM⟩
theorem qsV {v : Value} (h : ∀ {a w} {u : Nat → Value} {D : Nat → Bool},QC n ts e0 St w0 its mk hd i acc o a w u D → wpList P ops (nrm λa' w'=>∃ t,ts[i]? = some t ∧ Env n a' ((t,v) :: (jR ts i acc u o.after.toList ++ KD ts 0 u e0)) ∧ M St w0 w' (its ++ qL mk (XY D i) (V0 u i v))) [o] a w)
  (k : QS P ops n ts e0 St w0 its mk hd (i + 1) r (.p0 v :: acc) F) : QS P ops n ts e0 St w0 its mk hd i (o :: r) acc F:=by
 refine ⟨.p0 v,λa w u D x=>zy (h x) ?_,k⟩
 rintro a' w' ⟨t,ht,hE,hM⟩
 exact ⟨v,t,ht,hE,⟨(λk h=>by cases h),rfl⟩,hM⟩
theorem Ent.eq {x : Ent} {u : Nat → Value} {j : Nat} (h : x.g.2 (x.g.1.map u) (u j)) : u j = x.v u j:=by
 cases x with
 | p0 v=>exact h
 | pl ds f=>exact h
 | mk pr=>rfl
theorem Env.setq {a : Act} {e : List (Nat × Value)} {t : Nat} {x y : Value} (h : Env n a e) (hl : e.lookup t = some x) (hq : x = y) : Env n a ((t,y) :: e):=by
 subst hq
 exact Env.pre (X:=[(t,x)]) h λp hp=>by
  simp only [List.mem_singleton] at hp
  subst hp; exact hl
theorem Zhv {u : Nat → Value} {s : Nat} {y : Value} : ∀ {F : List Ent} {m : Nat},m ≤ ts.length → F.length = m → (s,y) ∈ Zc0 ts u F m → ∃ (i : Nat) (x : Ent),ts[i]? = some s ∧ F.reverse[i]? = some x ∧ y = x.v u i
 | [],m,_,hl,h=>by simp [Zc0] at h
 | x :: F,0,_,hl,h=>by simp at hl
 | x :: F,m + 1,hm,hl,h=>by
  rw [Zc0] at h
  have ht : ts[m]? = some ts[m]:=List.getElem?_eq_getElem (by omega)
  rw [ht] at h
  have hFl : F.length = m:=by simpa using hl
  rcases List.mem_cons.1 h with h | h
  ·simp only at h
   rw [Ent.p_eq] at h
   cases h
   refine ⟨m,x,ht,?_,rfl⟩
   rw [List.reverse_cons,List.getElem?_append_right (by simp [hFl])]
   simp [hFl]
  ·obtain ⟨i,z,h1,h2,h3⟩:=Zhv (by omega) hFl h
   refine ⟨i,z,h1,?_,h3⟩
   have:=(List.getElem?_eq_some_iff.1 h2).1
   rw [List.reverse_cons,List.getElem?_append_left this]
   exact h2
theorem Zdy {u : Nat → Value} {s : Nat} : ∀ {F : List Ent} {m : Nat},m ≤ ts.length → F.length = m → (Zc0 ts u F m).lookup s = none → ∀ i,i < m → ts[i]? ≠ some s
 | [],m,_,hl,_=>λi hi=>by simp at hl; omega
 | x :: F,0,_,hl,_=>by simp at hl
 | x :: F,m + 1,hm,hl,hn=>λi hi hs=>by
  rw [Zc0] at hn
  have ht : ts[m]? = some ts[m]:=List.getElem?_eq_getElem (by omega)
  rw [ht] at hn
  simp only at hn
  rw [Ent.p_eq,List.lookup_cons] at hn
  by_cases hst : s = ts[m]
  ·rw [show (s == ts[m]) = true by simpa using hst] at hn; cases hn
  ·rw [show (s == ts[m]) = false by simpa using hst] at hn
   by_cases him : i = m
   ·subst him; rw [ht] at hs; exact hst (by simpa using hs.symm)
   ·exact Zdy (by omega) (by simpa using hl) hn i (by omega) hs
theorem Env.fin {a : Act} {u : Nat → Value} (h : Env n a (Zc0 ts u F ts.length ++ KD ts 0 u e0)) (hl : F.length = ts.length) : Env n a (Zc0 ts u F ts.length ++ e0):=by
 refine ⟨h.sz,h.df,λs v hs=>h.get s v ?_⟩
 rw [yl] at hs ⊢
 cases hx : (Zc0 ts u F ts.length).lookup s with
 | some x=>rw [hx] at hs; exact hs
 | none =>
  rw [hx] at hs
  simp only at hs ⊢
  rw [Zcv ts 0 s u e0 (λhm=>by
   obtain ⟨i,hi⟩:=List.mem_iff_getElem?.1 hm
   exact Zdy (Nat.le_refl _) hl hx i (List.getElem?_eq_some_iff.1 hi).1 hi)]
  exact hs
theorem Y0 {id : Nat} {Q : Exit → Act → World → Prop} {a : Act} {w : World} (ts : List Nat)
  (hm : P.follows .mixedOrders = true) (hE : Aa ops.toList 0 = true) (hT : Zd2 ops.toList ts.length = true) (hn : ts.Nodup) (hlen : Nat.ble ts.length ops.toList.length = true)
  (h0 : Env n a e0) (hM0 : ∀ u,M St w0 w.drew (its ++ qL mk (λ_=>false) u))
  (hS : QS P ops n ts e0 St w0 its mk (ops.toList.take ts.length) 0 (ops.toList.take ts.length) [] F)
  (htail : ∀ a w u D,Env n a (Zc0 ts u F ts.length ++ e0) → M St w0 w (its ++ qL mk D u) → GOk (F.reverse.map Ent.g) D u → (∀ j,j < ts.length → D j = true) → wpList P ops Q (ops.toList.drop ts.length) a w) :
  (Code.region id ops true).wp P Q a w:=by
 have hops : (ops.toList.take ts.length ++ ops.toList.drop ts.length).toArray = ops:=by rw [List.take_append_drop,Array.toArray_toList]
 have hl : ops.toList.take ts.length ++ ops.toList.drop ts.length = ops.toList:=List.take_append_drop _ _
 obtain ⟨k1,_,k3⟩:=QS.pre (acc:=[]) (i:=0) rfl hS
 simp only [Nat.zero_add] at k1 k3
 have hlen:=Nat.le_of_ble_eq_true hlen
 have hhl : (ops.toList.take ts.length).length = ts.length:=by rw [List.length_take,Nat.min_eq_left hlen]
 have key:=Zqy (P:=P) (id:=id) (hd:=ops.toList.take ts.length) (tl:=ops.toList.drop ts.length) (Q:=Q) (a:=a) (w:=w) (n:=n) (e0:=e0) hm (by rw [hl]; exact hE) (by rw [hl,hhl]; exact hT) ts hn
  (λD u w=>M St w0 w (its ++ qL mk D u) ∧ GOk (F.reverse.map Ent.g) D u) h0 (λu=>⟨hM0 u,gok0⟩) ?_ ?_
 ·rw [hops] at key; exact key
 ·intro i o hi a w u D hEnv hI hD hdc hp
  rw [hops]
  obtain ⟨x,hx,A,hA,hAl,hok⟩:=k3 i o hi
  have hat : ∀ j,j < i → ∀ y,A[i - 1 - j]? = some y → F.reverse[j]? = some y:=λj hj y hy=>by
   have h5 : A.reverse[j]? = some y:=by
    rw [List.getElem?_reverse (by omega),hAl]
    rw [← hy]
   rw [hA,List.getElem?_take_of_lt (by omega)] at h5
   exact h5
  have hX : ∀ p ∈ jR ts i A u o.after.toList,(KD ts 0 u e0).lookup p.1 = some p.2:=by
   intro p hp'
   obtain ⟨e,he,hb,hei,y,h1,h2,h3⟩:=Zgr hp'
   obtain ⟨k,hk⟩:=List.mem_iff_getElem?.1 he
   have hDe:=hp k e hk hb
   have h6:=(hI.2 e.on hDe y.g (by rw [List.getElem?_map,hat e.on hei y h2]; rfl)).2
   rw [ja ts 0 e.on p.1 u e0 hn h1,h3,Nat.zero_add,Ent.eq h6]
  refine zy (hok a w u D ⟨hEnv.pre hX,hI.1,?_,hD,hdc,hp⟩) ?_
  ·intro j hj g hg
   refine hI.2 j hj g ?_
   rw [List.getElem?_map] at hg ⊢
   rw [hA] at hg
   cases hz : (F.reverse.take i)[j]? with
   | none=>rw [hz] at hg; cases hg
   | some z =>
    have h5:=(List.getElem?_eq_some_iff.1 hz).1
    have h6 : j < i:=by simp at h5; omega
    rw [hz] at hg
    rw [List.getElem?_take_of_lt h6] at hz
    rw [hz]
    exact hg
  rintro a' w' ⟨v,t,ht,hE',hg,hM'⟩
  exact ⟨v,t,ht,hE'.unpre hX,hM',hI.2.upd hD λg hgi=>by
   rw [List.getElem?_map,hx] at hgi
   cases hgi
   exact hg⟩
 intro a w u D hEnv hI hall
 rw [hops]
 rw [hhl] at hall
 have hFl : F.length = ts.length:=by rw [k1,hhl]
 refine htail a w u D ((hEnv.pre ?_).fin hFl) hI.1 hI.2 hall
 rintro ⟨s,y⟩ hs
 obtain ⟨i,x,h1,h2,h3⟩:=Zhv (Nat.le_refl _) hFl hs
 have hil:=(List.getElem?_eq_some_iff.1 h1).1
 have h6:=(hI.2 i (hall i hil) x.g (by rw [List.getElem?_map,h2]; rfl)).2
 rw [ja ts 0 i s u e0 hn h1,h3,Nat.zero_add]
 simp only
 rw [Ent.eq h6]
theorem Z7 {id : Nat} {Q : Exit → Act → World → Prop} {a : Act} {w : World} (ts : List Nat)
  (hm : P.follows .mixedOrders = true) (hE : Aa ops.toList 0 = true) (hT : Zd2 ops.toList ts.length = true) (hn : ts.Nodup) (hlen : Nat.ble ts.length ops.toList.length = true)
  (h0 : Env n a e0) (hM : M St w0 w its)
  (hS : QS P ops n ts e0 St w0 its [] (ops.toList.take ts.length) 0 (ops.toList.take ts.length) [] F)
  (htail : ∀ a w u,Env n a (Zc0 ts u F ts.length ++ e0) → M St w0 w its → wpList P ops Q (ops.toList.drop ts.length) a w) :
  (Code.region id ops true).wp P Q a w :=
 Y0 ts hm hE hT hn hlen h0 (λu=>M.q0 hM.drew u) hS λa w u D hE hM _ _=>htail a w u hE (by simpa [qL] using hM)
end
theorem yi {v : Value} {l : List Value} (h1 : (Value.cells v).toList = l) (h2 : ∃ cs,v = .agg cs) : v = .agg l.toArray:=by
 obtain ⟨cs,rfl⟩:=h2
 exact congrArg Value.agg (toList_eq h1)
theorem Kb {hd : List Oper} {D : Nat → Bool} {j k : Nat} {p : Oper} {e : Edge} (c : ∀ (j : Nat) (p : Oper) (e : Edge),hd[j]? = some p → e ∈ p.after.toList → Region.binds .any e = true → D j = true → D e.on = true) (hj : hd[j]? = some p) (he : p.after.toList[k]? = some e) (hb : Region.binds .any e = true) (h : D e.on = false) : D j = false :=
 Bool.eq_false_iff.2 λhx=>Bool.noConfusion (h.symm.trans (c j p e hj (List.mem_of_getElem? he) hb hx))
section
variable {St : Nat → Prop} {w0 w : World} {its pre post : List Item}
theorem M.recown {α : Type} [Rep α] {S : Nat → Prop} {x : α} {c c' : List Value} (h : M St w0 w (own S x c :: its)) (e : c = c') : M St w0 w (own S x c' :: its):=e ▸ h
theorem M.openCellT {a b : Bool} {v : Value} {z c : List Value} (h : M St w0 w (pre ++ Bo a b v z c :: post)) (ha : a = true) (hb : b = true) : ∃ b',v = ptr b' 0 ∧ M St w0 w (raw b' c :: (pre ++ post)):=by
 have:=M.openCell h ha
 subst hb
 exact this
theorem M.openCellF {a b : Bool} {v : Value} {z c : List Value} (h : M St w0 w (pre ++ Bo a b v z c :: post)) (ha : a = true) (hb : b = false) : ∃ b',v = ptr b' 0 ∧ M St w0 w (raw b' z :: (pre ++ post)):=by
 have:=M.openCell h ha
 subst hb
 exact this
def Zc8 {α : Type} [Rep α] (it : Item) (l : List α) (u : Value) : Prop:=∀ w fp,it w fp → Rep.sat NoB w l [u] fp
theorem sio {α : Type} [Rep α] {l : List α} {u : Value} : Zc8 (osl NoB l u) l u:=λ_ _ h=>UO.sat h
theorem siw {α : Type} [Rep α] {l : List α} {u : Value} : Zc8 (own NoB l [u]) l u:=λ_ _ h=>h
end
theorem kr0 {P : Program} {l : Array Oper} {w : World} {n t : Nat} {e : List (Nat × Value)} {v : Value} {ti : Option Nat} (h1 : ti = some t) :
  ∀ a,Env n a ((t,v) :: e) → wpList P l (nrm λa' w'=>Kept (Old w) w w' ∧ ∃ t,ti = some t ∧ Env n a' ((t,v) :: e)) [] a w:=λ_ hE=>⟨Kept.refl _ _,_,h1,hE⟩
theorem kc {P : Program} {l : Array Oper} {w : World} {n t : Nat} {e : List (Nat × Value)} {x : Value} {ti : Option Nat} (h1 : ti = some t) :
  ∀ v w' a,(v = x ∧ Kept (Old w) w w') → Env n a ((t,v) :: e) → wpList P l (nrm λa' w'=>Kept (Old w) w w' ∧ ∃ t,ti = some t ∧ Env n a' ((t,x) :: e)) [] a w':=λ_ _ _ ⟨hv,hK⟩ hE=>⟨hK,_,h1,hv ▸ hE⟩
section
variable {n : Nat} {a : Act} {e : List (Nat × Value)} {w : World} {P : Program} {ops : Array Oper} {rest : List Oper} {Q : Exit → Act → World → Prop} {d : Nat} {ty t : TypeId} {pos : String} {af : Array Edge} {g : Option (Nat × Bool)} {x : Operand}
theorem zL {src dst : TypeId} {p : UInt8} {D : TypeDesc} (h : Env n a e) (hw : Goes ops ⟨some d,.convert src dst x,ty,pos,af,g⟩ a) (hd : d < n) (hx : opv e x = some (vB p))
  (hs : P.underlying src = some D) (ht : P.underlying dst = some (.int .i64)) (k : ∀ a,Env n a ((d,vI (bI p)) :: e) → wpList P ops Q rest a w) : wpList P ops Q (⟨some d,.convert src dst x,ty,pos,af,g⟩ :: rest) a w :=
 BD h hw hd hx hs ht λa hE=>by rw [Znh] at hE; exact k a hE
theorem Zlb {src dst : TypeId} {p : UInt8} {D : TypeDesc} (h : Env n a e) (hw : Goes ops ⟨some d,.convert src dst x,ty,pos,af,g⟩ a) (hd : d < n) (hx : opv e x = some (vB p))
  (hs : P.underlying src = some D) (ht : P.underlying dst = some (.int .u64)) (k : ∀ a,Env n a ((d,.int .u64 (bI p)) :: e) → wpList P ops Q rest a w) : wpList P ops Q (⟨some d,.convert src dst x,ty,pos,af,g⟩ :: rest) a w :=
 BD h hw hd hx hs ht λa hE=>by rw [Zjp] at hE; exact k a hE
theorem Xq {src dst : TypeId} {J : IntKind} {p : Int} {D : TypeDesc} (h : Env n a e) (hw : Goes ops ⟨some d,.convert src dst x,ty,pos,af,g⟩ a) (hd : d < n) (hx : opv e x = some (.int J p))
  (hs : P.underlying src = some D) (ht : P.underlying dst = some (.int .u8)) (k : ∀ a,Env n a ((d,vB (Zz p)) :: e) → wpList P ops Q rest a w) : wpList P ops Q (⟨some d,.convert src dst x,ty,pos,af,g⟩ :: rest) a w :=
 BD h hw hd hx hs ht λa hE=>by rw [ki] at hE; exact k a hE
end
end
section
open Go
section
variable {α : Type} [Rep α] {S St : Nat → Prop} {w w' w0 : World} {l : List α} {v : Value} {i : Nat} {x : α} {cs : List Value} {its pre post : List Item}
theorem M.holeAt (h : M St w0 w (pre ++ AH S l i v cs :: post)) : At w (sb v) (so v + i * Rep.n α) cs:=by
 obtain ⟨fp,⟨b,o,cap,c1,c2,f1,f2,rfl,_,_,q1,_,_,_,q2,_,_⟩,_⟩:=h.get
 have:=(At.append.1 (At.append.1 q2).2).1
 rw [q1] at this
 exact this
theorem M.close0 (hM : M St w0 w (own S x cs :: AH S l i v cs :: its)) (hS : ∀ b,S b → St b) (hi : l[i]? = some x) : M St w0 w (osl S l v :: its):=by
 have h:=hM.close1 hS
 have e : l.set i x = l:=by
  obtain ⟨h1,h2⟩:=List.getElem?_eq_some_iff.1 hi
  subst h2; exact List.set_getElem_self h1
 rwa [e] at h
end
section
variable {n : Nat} {a : Act} {e : List (Nat × Value)} {w w' : World} {P : Program} {ops : Array Oper} {rest : List Oper} {Q : Exit → Act → World → Prop}
variable {d : Nat} {ty t : TypeId} {pos : String} {af : Array Edge} {g : Option (Nat × Bool)} {x y : Operand} {v u : Value}
variable {St : Nat → Prop} {w0 : World} {its pre post : List Item}
theorem Zp7 {α : Type} [Rep α] {S : Nat → Prop} {l : List α} {el sz by_ j : Nat} {cs z : List Value} {D : TypeDesc} {K : IntKind} {i : Int} (h : Env n a e) (hM : M St w0 w (pre ++ AH S l j v cs :: post)) (hw : Goes ops ⟨some d,.indexAddr t x y,ty,pos,af,g⟩ a) (hd : d < n)
  (hx : opv e x = some v) (hy : opv e y = some (.int K i)) (ht : P.underlying t = some (.slice el)) (he : Ty P el D sz by_ z) (hi : 0 ≤ i ∧ i < l.length)
  (k : ∀ a,Env n a ((d,ptr (sb v) (so v + i.toNat * sz)) :: e) → wpList P ops Q rest a w) : wpList P ops Q (⟨some d,.indexAddr t x y,ty,pos,af,g⟩ :: rest) a w:=by
 obtain ⟨fp,⟨b,o,cap,c1,c2,f1,f2,hv,_⟩,_⟩:=hM.get
 refine XV h hw rfl hd (v:=ptr (sb v) (so v + i.toNat * sz)) (w':=w) ?_ k
 simp only [execOp,h.ev hx,h.ev hy,hv,sb,so]
 simp [Instr.indexAt,asIntOf,run_underlying ht,hi,WC he,Addr.add_lit]
theorem Zoy {α : Type} [Rep α] {S : Nat → Prop} {l : List α} {D : TypeDesc} {sz by_ : Nat} {z seg cs cs' : List Value} {i k0 : Nat} (h : Env n a e) (hM : M St w0 w (AH S l i v cs :: its)) (hS : ∀ b,S b → St b) (hw : Goes ops ⟨none,.store t x y,ty,pos,af,g⟩ a)
  (hx : opv e x = some (ptr (sb v) (so v + i * Rep.n α + k0))) (hy : opv e y = some u) (hu : u.cells.toList = seg) (ht : Ty P t D sz by_ z) (hl : seg.length = sz) (hc : ∀ v ∈ seg,v.oneCell' = true)
  (hfit : k0 + seg.length ≤ cs.length) (hs : Y7 cs k0 seg = cs')
  (k : ∀ w a,M St w0 w (AH S l i v cs' :: its) → Env n a e → wpList P ops Q rest a w) : wpList P ops Q (⟨none,.store t x y,ty,pos,af,g⟩ :: rest) a w:=by
 subst hs
 have hst:=hM.st'
 have key : ∀ fp,AH S l i v cs w fp → fp.Nodup → (∀ b ∈ fp,¬ St b ∧ b < w.heap.size) → (storeCells ⟨sb v,so v + i * Rep.n α + k0,none⟩ seg).run P w = .ok () (w.setCells (sb v) (so v + i * Rep.n α + k0) seg) ∧ sb v ∈ fp ∧
   AH S l i v (Y7 cs k0 seg) (w.setCells (sb v) (so v + i * Rep.n α + k0) seg) fp:=by
  rintro fp ⟨b,o,cap,c1,c2,e1,e2,rfl,hcap,hil,q1,hccl,q2,q4,k2,k3,rfl⟩ hnd hlt
  have hrm:=k3
  obtain ⟨c,T,fz,hheap,hsize,hfz⟩:=k3
  have hsb : sb (.slice (some ⟨b,o,none⟩) l.length cap) = b:=rfl
  have hso : so (.slice (some ⟨b,o,none⟩) l.length cap) = o:=rfl
  rw [hsb,hso]
  have h1 : (i + 1) * Rep.n α ≤ l.length * Rep.n α:=Nat.mul_le_mul_right _ (by omega)
  rw [Nat.add_mul] at h1
  have h2 : l.length * Rep.n α ≤ cap * Rep.n α:=Nat.mul_le_mul_right _ hcap
  have hfit2 : o + i * Rep.n α + k0 + seg.length ≤ c.size:=by omega
  have hst':=Ad (P:=P) (o:=o + i * Rep.n α + k0) (vs:=seg) hheap hfit2 hfz hc
  obtain ⟨n4,n5⟩:=List.nodup_cons.1 hnd
  have hkeep : ∀ k,(k ∈ e1 ∨ k ∈ e2 ∨ S k) → (w.setCells b (o + i * Rep.n α + k0) seg).heap[k]? = w.heap[k]?:=by
   intro k hk
   refine T6 _ _ ?_ _ _ _
   rintro rfl
   rcases hk with h | h | h
   ·exact n4 (by simp [h])
   ·exact n4 (by simp [h])
   ·exact (hlt _ (List.mem_cons_self ..)).1 (hS _ h)
  have hlen2 : (Y7 cs k0 seg).length = cs.length:=Qk hfit
  have hd2 : (l.drop (i + 1)).length * Rep.n α = c2.length:=q4.len.symm
  rw [List.length_drop] at hd2
  have hc2 : i * Rep.n α + Rep.n α + c2.length = l.length * Rep.n α:=by
   rw [← hd2,← Nat.add_one_mul,← Nat.add_mul]; congr 1; omega
  have hsp : Y7 (c1 ++ (cs ++ c2)) (i * Rep.n α + k0) seg = c1 ++ (Y7 cs k0 seg ++ c2):=zE (by rw [q1]) (by omega)
  refine ⟨hst',List.mem_cons_self ..,b,o,cap,c1,c2,e1,e2,rfl,hcap,hil,q1,by rw [hlen2]; exact hccl,q2.loc λk hk=>hkeep k (by rcases hk with h | h; exact .inl h; exact .inr (.inr h)),q4.loc λk hk=>hkeep k (by rcases hk with h | h; exact .inr (.inl h); exact .inr (.inr h)),?_,hrm.set hheap rfl hfit2,rfl⟩
  rw [← hsp,show o + i * Rep.n α + k0 = o + (i * Rep.n α + k0) by omega]
  refine k2.set hheap ?_ ?_
  ·simp only [List.length_append]; omega
  ·simp only [List.length_append]; omega
 obtain ⟨hk0,hs0,fp,⟨f1,f',rfl,hl1,h1,hr⟩,hnd,hlt⟩:=hM
 obtain ⟨hrun,_,_⟩:=key f1 h1 (List.nodup_append.1 hnd).1 (λb hb=>hlt b (by simp [hb]))
 have hM : M St w0 w (AH S l i v cs :: its):=⟨hk0,hs0,f1 ++ f',⟨f1,f',rfl,hl1,h1,hr⟩,hnd,hlt⟩
 refine Zev h hw rfl (w':=w.setCells (sb v) (so v + i * Rep.n α + k0) seg) ?_ λa ha=>k _ _ ?_ ha
 ·simp only [execOp,h.ev hx,h.ev hy]
  have hsz : u.cells.size = sz:=by rw [← hl,← hu]; simp
  simp [Instr.storeAt,Instr.sureAddr,storeVar,WC ht,hsz,hu,hrun]
 refine M.turn (new:=[AH S l i v (Y7 cs k0 seg)]) hM (Y5 _ _ _ _).1 (Y5 _ _ _ _).2.1 (Y5 _ _ _ _).2.2 (by rw [K7]; exact Nat.le_refl _) ?_
 rintro fp j1 hlt hnd
 obtain ⟨_,hin,hO⟩:=key fp j1 hnd hlt
 refine ⟨λb hb _=>T6 _ _ (λh=>hb (by rw [h]; exact hin)) _ _ _,fp,⟨fp,[],by simp,Zgi hS,hO,rfl⟩,hnd,λb hb=>.inl hb⟩
end
end
section
open Go

structure Opq (n : Nat) where
 cs : List Value
 len : cs.length = n
 one : ∀ v ∈ cs,v.oneCell' = true
instance {n : Nat} : Flat (Opq n):=⟨n,λx=>x.cs,λx=>x.len,λx=>x.one⟩
def Ab {n : Nat} (hs : List (Opq n)) : List Value:=(hs.map (·.cs)).flatten
section
variable {α : Type} [Rep α] {S St : Nat → Prop} {w w0 : World} {l : List α} {v : Value} {its : List Item}
def els (S : Nat → Prop) (l : List α) (hs : List (Opq (Rep.n α))) : Item:=λw fp=>hs.length = l.length ∧ YA S w l (Ab hs) fp
end
end
section
open Go
def delF {α : Type} (l : List α) (i j : Int) : Option (List α):=if 0 ≤ i ∧ i ≤ j ∧ j ≤ l.length then some (l.take i.toNat ++ l.drop j.toNat) else none
section
variable {P : Program} {St : Nat → Prop} {w0 w : World} {its : List Item} {n : Nat} {a : Act} {e : List (Nat × Value)} {ops : Array Oper} {rest : List Oper} {Q : Exit → Act → World → Prop} {v : Value} {x y : Operand} {d t ty : TypeId} {pos : String} {af : Array Edge} {g : Option (Nat × Bool)}
theorem jM {α : Type} [Flat α] {l : List α} (hM : M St w0 w (osl NoB l v :: its)) (hne : 0 < l.length) : ∃ b o cap c T fz,v = .slice (some ⟨b,o,none⟩) l.length cap ∧ l.length ≤ cap ∧ At w b o (XA l) ∧ w.heap[b]? = some (.cells c T fz) ∧ o + cap * Flat.n α ≤ c.size ∧ ∀ i,i < c.size → ¬ (fz.1 ≤ i ∧ i < fz.2):=by
 obtain ⟨fp,⟨p,cap,rfl,hcap,hO⟩,_⟩:=hM.head
 rcases hO with ⟨rfl,_⟩ | ⟨b,o,ecs,fpe,rfl,k1,k2,rfl,c,T,fz,k3,k4,k5⟩
 ·omega
 obtain ⟨rfl,rfl⟩:=XG.1 k1
 exact ⟨b,o,cap,c,T,fz,rfl,hcap,k2,k3,k4,k5⟩
theorem Zgp {b o len cap lo hi N : Nat} (h : lo < cap) : ZV (.slice (some ⟨b,o,none⟩) len cap) lo hi N = .slice (some ⟨b,o + lo * N,none⟩) (hi - lo) (cap - lo):=by
 simp only [ZV,show ¬ cap = lo by omega,if_false,Option.map_some,Addr.add_lit]
end
def insF {α : Type} (by_ : Nat) (l : List α) (i : Int) (m : List α) : Option (List α):=if 0 ≤ i ∧ i ≤ l.length ∧ m.length = 1 ∧ (l.length + 1) * by_ ≤ 140737488355328 then some (l.take i.toNat ++ (m ++ l.drop i.toNat)) else none
section
variable {P : Program} {St : Nat → Prop} {w0 w : World} {its : List Item} {n : Nat} {a : Act} {e : List (Nat × Value)} {ops : Array Oper} {rest : List Oper} {Q : Exit → Act → World → Prop} {v u : Value} {x y : Operand} {d t ty : TypeId} {pos : String} {af : Array Edge} {g : Option (Nat × Bool)}
end
section
variable {P : Program} {St : Nat → Prop} {w0 w : World} {its : List Item} {n : Nat} {a : Act} {e : List (Nat × Value)} {ops : Array Oper} {rest : List Oper} {Q : Exit → Act → World → Prop} {v u : Value} {x y : Operand} {d t ty : TypeId} {pos : String} {af : Array Edge} {g : Option (Nat × Bool)}
def NoMk (w : World) (b : Nat) : Prop:=∀ c T fz,w.heap[b]? = some (.cells c T fz) → ¬ (fz.1 ≤ c.size ∧ c.size < fz.2)
def osn {α : Type} [Rep α] (S : Nat → Prop) (l : List α) (v : Value) : Item:=λw fp=>UO S w l v fp ∧ (sb v ∈ fp → NoMk w (sb v))
end
section
variable {P : Program} {α : Type} [Rep α] {S St : Nat → Prop} {w w0 : World} {l m r : List α} {v u : Value} {its : List Item}
end
section
variable {α : Type} [Rep α] {S St : Nat → Prop} {w w0 : World} {l l1 l2 m : List α} {its : List Item} {hs h1 h2 ms : List (Opq (Rep.n α))} {i : Int}
end
section
variable {α : Type} [Rep α] {S St : Nat → Prop} {w w0 : World} {l r : List α} {v : Value} {its : List Item} {fp : List Nat}
end
end
section
open Go
def TD {α : Type} (vv : α → Value) : World → α → Value → List Nat → Prop:=λ_ x u f=>u = vv x ∧ f = []
theorem J6 {α : Type} {vv : α → Value} {S : Nat → Prop} : ElOk S (TD vv):=⟨λh _=>h,λh b hb=>by rw [h.2] at hb; cases hb⟩
theorem zm {κ α : Type} {kv : κ → Value} {vv : α → Value} {w : World} : ∀ {m : List (κ × α)} {es : List MapEntry} {fp : List Nat},Qd kv (TD vv) w m es fp → fp = []
 | [],_,_,h=>h.2
 | p :: m,_,_,h=>by
  obtain ⟨e,es',f,fp',_,rfl,_,h2,h3⟩:=h
  rw [h2.2,zm h3]; rfl
theorem locNM {κ α : Type} {kv : κ → Value} {vv : α → Value} {m : List (κ × α)} {b : Nat} {r : List Item} (h : Zdg r) : Zdg (U1 kv (TD vv) m b :: r):=by
 intro it hit
 rcases List.mem_cons.1 hit with rfl | hit
 ·exact zc (S:=NoB) J6 noB
 exact h it hit
def HU {κ α : Type} [DecidableEq κ] : List (κ × α) → κ → List (κ × α)
 | [],_=>[]
 | p :: m,k=>if p.1 = k then m else p :: HU m k
theorem Zf7 {κ α : Type} [DecidableEq κ] {kv : κ → Value} {vv : α → Value} {w : World} (k : κ) : ∀ {m : List (κ × α)} {es : List MapEntry},Qd kv (TD vv) w m es [] →
  (KL (m.map (·.1)) es 0 k = none ∧ HU m k = m) ∨ ∃ i v,KL (m.map (·.1)) es 0 k = some (i,v) ∧ Qd kv (TD vv) w (HU m k) (es.eraseIdx i) []
 | [],_,h=>by obtain ⟨rfl,_⟩:=h; exact .inl ⟨rfl,rfl⟩
 | p :: m,_,h=>by
  obtain ⟨e,es',f,fp',rfl,hf,h1,h2,h3⟩:=h
  obtain ⟨rfl,rfl⟩:=List.append_eq_nil_iff.1 hf.symm
  by_cases hk : p.1 = k
  ·exact .inr ⟨0,e.val,by simp [KL,hk],by simpa [HU,hk] using h3⟩
  ·have hq : KL ((p :: m).map (·.1)) (e :: es') 0 k = (KL (m.map (·.1)) es' 0 k).map λq=>(q.1 + 1,q.2):=by
    rw [← A2]; simp [KL,hk]
   rcases Zf7 k h3 with ⟨g1,g2⟩ | ⟨i,v,g1,g2⟩
   ·exact .inl ⟨by rw [hq,g1]; rfl,by simp [HU,hk,g2]⟩
   ·refine .inr ⟨i + 1,v,by rw [hq,g1]; rfl,?_⟩
    simp only [HU,hk,if_false,List.eraseIdx_cons_succ]
    exact ⟨e,es'.eraseIdx i,[],[],rfl,rfl,h1,h2,g2⟩
theorem Q3.erase {es : List MapEntry} {clock : Nat} (h : Q3 es clock) (i : Nat) : Q3 (es.eraseIdx i) clock :=
 ⟨h.1.sublist (List.eraseIdx_sublist es i),λe he=>h.2 e ((List.eraseIdx_sublist es i).subset he)⟩
section
variable {n : Nat} {a : Act} {e : List (Nat × Value)} {w w' : World} {P : Program} {ops : Array Oper} {rest : List Oper} {Q : Exit → Act → World → Prop}
variable {d : Nat} {ty t kt el : TypeId} {pos : String} {af : Array Edge} {g : Option (Nat × Bool)} {x y z : Operand} {v u : Value}
variable {St S : Nat → Prop} {w0 : World} {its pre post : List Item} {κ α : Type} [DecidableEq κ] {kv : κ → Value} {vv : α → Value} {m : List (κ × α)} {b : Nat}
theorem kG {zero : α} {k : κ} (hk : KeyOk P kt kv) (h : Env n a e) (hM : M St w0 w (pre ++ U1 kv (TD vv) m b :: post)) (hw : Goes ops ⟨some d,.lookup t x y true,ty,pos,af,g⟩ a) (hd : d < n)
  (hx : opv e x = some (.map (some b))) (hy : opv e y = some (kv k)) (ht : P.underlying t = some (.map kt el)) (hz : (zeroValue el).run P w = .ok (vv zero) w)
  (K : ∀ a,Env n a ((d,.tuple [vv ((X7 m k).getD zero),vT (X7 m k).isSome].toArray) :: e) → wpList P ops Q rest a w) : wpList P ops Q (⟨some d,.lookup t x y true,ty,pos,af,g⟩ :: rest) a w:=by
 obtain ⟨v,hr,hv2⟩:=Zpz hk ht hM k _ hz true
 have e1 : v = vv ((X7 m k).getD zero):=by
  rcases hv2 with ⟨g1,rfl⟩ | ⟨x,fp,g1,g2,_⟩
  ·rw [g1]; rfl
  ·rw [g1]; exact g2.1
 subst e1
 exact XV h hw rfl hd (by simp only [execOp,h.ev hx,h.ev hy]; simp [hr]) K
theorem M.mapSetV {c : α} {k : κ} (hM : M St w0 w (U1 kv (TD vv) m b :: its)) (hk : KeyOk P kt kv) (ht : P.underlying t = some (.map kt el)) :
  ∃ w',(Instr.mapUpdate t (.map (some b)) (kv k) (vv c)).run P w = .ok () w' ∧ M St w0 w' (U1 kv (TD vv) (KR m k c) b :: its):=by
 obtain ⟨fq,⟨es,clock,fpe,h2,h3,hst,_⟩,_⟩:=(show M St w0 w ([] ++ U1 kv (TD vv) m b :: its) from hM).get
 have hbl : b < w.heap.size:=(Array.getElem?_eq_some_iff.1 h2).1
 have hf:=hk.find w k (m.map (·.1)) es.toList h3.keys
 have hc:=hk.check false w k
 have fin : ∀ (es' : Array MapEntry) (c' : Nat),Q3 es'.toList c' → Qd kv (TD vv) w (KR m k c) es'.toList [] →
   M St w0 { w with heap:=w.heap.setIfInBounds b (.map es' c') } (U1 kv (TD vv) (KR m k c) b :: its):=by
  intro es' c' hst' hm
  refine hM.mapTurn (new:=[_]) (λfp ⟨es0,c0,f0,_,_,_,e0⟩=>by rw [e0]; simp) ?_
  rintro fp ⟨es0,c0,f0,k2,k3,k4,rfl⟩ hnd hlt
  exact ⟨[b],⟨[b],[],by simp,zc (S:=NoB) J6 noB,⟨es',c',[],Zg7 w b _ hbl,hm.loc (S:=NoB) J6 λq hq=>kW w _ (by rcases hq with h | h; cases h; exact h.elim),hst',rfl⟩,rfl⟩,by simp,λq hq=>by simp at hq; simp [hq]⟩
 have h3':=zm h3 ▸ h3
 rcases yF k h3 with ⟨g1,g2,g3⟩ | ⟨m1,x0,m2,es1,e,es2,f1,f,f2,g1,g2,g3,hfp,g4,g5,g6,g7,g8,g9⟩
 ·rw [g2] at hf
  have hset:=MapKept.run_setObj_map (P:=P) (.map (es.push { key:=kv k,val:=vv c,born:=clock }) (clock + 1)) h2
  refine ⟨_,by simp [Instr.mapUpdate,run_underlying ht,MapKept.run_getObj_map h2,hc,hf,hset],fin (es.push { key:=kv k,val:=vv c,born:=clock }) (clock + 1) (by simpa using hst.push (kv k) (vv c)) ?_⟩
  rw [g3]
  have:=h3'.app (m2:=[(k,c)]) (es2:=[{ key:=kv k,val:=vv c,born:=clock }]) (f2:=[]) ⟨_,[],[],[],rfl,rfl,rfl,⟨rfl,rfl⟩,rfl,rfl⟩
  simpa using this
 rw [g2] at hf
 have hget:=get_at g3
 have hset:=MapKept.run_setObj_map (P:=P) (.map (es.modify es1.length λe=>{ e with key:=kv k,val:=vv c }) clock) h2
 have hstay : (Instr.keyThatStays (kv k) (kv k)).run P w = .ok (kv k) w:=by simp [Instr.keyThatStays,hk.same k]
 have hmod:=Zmm (λe=>{ e with key:=kv k,val:=vv c }) g3
 refine ⟨_,by simp [Instr.mapUpdate,run_underlying ht,MapKept.run_getObj_map h2,hc,hf,hget,g5,hstay,hset],fin (es.modify es1.length λe=>{ e with key:=kv k,val:=vv c }) clock (by rw [hmod]; rw [g3] at hst; exact hst.put rfl) ?_⟩
 rw [hmod,g8]
 have e1:=zm g4
 have e2:=zm g7
 subst e1 e2
 exact g4.app (m2:=(k,c) :: m2) (f2:=[]) ⟨_,es2,[],[],rfl,rfl,rfl,⟨rfl,rfl⟩,g7⟩
theorem jq {c : α} {k : κ} (hk : KeyOk P kt kv) (h : Env n a e) (hM : M St w0 w (U1 kv (TD vv) m b :: its)) (hw : Goes ops ⟨none,.mapUpdate t x y z,ty,pos,af,g⟩ a)
  (hx : opv e x = some (.map (some b))) (hy : opv e y = some (kv k)) (hzv : opv e z = some (vv c)) (ht : P.underlying t = some (.map kt el))
  (K : ∀ w a,M St w0 w (U1 kv (TD vv) (KR m k c) b :: its) → Env n a e → wpList P ops Q rest a w) : wpList P ops Q (⟨none,.mapUpdate t x y z,ty,pos,af,g⟩ :: rest) a w:=by
 obtain ⟨w',hr,hM'⟩:=hM.mapSetV (k:=k) (c:=c) hk ht
 exact Zev h hw rfl (w':=w') (by simp only [execOp,h.ev hx,h.ev hy,h.ev hzv]; simp [hr]) λa ha=>K _ _ hM' ha
theorem M.mapDelV {k : κ} {tk : TypeId} (hM : M St w0 w (U1 kv (TD vv) m b :: its)) (hk : KeyOk P kt kv) (ht : P.underlying t = some (.map kt el)) :
  ∃ w',(Builtin.delete_ #[t,tk] ty #[.map (some b),kv k]).run P w = .ok (.tuple #[]) w' ∧ M St w0 w' (U1 kv (TD vv) (HU m k) b :: its):=by
 obtain ⟨fq,⟨es,clock,fpe,h2,h3,hst,_⟩,_⟩:=(show M St w0 w ([] ++ U1 kv (TD vv) m b :: its) from hM).get
 have hbl : b < w.heap.size:=(Array.getElem?_eq_some_iff.1 h2).1
 have hf:=hk.find w k (m.map (·.1)) es.toList h3.keys
 have hc:=hk.check es.isEmpty w k
 have fin : ∀ (es' : Array MapEntry) (c' : Nat),Q3 es'.toList c' → Qd kv (TD vv) w (HU m k) es'.toList [] →
   M St w0 { w with heap:=w.heap.setIfInBounds b (.map es' c') } (U1 kv (TD vv) (HU m k) b :: its):=by
  intro es' c' hst' hm
  refine hM.mapTurn (new:=[_]) (λfp ⟨es0,c0,f0,_,_,_,e0⟩=>by rw [e0]; simp) ?_
  rintro fp ⟨es0,c0,f0,k2,k3,k4,rfl⟩ hnd hlt
  exact ⟨[b],⟨[b],[],by simp,zc (S:=NoB) J6 noB,⟨es',c',[],Zg7 w b _ hbl,hm.loc (S:=NoB) J6 λq hq=>kW w _ (by rcases hq with h | h; cases h; exact h.elim),hst',rfl⟩,rfl⟩,by simp,λq hq=>by simp at hq; simp [hq]⟩
 have h3':=zm h3 ▸ h3
 rcases Zf7 k h3' with ⟨g1,g2⟩ | ⟨i,v,g1,g2⟩
 ·rw [g1] at hf
  have hset:=MapKept.run_setObj_map (P:=P) (.map es clock) h2
  refine ⟨_,by simp [Builtin.delete_,run_underlying ht,MapKept.run_getObj_map h2,hc,hf,hset],fin es clock hst ?_⟩
  rw [g2]; exact h3'
 rw [g1] at hf
 have hset:=MapKept.run_setObj_map (P:=P) (.map (es.eraseIdxIfInBounds i) clock) h2
 have he : (es.eraseIdxIfInBounds i).toList = es.toList.eraseIdx i:=by simp
 refine ⟨_,by simp [Builtin.delete_,run_underlying ht,MapKept.run_getObj_map h2,hc,hf,hset],fin (es.eraseIdxIfInBounds i) clock (by rw [he]; exact hst.erase i) ?_⟩
 rw [he]; exact g2
theorem Zoz {k : κ} {tk : TypeId} (hk : KeyOk P kt kv) (h : Env n a e) (hM : M St w0 w (U1 kv (TD vv) m b :: its)) (hw : Goes ops ⟨none,.call ⟨.builtin .delete,[x,y].toArray,[t,tk].toArray⟩,ty,pos,af,g⟩ a)
  (hx : opv e x = some (.map (some b))) (hy : opv e y = some (kv k)) (ht : P.underlying t = some (.map kt el))
  (K : ∀ w a,M St w0 w (U1 kv (TD vv) (HU m k) b :: its) → Env n a e → wpList P ops Q rest a w) : wpList P ops Q (⟨none,.call ⟨.builtin .delete,[x,y].toArray,[t,tk].toArray⟩,ty,pos,af,g⟩ :: rest) a w:=by
 obtain ⟨w',hrun,hM'⟩:=hM.mapDelV (k:=k) (tk:=tk) (ty:=ty) hk ht
 have hr2 : (execOp a.eval ⟨none,.call ⟨.builtin .delete,[x,y].toArray,[t,tk].toArray⟩,ty,pos,af,g⟩).run P w = .ok (.value (.tuple #[])) w':=by
  simp only [execOp,resolve]
  simp [invoke,builtin,h.ev hx,h.ev hy,hrun,Result.andThen]
 unfold wpList
 rw [if_pos hw]
 refine .inl ?_
 unfold Oper.wp
 rw [hr2,Oper.upon_value]
 exact K _ _ hM' h
end

theorem Zls {P : Program} (w : World) (ty : TypeId) (r bm since last : Nat) (X0 : Array Nat) (es : Array MapEntry) (clock : Nat) (hr : w.heap[r]? = some (.mapIter (some bm) since X0 last)) (hb : w.heap[bm]? = some (.map es clock)) (hold : ∀ x ∈ es.toList,x.born < since) (hsc : since ≤ last) :
  ((leftOf es X0).toList = [] ∧ (Instr.next (.pointer (some ⟨r,0,none⟩)) false ty).run P w = .ok (.tuple #[.bool false]) w) ∨
  ∃ e ∈ (leftOf es X0).toList,∃ q,(Instr.next (.pointer (some ⟨r,0,none⟩)) false ty).run P w = .ok (.tuple #[.bool true,e.key,e.val]) { w with drawn:=q,heap:=w.heap.setIfInBounds r (.mapIter (some bm) since (X0.push e.born) clock) }:=by
 simp only [Instr.next,getObj,Sem.run_bind,Sem.run,hr,hb,Result.andThen,next_test_false X0 es since last hold hsc,Bool.false_eq_true,if_false]
 unfold leftOf
 have hmem : ∀ x ∈ (Array.filter (λe=>!X0.contains e.born) es).toList,x.born < since:=λx hx=>hold x (by simp at hx ⊢; exact hx.1)
 generalize Array.filter (λe=>!X0.contains e.born) es = L at hmem ⊢
 have e1 : L.filter (λx=>decide (x.born < since)) = L:=Array.filter_eq_self.2 (λx hx=>by simpa using hmem x (by simpa using hx))
 have e2 : L.filter (λx=>decide (x.born ≥ since)) = #[]:=by
  rw [Array.filter_eq_empty_iff]
  intro x hx
  have:=hmem x (by simpa using hx)
  simp
  omega
 simp only [e1,e2,Array.append_empty]
 by_cases h0 : L.size = 0
 ·left
  have : L = #[]:=Array.eq_empty_of_size_eq_zero h0
  subst this
  refine ⟨rfl,?_⟩
  simp [choose,Sem.run,Question.forced]
 right
 have hne : L.isEmpty = false:=by simp [Array.isEmpty,h0]
 simp only [hne,Bool.false_eq_true,if_false,Array.empty_append,Array.size_map]
 have hch : ∃ (j : Nat) (q : Nat),j < L.size ∧ (choose (Question.mapNext L.size)).run P w = .ok j { w with drawn:=q }:=by
  by_cases hf : L.size ≤ 1
  ·exact ⟨0,w.drawn,by omega,by simp [choose,Sem.run,Question.forced,hf]⟩
  ·exact ⟨_,w.drawn + 1,Nat.mod_lt _ (by omega),by
    simp only [choose,Sem.run,Question.forced,decide_eq_true_eq,hf,if_false,Question.cut]
    rfl⟩
 obtain ⟨j,q,hj,hrun⟩:=hch
 refine ⟨L[j],by simp,q,?_⟩
 have hset : ∀ (o' : Obj),(setObj r o').run P { w with drawn:=q } = .ok () { w with drawn:=q,heap:=w.heap.setIfInBounds r o' }:=λo'=>by
  simp only [setObj,Sem.run]
  rw [hr]
 simp only [hrun,Array.getElem?_map,Array.getElem?_eq_getElem hj,Option.map_some,Sem.run_bind,hset,Result.andThen]
 rfl

theorem Zjk {P : Program} (w : World) (r bm since clock : Nat) (X0 : Array Nat) (es : Array MapEntry) (e : MapEntry) (hr : w.heap[r]? = some (.mapIter (some bm) since (X0.push e.born) clock)) (hb : w.heap[bm]? = some (.map es clock)) (he : e ∈ es.toList) (hn : (es.toList.map (·.born)).Nodup) :
  (Instr.entry (.pointer (some ⟨r,0,none⟩))).run P w = .ok (.tuple #[e.key,e.val]) w:=by
 have hf : es.find? (·.born == e.born) = some e:=by rw [← Array.find?_toList]; exact find_born e es.toList hn he
 simp only [Instr.entry,getObj,Sem.run_bind,Sem.run,hr,hb,Result.andThen,Array.back?_push,bne_self_eq_false,Bool.false_eq_true,if_false,hf]
 rfl

theorem Zm4 {es : Array MapEntry} {X0 : Array Nat} {e : MapEntry} {L1 L2 : List MapEntry} {clock : Nat} (hs : Q3 es.toList clock) (h : (leftOf es X0).toList = L1 ++ e :: L2) : (leftOf es (X0.push e.born)).toList = L1 ++ L2:=by
 have h1 : (leftOf es (X0.push e.born)).toList = ((leftOf es X0).toList).filter λx=>x.born != e.born:=by
  unfold leftOf
  simp only [Array.toList_filter,List.filter_filter]
  congr 1
  funext x
  simp only [Array.contains_push,Bool.not_or]
  rw [Bool.and_comm]; rfl
 have h2 : (L1 ++ e :: L2).Pairwise λa b=>a.born < b.born:=by
  rw [← h]
  unfold leftOf
  rw [Array.toList_filter]
  exact hs.1.sublist List.filter_sublist
 rw [h1,h,List.filter_append,List.filter_cons]
 rw [List.pairwise_append,List.pairwise_cons] at h2
 obtain ⟨_,⟨a2,_⟩,a4⟩:=h2
 have e1 : L1.filter (λx=>x.born != e.born) = L1:=List.filter_eq_self.2 λx hx=>by have:=a4 x hx e (by simp); simp; omega
 have e2 : L2.filter (λx=>x.born != e.born) = L2:=List.filter_eq_self.2 λx hx=>by have:=a2 x hx; simp; omega
 rw [e1,e2]; simp
theorem Q3.nodup {es : List MapEntry} {clock : Nat} (h : Q3 es clock) : (es.map (·.born)).Nodup:=by
 rw [List.nodup_iff_pairwise_ne,List.pairwise_map]
 exact h.1.imp λh=>Nat.ne_of_lt h
def Zff {κ α : Type} (kv : κ → Value) (E : World → α → Value → List Nat → Prop) (m : List (κ × α)) (ks : List κ) (b r : Nat) : Item:=λw fp =>
 ∃ es clock fpe since X0 last ls,w.heap[b]? = some (.map es clock) ∧ Qd kv E w m es.toList fpe ∧ Q3 es.toList clock ∧ w.heap[r]? = some (.mapIter (some b) since X0 last) ∧ (∀ x ∈ es.toList,x.born < since) ∧ since ≤ last ∧
  (Go.leftOf es X0).toList.map (·.key) = ls.map kv ∧ (ks ++ ls).Perm (m.map (·.1)) ∧ since ≤ clock ∧ fp = r :: b :: fpe
def mapC {κ α : Type} (kv : κ → Value) (E : World → α → Value → List Nat → Prop) (m : List (κ × α)) (ks : List κ) (k : κ) (b r : Nat) : Item:=λw fp =>
 ∃ (es : Array MapEntry) (clock : Nat) (fpe : List Nat) (since : Nat) (X0 : Array Nat) (e : MapEntry) (ls : List κ),w.heap[b]? = some (.map es clock) ∧ Qd kv E w m es.toList fpe ∧ Q3 es.toList clock ∧ w.heap[r]? = some (.mapIter (some b) since (X0.push e.born) clock) ∧ (∀ x ∈ es.toList,x.born < since) ∧ since ≤ clock ∧ e ∈ es.toList ∧ e.key = kv k ∧
  (Go.leftOf es (X0.push e.born)).toList.map (·.key) = ls.map kv ∧ ((ks ++ [k]) ++ ls).Perm (m.map (·.1)) ∧ fp = r :: b :: fpe
section
variable {κ α : Type} {kv : κ → Value} {S St : Nat → Prop} {E : World → α → Value → List Nat → Prop} {w w' w0 : World}
theorem Zg4 (hE : ElOk S E) {m : List (κ × α)} {ks : List κ} {b r : Nat} (hS : ∀ b,S b → St b) : Loc St (Zff kv E m ks b r):=by
 rintro w w' fp ⟨es,c,fpe,since,X0,last,ls,h1,h2,h3,h4,h5,h6,h7,h8,h9,rfl⟩ hb
 exact ⟨es,c,fpe,since,X0,last,ls,by rw [hb b (by simp)]; exact h1,h2.loc hE (λk hk=>hb k (by rcases hk with h | h; exact .inl (by simp [h]); exact .inr (hS k h))),h3,by rw [hb r (by simp)]; exact h4,h5,h6,h7,h8,h9,rfl⟩
theorem Zpk (hE : ElOk S E) {m : List (κ × α)} {ks : List κ} {k : κ} {b r : Nat} (hS : ∀ b,S b → St b) : Loc St (mapC kv E m ks k b r):=by
 rintro w w' fp ⟨es,c,fpe,since,X0,e,ls,h1,h2,h3,h4,h5,h6,h7,h8,h9,h10,rfl⟩ hb
 exact ⟨es,c,fpe,since,X0,e,ls,by rw [hb b (by simp)]; exact h1,h2.loc hE (λk hk=>hb k (by rcases hk with h | h; exact .inl (by simp [h]); exact .inr (hS k h))),h3,by rw [hb r (by simp)]; exact h4,h5,h6,h7,h8,h9,h10,rfl⟩
end
section
variable {n : Nat} {a : Act} {e : List (Nat × Value)} {w w' : World} {P : Program} {ops : Array Oper} {rest : List Oper} {Q : Exit → Act → World → Prop}
variable {d : Nat} {ty t kt el : TypeId} {pos : String} {af : Array Edge} {g : Option (Nat × Bool)} {x y z : Operand} {v u : Value}
variable {St S : Nat → Prop} {w0 : World} {its pre post : List Item} {κ α : Type} {kv : κ → Value} {m : List (κ × α)} {b r : Nat} {ks : List κ} {E : World → α → Value → List Nat → Prop}
theorem M.rangeLen (hM : M St w0 w (Zff kv E m ks b r :: its)) : ks.length ≤ m.length:=by
 obtain ⟨fp,⟨es,c,fpe,since,X0,last,ls,_,_,_,_,_,_,_,h8,_⟩,_⟩:=hM.head
 have:=h8.length_eq
 simp at this; omega
theorem Zsd (hE : ElOk S E) (h : Env n a e) (hM : M St w0 w (U1 kv E m b :: its)) (hS : ∀ b,S b → St b) (hw : Goes ops ⟨some d,.range t x,ty,pos,af,g⟩ a) (hd : d < n)
  (hx : opv e x = some (.map (some b))) (ht : P.underlying t = some (.map kt el))
  (K : ∀ r w a,M St w0 w (Zff kv E m [] b r :: its) → Env n a ((d,ptr r 0) :: e) → wpList P ops Q rest a w) : wpList P ops Q (⟨some d,.range t x,ty,pos,af,g⟩ :: rest) a w:=by
 obtain ⟨fq,⟨es,clock,fpe,h2,h3,hst,_⟩,_⟩:=(show M St w0 w ([] ++ U1 kv E m b :: its) from hM).get
 have hrun : (Instr.range t (.map (some b))).run P w = .ok (.pointer (some ⟨w.heap.size,0,none⟩)) (w.alloc (.mapIter (some b) clock #[] clock)):=Go.run_range_map w t kt el b es clock ht h2
 have hM' : M St w0 (w.alloc (.mapIter (some b) clock #[] clock)) (Zff kv E m [] b w.heap.size :: its):=by
  refine hM.turn (new:=[_]) rfl rfl rfl (by simp) ?_
  rintro fp ⟨es0,c0,f0,k2,k3,k4,rfl⟩ hlt hnd
  have old : ∀ q,q < w.heap.size → (w.alloc (.mapIter (some b) clock #[] clock)).heap[q]? = w.heap[q]?:=λq hq=>Kw w _ q hq
  rw [h2] at k2
  simp only [Option.some.injEq,Obj.map.injEq] at k2
  obtain ⟨rfl,rfl⟩:=k2
  refine ⟨λq _ hq=>old q hq,w.heap.size :: b :: f0,⟨_,[],by simp,Zg4 hE hS,⟨es,clock,f0,clock,#[],clock,m.map (·.1),by rw [old b (hlt b (by simp)).2]; exact h2,k3.loc hE (λq hq=>old q ?_),k4,Go.heap_alloc_new w _,k4.2,Nat.le_refl _,?_,by simp,Nat.le_refl _,rfl⟩,rfl⟩,?_,λq hq=>?_⟩
  ·rcases hq with hq | hq
   ·exact (hlt q (by simp [hq])).2
   ·exact hM.st' q (hS q hq)
  ·rw [← k3.keys]
   unfold Go.leftOf
   rw [Array.toList_filter,List.filter_eq_self.2 (λx _=>by simp)]
  ·refine List.nodup_cons.2 ⟨λhq=>?_,hnd⟩
   exact Nat.lt_irrefl _ (hlt _ hq).2
  ·rcases List.mem_cons.1 hq with rfl | hq
   ·exact .inr ⟨Nat.le_refl _,by simp⟩
   ·exact .inl hq
 exact XV h hw rfl hd (by simp only [execOp,h.ev hx]; simp [hrun]) λa ha=>K _ _ _ hM' ha
theorem s_next (hE : ElOk S E) (h : Env n a e) (hM : M St w0 w (Zff kv E m ks b r :: its)) (hS : ∀ b,S b → St b) (hw : Goes ops ⟨some d,.next x false,ty,pos,af,g⟩ a) (hd : d < n)
  (hx : opv e x = some (ptr r 0))
  (K1 : ∀ w a,ks.Perm (m.map (·.1)) → M St w0 w (U1 kv E m b :: its) → Env n a ((d,.tuple [vT false].toArray) :: e) → wpList P ops Q rest a w)
  (K2 : ∀ k v w a,M St w0 w (mapC kv E m ks k b r :: its) → Env n a ((d,.tuple [vT true,kv k,v].toArray) :: e) → wpList P ops Q rest a w) : wpList P ops Q (⟨some d,.next x false,ty,pos,af,g⟩ :: rest) a w:=by
 obtain ⟨fq,⟨es,clock,fpe,since,X0,last,ls,h1,h2,h3,h4,h5,h6,h7,h8,h9,_⟩,_⟩:=(show M St w0 w ([] ++ Zff kv E m ks b r :: its) from hM).get
 rcases Zls (P:=P) w ty r b since last X0 es clock h4 h1 h5 h6 with ⟨g1,g2⟩ | ⟨e0,g1,q,g2⟩
 ·rw [g1] at h7
  have hl : ls = []:=by cases ls with | nil=>rfl | cons _ _=>simp at h7
  subst hl
  rw [List.append_nil] at h8
  have hM' : M St w0 w (U1 kv E m b :: its):=by
   refine hM.turn (new:=[_]) rfl rfl rfl (Nat.le_refl _) ?_
   rintro fp ⟨es0,c0,f0,_,_,_,_,k1,k2,k3,_,_,_,_,_,_,rfl⟩ hlt hnd
   exact ⟨λ_ _ _=>rfl,b :: f0,⟨_,[],by simp,zc hE hS,⟨es0,c0,f0,k1,k2,k3,rfl⟩,rfl⟩,(List.nodup_cons.1 hnd).2,λq hq=>.inl (by simp at hq ⊢; exact .inr hq)⟩
  exact XV h hw rfl hd (v:=.tuple [vT false].toArray) (by simp only [execOp,h.ev hx]; exact (by simp [ptr,g2])) λa ha=>K1 _ _ h8 hM' ha
 obtain ⟨L1,L2,hL⟩:=List.append_of_mem g1
 rw [hL,List.map_append,List.map_cons] at h7
 obtain ⟨l1,l2,rfl,hl1,hl2⟩:=List.map_eq_append_iff.1 h7.symm
 obtain ⟨k,l3,rfl,hk,hl3⟩:=List.map_eq_cons_iff.1 hl2
 have he : e0 ∈ es.toList:=by
  have : e0 ∈ (Go.leftOf es X0).toList:=g1
  unfold Go.leftOf at this
  rw [Array.toList_filter] at this
  exact (List.mem_filter.1 this).1
 have hr : r < w.heap.size:=(Array.getElem?_eq_some_iff.1 h4).1
 have hbl : b < w.heap.size:=(Array.getElem?_eq_some_iff.1 h1).1
 have hbr : b ≠ r:=λe=>by rw [e,h4] at h1; cases h1
 have hM' : M St w0 { w with drawn:=q,heap:=w.heap.setIfInBounds r (.mapIter (some b) since (X0.push e0.born) clock) } (mapC kv E m ks k b r :: its):=by
  refine hM.turn (new:=[_]) rfl rfl rfl (by simp) ?_
  rintro fp ⟨es0,c0,f0,since0,seen0,last0,_,k1,k2,k3,k4,_,_,_,_,_,rfl⟩ hlt hnd
  rw [h1] at k1
  simp only [Option.some.injEq,Obj.map.injEq] at k1
  obtain ⟨rfl,rfl⟩:=k1
  have ne : ∀ p,p ≠ r → ({ w with drawn:=q,heap:=w.heap.setIfInBounds r (.mapIter (some b) since (X0.push e0.born) clock) } : World).heap[p]? = w.heap[p]?:=λp hp=>by simp [Ne.symm hp]
  refine ⟨λp hp _=>ne p (λe=>hp (by simp [e])),r :: b :: f0,⟨_,[],by simp,Zpk hE hS,⟨es,clock,f0,since,X0,e0,l1 ++ l3,by rw [ne b hbr]; exact h1,k2.loc hE (λp hp=>ne p ?_),k3,by simp [hr],h5,h9,he,hk.symm,?_,?_,rfl⟩,rfl⟩,hnd,λp hp=>.inl hp⟩
  ·rcases hp with hp | hp
   ·exact λe=>(List.nodup_cons.1 hnd).1 (by simp [← e,hp])
   ·exact λe=>(hlt r (by simp)).1 (e ▸ hS p hp)
  ·rw [Zm4 h3 hL,List.map_append,List.map_append,hl1,hl3]
  ·refine List.Perm.trans ?_ h8
   rw [List.append_assoc]
   exact List.Perm.append_left ks (by simpa using (List.perm_middle (l₁:=l1) (l₂:=l3) (a:=k)).symm)
 exact XV h hw rfl hd (v:=.tuple [vT true,kv k,e0.val].toArray) (by simp only [execOp,h.ev hx]; exact (by simp [ptr,g2,← hk])) λa ha=>K2 k e0.val _ _ hM' ha
theorem Zqr {k : κ} (hE : ElOk S E) (h : Env n a e) (hM : M St w0 w (mapC kv E m ks k b r :: its)) (hS : ∀ b,S b → St b) (hw : Goes ops ⟨some d,.entry x,ty,pos,af,g⟩ a) (hd : d < n)
  (hx : opv e x = some (ptr r 0))
  (K : ∀ v a,M St w0 w (Zff kv E m (ks ++ [k]) b r :: its) → Env n a ((d,.tuple [kv k,v].toArray) :: e) → wpList P ops Q rest a w) : wpList P ops Q (⟨some d,.entry x,ty,pos,af,g⟩ :: rest) a w:=by
 obtain ⟨fq,⟨es,clock,fpe,since,X0,e0,ls,h1,h2,h3,h4,h5,h6,h7,h8,_⟩,_⟩:=(show M St w0 w ([] ++ mapC kv E m ks k b r :: its) from hM).get
 have hrun:=Zjk (P:=P) w r b since clock X0 es e0 h4 h1 h7 h3.nodup
 have hM' : M St w0 w (Zff kv E m (ks ++ [k]) b r :: its):=by
  refine hM.pack1 (Zg4 hE hS) ?_
  rintro fp ⟨es0,c0,f0,since0,seen0,e1,ls0,k1,k2,k3,k4,k5,k6,k7,k8,k9,k10,rfl⟩
  exact ⟨es0,c0,f0,since0,_,c0,ls0,k1,k2,k3,k4,k5,k6,k9,k10,k6,rfl⟩
 exact XV h hw rfl hd (v:=.tuple [kv k,e0.val].toArray) (by simp only [execOp,h.ev hx]; exact (by simp [ptr,hrun,h8])) λa ha=>K _ _ hM' ha
theorem Zo3 {c : Code} (N : Nat) (Rel : List κ → Act → World → Prop) (h0 : Rel [] a w) (hl : ∀ ks a w,Rel ks a w → ks.length ≤ N)
  (hr : ∀ ks a w,Rel ks a w → c.wp P (Exit.then (λa w=>∃ k,Rel (ks ++ [k]) a w) Q) a w) : (Code.loop c).wp P Q a w:=by
 refine wp_loop_rounds (N + 1) ?_
 suffices H : ∀ (j : Nat) (ks : List κ) a w,ks.length + j = N + 1 → Rel ks a w → Code.rounds P c Q j a w from H (N + 1) [] a w (by simp) h0
 intro j
 induction j with
 | zero=>intro ks a w hj h; have:=hl ks a w h; omega
 | succ j ih =>
  intro ks a w hj h
  rw [rounds_succ]
  refine wp_mono (hr ks a w h) λex a w hq=>?_
  cases ex <;> first | exact hq | skip
  obtain ⟨k,hk⟩:=hq
  exact ih (ks ++ [k]) a w (by simp; omega) hk
end
theorem Zr2 {α : Type} {l : List α} {i j : Nat} (h : i ≤ j) (h2 : j ≤ l.length) : slc l (i : Int) (j : Int) = some ((l.take j).drop i):=by
 unfold slc; rw [if_pos (by omega)]; simp
section
open Go.Sort
variable {n : Nat} {a : Act} {e : List (Nat × Value)} {w w' : World} {P : Program} {ops : Array Oper} {rest : List Oper} {Q : Exit → Act → World → Prop}
variable {d : Nat} {ty t kt el : TypeId} {pos : String} {af : Array Edge} {g : Option (Nat × Bool)} {x y z : Operand} {v u : Value}
variable {St S : Nat → Prop} {w0 : World} {its pre post : List Item} {l : List Int}
theorem Zaj : ∀ l : List Int,XA l = l.map (Value.int .i64)
 | []=>rfl
 | x :: l=>by show Value.int .i64 x :: XA l = _; rw [Zaj l]; rfl
theorem ky {b o cap : Nat} {c : Array Value} {T : TypeId} {fz : Nat × Nat} (hA : At w b o (XA l)) (hheap : w.heap[b]? = some (.cells c T fz)) (hsz : o + cap * Flat.n Int ≤ c.size) (hcap : l.length ≤ cap) (hfz : ∀ i,i < c.size → ¬ (fz.1 ≤ i ∧ i < fz.2)) : Holds (Value.int .i64) w b o l.toArray:=by
 intro j hj
 have hj : j < l.length:=by simpa using hj
 have hn : cap * Flat.n Int = cap:=Nat.mul_one cap
 refine ⟨?_,?_⟩
 ·refine hA j _ ?_
  rw [Zaj,List.getElem?_map,List.getElem?_eq_getElem hj]
  simp [getElem!_pos,hj]
 simp only [World.frozen?,hheap]
 have:=hfz (o + j) (by omega)
 simp only [Bool.and_eq_false_iff,decide_eq_false_iff_not]
 omega
theorem M.rowNew {l' : List Int} {b o cap q : Nat} {os : Array Obj} (hM : M St w0 w (osl NoB l (.slice (some ⟨b,o,Option.none⟩) l.length cap) :: its)) (hl : l'.length = l.length) (hne : 0 < l.length) :
  M St w0 (grow (putRow (Value.int .i64) (Go.Sort.ahead w q) b o l'.toArray) os) (osl NoB l' (.slice (some ⟨b,o,Option.none⟩) l.length cap) :: its):=by
 obtain ⟨b',o',cap',c,T,fz,e,hcap,hA,hheap,hsz,hfz⟩:=jM hM hne
 simp only [Value.slice.injEq,Option.some.injEq,Addr.mk.injEq,and_true,true_and] at e
 obtain ⟨⟨rfl,rfl⟩,rfl⟩:=e
 have hH:=ky hA hheap hsz hcap hfz
 have hbl : b < w.heap.size:=(Array.getElem?_eq_some_iff.1 hheap).1
 have hn : cap * Flat.n Int = cap:=Nat.mul_one cap
 have hw : (grow (putRow (Value.int .i64) (Go.Sort.ahead w q) b o l'.toArray) os).heap[b]? = some (.cells (putCells (Value.int .i64) o l'.toArray c) T fz):=by
  simp only [grow,putRow,mapBlock]
  rw [Array.getElem?_append_left (by simpa using hbl),Array.getElem?_modify,if_pos rfl]
  show Option.map _ w.heap[b]? = _
  rw [hheap]; rfl
 have hcell : ∀ j,(grow (putRow (Value.int .i64) (Go.Sort.ahead w q) b o l'.toArray) os).cell? ⟨b,j,Option.none⟩ = (putRow (Value.int .i64) (Go.Sort.ahead w q) b o l'.toArray).cell? ⟨b,j,Option.none⟩:=λj=>by
  have : (putRow (Value.int .i64) (Go.Sort.ahead w q) b o l'.toArray).heap[b]? = some (.cells (putCells (Value.int .i64) o l'.toArray c) T fz):=by
   simp only [putRow,mapBlock]
   rw [Array.getElem?_modify,if_pos rfl]
   show Option.map _ w.heap[b]? = _
   rw [hheap]; rfl
  simp only [World.cell?,hw,this]
 refine hM.turn (new:=[osl NoB l' _]) rfl rfl rfl (by simp [grow,putRow,mapBlock,Go.Sort.ahead]) ?_
 intro fp hfp hlt hnd
 obtain ⟨p,cap0,e,hcap0,hO⟩:=hfp
 rcases hO with ⟨h0,_⟩ | ⟨b1,o1,ecs,fpe,hp,k1,k2,rfl,k3⟩
 ·simp only [Value.slice.injEq] at e; omega
 simp only [Value.slice.injEq] at e
 obtain ⟨e1,_,e3⟩:=e
 rw [hp] at e1
 simp only [Option.some.injEq,Addr.mk.injEq,and_true] at e1
 obtain ⟨rfl,rfl⟩:=e1
 obtain ⟨rfl,rfl⟩:=XG.1 k1
 refine ⟨λp hp2 hps=>?_,[b],⟨[b],[],rfl,TP noB,⟨some ⟨b,o,Option.none⟩,cap,by rw [hl],by omega,.inr ⟨b,o,XA l',[],rfl,XG.2 ⟨rfl,rfl⟩,?_,rfl,⟨_,T,fz,hw,?_,?_⟩⟩⟩,rfl⟩,by simp,λp hp=>.inl hp⟩
 ·have hne2 : ¬ b = p:=λe=>hp2 (by simp [e])
  simp only [grow,putRow,mapBlock]
  rw [Array.getElem?_append_left (by simpa using hps),Array.getElem?_modify,if_neg hne2]; rfl
 ·intro i u hu
  rw [Zaj,List.getElem?_map] at hu
  obtain ⟨k,hk,rfl⟩:=Option.map_eq_some_iff.1 hu
  obtain ⟨hi,rfl⟩:=List.getElem?_eq_some_iff.1 hk
  have hH' : Holds (Value.int .i64) (Go.Sort.ahead w q) b o l.toArray:=hH
  rw [hcell,cell?_putRow (Value.int .i64) (Go.Sort.ahead w q) b o l.toArray l'.toArray hH' (by simp [hl]) i (by simpa using hi)]
  simp [getElem!_pos,hi]
 ·simp only [putCells,Array.size_mapIdx]; exact hsz
 intro i hi
 exact hfz i (by simpa [putCells] using hi)
def Ur (l : List Int) : List Int:=l.mergeSort λx y=>decide (x ≤ y)
theorem zC (l : List Int) : (Ur l).length = l.length:=List.length_mergeSort l
theorem Zip {l l' : List Int} (h : l.Perm l') : Ur l = Ur l':=by
 have t : ∀ a b c : Int,decide (a ≤ b) = true → decide (b ≤ c) = true → decide (a ≤ c) = true:=λa b c h1 h2=>by simp at *; omega
 have tot : ∀ a b : Int,(decide (a ≤ b) || decide (b ≤ a)) = true:=λa b=>by simp; omega
 have p : (Ur l).Perm (Ur l'):=(List.mergeSort_perm l _).trans (h.trans (List.mergeSort_perm l' _).symm)
 have s1:=List.pairwise_mergeSort t tot l
 have s2:=List.pairwise_mergeSort t tot l'
 exact p.eq_of_pairwise (λa b _ _ h1 h2=>by simp at h1 h2; omega) s1 s2
theorem Zlv {α : Type} {nums ks : List Int} {m : List (Int × α)} {k : Int} (h : (ks ++ [k]).length ≤ m.length) (hap : (nums.length + (m.map (·.1)).length) * 8 ≤ 140737488355328) : ((app 8 (nums ++ ks) [k]).bind λ_=>some ((nums ++ ks) ++ [k])) = some ((nums ++ ks) ++ [k]):=by
 unfold app
 rw [if_pos (by simp at *; omega)]; rfl
theorem Zl4 {α : Type} {nums ks : List Int} {m : List (Int × α)} (h : ks.Perm (m.map (·.1))) (hap : (nums.length + (m.map (·.1)).length) * 8 ≤ 140737488355328) : (nums ++ ks).length < 4611686018427387904:=by
 have:=h.length_eq
 rw [List.length_append]; omega
theorem Zi0 {nums ks : List Int} (l : List Int) (hap : (nums.length + ks.length) * 8 ≤ 140737488355328) (hl : l = nums ++ ks:=by rfl) : l.length < 4611686018427387904:=by
 rw [hl,List.length_append]; omega
theorem Zc5 (l : List Int) : (Lib.compact l).length ≤ l.length:=by
 unfold Lib.compact Lib.compactUpTo
 rw [List.length_map]
 exact Nat.le_trans (List.length_filter_le _ _) (by simp)
theorem s_sort {f : Nat} {ats : Array TypeId} (h : Env n a e) (hM : M St w0 w (osl NoB l v :: its)) (hw : Goes ops ⟨some d,.call ⟨.value (.func f),[x].toArray,ats⟩,ty,pos,af,g⟩ a) (hd : d < n)
  (hx : opv e x = some v) (hf : Callable P f) (hlen : l.length < 4611686018427387904)
  (hS : ∀ (blk off cap : Nat) (zs : List Int) (w : World),Holds (Value.int .i64) w blk off zs.toArray → blk < w.heap.size → zs.length < 4611686018427387904 → Calls P f #[.slice (some ⟨blk,off,none⟩) zs.length cap] w λe w'=>e = .returned (.tuple #[]) ∧ ∃ n os,w' = grow (putRow (Value.int .i64) (Go.Sort.ahead w n) blk off (zs.mergeSort λx y=>decide (x ≤ y)).toArray) os)
  (hN : ∀ (p : Option Addr) (cap : Nat) (w : World),Calls P f #[.slice p 0 cap] w λe w'=>e = .returned (.tuple #[]) ∧ w' = w)
  (K : ∀ w a,M St w0 w (osl NoB (Ur l) v :: its) → Env n a ((d,.tuple #[]) :: e) → wpList P ops Q rest a w) : wpList P ops Q (⟨some d,.call ⟨.value (.func f),[x].toArray,ats⟩,ty,pos,af,g⟩ :: rest) a w:=by
 refine ZW (vs:=[v]) (R:=λv' w'=>v' = .tuple #[] ∧ M St w0 w' (osl NoB (Ur l) v :: its)) h hw hd (by simp [J1,hx]) hf ?_ (λv' w' a ⟨e1,e2⟩ ha=>K _ _ e2 (e1 ▸ ha))
 rcases Nat.eq_zero_or_pos l.length with h0 | hne
 ·have hl : l = []:=List.length_eq_zero_iff.1 h0
  subst hl
  obtain ⟨fp,⟨p,cap,rfl,_⟩,_⟩:=hM.head
  refine (hN p cap w).mono ?_
  rintro en w' ⟨rfl,rfl⟩
  have e1 : Ur [] = []:=List.length_eq_zero_iff.1 (zC [])
  rw [e1]
  exact ⟨_,rfl,rfl,hM⟩
 obtain ⟨b,o,cap,c,T,fz,rfl,hcap,hA,hheap,hsz,hfz⟩:=jM hM hne
 refine (hS b o cap l w (ky hA hheap hsz hcap hfz) (Array.getElem?_eq_some_iff.1 hheap).1 hlen).mono ?_
 rintro en w' ⟨rfl,q,os,rfl⟩
 exact ⟨_,rfl,rfl,M.rowNew (l':=Ur l) hM (zC l) hne⟩
theorem Zly {f : Nat} {ats : Array TypeId} (h : Env n a e) (hM : M St w0 w (osl NoB l v :: its)) (hSt : ∀ b,NoB b → St b) (hw : Goes ops ⟨some d,.call ⟨.value (.func f),[x].toArray,ats⟩,ty,pos,af,g⟩ a) (hd : d < n)
  (hx : opv e x = some v) (hf : Callable P f) (hlen : l.length < 4611686018427387904) (hle : (Lib.compact l).length ≤ l.length)
  (hS : ∀ (blk off cap : Nat) (zs : List Int) (w : World),Holds (Value.int .i64) w blk off zs.toArray → zs.length ≤ 9223372036854775807 → zs.length ≤ cap → Calls P f #[.slice (some ⟨blk,off,none⟩) zs.length cap] w λe w'=>e = .returned (.slice (some ⟨blk,off,none⟩) (Lib.compact zs).length cap) ∧ ∃ q,w' = putRow (Value.int .i64) (Go.Sort.ahead w q) blk off (Lib.compact zs ++ List.replicate (zs.length - (Lib.compact zs).length) 0).toArray)
  (hN : ∀ (p : Option Addr) (cap : Nat) (w : World),Calls P f #[.slice p 0 cap] w λe w'=>e = .returned (.slice p 0 cap) ∧ w' = w)
  (K : ∀ u w a,M St w0 w (osl NoB (Lib.compact l) u :: its) → Env n a ((d,u) :: e) → wpList P ops Q rest a w) : wpList P ops Q (⟨some d,.call ⟨.value (.func f),[x].toArray,ats⟩,ty,pos,af,g⟩ :: rest) a w:=by
 refine ZW (vs:=[v]) (R:=λv' w'=>M St w0 w' (osl NoB (Lib.compact l) v' :: its)) h hw hd (by simp [J1,hx]) hf ?_ (λv' w' a e2 ha=>K _ _ _ e2 ha)
 rcases Nat.eq_zero_or_pos l.length with h0 | hne
 ·have hl : l = []:=List.length_eq_zero_iff.1 h0
  subst hl
  obtain ⟨fp,⟨p,cap,rfl,_⟩,_⟩:=hM.head
  refine (hN p cap w).mono ?_
  rintro en w' ⟨rfl,rfl⟩
  refine ⟨_,rfl,?_⟩
  have : Lib.compact ([] : List Int) = []:=List.length_eq_zero_iff.1 (by simpa using hle)
  rw [this]; exact hM
 obtain ⟨b,o,cap,c,T,fz,rfl,hcap,hA,hheap,hsz,hfz⟩:=jM hM hne
 refine (hS b o cap l w (ky hA hheap hsz hcap hfz) (by omega) hcap).mono ?_
 rintro en w' ⟨rfl,q,rfl⟩
 refine ⟨_,rfl,?_⟩
 have h1:=M.rowNew (l':=Lib.compact l ++ List.replicate (l.length - (Lib.compact l).length) 0) (q:=q) (os:=#[]) hM (by simp; omega) hne
 rw [grow_empty] at h1
 have h2:=h1.cut (j:=((Lib.compact l).length : Int)) (r:=Lib.compact l) hSt (by
  have:=Zr2 (l:=Lib.compact l ++ List.replicate (l.length - (Lib.compact l).length) (0 : Int)) (i:=0) (j:=(Lib.compact l).length) (Nat.zero_le _) (by simp)
  simpa using this)
 simp only [Int.toNat_natCast] at h2
 have e1 : ZV (.slice (some ⟨b,o,none⟩) l.length cap) (0 : Int).toNat (Lib.compact l).length (Rep.n Int) = .slice (some ⟨b,o,none⟩) (Lib.compact l).length cap:=by
  rw [show (0 : Int).toNat = 0 from rfl,Zgp (by omega)]; simp
 rw [e1] at h2
 exact h2
end
section
variable {P : Program} {t : TypeId}
end
end
section
open Go
def opnI {α : Type} [Rep α] (l : List α) (i : Nat) (v : Value) (x : α) (u : Value) : Item:=qF NoB [own NoB x (Value.cells u).toList,AH NoB l i v (Value.cells u).toList]
section
variable {α : Type} [Rep α] {St : Nat → Prop} {w w0 : World} {l : List α} {v u : Value} {i : Nat} {x : α} {c c' : List Value} {its : List Item}
end
def swap2F {α : Type} : List α → Option (List α)
 | a :: b :: r=>some (b :: a :: r)
 | _=>none
section
variable {α : Type} [Rep α] {St : Nat → Prop} {w w0 : World} {l q : List α} {v : Value} {its : List Item}
end
def frontF {α : Type} (n : Nat) (l : List α) (x : α) : Option (List α):=match l with
 | _ :: t=>(app n [x] t).bind λ_=>some (x :: t)
 | []=>none
section
variable {α : Type} [Rep α] {St : Nat → Prop} {w w0 : World} {l q : List α} {v : Value} {x : α} {c cs : List Value} {its : List Item} {n : Nat}
end
def osz {α : Type} [Flat α] (_S : Nat → Prop) (l : List α) (v : Value) : Item:=λw fp=>∃ b,v = .slice (some ⟨b,0,none⟩) l.length l.length ∧ raw b (XA l) w fp
theorem Zrb {α : Type} [Flat α] {St S : Nat → Prop} {l : List α} {v : Value} : Loc St (osz S l v):=λw w' fp ⟨b,e,h⟩ hb=>⟨b,e,XR w w' fp h hb⟩
theorem Zqs {P : Program} {w : World} {b o : Nat} {c : Array Value} {T : TypeId} {fz : Nat × Nat} (h : w.heap[b]? = some (.cells c T fz)) : (markStringish ⟨b,o,none⟩).run P w = .ok () (w.freeze ⟨b,c.size,none⟩ 1):=by
 have hs : w.shape? b = some (T,c.size):=by simp [World.shape?,h]
 simp [markStringish,shape,freeze,Sem.run,hs,bind,Sem.bind,pure]
section
variable {n : Nat} {a : Act} {e : List (Nat × Value)} {w : World} {P : Program} {ops : Array Oper} {rest : List Oper} {Q : Exit → Act → World → Prop}
variable {d : Nat} {ty t : TypeId} {pos : String} {af : Array Edge} {g : Option (Nat × Bool)} {x : Operand} {v : Value} {St : Nat → Prop} {w0 : World} {its : List Item}
theorem Zp3 {xs : List Operand} {l : List UInt8} {m el by_ : Nat} {D : TypeDesc} {z : List Value}
  (h : Env n a e) (hM : M St w0 w its) (hw : Goes ops ⟨some d,.buildSlice t m (Hc 0 xs).toArray,ty,pos,af,g⟩ a) (hd : d < n) (hxs : J1 e xs = some (XA l)) (hm : l.length = m)
  (ht : P.underlying t = some (.slice el)) (he : Ty P el D 1 by_ z) (hsmall : m ≤ 16777216)
  (k : ∀ v w a,M St w0 w (osz NoB l v :: its) → Env n a ((d,v) :: e) → wpList P ops Q rest a w) : wpList P ops Q (⟨some d,.buildSlice t m (Hc 0 xs).toArray,ty,pos,af,g⟩ :: rest) a w:=by
 have hl : (XA l).length = m:=by rw [Tw,hm]; exact Nat.mul_one m
 refine TB h hM hw hd hxs hl ht he hsmall (λv hv=>?_) λb w a hM hE=>k _ w a ?_ hE
 ·induction l with
  | nil=>cases hv
  | cons y l ih =>
   clear ih
   have : ∀ q : List UInt8,v ∈ XA q → v.cells.toList = [v]:=λq=>by
    induction q with
    | nil=>intro h; cases h
    | cons y q ih =>
     intro h
     rcases List.mem_append.1 (show v ∈ Flat.enc y ++ XA q from h) with h | h
     ·obtain rfl:=List.mem_singleton.1 h; rfl
     ·exact ih h
   exact this _ hv
 subst hm
 exact hM.pack1 Zrb λfp h=>⟨b,rfl,h⟩
theorem Zra {l : List UInt8} {el : TypeId} (h : Env n a e) (hM : M St w0 w (osz NoB l v :: its)) (hw : Goes ops ⟨some d,.convert t t x,ty,pos,af,g⟩ a) (hd : d < n) (hx : opv e x = some v)
  (ht : P.underlying t = some (.slice el)) (he : P.underlying el = some (.int .u8))
  (k : ∀ w a,M St w0 w (osl NoB l v :: its) → Env n a ((d,v) :: e) → wpList P ops Q rest a w) : wpList P ops Q (⟨some d,.convert t t x,ty,pos,af,g⟩ :: rest) a w:=by
 obtain ⟨fp,⟨b,rfl,rfl,T,hb⟩,hlt⟩:=hM.head
 have hsz : (XA l).toArray.size = l.length:=by rw [List.size_toArray,Tw]; exact Nat.mul_one _
 have hm:=Zqs (P:=P) (o:=0) hb
 rw [hsz] at hm
 have hbl : b < w.heap.size:=hlt b (by simp)
 have hfb : (w.freeze ⟨b,l.length,none⟩ 1).heap[b]? = some (.cells (XA l).toArray T (l.length,l.length + 1)):=by
  unfold World.freeze
  simp [Array.getElem?_modify,hb]
 have hfo : ∀ b',b' ≠ b → (w.freeze ⟨b,l.length,none⟩ 1).heap[b']? = w.heap[b']?:=λb' hne=>by
  unfold World.freeze
  simp [Array.getElem?_modify,Ne.symm hne]
 refine XV h hw rfl hd (v:=.slice (some ⟨b,0,none⟩) l.length l.length) (w':=w.freeze ⟨b,l.length,none⟩ 1) (by
  simp only [execOp,h.ev hx]
  simp [convert,Sem.run_bind,run_underlying ht,run_underlying he,hm]) λa ha=>k _ _ ?_ ha
 have hos : (w.freeze ⟨b,l.length,none⟩ 1).os = w.os ∧ (w.freeze ⟨b,l.length,none⟩ 1).tape = w.tape ∧ (w.freeze ⟨b,l.length,none⟩ 1).output = w.output ∧ (w.freeze ⟨b,l.length,none⟩ 1).heap.size = w.heap.size:=by
  unfold World.freeze
  simp
 refine hM.turn (new:=[osl NoB l _]) hos.1 hos.2.1 hos.2.2.1 (Nat.le_of_eq hos.2.2.2.symm) ?_
 rintro fp ⟨b',e',rfl,_⟩ hlt' hnd
 simp only [Value.slice.injEq,Option.some.injEq,Addr.mk.injEq,and_true] at e'
 obtain ⟨rfl,_⟩:=e'
 refine ⟨λb2 h2 _=>hfo b2 (by simpa using h2),[b],⟨[b],[],rfl,TP noB,⟨some ⟨b,0,Option.none⟩,l.length,rfl,Nat.le_refl _,.inr ⟨b,0,XA l,[],rfl,XG.2 ⟨rfl,rfl⟩,At.of_heap hfb,rfl,⟨_,T,_,hfb,?_,?_⟩⟩⟩,rfl⟩,by simp,λb2 h2=>.inl h2⟩
 ·rw [hsz]; show 0 + l.length * 1 ≤ l.length; omega
 intro i hi
 rw [hsz] at hi
 show ¬ (l.length ≤ i ∧ i < l.length + 1)
 omega
end
end
end Go.Proofs.YtfhhlkkhcoaapaaGreat
