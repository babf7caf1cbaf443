/- The walk library: what this claim needs of it. -/
import Derived.Test.YtpibglnacohdkaaGreatK1
set_option linter.unusedVariables false
set_option linter.unusedSimpArgs false
set_option linter.unusedSectionVars false
namespace Go.Proofs.YtpibglnacohdkaaGreat
open Go

theorem Ta {σ ρ τ : Type} {s : σ} {f : σ → Option τ} {g : ρ → Option τ} {r : τ} (h : (Fl.nx s : Fl σ ρ).el f g = some r) : f s = some r:=h
def tupGet (v : Value) (i : Nat) : Value:=match v with
 | .tuple vs=>vs.toList.getD i undef
 | _=>undef
def VZ (v : Value) (cs : List Value) : Item:=fun w fp=>∃ b,v = ptr b 0 ∧ raw b cs w fp
def cellI (there stored : Bool) (v : Value) (z c : List Value) : Item:=if there = true then (if stored = true then VZ v c else VZ v z) else Go.Proofs.YtpibglnacohdkaaGreat.emp
abbrev Gs:=List (List Nat × (List Value → Value → Prop))
abbrev Mk:=List (List Nat × (List Bool → List Value → Item))
def qL (mk : Mk) (D : Nat → Bool) (u : Nat → Value) : List Item:=mk.map fun p=>p.2 (p.1.map D) (p.1.map u)
def mkO (j : Nat) (f : Value → Item) : List Nat × (List Bool → List Value → Item):=([j],fun bs us=>opt (bs.headD false) (f (us.headD undef)))
def mkC (j s : Nat) (z c : List Value) : List Nat × (List Bool → List Value → Item):=([j,s],fun bs us=>cellI (bs.headD false) (bs.getD 1 false) (us.headD undef) z c)
def GOk (gs : Gs) (D : Nat → Bool) (u : Nat → Value) : Prop:=∀ j,D j = true → ∀ g,gs[j]? = some g → (∀ k ∈ g.1,D k = true) ∧ g.2 (g.1.map u) (u j)
theorem Hr {D : Nat → Bool} {u : Nat → Value} {i : Nat} {v : Value} {l : List Nat} (h : i ∉ l) : l.map (UM D i) = l.map D ∧ l.map (UR u i v) = l.map u:=by
 constructor <;> apply List.map_congr_left <;> intro k hk <;> have : k ≠ i:=(fun e=>h (e ▸ hk))
 ·simp [UM,this]
 ·simp [UR,this]
theorem Kp {mk : Mk} {D : Nat → Bool} {u : Nat → Value} {i : Nat} {v : Value} (hi : ∀ p ∈ mk,i ∉ p.1) : qL mk (UM D i) (UR u i v) = qL mk D u:=by
 unfold qL
 apply List.map_congr_left
 intro p hp
 obtain ⟨h1,h2⟩:=Hr (D:=D) (u:=u) (v:=v) (hi p hp)
 rw [h1,h2]
theorem GOk.upd {gs : Gs} {D : Nat → Bool} {u : Nat → Value} {i : Nat} {v : Value} (h : GOk gs D u) (hD : D i = false) (hi : ∀ g,gs[i]? = some g → (∀ k ∈ g.1,D k = true) ∧ g.2 (g.1.map u) v) : GOk gs (UM D i) (UR u i v):=by
 have tr : ∀ k,D k = true → UM D i k = true:=fun k hk=>by
  unfold UM
  split
  ·rfl
  ·exact hk
 have nm : ∀ l : List Nat,(∀ k ∈ l,D k = true) → i ∉ l:=fun l hl hm=>by have:=hl i hm; rw [hD] at this; cases this
 intro j hj g hg
 by_cases hji : j = i
 ·subst hji
  obtain ⟨h1,h2⟩:=hi g hg
  refine ⟨fun k hk=>tr k (h1 k hk),?_⟩
  rw [(Hr (D:=D) (u:=u) (v:=v) (nm _ h1)).2]
  simpa [UR] using h2
 ·have hj' : D j = true:=by unfold UM at hj; rwa [if_neg hji] at hj
  obtain ⟨h1,h2⟩:=h j hj' g hg
  refine ⟨fun k hk=>tr k (h1 k hk),?_⟩
  rw [(Hr (D:=D) (u:=u) (v:=v) (nm _ h1)).2]
  simpa [UR,hji] using h2
theorem GOk.put {gs : Gs} {D : Nat → Bool} {u : Nat → Value} {i : Nat} {v : Value} {ks : List Nat} {pr : List Value → Value → Prop} (h : GOk gs D u) (hD : D i = false) (hi : gs[i]? = some (ks,pr)) (h1 : ∀ k ∈ ks,D k = true) (h2 : pr (ks.map u) v) : GOk gs (UM D i) (UR u i v) :=
 h.upd hD fun g hg=>by rw [hi] at hg; cases hg; exact ⟨h1,h2⟩
theorem allN {D : Nat → Bool} : ∀ k ∈ ([] : List Nat),D k = true:=fun _ h=>by cases h
theorem allC {D : Nat → Bool} {k : Nat} {ks : List Nat} (h : D k = true) (hs : ∀ k ∈ ks,D k = true) : ∀ j ∈ k :: ks,D j = true:=fun j hj=>by
 rcases List.mem_cons.1 hj with rfl | hj
 ·exact h
 ·exact hs j hj
theorem gok0 {gs : Gs} {u : Nat → Value} : GOk gs (fun _=>false) u:=fun _ h=>by cases h
def HV (St : Nat → Prop) (l : List Item) : Item:=fun w fp=>XH St w l fp
theorem zQ {St : Nat → Prop} {l : List Item} : Loc St (HV St l):=fun _ _ _ h hb=>XH.loc h hb
theorem BZ {α : Type} [Rep α] {x : α} {cs : List Value} {r : List Item} (h : yO r) : yO (own NoB x cs :: r):=by
 intro it hi
 rcases List.mem_cons.1 hi with rfl | hi
 ·exact V5 fun _ h=>h
 ·exact h it hi
theorem Env.dummy {n : Nat} {a : Act} {e : List (Nat × Value)} {t : Nat} (h : Env n a e) (ht : n ≤ t) : Env n a ((t,undef) :: e):=by
 refine ⟨h.sz,h.df,fun s v hs=>?_⟩
 simp only [List.lookup_cons] at hs
 by_cases hst : s = t
 ·subst hst
  simp at hs
  subst hs
  rw [Array.getD_eq_getD_getElem?,Array.getElem?_eq_none (by rw [h.sz]; exact ht)]; rfl
 ·rw [show (s == t) = false by simpa using hst] at hs
  exact h.get s v hs
section
variable {St : Nat → Prop} {w0 w : World} {its pre post : List Item} {mk mk1 mk2 : Mk} {D : Nat → Bool} {u : Nat → Value} {i s b : Nat} {v : Value} {z c : List Value}
theorem noti (h : (mk.all fun p=>p.1.all fun k=>k != i) = true) : ∀ p ∈ mk,i ∉ p.1:=by
 intro p hp hm
 have:=List.all_eq_true.1 (List.all_eq_true.1 h p hp) i hm
 simp at this
theorem M.qKeep (h : M St w0 w (its ++ qL mk D u)) (hi : (mk.all fun p=>p.1.all fun k=>k != i) = true) : M St w0 w (its ++ qL mk (UM D i) (UR u i v)):=by
 rw [Kp (noti hi)]; exact h
theorem HN {mk1 mk2 : Mk} {p : List Nat × (List Bool → List Value → Item)} : qL (mk1 ++ p :: mk2) D u = qL mk1 D u ++ (p.2 (p.1.map D) (p.1.map u) :: qL mk2 D u):=by simp [qL]
theorem M.qPut {p : List Nat × (List Bool → List Value → Item)} {it : Item} (h : M St w0 w (it :: (its ++ qL (mk1 ++ p :: mk2) D u))) (hi : ((mk1 ++ mk2).all fun p=>p.1.all fun k=>k != i) = true)
  (h1 : p.2 (p.1.map D) (p.1.map u) = Go.Proofs.YtpibglnacohdkaaGreat.emp) (h2 : p.2 (p.1.map (UM D i)) (p.1.map (UR u i v)) = it) : M St w0 w (its ++ qL (mk1 ++ p :: mk2) (UM D i) (UR u i v)):=by
 have hne:=noti hi
 rw [HN] at h ⊢
 rw [Kp (fun p hp=>hne p (List.mem_append_left _ hp)),Kp (fun p hp=>hne p (List.mem_append_right _ hp)),h2]
 rw [h1] at h
 have h3 : M St w0 w ((it :: (its ++ qL mk1 D u)) ++ Go.Proofs.YtpibglnacohdkaaGreat.emp :: qL mk2 D u):=by simpa using h
 have h4:=h3.pull.drop
 have h5 : M St w0 w (it :: ((its ++ qL mk1 D u) ++ qL mk2 D u)):=by simpa using h4
 simpa using M.push h5
theorem M.qFill {f : Value → Item} (h : M St w0 w (f v :: (its ++ qL (mk1 ++ mkO i f :: mk2) D u))) (hi : ((mk1 ++ mk2).all fun p=>p.1.all fun k=>k != i) = true) (hD : D i = false) :
  M St w0 w (its ++ qL (mk1 ++ mkO i f :: mk2) (UM D i) (UR u i v)) :=
 M.qPut h hi (by simp [mkO,hD,Kg]) (by simp [mkO,UM,UR,Jj])
end

def tog (b : Bool) (A B : Item) : Item:=if b = true then B else A
def mkT (s : Nat) (A B : Item) : List Nat × (List Bool → List Value → Item):=([s],fun bs _=>tog (bs.headD false) A B)
section
variable {St : Nat → Prop} {w0 w : World} {its pre post : List Item} {mk mk1 mk2 : Mk} {D : Nat → Bool} {u : Nat → Value} {s : Nat} {v : Value} {A B : Item}
theorem M.q0 (h : M St w0 w its) (u : Nat → Value) : M St w0 w (its ++ qL [] (fun _=>false) u):=by simpa [qL] using h
theorem M.qE {p : List Nat × (List Bool → List Value → Item)} (h : M St w0 w (its ++ qL mk (fun _=>false) u)) (he : ∀ us,p.2 (p.1.map fun _=>false) us = Go.Proofs.YtpibglnacohdkaaGreat.emp) : M St w0 w (its ++ qL (p :: mk) (fun _=>false) u):=by
 have : M St w0 w (Go.Proofs.YtpibglnacohdkaaGreat.emp :: (its ++ qL mk (fun _=>false) u)):=h.emp
 rw [← he (p.1.map u)] at this
 exact M.push this
theorem M.qT (h : M St w0 w ((A :: its) ++ qL mk (fun _=>false) u)) : M St w0 w (its ++ qL (mkT s A B :: mk) (fun _=>false) u):=M.push (pre:=its) (post:=qL mk (fun _=>false) u) h
theorem emO {j : Nat} {f : Value → Item} : ∀ us,(mkO j f).2 ((mkO j f).1.map fun _=>false) us = Go.Proofs.YtpibglnacohdkaaGreat.emp:=fun _=>by simp [mkO,Kg]
theorem M.togA {b : Bool} (h : M St w0 w (pre ++ tog b A B :: post)) (hb : b = false) : M St w0 w (pre ++ A :: post):=by subst hb; exact h
theorem M.togB {b : Bool} (h : M St w0 w (pre ++ tog b A B :: post)) (hb : b = true) : M St w0 w (pre ++ B :: post):=by subst hb; exact h
theorem M.qTog (h : M St w0 w (B :: (its ++ (qL mk1 D u ++ qL mk2 D u)))) (hi : ((mk1 ++ mk2).all fun p=>p.1.all fun k=>k != s) = true) : M St w0 w (its ++ qL (mk1 ++ mkT s A B :: mk2) (UM D s) (UR u s v)):=by
 have hne':=noti hi
 rw [HN,Kp (fun p hp=>hne' p (List.mem_append_left _ hp)),Kp (fun p hp=>hne' p (List.mem_append_right _ hp))]
 have e : (mkT s A B).2 ((mkT s A B).1.map (UM D s)) ((mkT s A B).1.map (UR u s v)) = B:=by simp [mkT,UM,tog]
 rw [e]
 have h5 : M St w0 w (B :: ((its ++ qL mk1 D u) ++ qL mk2 D u)):=by simpa using h
 simpa using M.push h5
end

def DrawI3 (P : Program) (l hd tl : List Oper) (Q : Exit → Act → World → Prop) (n : Nat) (ts : List Nat) (e0 : List (Nat × Value)) (I : (Nat → Bool) → (Nat → Value) → World → Prop) (listed : Array Bool) (a : Act) (w : World) : Prop :=
 ((∀ i,i < hd.length → dn listed i) ∧ ∃ k,k ≤ tl.length ∧ (∀ j,j < k → dn listed (hd.length + j)) ∧ (∀ j,k ≤ j → j < tl.length → ¬ dn listed (hd.length + j)) ∧ wpList P l.toArray Q (tl.drop k) a w) ∨
 ((¬ ∀ i,i < hd.length → dn listed i) ∧ (∀ j,hd.length ≤ j → ¬ dn listed j) ∧ ∃ u,Env n a (UI ts 0 u e0) ∧ I (fun j=>listed.getD j false) u w)

theorem qt {P : Program} {id : Nat} {hd tl : List Oper} {Q : Exit → Act → World → Prop} {a : Act} {w : World} {n : Nat} {e0 : List (Nat × Value)}
  (hm : P.follows .mixedOrders = true) (hE : Qy (hd ++ tl) 0 = true) (hT : B9 (hd ++ tl) hd.length = true)
  (ts : List Nat) (hn : ts.Nodup) (I : (Nat → Bool) → (Nat → Value) → World → Prop)
  (h0 : Env n a e0) (hM0 : ∀ u,I (fun _=>false) u w.drew)
  (hstep : ∀ (i : Nat) (o : Oper),hd[i]? = some o → ∀ a w (u : Nat → Value) (D : Nat → Bool),Env n a (UI ts 0 u e0) → I D u w → D i = false → (∀ (j : Nat) (p : Oper) (e : Edge),hd[j]? = some p → e ∈ p.after.toList → Region.binds .any e = true → D j = true → D e.on = true) →
   (∀ (k : Nat) (e : Edge),o.after.toList[k]? = some e → Region.binds .any e = true → D e.on = true) →
   wpList P (hd ++ tl).toArray (nrm fun a' w'=>∃ v t,ts[i]? = some t ∧ Env n a' ((t,v) :: UI ts 0 u e0) ∧ I (UM D i) (UR u i v) w') [o] a w)
  (htail : ∀ a w u D,Env n a (UI ts 0 u e0) → I D u w → (∀ j,j < hd.length → D j = true) → wpList P (hd ++ tl).toArray Q tl a w) :
  (Code.region id (hd ++ tl).toArray true).wp P Q a w:=by
 refine wp_region_any hm ?_
 generalize hl : hd ++ tl = l at *
 have hln : l.length = hd.length + tl.length:=by rw [← hl]; simp
 have hbl : (bef l []).length = l.length:=by
  have : ∀ (r : List Oper) (acc : List Nat),(bef r acc).length = acc.length + r.length:=by
   intro r; induction r with
   | nil=>intro acc; simp [bef]
   | cons o r ih=>intro acc; rw [bef,ih]; simp; omega
  rw [this]; simp
 have tailDone : ∀ listed i o,l[i]? = some o → hd.length ≤ i → BY l (dn listed) → (∀ e ∈ o.after.toList,Region.binds .any e = true → dn listed e.on) → ∀ j,j < i → dn listed j:=by
  intro listed i o hi hle hdc hp j hj
  have hil:=(List.getElem?_eq_some_iff.1 hi).1
  have hbit : ((bef l []).getD i 0).testBit j = true:=by
   unfold B9 at hT
   simp only [List.all_eq_true] at hT
   have:=hT i (by simpa using hil)
   simp only [Bool.or_eq_true,decide_eq_true_eq,List.all_eq_true] at this
   rcases this with h | h
   ·omega
   ·exact h j (by simpa using hj)
  exact Bh l l [] 0 rfl (by simp) (fun i hi=>absurd hi (Nat.not_lt_zero i)) i (by rw [hbl]; exact hil) (dn listed) hdc (fun o' e ho' he hb=>by rw [hi] at ho'; cases ho'; exact hp e he hb) j hbit
 have hfuel : ((List.range l.length).filter fun i=>!(Array.replicate l.toArray.size false).getD i false).length ≤ l.toArray.size:=by
  refine Nat.le_trans (List.length_filter_le _ _) ?_; simp
 have hnot0 : ∀ i,¬ dn (Array.replicate l.toArray.size false) i:=by
  intro i; unfold dn; rw [Array.getD_eq_getD_getElem?,Array.getElem?_replicate]; split <;> simp
 refine KQ hE (DrawI3 P l hd tl Q n ts e0 I) ?_ ?_ _ _ _ _ (by simp) hfuel (fun i o e _ _ _ h=>absurd h (hnot0 i)) ?_
 ·intro listed i o a w hsz hi hnd hdc hp hI
  have hil:=(List.getElem?_eq_some_iff.1 hi).1
  by_cases hh : i < hd.length
  ·-- a head operation
   have hnall : ¬ ∀ i,i < hd.length → dn listed i:=fun h=>hnd (h i hh)
   obtain ⟨h,_⟩ | ⟨_,ht0,u,k1,k2⟩:=hI
   ·exact absurd h hnall
   have hio : hd[i]? = some o:=by rw [← hl] at hi; rwa [List.getElem?_append_left hh] at hi
   refine yY (by simpa using hi) ?_
   have hs:=hstep i o hio a w u (fun j=>listed.getD j false) k1 k2 (by simpa [dn] using hnd) (fun j p e hj he hb hdj=>hdc j p e (by rw [← hl,List.getElem?_append_left (List.getElem?_eq_some_iff.1 hj).1]; exact hj) he hb hdj) (fun k e hk hb=>hp e (List.mem_of_getElem? hk) hb)
   have hmono : ∀ (X Y : Act → World → Prop),(∀ a w,X a w → Y a w) → ∀ a w,wpList P l.toArray (nrm X) [o] a w → wpList P l.toArray (nrm Y) [o] a w:=by
    intro X Y hXY a w h
    unfold wpList at h ⊢
    split
    ·rename_i hw
     rw [if_pos hw] at h
     rcases h with h | ⟨_,a',w',h⟩
     ·exact .inl (Oper.wp_mono2 (fun _ _ h=>hXY _ _ h) (fun _ _ _ h=>h.elim) (fun ⟨_,_,h⟩=>h.elim) h)
     ·exact h.elim
    ·rename_i hw
     rw [if_neg hw] at h
     exact hXY _ _ h
   refine hmono _ _ ?_ a w hs
   rintro a' w' ⟨v,t,hti,hEnv,hM'⟩
   have hEnv':=hEnv.upd hn hti
   have hset : ∀ j,dn (listed.setIfInBounds i true) j ↔ (j = i ∨ dn listed j):=fun j=>Ku (by omega)
   have hD : (fun j=>(listed.setIfInBounds i true).getD j false) = UM (fun j=>listed.getD j false) i:=by
    funext j
    unfold UM
    by_cases hj : j = i
    ·rw [if_pos hj]; exact (hset j).2 (.inl hj)
    ·rw [if_neg hj]
     rw [Bool.eq_iff_iff]
     exact (hset j).trans ⟨fun h=>h.resolve_left hj,.inr⟩
   have htn : ∀ j,hd.length ≤ j → ¬ dn (listed.setIfInBounds i true) j:=by
    intro j hj hd'
    rcases (hset j).1 hd' with rfl | hj'
    ·omega
    ·exact ht0 j hj hj'
   rw [← hD] at hM'
   by_cases hall : ∀ j,j < hd.length → dn (listed.setIfInBounds i true) j
   ·exact .inl ⟨hall,0,Nat.zero_le _,fun j hj=>by omega,fun j _ _=>htn _ (by omega),htail a' w' _ _ hEnv' hM' (fun j hj=>hall j hj)⟩
   ·exact .inr ⟨hall,htn,_,hEnv',hM'⟩
  ·have hdone:=tailDone listed i o hi (by omega) hdc hp
   have hall : ∀ j,j < hd.length → dn listed j:=fun j hj=>hdone j (by omega)
   obtain ⟨_,k,hk,k1,k2,k3⟩ | ⟨h,_⟩:=hI
   case inr=>exact absurd hall h
   have hki : hd.length + k = i:=by
    rcases Nat.lt_trichotomy (hd.length + k) i with h | h | h
    ·exact absurd (hdone _ h) (k2 k (Nat.le_refl _) (by omega))
    ·exact h
    ·exact absurd (by have:=k1 (i - hd.length) (by omega); rwa [show hd.length + (i - hd.length) = i by omega] at this) hnd
   have hto : tl[k]? = some o:=by
    rw [← hl] at hi
    rw [List.getElem?_append_right (by omega)] at hi
    rwa [show i - hd.length = k by omega] at hi
   have hdr : tl.drop k = o :: tl.drop (k + 1):=by
    rw [List.drop_eq_getElem_cons (List.getElem?_eq_some_iff.1 hto).1]
    congr 1
    exact (List.getElem?_eq_some_iff.1 hto).2
   rw [hdr] at k3
   refine wpOp_mono (fun a' w' hl=>?_) (Ac (by simpa using hi) k3)
   have hset : ∀ j,dn (listed.setIfInBounds i true) j ↔ (j = i ∨ dn listed j):=fun j=>Ku (by omega)
   have hall' : ∀ j,j < hd.length → dn (listed.setIfInBounds i true) j:=fun j hj=>(hset j).2 (.inr (hall j hj))
   refine .inl ⟨hall',k + 1,(List.getElem?_eq_some_iff.1 hto).1,fun j hj=>(hset _).2 ?_,fun j hj1 hj2 hd'=>?_,hl⟩
   ·rcases Nat.lt_or_ge j k with h | h
    ·exact .inr (k1 j h)
    ·exact .inl (by omega)
   ·rcases (hset _).1 hd' with h | h
    ·omega
    ·exact k2 j (by omega) hj2 h
 ·intro listed a w hsz hall hI
  have hall' : ∀ i,i < hd.length → dn listed i:=fun i hi=>hall i (by omega)
  obtain ⟨_,k,hk,k1,k2,k3⟩ | ⟨h,_⟩:=hI
  case inr=>exact absurd hall' h
  have : k = tl.length:=by
   rcases Nat.lt_or_ge k tl.length with h | h
   ·exact absurd (hall (hd.length + k) (by omega)) (k2 k (Nat.le_refl _) h)
   ·omega
  subst this
  rw [List.drop_length] at k3
  exact k3
 ·have hu : ∀ (r : List Nat) (j : Nat) (u : Nat → Value),(∀ k t,r[k]? = some t → u (j + k) = a.tmps.getD t undef) → Env n a (UI r j u e0):=by
   intro r
   induction r with
   | nil=>intro j u _; exact h0
   | cons t r ih =>
    intro j u hu
    have h1:=ih (j + 1) u (fun k s hk=>by have:=hu (k + 1) s (by simpa using hk); rwa [show j + (k + 1) = j + 1 + k by omega] at this)
    refine ⟨h1.sz,h1.df,fun s x hs=>?_⟩
    simp only [UI,List.lookup_cons] at hs
    by_cases hst : s = t
    ·subst hst
     simp at hs
     rw [← hs]
     exact (hu 0 s rfl).symm
    ·rw [show (s == t) = false by simpa using hst] at hs
     exact h1.get s x hs
  have hEnv : Env n a (UI ts 0 (fun j=>a.tmps.getD (ts.getD j 0) undef) e0):=hu ts 0 _ (fun k t hk=>by simp [List.getD_eq_getElem?_getD,hk])
  have hDf : (fun j=>(Array.replicate l.toArray.size false).getD j false) = fun _=>false:=by
   funext j
   have:=hnot0 j
   unfold dn at this
   simpa using this
  by_cases hall : ∀ i,i < hd.length → dn (Array.replicate l.toArray.size false) i
  ·have hnil : hd.length = 0:=by
    rcases Nat.eq_zero_or_pos hd.length with h | h
    ·exact h
    ·exact absurd (hall 0 h) (hnot0 0)
   exact .inl ⟨hall,0,Nat.zero_le _,fun j hj=>by omega,fun j _ _=>hnot0 _,htail a _ _ _ hEnv (hM0 _) (fun j hj=>by omega)⟩
  ·refine .inr ⟨hall,fun j _=>hnot0 j,_,hEnv,?_⟩
   rw [hDf]
   exact hM0 _
end Go.Proofs.YtpibglnacohdkaaGreat
namespace Go.Proofs.YtpibglnacohdkaaGreat
open Go

theorem M.unsure {St : Nat → Prop} {w0 w : World} {pre post : List Item} {it : Item} {b : Bool} (h : M St w0 w (pre ++ it :: post)) (hb : b = true) : M St w0 w (pre ++ opt b it :: post):=by subst hb; rwa [Jj]

abbrev FillA (sz : Nat) (z : List Value) (parts : List (Nat × Value)) (cs : List Value) : Prop:=Instr.fill (fun i=>some (i * sz,sz)) z.toArray parts = some cs.toArray
theorem Yp {sz : Nat} {z : List Value} : FillA sz z [] z:=rfl
section
variable {n : Nat} {a : Act} {e : List (Nat × Value)} {w w' : World} {P : Program} {ops : Array Oper} {rest : List Oper} {Q : Exit → Act → World → Prop}
variable {d : Nat} {ty t : TypeId} {pos : String} {af : Array Edge} {g : Option (Nat × Bool)} {x y : Operand} {v u : Value}
theorem yo {parts : List (Nat × Operand)} {vs : List (Nat × Value)} (h : Env n a e) (hxs : Tq e (parts.map (·.2)) = some (vs.map (·.2))) (hix : parts.map (·.1) = vs.map (·.1)) :
  (parts.map fun (p : Nat × Operand)=>(p.1,a.eval p.2)) = vs:=by
 have h1:=h.evs hxs
 rw [List.map_map] at h1
 apply List.ext_getElem?
 intro i
 have e1 : (parts.map (·.1))[i]? = (vs.map (·.1))[i]?:=by rw [hix]
 have e2 : (parts.map (a.eval ∘ fun (p : Nat × Operand)=>p.2))[i]? = (vs.map (·.2))[i]?:=by rw [h1]
 simp only [List.getElem?_map] at e1 e2 ⊢
 cases hp : parts[i]? with
 | none =>
  rw [hp] at e1
  cases hq : vs[i]? with
  | none=>rfl
  | some q=>rw [hq] at e1; simp at e1
 | some p =>
  rw [hp] at e1 e2
  cases hq : vs[i]? with
  | none=>rw [hq] at e1; simp at e1
  | some q =>
   rw [hq] at e1 e2
   simp only [Option.map_some,Option.some.injEq] at e1 e2 ⊢
   exact Prod.ext e1 e2
theorem YB {el N : Nat} {parts : List (Nat × Operand)} {vs : List (Nat × Value)} {z cs ze : List Value} {sz by_ esz eby : Nat} {D De : TypeDesc} (h : Env n a e) (hw : Goes ops ⟨some d,.build t parts.toArray,ty,pos,af,g⟩ a) (hd : d < n)
  (hxs : Tq e (parts.map (·.2)) = some (vs.map (·.2))) (hix : parts.map (·.1) = vs.map (·.1)) (ht : Ty P t D sz by_ z) (hD : D = .array N el) (he : Ty P el De esz eby ze) (hf : FillA esz z vs cs)
  (k : ∀ a,Env n a ((d,.agg cs.toArray) :: e) → wpList P ops Q rest a w) : wpList P ops Q (⟨some d,.build t parts.toArray,ty,pos,af,g⟩ :: rest) a w:=by
 refine YT h hw rfl hd (w':=w) ?_ k
 have hvals:=yo h hxs hix
 have hb : P.built t vs = some cs.toArray:=by
  obtain ⟨i,zv,h1,h2,_,h3,h4⟩:=ht.get
  obtain ⟨ie,_,k1,k2,_,_,_⟩:=he.get
  have hu:=ht.und
  rw [hD] at hu
  unfold Program.built
  rw [h1,hu]
  simp only [h3,k1,k2]
  have h5 : zv.cells = z.toArray:=by rw [← h4]
  simp only [h5]
  exact hf
 simp only [execOp]
 have : (parts.toArray.map fun (p : Nat × Operand)=>(p.1,a.eval p.2)) = vs.toArray:=by rw [List.map_toArray,hvals]
 simp only [Sem.run_bind]
 rw [show (Instr.build t (parts.toArray.map fun (i,x)=>(i,a.eval x))).run P w = .ok (.agg cs.toArray) w from by
  have h2:=run_build (P:=P) w t (parts.toArray.map fun (i,x)=>(i,a.eval x)) cs.toArray (by
   have : (parts.toArray.map fun (i,x)=>(i,a.eval x)).toList = vs:=by simpa using hvals
   rw [this]; exact hb)
  exact h2]
 rfl

theorem enc_at {α : Type} [Flat α] {N i : Nat} {v : Vector α N} {x : α} (hi : v.toList[i]? = some x) : ∃ c1 c2,Flat.enc v = c1 ++ (Flat.enc x ++ c2) ∧ c1.length = i * Flat.n α:=by
 refine ⟨ZY (v.toList.take i),ZY (v.toList.drop (i + 1)),Ts hi,?_⟩
 rw [Y1,List.length_take,Nat.min_eq_left (Nat.le_of_lt (List.getElem?_eq_some_iff.1 hi).1)]
theorem Q3 {α : Type} [Flat α] {N el sz by_ : Nat} {z : List Value} {De : TypeDesc} {K : IntKind} {i : Int} {v : Vector α N} {x0 : α} (h : Env n a e) (hw : Goes ops ⟨some d,.index t x y,ty,pos,af,g⟩ a) (hd : d < n)
  (hx : opv e x = some (.agg (Flat.enc v).toArray)) (hy : opv e y = some (.int K i)) (ht : P.underlying t = some (.array N el)) (he : Ty P el De sz by_ z) (hD : Qe De = false) (hs : sz = Flat.n α) (hi : (0 ≤ i ∧ i < N) ∧ v.toList[i.toNat]? = some x0) (hu : Flat.enc x0 = [u])
  (k : ∀ a,Env n a ((d,u) :: e) → wpList P ops Q rest a w) : wpList P ops Q (⟨some d,.index t x y,ty,pos,af,g⟩ :: rest) a w:=by
 obtain ⟨c1,c2,e1,e2⟩:=enc_at hi.2
 subst hs
 have hg : (Flat.enc v)[i.toNat * Flat.n α]? = some u:=by
  rw [e1,hu,← e2]
  simp
 exact YT h hw rfl hd (by
  simp only [execOp,h.ev hx,h.ev hy]
  simp [Instr.index,asIntOf,run_underlying ht,hi.1,Yy he,part,Qr he,hD,hg]) k
theorem Wg {b o : Nat} (h : Env n a e) (hw : Goes ops ⟨some d,.nilCheck x,ty,pos,af,g⟩ a) (hd : d < n) (hx : opv e x = some (ptr b o))
  (k : ∀ a,Env n a ((d,ptr b o) :: e) → wpList P ops Q rest a w) : wpList P ops Q (⟨some d,.nilCheck x,ty,pos,af,g⟩ :: rest) a w :=
 YT h hw rfl hd (by simp only [execOp,h.ev hx]; rfl) k
end
theorem jL {α : Type} [Flat α] {N b : Nat} {w : World} {v : Vector α N} (h : At w b 0 (Flat.enc v)) : Rep.sat (fun c=>c = b) w v.toList [.slice (some ⟨b,0,none⟩) N N] []:=by
 refine ⟨some ⟨b,0,none⟩,N,by simp,by simp,fun _=>rfl,Flat.enc v,[],?_,h,.inl ⟨fun _=>rfl,rfl⟩⟩
 show ZR _ w v.toList (ZY v.toList) []
 generalize v.toList = l
 induction l with
 | nil=>exact ⟨rfl,rfl⟩
 | cons x l ih=>exact ⟨_,_,[],[],rfl,rfl,⟨rfl,rfl⟩,ih⟩
section
variable {n : Nat} {a : Act} {e : List (Nat × Value)} {w w' : World} {P : Program} {ops : Array Oper} {rest : List Oper} {Q : Exit → Act → World → Prop}
variable {d : Nat} {ty t : TypeId} {pos : String} {af : Array Edge} {g : Option (Nat × Bool)} {x y : Operand} {v u : Value}
theorem TB {N el sz by_ b : Nat} {z : List Value} {D : TypeDesc} {K : IntKind} {i : Int} (h : Env n a e) (hw : Goes ops ⟨some d,.indexAddr t x y,ty,pos,af,g⟩ a) (hd : d < n)
  (hx : opv e x = some (.slice (some ⟨b,0,none⟩) N N)) (hy : opv e y = some (.int K i)) (ht : P.underlying t = some (.slice el)) (he : Ty P el D sz by_ z) (hi : 0 ≤ i ∧ i < N)
  (k : ∀ a,Env n a ((d,ptr b (0 + i.toNat * sz)) :: e) → wpList P ops Q rest a w) : wpList P ops Q (⟨some d,.indexAddr t x y,ty,pos,af,g⟩ :: rest) a w :=
 YT h hw rfl hd (by
  simp only [execOp,h.ev hx,h.ev hy]
  simp [Instr.indexAt,asIntOf,run_underlying ht,Instr.sureAddr,hi,Yy he,Addr.add_lit]) k
end
theorem k_ret0 {n : Nat} {a : Act} {e : List (Nat × Value)} {w : World} {P : Program} {fn : Func} {R : Ending → World → Prop} (hE : Env n a e) (hres : fn.results = #[]) (hR : R (.returned (.tuple [].toArray)) w) : bodyPost P fn R .ret a w:=by
 refine bodyPost_ret ?_ hE.df hR
 rw [Qz,hres]
 simp
theorem ql {n : Nat} {a : Act} {e : List (Nat × Value)} {w : World} {P : Program} {fn : Func} {R : Ending → World → Prop} (hE : Env n a e) (hres : fn.results = #[]) (hR : R (.returned (.tuple [].toArray)) w) : bodyPost P fn R .normal a w:=k_ret0 hE hres hR
structure Ref (α : Type) where
 v : α
 deriving DecidableEq,Inhabited
instance {α : Type} [Dat α] : Dat (Ref α):=⟨fun x=>Dat.bd x.v,fun x=>Dat.sz x.v + 1⟩
def RefSat {α : Type} [Rep α] (S : Nat → Prop) (w : World) (x : Ref α) (cs : List Value) (fp : List Nat) : Prop :=
 ∃ b ds fpe,cs = [ptr b 0] ∧ Rep.sat S w x.v ds fpe ∧ At w b 0 ds ∧ ((S b ∧ fp = fpe) ∨ (fp = b :: fpe ∧ ∃ T,w.heap[b]? = some (.cells ds.toArray T (0,0))))
instance {α : Type} [Rep α] : Rep (Ref α) where
 n:=1
 sat:=RefSat
 len:=by rintro S w x cs fp ⟨b,ds,fpe,rfl,_⟩; rfl
 loc:=by
  rintro S w w' x cs fp ⟨b,ds,fpe,rfl,h1,h2,h3⟩ hb
  rcases h3 with ⟨h3,rfl⟩ | ⟨rfl,T,h3⟩
  ·exact ⟨b,ds,fp,rfl,Rep.loc h1 hb,h2.loc (hb _ (.inr h3)),.inl ⟨h3,rfl⟩⟩
  ·exact ⟨b,ds,fpe,rfl,Rep.loc h1 (fun b h=>hb b (by simp; grind)),h2.loc (hb _ (by simp)),.inr ⟨rfl,T,by rw [hb _ (by simp)]; exact h3⟩⟩
 ro:=by
  rintro S S' w x cs fp ⟨b,ds,fpe,rfl,h1,h2,h3⟩ hb
  rcases h3 with ⟨h3,rfl⟩ | ⟨rfl,T,h3⟩
  ·exact ⟨b,ds,[],rfl,Rep.ro h1 hb,h2,.inl ⟨hb _ (.inr h3),rfl⟩⟩
  ·exact ⟨b,ds,[],rfl,Rep.ro h1 (fun b h=>hb b (by simp; grind)),h2,.inl ⟨hb _ (by simp),rfl⟩⟩
 wk:=by
  rintro S S' w x cs fp ⟨b,ds,fpe,rfl,h1,h2,h3⟩ hb
  rcases h3 with ⟨h3,rfl⟩ | ⟨rfl,T,h3⟩
  ·exact ⟨b,ds,fp,rfl,Rep.wk h1 hb,h2,.inl ⟨hb _ h3,rfl⟩⟩
  ·exact ⟨b,ds,fpe,rfl,Rep.wk h1 hb,h2,.inr ⟨rfl,T,h3⟩⟩
 lt:=by
  rintro S w x cs fp ⟨b,ds,fpe,rfl,h1,h2,h3⟩ c hc
  rcases h3 with ⟨h3,rfl⟩ | ⟨rfl,T,h3⟩
  ·exact Rep.lt h1 c hc
  ·rcases List.mem_cons.1 hc with rfl | hc
   ·rcases Nat.lt_or_ge c w.heap.size with h | h
    ·exact h
    ·rw [Array.getElem?_eq_none h] at h3; cases h3
   ·exact Rep.lt h1 c hc
 cell:=by
  rintro S w x cs fp ⟨b,ds,fpe,rfl,_⟩ v hv
  simp at hv; subst hv; rfl
section
variable {α : Type} [Rep α] {S : Nat → Prop} {w w0 : World} {x : Ref α} {fp : List Nat} {u : Value} {St : Nat → Prop} {its : List Item} {b : Nat} {ds : List Value}
theorem JL (h : Rep.sat S w x [u] fp) : u.cells.toList = [u]:=by obtain ⟨b,ds,fpe,e,_⟩:=h; obtain rfl:=(List.cons.inj e).1; rfl
theorem Kd {cs : List Value} (h : Rep.sat S w x cs fp) : ∃ v,cs = [v]:=by obtain ⟨b,ds,fpe,e,_⟩:=h; exact ⟨_,e⟩
theorem UQ (h : Rep.sat S w x [u] []) : ∃ b ds,u = ptr b 0 ∧ Rep.sat S w x.v ds [] ∧ At w b 0 ds ∧ S b:=by
 obtain ⟨b,ds,fpe,e,h1,h2,h3⟩:=h
 rcases h3 with ⟨h3,rfl⟩ | ⟨h3,_⟩
 ·exact ⟨b,ds,(List.cons.inj e).1,h1,h2,h3⟩
 ·cases h3
theorem M.toRef {x : α} {S : Nat → Prop} (h : M St w0 w (raw b ds :: own S x ds :: its)) (hS : ∀ b,S b → St b) : M St w0 w (own S (⟨x⟩ : Ref α) [ptr b 0] :: its) :=
 h.pack2 (V5 hS) fun f g h1 h2=>by
  obtain ⟨rfl,T,h3⟩:=h1
  exact ⟨b,ds,g,rfl,h2,At.of_heap h3,.inr ⟨rfl,T,h3⟩⟩
theorem M.toRefF {α : Type} [Flat α] {x : α} (h : M St w0 w (raw b (Flat.enc x) :: its)) : M St w0 w (own NoB (⟨x⟩ : Ref α) [ptr b 0] :: its) :=
 h.pack1 (V5 fun _ h=>h.elim) fun f h1=>by
  obtain ⟨rfl,T,h3⟩:=h1
  exact ⟨b,Flat.enc x,[],rfl,⟨rfl,rfl⟩,At.of_heap h3,.inr ⟨rfl,T,h3⟩⟩
end
end Go.Proofs.YtpibglnacohdkaaGreat
namespace Go.Proofs.YtpibglnacohdkaaGreat
open Go

section
variable {n : Nat} {a : Act} {e : List (Nat × Value)} {w w' : World} {P : Program} {ops : Array Oper} {rest : List Oper} {Q : Exit → Act → World → Prop}
variable {d : Nat} {ty t : TypeId} {pos : String} {af : Array Edge} {g : Option (Nat × Bool)} {x y : Operand} {v u : Value}
variable {St : Nat → Prop} {w0 : World} {its : List Item}

theorem flat1 : ∀ {vs : List Value},(∀ v ∈ vs,v.cells.toList = [v]) → (vs.map (·.cells.toList)).flatten = vs
 | [],_=>rfl
 | v :: vs,h=>by rw [List.map_cons,List.flatten_cons,h v (by simp),flat1 (fun u hu=>h u (by simp [hu]))]; rfl
theorem Kv {xs : List Operand} {vs : List Value} {m el by_ : Nat} {D : TypeDesc} {z : List Value}
  (h : Env n a e) (hM : M St w0 w its) (hw : Goes ops ⟨some d,.buildSlice t m (Ub 0 xs).toArray,ty,pos,af,g⟩ a) (hd : d < n) (hxs : Tq e xs = some vs) (hm : vs.length = m)
  (ht : P.underlying t = some (.slice el)) (he : Ty P el D 1 by_ z) (hsmall : m ≤ 16777216) (hcell : ∀ v ∈ vs,v.cells.toList = [v])
  (k : ∀ b w a,M St w0 w (raw b vs :: its) → Env n a ((d,.slice (some ⟨b,0,none⟩) m m) :: e) → wpList P ops Q rest a w) : wpList P ops Q (⟨some d,.buildSlice t m (Ub 0 xs).toArray,ty,pos,af,g⟩ :: rest) a w:=by
 have hsz:=Yy he
 obtain ⟨zv,hzv,hzc⟩:=Tv he w
 have hc1 : ∀ v ∈ vs,v.cells.size = 1:=fun v hv=>by have:=congrArg List.length (hcell v hv); simpa using this
 have hnum:=h.numbered xs 0 vs hxs
 have hsub : ∀ cs : Array Value,cs.size = m * 1 → Instr.fill (fun i=>some (i * 1,1)) cs (numbered 0 vs) = some vs.toArray:=by
  intro cs hcs
  rw [K7 1 _ (fun _=>rfl) vs 0 cs hc1 (by simp [hm,hcs])]
  congr 2
  rw [Nat.zero_mul,flat1 hcell]
  exact Zh (by simp [hcs,hm])
 have hrun : (Instr.buildSlice t m ((Ub 0 xs).toArray.map fun (i,x)=>(i,a.eval x))).run P w = .ok (.slice (some ⟨w.heap.size,0,none⟩) m m) (w.alloc (.cells vs.toArray el)):=by
  have hparts : ((Ub 0 xs).toArray.map fun (i,x)=>(i,a.eval x)).toList = numbered 0 vs:=by simpa using hnum
  have hlim : ¬ (m * 1 > 2 ^ 24):=by omega
  have hfill : ∀ zz : Array Value,Instr.fill (fun i=>some (i * 1,1)) ((Array.range (m * 1)).map (zz[· % zz.size]!)) (numbered 0 vs) = some vs.toArray:=fun zz=>hsub _ (by simp)
  unfold Instr.buildSlice
  simp only [Sem.run_bind,run_underlying ht,Result.andThen_ok,hsz,if_neg hlim,hparts]
  by_cases h0 : m * 1 = 0
  ·simp only [if_pos h0,pure_bind]
   rw [hfill]
   simp [newRow]
  ·simp only [if_neg h0,pure_bind,Sem.run_bind,hzv,Result.andThen_ok]
   rw [hfill]
   simp [newRow]
 exact YT h hw rfl hd (v:=.slice (some ⟨w.heap.size,0,none⟩) m m) (w':=w.alloc (.cells vs.toArray el)) (by simp only [execOp]; simp only [Sem.run_bind,hrun]; rfl) fun a ha=>k _ _ _ (hM.alloc vs el) ha
def A3 {α : Type} [Rep α] (w : World) : List α → List Value → Prop
 | [],[]=>True
 | x :: l,v :: vs=>Ro w x [v] ∧ A3 w l vs
 | _,_=>False
theorem A3.elems {α : Type} [Rep α] {w : World} : ∀ {l : List α} {vs : List Value},A3 w l vs → ZR (Old w) w l vs []
 | [],[],_=>⟨rfl,rfl⟩
 | _ :: _,v :: vs,h=>⟨[v],vs,[],[],rfl,rfl,h.1,A3.elems h.2⟩
 | [],_ :: _,h=>h.elim
 | _ :: _,[],h=>h.elim
theorem M.rawLt {b : Nat} {cs : List Value} {pre post : List Item} (h : M St w0 w (pre ++ raw b cs :: post)) : b < w.heap.size:=by
 obtain ⟨fp,⟨rfl,_⟩,h1⟩:=h.get
 exact h1 b (by simp)
theorem yH {α : Type} [Rep α] {l : List α} {vs : List Value} {b m : Nat} (hA : At w b 0 vs) (hb : b < w.heap.size) (h : A3 w l vs) (hm : l.length = m) : Ro w l [.slice (some ⟨b,0,none⟩) m m]:=by
 subst hm
 exact ⟨some ⟨b,0,none⟩,l.length,rfl,Nat.le_refl _,fun _=>rfl,vs,[],h.elems,hA,.inl ⟨fun _=>hb,rfl⟩⟩

def T4 {α : Type} (N : Nat) (l : List α) : Option (Vector α N):=if h : N ≤ l.length then some ⟨(l.take N).toArray,by simp [h]⟩ else none
theorem T2 {α : Type} {N : Nat} {l : List α} {v : Vector α N} (h : T4 N l = some v) : N ≤ l.length ∧ v.toList = l.take N:=by
 unfold T4 at h
 split at h
 ·rename_i h0
  simp only [Option.some.injEq] at h
  subst h
  exact ⟨h0,rfl⟩
 ·cases h
theorem HE {α : Type} [Rep α] {S : Nat → Prop} {l : List α} {fp : List Nat} {N el : Nat} (h : Env n a e) (hw : Goes ops ⟨some d,.sliceToArrayPointer t x,ty,pos,af,g⟩ a) (hd : d < n) (hx : opv e x = some v)
  (ht : P.underlying t = some (.array N el)) (hs : Rep.sat S w l [v] fp) (hN : N ≤ l.length) (h0 : 0 < N)
  (k : ∀ a,Env n a ((d,ptr (sb v) (so v)) :: e) → wpList P ops Q rest a w) : wpList P ops Q (⟨some d,.sliceToArrayPointer t x,ty,pos,af,g⟩ :: rest) a w:=by
 obtain ⟨p,cap,hv,hc,hp⟩:=hs
 simp only [List.cons.injEq,and_true] at hv
 subst hv
 refine YT h hw rfl hd (w':=w) ?_ k
 have hlt : ¬ (l.length < N):=by omega
 cases p with
 | none=>have:=hp.1; omega
 | some q =>
  obtain ⟨h1,_⟩:=hp
  obtain ⟨q1,q2,q3⟩:=q
  have h1:=h1 (by omega)
  simp only at h1
  subst h1
  simp only [execOp,h.ev hx]
  simp [Instr.arrayAt,run_underlying ht,hlt,sb,so]
theorem Qt {α : Type} [Flat α] : ∀ (l : List α) (k : Nat),ZY (l.take k) = (ZY l).take (k * Flat.n α)
 | [],k=>by simp [ZY]
 | x :: l,0=>by simp [ZY]
 | x :: l,k + 1=>by
  rw [List.take_succ_cons,ZY,ZY,Qt l k,Nat.add_mul,Nat.one_mul,Nat.add_comm]
  rw [← Flat.len x,List.take_length_add_append]
theorem AQ {α : Type} [Flat α] {S : Nat → Prop} {l : List α} {fp : List Nat} {N : Nat} {X : Vector α N} (hs : Rep.sat S w l [v] fp) (hX : T4 N l = some X) (h0 : 0 < N) : At w (sb v) (so v) (Flat.enc X):=by
 obtain ⟨hN,hl⟩:=T2 hX
 obtain ⟨p,cap,hv,hc,hp⟩:=hs
 simp only [List.cons.injEq,and_true] at hv
 subst hv
 cases p with
 | none=>have:=hp.1; omega
 | some q =>
  obtain ⟨h1,ecs,fpe,h2,h3,_⟩:=hp
  obtain ⟨rfl,_⟩:=Yl.1 h2
  have h1:=h1 (by omega)
  obtain ⟨q1,q2,q3⟩:=q
  simp only at h1
  subst h1
  show At w q1 q2 (ZY X.toList)
  rw [hl,Qt]
  intro i c hi
  refine h3 i c ?_
  rw [List.getElem?_take] at hi
  split at hi
  ·exact hi
  ·cases hi

theorem ZR.takeF {α : Type} [Rep α] {S : Nat → Prop} {w : World} : ∀ {l : List α} {cs : List Value} {fp : List Nat} (k : Nat),ZR S w l cs fp → ∃ f g,fp = f ++ g ∧ ZR S w (l.take k) (cs.take (k * Rep.n α)) f
 | l,cs,fp,0,h=>⟨[],fp,rfl,by simp [ZR]⟩
 | [],cs,fp,k + 1,h=>by obtain ⟨rfl,rfl⟩:=h; exact ⟨[],[],rfl,by simp [ZR]⟩
 | x :: l,cs,fp,k + 1,h=>by
  obtain ⟨c,cs',f,fp',rfl,rfl,h1,h2⟩:=h
  obtain ⟨f1,g1,rfl,h3⟩:=ZR.takeF k h2
  refine ⟨f ++ f1,g1,by simp,?_⟩
  rw [List.take_succ_cons,Nat.add_mul,Nat.one_mul,Nat.add_comm,show Rep.n α + k * Rep.n α = c.length + k * Rep.n α by rw [Rep.len h1],List.take_length_add_append]
  exact ⟨c,_,f,f1,rfl,rfl,h1,h3⟩
theorem XV.cut {α : Type} [Rep α] {S : Nat → Prop} {l r : List α} {fp : List Nat} {j : Int} (h : XV S w l v fp) (hb : slc l 0 j = some r) : ∃ fp',XV S w r (Y0 v (0 : Int).toNat j.toNat (Rep.n α)) fp' ∧ fp'.Sublist fp:=by
 obtain ⟨⟨_,h1,h2⟩,rfl⟩:=TD hb
 obtain ⟨p,cap,rfl,hc,h⟩:=h
 have e0 : (0 : Int).toNat = 0:=rfl
 have hlen : ((l.take j.toNat).drop 0).length = j.toNat:=by simp; omega
 rw [e0,List.drop_zero] at *
 rcases h with ⟨rfl,rfl,hp⟩ | ⟨b,o,ecs,fpe,rfl,k1,k2,rfl,k3⟩
 ·have : j.toNat = 0:=by omega
  rw [this] at *
  refine ⟨[],⟨p,0,by simp [Y0],by simp,.inl ⟨rfl,rfl,hp⟩⟩,List.nil_sublist _⟩
 ·obtain ⟨f,g,rfl,k4⟩:=ZR.takeF j.toNat k1
  have hadd : (if cap = 0 then some (⟨b,o,none⟩ : Addr) else some ((⟨b,o,none⟩ : Addr).add (0 * Rep.n α))) = some ⟨b,o,none⟩:=by
   split
   ·rfl
   ·rw [Addr.add_lit]; simp
  refine ⟨b :: f,⟨some ⟨b,o,none⟩,cap,?_,by rw [hlen]; omega,.inr ⟨b,o,_,f,rfl,k4,fun i c hi=>k2 i c ?_,rfl,k3⟩⟩,by simp⟩
  ·simp only [Y0,Option.map_some,hlen,Nat.sub_zero,hadd]
  ·rw [List.getElem?_take] at hi
   split at hi
   ·exact hi
   ·cases hi
theorem M.cut {α : Type} [Rep α] {S : Nat → Prop} {l r : List α} {j : Int} (hM : M St w0 w (osl S l v :: its)) (hS : ∀ b,S b → St b) (hb : slc l 0 j = some r) : M St w0 w (osl S r (Y0 v (0 : Int).toNat j.toNat (Rep.n α)) :: its):=by
 refine hM.turn (new:=[osl S r _]) rfl rfl rfl (Nat.le_refl _) ?_
 intro fp hfp _ hnd
 obtain ⟨fp',h1,h2⟩:=XV.cut hfp hb
 exact ⟨fun _ _ _=>rfl,fp',⟨fp',[],by simp,XE hS,h1,rfl⟩,h2.nodup hnd,fun b hb=>.inl (h2.subset hb)⟩

theorem zi {el : TypeId} (h : Env n a e) (hw : Goes ops ⟨some d,.call ⟨.builtin .cap,[x].toArray,[t].toArray⟩,ty,pos,af,g⟩ a) (hd : d < n)
  (hx : opv e x = some (.slice none 0 0)) (ht : P.underlying t = some (.slice el))
  (k : ∀ a,Env n a ((d,vI 0) :: e) → wpList P ops Q rest a w) : wpList P ops Q (⟨some d,.call ⟨.builtin .cap,[x].toArray,[t].toArray⟩,ty,pos,af,g⟩ :: rest) a w :=
 YT h hw rfl hd (by
  simp only [execOp,resolve]
  simp [invoke,builtin,h.ev hx,Builtin.cap_,run_underlying ht,goInt]) k
theorem zX {el : TypeId} (h : Env n a e) (hw : Goes ops ⟨some d,.call ⟨.builtin .len,[x].toArray,[t].toArray⟩,ty,pos,af,g⟩ a) (hd : d < n)
  (hx : opv e x = some (.slice none 0 0)) (ht : P.underlying t = some (.slice el))
  (k : ∀ a,Env n a ((d,vI 0) :: e) → wpList P ops Q rest a w) : wpList P ops Q (⟨some d,.call ⟨.builtin .len,[x].toArray,[t].toArray⟩,ty,pos,af,g⟩ :: rest) a w :=
 T3 (l:=([] : List Int)) h hw hd hx ht (Qp (S:=NoB)) k
theorem ye {el sz by_ : Nat} {z : List Value} {D : TypeDesc} {hi : Operand} {K : IntKind} (h : Env n a e) (hw : Goes ops ⟨some d,.slice t x none (some hi) none,ty,pos,af,g⟩ a) (hd : d < n)
  (hx : opv e x = some (.slice none 0 0)) (hhi : opv e hi = some (.int K 0)) (ht : P.underlying t = some (.slice el)) (he : Ty P el D sz by_ z)
  (k : ∀ a,Env n a ((d,.slice none 0 0) :: e) → wpList P ops Q rest a w) : wpList P ops Q (⟨some d,.slice t x none (some hi) none,ty,pos,af,g⟩ :: rest) a w :=
 Xf (l:=([] : List Int)) (r:=[]) (vlo:=none) (vhi:=some (.int K 0)) (i:=0) (j:=0) h hw hd hx rfl (Qs hhi) rfl rfl ht he (Qp (S:=NoB)) rfl k
theorem Ka (z : Array Value) (m : Nat) : (Builtin.zeroCells z m).toList = (List.replicate m z.toList).flatten:=by
 have:=BQ z.toList m
 rw [← this]
 simp [Builtin.zeroCells,madeCells]
theorem ju {α : Type} [Rep α] {K : IntKind} {c : Int} {tn el : TypeId} {kn : IntKind} {D : TypeDesc} {by_ : Nat} {z : List Value} {zero : α} {l : List α}
  (h : Env n a e) (hM : M St w0 w its) (hw : Goes ops ⟨some d,.call ⟨.builtin .append,[x,y].toArray,[t,tn].toArray⟩,ty,pos,af,g⟩ a) (hd : d < n) (hx : opv e x = some (.slice none 0 0)) (hy : opv e y = some (.int K c))
  (ht : P.underlying t = some (.slice el)) (htn : P.underlying tn = some (.int kn)) (he : Ty P el D (Rep.n α) by_ z) (hzl : z.length = Rep.n α) (h0 : 0 < by_) (hn : 0 < Rep.n α) (hz : ∀ w,Rep.sat NoB w zero z []) (hb : mkS by_ zero c = some l)
  (k : ∀ v' w a,M St w0 w (osl NoB l v' :: its) → Env n a ((d,v') :: e) → wpList P ops Q rest a w) : wpList P ops Q (⟨some d,.call ⟨.builtin .append,[x,y].toArray,[t,tn].toArray⟩,ty,pos,af,g⟩ :: rest) a w:=by
 unfold mkS at hb
 split at hb
 case isFalse=>cases hb
 rename_i hc
 obtain ⟨hc0,hcb⟩:=hc
 simp only [Option.some.injEq] at hb
 subst hb
 obtain ⟨i,zv,hi,hsz,hby,hzz,hzc⟩:=he.get
 have hcb' : c ≤ 140737488355328:=by
  have : c * 1 ≤ c * by_:=Int.mul_le_mul_of_nonneg_left (by omega) hc0
  omega
 obtain ⟨m,rfl⟩ : ∃ m : Nat,c = m:=⟨c.toNat,by omega⟩
 rw [Int.toNat_natCast] at *
 have hmb : m * by_ ≤ 140737488355328:=by
  have : ((m * by_ : Nat) : Int) ≤ 140737488355328:=by rw [Int.natCast_mul]; exact hcb
  omega
 by_cases hm : m = 0
 ·subst hm
  refine YT h hw rfl hd (v:=.slice none 0 0) (w':=w) ?_ fun a ha=>k _ _ _ (M.nilS NoB noB hM) ha
  simp only [execOp,resolve]
  simp [invoke,builtin,h.ev hx,h.ev hy,Builtin.append_,run_underlying ht,run_underlying htn,sizeOf,typeInfo,hi,asInt,asIntOf,IntKind.wrap_i64]
 ·have hr:=Lib.run_append_nil_zeros (P:=P) w t tn ty el i zv K kn ht htn hi hzz m (by omega) (by rw [hsz]; omega) (by omega) (by rw [hby]; omega)
  have hgc:=grownCap_ge w m 0 el
  refine YT h hw rfl hd (v:=.slice (some ⟨w.heap.size,0,none⟩) m (grownCap w m 0 el)) (w':=w.drew.alloc (.cells (Builtin.zeroCells zv.cells m ++ Builtin.zeroCells zv.cells (grownCap w m 0 el - m)) el)) (by simp only [execOp,resolve]; simp [invoke,builtin,h.ev hx,h.ev hy,hr]) fun a ha=>k _ _ _ ?_ ha
  have Xg : Builtin.zeroCells zv.cells m ++ Builtin.zeroCells zv.cells (grownCap w m 0 el - m) = ((List.replicate m z).flatten ++ (List.replicate (grownCap w m 0 el - m) z).flatten).toArray:=by
   apply Array.ext'
   rw [Array.toList_append,Ka,Ka,hzc]
  rw [Xg]
  have hnew:=WK w.drew (.cells ((List.replicate m z).flatten ++ (List.replicate (grownCap w m 0 el - m) z).flatten).toArray el)
  have hat:=At.of_heap hnew
  rw [At.append] at hat
  refine (hM.drew).add (new:=[osl NoB (List.replicate m zero) _]) (Kept.alloc _ _) ⟨[w.heap.size],⟨[w.heap.size],[],rfl,XE (fun _ h=>h),⟨some ⟨w.heap.size,0,none⟩,grownCap w m 0 el,by simp,by simpa using hgc,.inr ⟨w.heap.size,0,_,[],rfl,TK (hz _) _,hat.1,rfl,?_⟩⟩,rfl⟩,by simp,fun b hb=>by simp at hb; subst hb; exact ⟨Nat.le_refl _,by simp⟩⟩
  refine ⟨_,el,(0,0),hnew,?_,by intro j _; simp⟩
  have e1 : ∀ q : Nat,((List.replicate q z).flatten).length = q * Rep.n α:=fun q=>by simp [hzl]
  rw [List.size_toArray,List.length_append,e1,e1,← Nat.add_mul,Nat.zero_add,show m + (grownCap w m 0 el - m) = grownCap w m 0 el by omega]
  exact Nat.le_refl _
end
theorem bU_shr (p q : Int) (h : 0 ≤ q) : shV .shr .u64 p q = some (vU (TJ p q)):=by simp [shV,Int.not_lt.2 h,TJ,IntKind.bits]
section
variable {n : Nat} {a : Act} {e : List (Nat × Value)} {w w' : World} {P : Program} {ops : Array Oper} {rest : List Oper} {Q : Exit → Act → World → Prop}
variable {d : Nat} {ty t : TypeId} {pos : String} {af : Array Edge} {g : Option (Nat × Bool)} {x y : Operand} {v u : Value}
variable {St : Nat → Prop} {w0 : World} {its : List Item}
def LitSat {α : Type} [Rep α] (S : Nat → Prop) (w : World) : List α → List Value → Prop
 | [],[]=>True
 | x :: l,v :: vs=>Rep.sat S w x [v] [] ∧ LitSat S w l vs
 | _,_=>False
end
end Go.Proofs.YtpibglnacohdkaaGreat
namespace Go.Proofs.YtpibglnacohdkaaGreat
open Go

def litP (v : Value) (m : Nat) (vs : List Value) : Item:=fun w fp=>∃ b,v = .slice (some ⟨b,0,none⟩) m m ∧ raw b vs w fp
def mkL (i : Nat) (ds : List Nat) (m : Nat) (f : List Value → List Value) : List Nat × (List Bool → List Value → Item):=(i :: ds,fun bs us=>opt (bs.headD false) (litP (us.headD undef) m (f us.tail)))
section
variable {St : Nat → Prop} {w0 w : World} {its pre post : List Item} {mk : Mk} {D : Nat → Bool} {u : Nat → Value} {i k m b : Nat} {ds : List Nat} {v : Value} {vs : List Value} {f : List Value → List Value}
theorem jY {St : Nat → Prop} : Loc St (litP v m vs):=fun w w' fp ⟨b,e,k⟩ hb=>⟨b,e,YW w w' fp k hb⟩
theorem emL : ∀ us,(mkL i ds m f).2 ((mkL i ds m f).1.map fun _=>false) us = Go.Proofs.YtpibglnacohdkaaGreat.emp:=fun _=>by simp [mkL,Kg]
theorem litE (hD : D i = false) : (mkL i ds m f).2 ((mkL i ds m f).1.map D) ((mkL i ds m f).1.map u) = Go.Proofs.YtpibglnacohdkaaGreat.emp:=by simp [mkL,hD,Kg]
theorem M.litFill (h : M St w0 w (raw b (f (ds.map u)) :: (its ++ qL (mk ++ [mkL i ds m f]) D u))) (hi : ((mk ++ []).all fun p=>p.1.all fun k=>k != i) = true) (hD : D i = false) (hd : (ds.all fun k=>k != i) = true) :
  M St w0 w (its ++ qL (mk ++ [mkL i ds m f]) (UM D i) (UR u i (.slice (some ⟨b,0,Option.none⟩) m m))):=by
 have hne : i ∉ ds:=fun hm=>by have:=List.all_eq_true.1 hd i hm; simp at this
 have h' : M St w0 w (litP (.slice (some ⟨b,0,Option.none⟩) m m) m (f (ds.map u)) :: (its ++ qL (mk ++ [mkL i ds m f]) D u)):=h.pack1 jY fun fp k=>⟨b,rfl,k⟩
 refine M.qPut (mk1:=mk) (mk2:=[]) h' hi (litE hD) ?_
 obtain ⟨e1,e2⟩:=Hr (D:=D) (u:=u) (v:=.slice (some ⟨b,0,Option.none⟩) m m) hne
 simp only [mkL,List.map_cons,e2]
 simp [UM,UR,Jj]
theorem M.litOpen (h : M St w0 w (litP v m vs :: its)) : ∃ b,v = .slice (some ⟨b,0,Option.none⟩) m m ∧ M St w0 w (raw b vs :: its):=by
 obtain ⟨fp,⟨b,hb,_⟩,_⟩:=h.head
 exact ⟨b,hb,h.pack1 YW fun fp ⟨b',e',k⟩=>by rw [hb] at e'; simp at e'; subst e'; exact k⟩
end

def prm (a b : Bool) (x y : Item) : Item:=if b = true then y else opt a x
def mkP (j i : Nat) (f g : Value → Item) : List Nat × (List Bool → List Value → Item):=([j,i],fun bs us=>prm (bs.headD false) (bs.getD 1 false) (f (us.headD undef)) (g (us.getD 1 undef)))
section
variable {St : Nat → Prop} {w0 w : World} {its pre post : List Item} {mk1 mk2 : Mk} {D : Nat → Bool} {u : Nat → Value} {i j : Nat} {v : Value} {a b : Bool} {x y : Item} {f g : Value → Item}
end
def mkD (i s k : Nat) (z : List Value) (f : Value → List Value) : List Nat × (List Bool → List Value → Item):=([i,s,k],fun bs us=>cellI (bs.headD false) (bs.getD 1 false) (us.headD undef) z (f (us.getD 2 undef)))
section
variable {St : Nat → Prop} {w0 w : World} {its : List Item} {mk1 mk2 : Mk} {D : Nat → Bool} {u : Nat → Value} {i s k b : Nat} {v : Value} {z c c' : List Value} {f : Value → List Value}
end
theorem flq {α : Type} [Flat α] {x y : α} : (Flat.enc x).length = (Flat.enc y).length:=(Flat.len x).trans (Flat.len y).symm
theorem zle {a b : Nat} (h : a = b) : 0 + a ≤ b:=by omega
theorem bvx {α β : Type} {N : Nat} {v : Vector α N} {i : Int} {f : α → Option β} {r : β} (h : (ZI v i).bind f = some r) : ∃ x,((0 ≤ i ∧ i < N) ∧ v.toList[i.toNat]? = some x) ∧ f x = some r:=by
 obtain ⟨x,e,h⟩:=bind_some h
 exact ⟨x,jh e,h⟩
theorem bix {α β : Type} {l : List α} {i : Int} {f : α → Option β} {r : β} (h : (idx l i).bind f = some r) : ∃ x,((0 ≤ i ∧ i < l.length) ∧ l[i.toNat]? = some x) ∧ f x = some r:=by
 obtain ⟨x,e,h⟩:=bind_some h
 exact ⟨x,kF e,h⟩
theorem ois {α : Type} {x y : α} (h : some x = some y) : y = x:=(Option.some.inj h).symm
theorem nbl {a b : Nat} (h : Nat.ble a b = true) : a ≤ b:=Nat.le_of_ble_eq_true h
theorem ld {d n : Nat} (h : d < n:=by decide) : d < n:=h
theorem dl {d n : Nat} (h : Nat.ble (d + 1) n = true) : d < n:=Nat.le_of_ble_eq_true h
theorem yb {p : Value → Prop} : ∀ v ∈ ([] : List Value),p v:=fun _ h=>by cases h
theorem HB {p : Value → Prop} {x : Value} {l : List Value} (h : p x) (hs : ∀ v ∈ l,p v) : ∀ v ∈ x :: l,p v:=fun v hv=>by
 rcases List.mem_cons.1 hv with rfl | hv
 ·exact h
 ·exact hs v hv

def UK : List UInt8 → List UInt8 → Int
 | [],[]=>0
 | [],_ :: _=>-1
 | _ :: _,[]=>1
 | x :: l,y :: m=>if x < y then -1 else if y < x then 1 else UK l m
theorem yv (p : Nat → Bool) (n : Nat) : (List.range (n + 1)).find? p = if p 0 then some 0 else ((List.range n).find? fun i=>p (i + 1)).map Nat.succ:=by
 rw [List.range_succ_eq_map,List.find?_cons,List.find?_map]
 cases p 0 <;> rfl
theorem cmp_eq : ∀ (a b : List UInt8),Extern.BytealgCompare.cmp ⟨a.toArray⟩ ⟨b.toArray⟩ = UK a b:=by
 have gen : ∀ (a b : List UInt8),(match (List.range (min a.length b.length)).find? fun i=>a[i]! != b[i]! with
   | some i=>if a[i]! < b[i]! then (-1 : Int) else 1
   | none=>if a.length < b.length then -1 else if a.length > b.length then 1 else 0) = UK a b:=by
  intro a
  induction a with
  | nil=>intro b; cases b <;> simp [UK]
  | cons x a ih =>
   intro b
   cases b with
   | nil=>simp [UK]
   | cons y b =>
    have e : min (x :: a).length (y :: b).length = min a.length b.length + 1:=by simp only [List.length_cons]; omega
    rw [e,yv]
    by_cases hxy : x = y
    ·subst hxy
     have hlt : ¬ x < x:=UInt8.lt_irrefl x
     have:=ih b
     simp only [List.getElem!_cons_zero,bne_self_eq_false,Bool.false_eq_true,if_false,List.getElem!_cons_succ,UK,hlt]
     rw [← this]
     cases (List.range (min a.length b.length)).find? fun i=>a[i]! != b[i]! with
     | none=>simp
     | some i=>simp
    ·have hne : (x != y) = true:=by simpa using hxy
     simp only [List.getElem!_cons_zero,hne,if_true,UK]
     by_cases h1 : x < y
     ·simp [h1]
     ·have h2 : y < x:=by
       rcases UInt8.lt_or_lt_of_ne hxy with h | h
       ·exact absurd h h1
       ·exact h
      simp [h1,h2]
 intro a b
 rw [← gen a b]
 unfold Extern.BytealgCompare.cmp
 have g1 : ∀ (l : List UInt8) (i : Nat),(⟨l.toArray⟩ : ByteArray)[i]! = l[i]!:=fun l i=>by
  by_cases h : i < l.length
  ·rw [getElem!_pos _ i (by exact h),getElem!_pos l i h]; rfl
  ·rw [getElem!_neg _ i (by exact h),getElem!_neg l i h]
 simp only [g1]
 rfl
section
variable {n : Nat} {a : Act} {e : List (Nat × Value)} {w w' : World} {P : Program} {ops : Array Oper} {rest : List Oper} {Q : Exit → Act → World → Prop}
variable {d : Nat} {ty t : TypeId} {pos : String} {af : Array Edge} {g : Option (Nat × Bool)} {x y : Operand} {v u : Value}
theorem J2 {S : Nat → Prop} {l : List UInt8} {fp : List Nat} (hs : Rep.sat S w l [v] fp) : (Extern.Bytes.bytesOf v).run P w = .ok ⟨l.toArray⟩ w:=by
 obtain ⟨p,cap,hv,hc,hp⟩:=hs
 simp only [List.cons.injEq,and_true] at hv
 subst hv
 cases p with
 | none =>
  have : l = []:=List.eq_nil_of_length_eq_zero (by have:=hp.1; omega)
  subst this
  rfl
 | some q =>
  obtain ⟨h1,ecs,fpe,h2,h3,_⟩:=hp
  by_cases hl0 : l = []
  ·subst hl0; rfl
  have h1:=h1 (by have:=List.length_pos_iff.2 hl0; omega)
  obtain ⟨q1,q2,q3⟩:=q
  simp only at h1
  subst h1
  obtain ⟨rfl,rfl⟩:=Yl.1 h2
  have hl:=Lib.run_loadBytesX (P:=P) w (l.map fun b=>(b.toNat : Int)) ⟨q1,q2,none⟩ .empty (fun j x hj=>by
   have hjl : j < l.length:=by simpa using (List.getElem?_eq_some_iff.1 hj).1
   rw [Addr.add_lit]
   have:=h3 j (Value.int .u8 (l[j].toNat : Int)) (by rw [zm]; simp [hjl])
   rw [this]
   simp [List.getElem?_eq_getElem hjl] at hj
   subst hj
   rfl)
  rw [List.length_map] at hl
  show (Extern.Bytes.loadBytes ⟨q1,q2,none⟩ l.length .empty).run P w = _
  rw [hl]
  have:=AA l
  congr 1
  rw [this]
  apply ByteArray.ext
  show (#[] : Array UInt8) ++ l.toArray = l.toArray
  simp
theorem Bn {S S2 : Nat → Prop} {l m : List UInt8} {fp fq : List Nat} {f : Nat} {fn : Func} {ats : Array TypeId} {xs : List Operand} (h : Env n a e) (hw : Goes ops ⟨some d,.call ⟨.value (.func f),xs.toArray,ats⟩,ty,pos,af,g⟩ a) (hd : d < n)
  (hxs : Tq e xs = some [v, u]) (hf : P.funcs[f]? = some fn) (hb : fn.body.isNone = true) (hn : (fn.name == "runtime.NumGoroutine") = false) (hnx : Extern.findNext fn = none) (hfd : Extern.find fn = some Extern.BytealgCompare.compare)
  (hs : Rep.sat S w l [v] fp) (hs2 : Rep.sat S2 w m [u] fq) (k : ∀ a,Env n a ((d,vI (UK l m)) :: e) → wpList P ops Q rest a w) : wpList P ops Q (⟨some d,.call ⟨.value (.func f),xs.toArray,ats⟩,ty,pos,af,g⟩ :: rest) a w:=by
 refine YT h hw rfl hd (w':=w) ?_ k
 have hr : (Extern.BytealgCompare.compare #[v,u]).run P w = .ok (vI (UK l m)) w:=by
  show (do pure (goInt (Extern.BytealgCompare.cmp (← Extern.Bytes.bytesOf v) (← Extern.Bytes.bytesOf u)))).run P w = _
  simp only [Sem.run_bind,J2 (P:=P) hs,J2 (P:=P) hs2,Result.andThen_ok,cmp_eq]
  rfl
 simp only [execOp,resolve,Act.eval]
 simp only [Deferred.ofValue,Sem.run_bind,pure,Sem.run,Result.andThen_ok,invoke]
 have hargs : (xs.toArray.map a.eval) = #[v,u]:=by simp [h.evs hxs]
 simp only [hargs,Array.append_empty]
 have:=run_callFunc_extern (P:=P) hf hn hb hnx hfd #[v,u] w
 simpa [hr] using this
end
end Go.Proofs.YtpibglnacohdkaaGreat
namespace Go.Proofs.YtpibglnacohdkaaGreat
open Go

def mget {κ α : Type} [DecidableEq κ] : List (κ × α) → κ → Option α
 | [],_=>none
 | p :: m,k=>if p.1 = k then some p.2 else mget m k
def mset {κ α : Type} [DecidableEq κ] : List (κ × α) → κ → α → List (κ × α)
 | [],k,x=>[(k,x)]
 | p :: m,k,x=>if p.1 = k then (k,x) :: m else p :: mset m k x
def ka {κ : Type} [DecidableEq κ] : List κ → List MapEntry → Nat → κ → Option (Nat × Value)
 | x :: ks,e :: es,i,k=>if x = k then some (i,e.val) else ka ks es (i + 1) k
 | _,_,_,_=>none
structure KeyOk (P : Program) (t : TypeId) {κ : Type} [DecidableEq κ] (kv : κ → Value) : Prop where
 check : ∀ (e : Bool) (w : World) (k : κ),(Instr.checkKey e 10000 t (kv k)).run P w = .ok () w
 find : ∀ (w : World) (k : κ) (ks : List κ) (es : List MapEntry),es.map (·.key) = ks.map kv → (Instr.findKey t (kv k) es).run P w = .ok (ka ks es 0 k) w
 same : ∀ k,Instr.sameBits 10000 (kv k) (kv k) = true
structure ElOk {α : Type} (S : Nat → Prop) (E : World → α → Value → List Nat → Prop) : Prop where
 loc : ∀ {w w' : World} {x : α} {u : Value} {f : List Nat},E w x u f → (∀ b,(b ∈ f ∨ S b) → w'.heap[b]? = w.heap[b]?) → E w' x u f
 lt : ∀ {w : World} {x : α} {u : Value} {f : List Nat},E w x u f → ∀ b ∈ f,b < w.heap.size
def satE {α : Type} [Rep α] (S : Nat → Prop) : World → α → Value → List Nat → Prop:=fun w x u f=>Rep.sat S w x [u] f
def oslE {α : Type} [Rep α] (S : Nat → Prop) : World → List α → Value → List Nat → Prop:=fun w l u f=>XV S w l u f
def TM {κ α : Type} (kv : κ → Value) (E : World → α → Value → List Nat → Prop) (w : World) : List (κ × α) → List MapEntry → List Nat → Prop
 | [],es,fp=>es = [] ∧ fp = []
 | p :: m,es,fp=>∃ e es' f fp',es = e :: es' ∧ fp = f ++ fp' ∧ e.key = kv p.1 ∧ E w p.2 e.val f ∧ TM kv E w m es' fp'
def QW (es : List MapEntry) (clock : Nat) : Prop:=es.Pairwise (fun a b=>a.born < b.born) ∧ ∀ e ∈ es,e.born < clock
def mapI {κ α : Type} (kv : κ → Value) (E : World → α → Value → List Nat → Prop) (m : List (κ × α)) (b : Nat) : Item:=fun w fp =>
 ∃ es clock fpe,w.heap[b]? = some (.map es clock) ∧ TM kv E w m es.toList fpe ∧ QW es.toList clock ∧ fp = b :: fpe
def mapH {κ α : Type} [DecidableEq κ] (kv : κ → Value) (E : World → α → Value → List Nat → Prop) (m : List (κ × α)) (k : κ) (u : Value) (b st : Nat) : Item:=fun w fp =>
 ∃ es clock m1 m2 es1 e es2 f1 f2,w.heap[b]? = some (.map es clock) ∧ es.toList = es1 ++ e :: es2 ∧ TM kv E w m1 es1 f1 ∧ TM kv E w m2 es2 f2 ∧ e.key = kv k ∧ e.born = st ∧ e.val = u ∧ QW es.toList clock ∧
  (∀ x,mset m k x = m1 ++ (k,x) :: m2) ∧ fp = b :: (f1 ++ f2)
section
variable {κ α : Type} {kv : κ → Value} {S St : Nat → Prop} {E : World → α → Value → List Nat → Prop} {w w' w0 : World}
theorem TM.keys : ∀ {m : List (κ × α)} {es : List MapEntry} {fp : List Nat},TM kv E w m es fp → es.map (·.key) = (m.map (·.1)).map kv
 | [],_,_,h=>by rw [h.1]; rfl
 | p :: m,_,_,h=>by
  obtain ⟨e,es',f,fp',rfl,_,h1,_,h2⟩:=h
  simp [h1,TM.keys h2]
theorem TM.loc (hE : ElOk S E) : ∀ {m : List (κ × α)} {es : List MapEntry} {fp : List Nat},TM kv E w m es fp → (∀ b,(b ∈ fp ∨ S b) → w'.heap[b]? = w.heap[b]?) → TM kv E w' m es fp
 | [],_,_,h,_=>h
 | p :: m,_,_,h,hb=>by
  obtain ⟨e,es',f,fp',rfl,rfl,h1,h2,h3⟩:=h
  exact ⟨e,es',f,fp',rfl,rfl,h1,hE.loc h2 (fun b h=>hb b (by simp; grind)),TM.loc hE h3 (fun b h=>hb b (by simp; grind))⟩
end
section
variable {κ α : Type} [DecidableEq κ] {kv : κ → Value} {S St : Nat → Prop} {E : World → α → Value → List Nat → Prop} {w w' w0 : World} {its : List Item}
omit [DecidableEq κ] in
theorem TM.app : ∀ {m1 m2 : List (κ × α)} {es1 es2 : List MapEntry} {f1 f2 : List Nat},TM kv E w m1 es1 f1 → TM kv E w m2 es2 f2 → TM kv E w (m1 ++ m2) (es1 ++ es2) (f1 ++ f2)
 | [],_,_,_,_,_,h,k=>by obtain ⟨rfl,rfl⟩:=h; exact k
 | p :: m,_,_,_,_,_,h,k=>by
  obtain ⟨e,es',f,fp',rfl,rfl,h1,h2,h3⟩:=h
  exact ⟨e,es' ++ _,f,fp' ++ _,by simp,by simp,h1,h2,TM.app h3 k⟩
theorem QW.push {es : List MapEntry} {clock : Nat} (h : QW es clock) (k u : Value) : QW (es ++ [{ key:=k,val:=u,born:=clock }]) (clock + 1):=by
 refine ⟨List.pairwise_append.2 ⟨h.1,by simp,fun a ha b hb=>?_⟩,fun e he=>?_⟩
 ·simp at hb; subst hb; exact h.2 a ha
 ·rcases List.mem_append.1 he with he | he
  ·have:=h.2 e he; omega
  ·simp at he; subst he; exact Nat.lt_succ_self _
theorem QW.put {es1 es2 : List MapEntry} {e e' : MapEntry} {clock : Nat} (h : QW (es1 ++ e :: es2) clock) (hb : e'.born = e.born) : QW (es1 ++ e' :: es2) clock:=by
 obtain ⟨h1,h2⟩:=h
 rw [List.pairwise_append,List.pairwise_cons] at h1
 obtain ⟨a1,⟨a2,a3⟩,a4⟩:=h1
 refine ⟨List.pairwise_append.2 ⟨a1,List.pairwise_cons.2 ⟨fun b hb'=>by rw [hb]; exact a2 b hb',a3⟩,fun a ha b hb'=>?_⟩,fun q hq=>?_⟩
 ·rcases List.mem_cons.1 hb' with rfl | hb'
  ·rw [hb]; exact a4 a ha e (by simp)
  ·exact a4 a ha b (by simp [hb'])
 ·rcases List.mem_append.1 hq with hq | hq
  ·exact h2 q (by simp [hq])
  ·rcases List.mem_cons.1 hq with rfl | hq
   ·rw [hb]; exact h2 e (by simp)
   ·exact h2 q (by simp [hq])
omit [DecidableEq κ] in
end
section
variable {n : Nat} {a : Act} {e : List (Nat × Value)} {w w' : World} {P : Program} {ops : Array Oper} {rest : List Oper} {Q : Exit → Act → World → Prop}
variable {d : Nat} {ty t kt el : TypeId} {pos : String} {af : Array Edge} {g : Option (Nat × Bool)} {x y z : Operand} {v u : Value}
variable {St S : Nat → Prop} {w0 : World} {its pre post : List Item} {κ α : Type} {kv : κ → Value} {m : List (κ × α)} {b : Nat} {E : World → α → Value → List Nat → Prop}
variable [DecidableEq κ]
def Ax {α : Type} (m : List (κ × α)) (k : κ) (b : Nat) (v : Value) (w : World) : Prop:=∃ es clock,w.heap[b]? = some (.map es clock) ∧ v = ((ka (m.map (·.1)) es.toList 0 k).map (·.2)).getD (.slice none 0 0)
def mapV {α : Type} (kv : κ → Value) (E : World → List α → Value → List Nat → Prop) (m : List (κ × List α)) (l : List α) (v : Value) (b : Nat) : Item:=fun w fp=>mapI kv E m b w fp ∧ ∃ k,Ax m k b v w ∧ l = (mget m k).getD []
theorem Ax.keep {m : List (κ × α)} {k : κ} (h : Ax m k b v w) (hk : Kept (Old w) w w') : Ax m k b v w':=by
 obtain ⟨es,c,h1,h2⟩:=h
 exact ⟨es,c,(hk.block b (Array.getElem?_eq_some_iff.1 h1).1).trans h1,h2⟩
end
end Go.Proofs.YtpibglnacohdkaaGreat
namespace Go.Proofs.YtpibglnacohdkaaGreat
open Go
section
open Go.RowKit
def upto {α : Type} (f : Nat → α) (k : Nat) : List α:=(List.range k).map f
def KpB (n₀ Bs : Nat) (W W' : World) : Prop:=Below n₀ W W' ∧ W'.heap[Bs]? = W.heap[Bs]?
theorem KpB.trans {n₀ Bs : Nat} {A B C : World} (h : KpB n₀ Bs A B) (k : KpB n₀ Bs B C) : KpB n₀ Bs A C:=⟨h.1.trans k.1,k.2.trans h.2⟩
def backF (zs : List UInt8) (k : Nat) : Int × UInt8:=((zs.length : Int) - 1 - k,(zs[zs.length - 1 - k]?.getD 0))
def Byts (n₀ : Nat) (W : World) (p : Option Addr) (zs : List UInt8) : Prop :=
 zs = [] ∨ ∃ b off,p = some ⟨b,off,none⟩ ∧ b < n₀ ∧ ∀ j,j < zs.length → W.cell? ⟨b,off + j,none⟩ = some (.int .u8 (zs[j]?.getD 0).toNat)
theorem Byts.below {n₀ : Nat} {A B : World} (h : Below n₀ A B) {p : Option Addr} {zs : List UInt8} : Byts n₀ A p zs → Byts n₀ B p zs
 | .inl e=>.inl e
 | .inr ⟨b,off,e,hb,hc⟩=>.inr ⟨b,off,e,hb,fun j hj=>(h.cell (p:=⟨b,off + j,none⟩) hb).trans (hc j hj)⟩
end
end Go.Proofs.YtpibglnacohdkaaGreat
namespace Go.Proofs.YtpibglnacohdkaaGreat
open Go
section
variable {P : Program} {St : Nat → Prop} {w0 w : World} {its : List Item} {n : Nat} {a : Act} {e : List (Nat × Value)} {ops : Array Oper} {rest : List Oper} {Q : Exit → Act → World → Prop} {v : Value} {x : Operand} {t ty : TypeId} {pos : String} {af : Array Edge} {g : Option (Nat × Bool)}
theorem yr {α : Type} [Flat α] {l l' : List α} {k : Nat} {seg : List Value} {fp : List Nat} (hO : XV NoB w l v fp) (hlen : l'.length = l.length) (he : ZY l' = Z8 (ZY l) k seg) (hfit : k + seg.length ≤ (ZY l).length) (hne : 0 < l.length) (hc : ∀ v ∈ seg,v.oneCell' = true) :
  (storeCells ⟨sb v,so v + k,none⟩ seg).run P w = .ok () (w.setCells (sb v) (so v + k) seg) ∧ fp = [sb v] ∧ XV NoB (w.setCells (sb v) (so v + k) seg) l' v [sb v] ∧
   (∃ c T fz,w.heap[sb v]? = some (.cells c T fz) ∧ so v + (ZY l).length ≤ c.size ∧ ∀ i,i < c.size → ¬ (fz.1 ≤ i ∧ i < fz.2)):=by
 obtain ⟨p,cap,rfl,hcap,hO⟩:=hO
 rcases hO with ⟨rfl,_⟩ | ⟨b,o,ecs,fpe,rfl,k1,k2,rfl,k3⟩
 ·omega
 obtain ⟨rfl,rfl⟩:=Yl.1 k1
 obtain ⟨c,T,fz,hheap,hsize,hfz⟩:=k3
 have hsb : sb (.slice (some ⟨b,o,none⟩) l.length cap) = b:=rfl
 have hso : so (.slice (some ⟨b,o,none⟩) l.length cap) = o:=rfl
 rw [hsb,hso]
 have hel:=Y1 l
 have hcl : o + (ZY l).length ≤ c.size:=by
  have h1 : l.length * Flat.n α ≤ cap * Rep.n α:=Nat.mul_le_mul_right _ hcap
  rw [hel]; omega
 have hfit2 : o + k + seg.length ≤ c.size:=by omega
 have hst:=Tt (P:=P) (o:=o + k) (vs:=seg) hheap hfit2 hfz hc
 refine ⟨hst,rfl,⟨some ⟨b,o,none⟩,cap,by rw [hlen],by omega,.inr ⟨b,o,ZY l',[],rfl,Yl.2 ⟨rfl,rfl⟩,?_,rfl,?_⟩⟩,c,T,fz,hheap,hcl,hfz⟩
 ·have hh:=YN b T fz seg (o + k) w c hheap hfit2
  intro j vv hv
  have hj:=(List.getElem?_eq_some_iff.1 hv).1
  rw [he,Y4 hfit] at hj
  simp only [World.cell?,hh,Option.isSome_none,Bool.false_eq_true,if_false]
  rw [List.getElem?_toArray]
  have hrow : ∀ j,j < (ZY l).length → c.toList[o + j]? = (ZY l)[j]?:=by
   intro j hj
   have:=k2 j _ (List.getElem?_eq_getElem hj)
   simp only [World.cell?,hheap,Option.isSome_none,Bool.false_eq_true,if_false] at this
   rw [List.getElem?_eq_getElem hj]
   simpa using this
  rw [he] at hv
  simp only [Z8] at hv ⊢
  have hclen : o + (ZY l).length ≤ c.toList.length:=by simpa using hcl
  by_cases hj1 : j < k
  ·rw [List.getElem?_append_left (by simp; omega),List.getElem?_take,if_pos hj1] at hv
   rw [List.getElem?_append_left (by simp at hclen ⊢; omega),List.getElem?_take,if_pos (by omega),hrow j hj]
   exact hv
  ·rw [List.getElem?_append_right (by simp; omega)] at hv
   rw [List.getElem?_append_right (by simp; omega)]
   have e1 : (List.take k (ZY l)).length = k:=by simp; omega
   have e2 : (List.take (o + k) c.toList).length = o + k:=by simp at hclen ⊢; omega
   rw [e1] at hv
   rw [e2,show o + j - (o + k) = j - k by omega]
   by_cases hj2 : j - k < seg.length
   ·rw [List.getElem?_append_left hj2] at hv ⊢; exact hv
   ·rw [List.getElem?_append_right (by omega),List.getElem?_drop] at hv ⊢
    rw [show o + k + seg.length + (j - k - seg.length) = o + j by omega,hrow j hj]
    rw [show k + seg.length + (j - k - seg.length) = j by omega] at hv
    exact hv
 ·refine ⟨_,T,fz,YN b T fz seg _ w c hheap hfit2,?_,?_⟩
  ·rw [List.size_toArray,Y4 (by simpa using hfit2)]; simpa using hsize
  ·intro j hj
   rw [List.size_toArray,Y4 (by simpa using hfit2)] at hj
   exact hfz j (by simpa using hj)
theorem M.setRow (P : Program) {α : Type} [Flat α] {l l' : List α} {k : Nat} {seg : List Value} (hM : M St w0 w (osl NoB l v :: its)) (hlen : l'.length = l.length) (he : ZY l' = Z8 (ZY l) k seg) (hfit : k + seg.length ≤ (ZY l).length) (hne : 0 < l.length) (hc : ∀ v ∈ seg,v.oneCell' = true) :
  M St w0 (w.setCells (sb v) (so v + k) seg) (osl NoB l' v :: its):=by
 refine M.turn (new:=[osl NoB l' v]) hM (ZQ _ _ _ _).1 (ZQ _ _ _ _).2.1 (ZQ _ _ _ _).2.2 (by rw [Vc]; exact Nat.le_refl _) ?_
 intro fp hfp hlt hnd
 obtain ⟨_,rfl,hO,_⟩:=yr (P:=P) hfp hlen he hfit hne hc
 exact ⟨fun b hb _=>XY _ _ (by simpa using hb) _ _ _,[sb v],⟨[sb v],[],rfl,XE noB,hO,rfl⟩,by simp,fun b hb=>.inl hb⟩
def clr {α : Type} (l : List α) (i : Int) (z : α) : Option (List α):=if 0 ≤ i ∧ i < l.length then some (l.take i.toNat ++ List.replicate (l.length - i.toNat) z) else none
end
end Go.Proofs.YtpibglnacohdkaaGreat
namespace Go.Proofs.YtpibglnacohdkaaGreat
open Go
section
variable {n : Nat} {a : Act} {e : List (Nat × Value)} {w w' : World} {P : Program} {ops : Array Oper} {rest : List Oper} {Q : Exit → Act → World → Prop}
variable {d : Nat} {ty t : TypeId} {pos : String} {af : Array Edge} {g : Option (Nat × Bool)} {p q : Operand}
end
section
variable {St : Nat → Prop} {w0 w : World} {its m r : List Item} {mk mk1 mk2 : Mk} {D : Nat → Bool} {u : Nat → Value} {s : Nat} {v : Value} {A B : Item}
theorem M.qS {p : List Nat × (List Bool → List Value → Item)} (h : M St w0 w ((A :: its) ++ qL mk (fun _=>false) u)) (e : ∀ us,p.2 (p.1.map fun _=>false) us = A) : M St w0 w (its ++ qL (p :: mk) (fun _=>false) u):=by
 have h' : M St w0 w (A :: (its ++ qL mk (fun _=>false) u)):=h
 rw [← e (p.1.map u)] at h'
 exact M.push h'
theorem M.qTogS {p : List Nat × (List Bool → List Value → Item)} (h : M St w0 w (B :: (its ++ (qL mk1 D u ++ qL mk2 D u)))) (hi : ((mk1 ++ mk2).all fun p=>p.1.all fun k=>k != s) = true)
  (e : p.2 (p.1.map (UM D s)) (p.1.map (UR u s v)) = B) : M St w0 w (its ++ qL (mk1 ++ p :: mk2) (UM D s) (UR u s v)):=by
 have hne':=noti hi
 rw [HN,Kp (fun p hp=>hne' p (List.mem_append_left _ hp)),Kp (fun p hp=>hne' p (List.mem_append_right _ hp)),e]
 have h5 : M St w0 w (B :: ((its ++ qL mk1 D u) ++ qL mk2 D u)):=by simpa using h
 simpa using M.push h5
end
section
variable {n : Nat} {a : Act} {e : List (Nat × Value)} {w : World} {P : Program}
end
class CL (l : List (List Value)) (n : outParam Nat) : Prop where
 h : TH l = n
instance cl_nil : CL [] 0:=⟨rfl⟩
instance cl_one {v : Value} {r : List (List Value)} {m : Nat} [h : CL r m] : CL ([v] :: r) (1 + m):=⟨by rw [TH,h.h]; rfl⟩
instance cl_enc {α : Type} [Flat α] {x : α} {r : List (List Value)} {m : Nat} [h : CL r m] : CL (Flat.enc x :: r) (Flat.n α + m):=⟨by rw [TH,h.h,Flat.len]⟩
instance cl_cat {l r : List (List Value)} {n m : Nat} [k : CL l n] [h : CL r m] : CL (cat l :: r) (n + m):=⟨by rw [TH,h.h,AJ k.h]⟩
theorem zF : ∀ a b : List (List Value),TH (a ++ b) = TH a + TH b
 | [],b=>by simp [TH]
 | c :: a,b=>by rw [List.cons_append,TH,TH,zF a b,Nat.add_assoc]
instance cl_app {a b : List (List Value)} {n m : Nat} [h : CL a n] [k : CL b m] : CL (a ++ b) (n + m):=⟨by rw [zF,h.h,k.h]⟩
theorem ck {l : List (List Value)} {n : Nat} [h : CL l n] : TH l = n:=h.h
theorem cq {l : List (List Value)} {n : Nat} [h : CL l n] : (cat l).length = n:=AJ h.h
theorem kq {P : Program} {l : Array Oper} {w : World} {n t i : Nat} {a : Act} {e : List (Nat × Value)} {v : Value} {ts : List Nat} {G : Value → World → Prop} (h1 : ts[i]? = some t) (hE : Env n a ((t,v) :: e)) (g : G v w) :
  wpList P l (nrm fun a' w'=>Kept (Old w) w w' ∧ ∃ v t,ts[i]? = some t ∧ Env n a' ((t,v) :: e) ∧ G v w') [] a w:=⟨Kept.refl _ _,_,_,h1,hE,g⟩
theorem M.rawAt0 {St : Nat → Prop} {w0 w : World} {b : Nat} {cs : List Value} {r : List Item} (h : M St w0 w (raw b cs :: r)) : At w b 0 cs:=M.rawAt (pre:=[]) h
theorem M.pull1 {St : Nat → Prop} {w0 w : World} {it : Item} {r : List Item} {a0 : Item} (h : M St w0 w (a0 :: it :: r)) : M St w0 w (it :: a0 :: r):=M.pull (pre:=[a0]) h
theorem M.rawAt1 {St : Nat → Prop} {w0 w : World} {b : Nat} {cs : List Value} {r : List Item} {a0 : Item} (h : M St w0 w (a0 :: raw b cs :: r)) : At w b 0 cs:=M.rawAt (pre:=[a0]) h
theorem M.pull2 {St : Nat → Prop} {w0 w : World} {it : Item} {r : List Item} {a0 a1 : Item} (h : M St w0 w (a0 :: a1 :: it :: r)) : M St w0 w (it :: a0 :: a1 :: r):=M.pull (pre:=[a0,a1]) h
theorem M.rawAt2 {St : Nat → Prop} {w0 w : World} {b : Nat} {cs : List Value} {r : List Item} {a0 a1 : Item} (h : M St w0 w (a0 :: a1 :: raw b cs :: r)) : At w b 0 cs:=M.rawAt (pre:=[a0,a1]) h
theorem M.pull3 {St : Nat → Prop} {w0 w : World} {it : Item} {r : List Item} {a0 a1 a2 : Item} (h : M St w0 w (a0 :: a1 :: a2 :: it :: r)) : M St w0 w (it :: a0 :: a1 :: a2 :: r):=M.pull (pre:=[a0,a1,a2]) h
theorem M.rawAt3 {St : Nat → Prop} {w0 w : World} {b : Nat} {cs : List Value} {r : List Item} {a0 a1 a2 : Item} (h : M St w0 w (a0 :: a1 :: a2 :: raw b cs :: r)) : At w b 0 cs:=M.rawAt (pre:=[a0,a1,a2]) h
theorem M.pull4 {St : Nat → Prop} {w0 w : World} {it : Item} {r : List Item} {a0 a1 a2 a3 : Item} (h : M St w0 w (a0 :: a1 :: a2 :: a3 :: it :: r)) : M St w0 w (it :: a0 :: a1 :: a2 :: a3 :: r):=M.pull (pre:=[a0,a1,a2,a3]) h
theorem M.rawAt4 {St : Nat → Prop} {w0 w : World} {b : Nat} {cs : List Value} {r : List Item} {a0 a1 a2 a3 : Item} (h : M St w0 w (a0 :: a1 :: a2 :: a3 :: raw b cs :: r)) : At w b 0 cs:=M.rawAt (pre:=[a0,a1,a2,a3]) h
theorem M.pull5 {St : Nat → Prop} {w0 w : World} {it : Item} {r : List Item} {a0 a1 a2 a3 a4 : Item} (h : M St w0 w (a0 :: a1 :: a2 :: a3 :: a4 :: it :: r)) : M St w0 w (it :: a0 :: a1 :: a2 :: a3 :: a4 :: r):=M.pull (pre:=[a0,a1,a2,a3,a4]) h
theorem M.rawAt5 {St : Nat → Prop} {w0 w : World} {b : Nat} {cs : List Value} {r : List Item} {a0 a1 a2 a3 a4 : Item} (h : M St w0 w (a0 :: a1 :: a2 :: a3 :: a4 :: raw b cs :: r)) : At w b 0 cs:=M.rawAt (pre:=[a0,a1,a2,a3,a4]) h
theorem M.pull6 {St : Nat → Prop} {w0 w : World} {it : Item} {r : List Item} {a0 a1 a2 a3 a4 a5 : Item} (h : M St w0 w (a0 :: a1 :: a2 :: a3 :: a4 :: a5 :: it :: r)) : M St w0 w (it :: a0 :: a1 :: a2 :: a3 :: a4 :: a5 :: r):=M.pull (pre:=[a0,a1,a2,a3,a4,a5]) h
theorem M.rawAt6 {St : Nat → Prop} {w0 w : World} {b : Nat} {cs : List Value} {r : List Item} {a0 a1 a2 a3 a4 a5 : Item} (h : M St w0 w (a0 :: a1 :: a2 :: a3 :: a4 :: a5 :: raw b cs :: r)) : At w b 0 cs:=M.rawAt (pre:=[a0,a1,a2,a3,a4,a5]) h
theorem M.pull7 {St : Nat → Prop} {w0 w : World} {it : Item} {r : List Item} {a0 a1 a2 a3 a4 a5 a6 : Item} (h : M St w0 w (a0 :: a1 :: a2 :: a3 :: a4 :: a5 :: a6 :: it :: r)) : M St w0 w (it :: a0 :: a1 :: a2 :: a3 :: a4 :: a5 :: a6 :: r):=M.pull (pre:=[a0,a1,a2,a3,a4,a5,a6]) h
theorem M.rawAt7 {St : Nat → Prop} {w0 w : World} {b : Nat} {cs : List Value} {r : List Item} {a0 a1 a2 a3 a4 a5 a6 : Item} (h : M St w0 w (a0 :: a1 :: a2 :: a3 :: a4 :: a5 :: a6 :: raw b cs :: r)) : At w b 0 cs:=M.rawAt (pre:=[a0,a1,a2,a3,a4,a5,a6]) h
theorem M.pull8 {St : Nat → Prop} {w0 w : World} {it : Item} {r : List Item} {a0 a1 a2 a3 a4 a5 a6 a7 : Item} (h : M St w0 w (a0 :: a1 :: a2 :: a3 :: a4 :: a5 :: a6 :: a7 :: it :: r)) : M St w0 w (it :: a0 :: a1 :: a2 :: a3 :: a4 :: a5 :: a6 :: a7 :: r):=M.pull (pre:=[a0,a1,a2,a3,a4,a5,a6,a7]) h
theorem M.rawAt8 {St : Nat → Prop} {w0 w : World} {b : Nat} {cs : List Value} {r : List Item} {a0 a1 a2 a3 a4 a5 a6 a7 : Item} (h : M St w0 w (a0 :: a1 :: a2 :: a3 :: a4 :: a5 :: a6 :: a7 :: raw b cs :: r)) : At w b 0 cs:=M.rawAt (pre:=[a0,a1,a2,a3,a4,a5,a6,a7]) h
theorem M.pull9 {St : Nat → Prop} {w0 w : World} {it : Item} {r : List Item} {a0 a1 a2 a3 a4 a5 a6 a7 a8 : Item} (h : M St w0 w (a0 :: a1 :: a2 :: a3 :: a4 :: a5 :: a6 :: a7 :: a8 :: it :: r)) : M St w0 w (it :: a0 :: a1 :: a2 :: a3 :: a4 :: a5 :: a6 :: a7 :: a8 :: r):=M.pull (pre:=[a0,a1,a2,a3,a4,a5,a6,a7,a8]) h
theorem M.rawAt9 {St : Nat → Prop} {w0 w : World} {b : Nat} {cs : List Value} {r : List Item} {a0 a1 a2 a3 a4 a5 a6 a7 a8 : Item} (h : M St w0 w (a0 :: a1 :: a2 :: a3 :: a4 :: a5 :: a6 :: a7 :: a8 :: raw b cs :: r)) : At w b 0 cs:=M.rawAt (pre:=[a0,a1,a2,a3,a4,a5,a6,a7,a8]) h
theorem M.pull10 {St : Nat → Prop} {w0 w : World} {it : Item} {r : List Item} {a0 a1 a2 a3 a4 a5 a6 a7 a8 a9 : Item} (h : M St w0 w (a0 :: a1 :: a2 :: a3 :: a4 :: a5 :: a6 :: a7 :: a8 :: a9 :: it :: r)) : M St w0 w (it :: a0 :: a1 :: a2 :: a3 :: a4 :: a5 :: a6 :: a7 :: a8 :: a9 :: r):=M.pull (pre:=[a0,a1,a2,a3,a4,a5,a6,a7,a8,a9]) h
theorem M.rawAt10 {St : Nat → Prop} {w0 w : World} {b : Nat} {cs : List Value} {r : List Item} {a0 a1 a2 a3 a4 a5 a6 a7 a8 a9 : Item} (h : M St w0 w (a0 :: a1 :: a2 :: a3 :: a4 :: a5 :: a6 :: a7 :: a8 :: a9 :: raw b cs :: r)) : At w b 0 cs:=M.rawAt (pre:=[a0,a1,a2,a3,a4,a5,a6,a7,a8,a9]) h
theorem M.rawAt11 {St : Nat → Prop} {w0 w : World} {b : Nat} {cs : List Value} {r : List Item} {a0 a1 a2 a3 a4 a5 a6 a7 a8 a9 a10 : Item} (h : M St w0 w (a0 :: a1 :: a2 :: a3 :: a4 :: a5 :: a6 :: a7 :: a8 :: a9 :: a10 :: raw b cs :: r)) : At w b 0 cs:=M.rawAt (pre:=[a0,a1,a2,a3,a4,a5,a6,a7,a8,a9,a10]) h
theorem M.pull12 {St : Nat → Prop} {w0 w : World} {it : Item} {r : List Item} {a0 a1 a2 a3 a4 a5 a6 a7 a8 a9 a10 a11 : Item} (h : M St w0 w (a0 :: a1 :: a2 :: a3 :: a4 :: a5 :: a6 :: a7 :: a8 :: a9 :: a10 :: a11 :: it :: r)) : M St w0 w (it :: a0 :: a1 :: a2 :: a3 :: a4 :: a5 :: a6 :: a7 :: a8 :: a9 :: a10 :: a11 :: r):=M.pull (pre:=[a0,a1,a2,a3,a4,a5,a6,a7,a8,a9,a10,a11]) h
theorem M.rawAt12 {St : Nat → Prop} {w0 w : World} {b : Nat} {cs : List Value} {r : List Item} {a0 a1 a2 a3 a4 a5 a6 a7 a8 a9 a10 a11 : Item} (h : M St w0 w (a0 :: a1 :: a2 :: a3 :: a4 :: a5 :: a6 :: a7 :: a8 :: a9 :: a10 :: a11 :: raw b cs :: r)) : At w b 0 cs:=M.rawAt (pre:=[a0,a1,a2,a3,a4,a5,a6,a7,a8,a9,a10,a11]) h
theorem M.rawAt13 {St : Nat → Prop} {w0 w : World} {b : Nat} {cs : List Value} {r : List Item} {a0 a1 a2 a3 a4 a5 a6 a7 a8 a9 a10 a11 a12 : Item} (h : M St w0 w (a0 :: a1 :: a2 :: a3 :: a4 :: a5 :: a6 :: a7 :: a8 :: a9 :: a10 :: a11 :: a12 :: raw b cs :: r)) : At w b 0 cs:=M.rawAt (pre:=[a0,a1,a2,a3,a4,a5,a6,a7,a8,a9,a10,a11,a12]) h
abbrev Rt (w0 : World) (x : Value) : Ending → World → Prop:=fun en w'=>∃ v,en = .returned v ∧ (v = x ∧ Kept (Old w0) w0 w')
theorem kr1 {n : Nat} {a : Act} {e : List (Nat × Value)} {w w0 : World} {P : Program} {fn : Func} {t : Nat} {v : Value} (hE : Env n a e) (hres : fn.results = #[.tmp t]) (h : e.lookup t = some v) (hk : Kept (Old w0) w0 w) : bodyPost P fn (Rt w0 v) .ret a w :=
 ZP hE hres (ZU hE h) ⟨_,rfl,rfl,hk⟩
theorem st23 {Ph : Nat → Oper → Prop} {o0 o1 o2 o3 o4 o5 o6 o7 o8 o9 o10 o11 o12 o13 o14 o15 o16 o17 o18 o19 o20 o21 o22 : Oper} (h0 : Ph 0 o0) (h1 : Ph 1 o1) (h2 : Ph 2 o2) (h3 : Ph 3 o3) (h4 : Ph 4 o4) (h5 : Ph 5 o5) (h6 : Ph 6 o6) (h7 : Ph 7 o7) (h8 : Ph 8 o8) (h9 : Ph 9 o9) (h10 : Ph 10 o10) (h11 : Ph 11 o11) (h12 : Ph 12 o12) (h13 : Ph 13 o13) (h14 : Ph 14 o14) (h15 : Ph 15 o15) (h16 : Ph 16 o16) (h17 : Ph 17 o17) (h18 : Ph 18 o18) (h19 : Ph 19 o19) (h20 : Ph 20 o20) (h21 : Ph 21 o21) (h22 : Ph 22 o22) : ∀ i o,([o0,o1,o2,o3,o4,o5,o6,o7,o8,o9,o10,o11,o12,o13,o14,o15,o16,o17,o18,o19,o20,o21,o22] : List Oper)[i]? = some o → Ph i o:=z7 (Zu h0 (Zu h1 (Zu h2 (Zu h3 (Zu h4 (Zu h5 (Zu h6 (Zu h7 (Zu h8 (Zu h9 (Zu h10 (Zu h11 (Zu h12 (Zu h13 (Zu h14 (Zu h15 (Zu h16 (Zu h17 (Zu h18 (Zu h19 (Zu h20 (Zu h21 (Zu h22 B2)))))))))))))))))))))))
theorem gu23 {C : World → Prop} {u0 u1 u2 u3 u4 u5 u6 u7 u8 u9 u10 u11 u12 u13 u14 u15 u16 u17 u18 u19 u20 u21 u22 : Value} : GUp C [(fun v _=>v = u0),(fun v _=>v = u1),(fun v _=>v = u2),(fun v _=>v = u3),(fun v _=>v = u4),(fun v _=>v = u5),(fun v _=>v = u6),(fun v _=>v = u7),(fun v _=>v = u8),(fun v _=>v = u9),(fun v _=>v = u10),(fun v _=>v = u11),(fun v _=>v = u12),(fun v _=>v = u13),(fun v _=>v = u14),(fun v _=>v = u15),(fun v _=>v = u16),(fun v _=>v = u17),(fun v _=>v = u18),(fun v _=>v = u19),(fun v _=>v = u20),(fun v _=>v = u21),(fun v _=>v = u22)]:=(Y5 (Y5 (Y5 (Y5 (Y5 (Y5 (Y5 (Y5 (Y5 (Y5 (Y5 (Y5 (Y5 (Y5 (Y5 (Y5 (Y5 (Y5 (Y5 (Y5 (Y5 (Y5 (Y5 gupN)))))))))))))))))))))))
theorem cbm {P : Program} {f : Nat} {fn : Func} {c : Code} (h : P.funcs[f]? = some fn) (h2 : (fn.name == "runtime.NumGoroutine") = false := by decide) (h3 : fn.body = some c := by rfl) : Callable P f := ⟨_, _, h, h2, h3⟩
theorem ce {n : Nat} {e : List (Nat × Value)} {P : Program} {w : World} {f : Nat} {fn : Func} {c : Code} {vs : List Value} {R : Ending → World → Prop} (hf : P.funcs[f]? = some fn) (k : ∀ a,Env n a e → c.wp P (bodyPost P fn R) a w)
  (hb : fn.body = some c:=by rfl) (hn : fn.ntmps = n:=by rfl) (hl : vs.length ≤ n:=by exact nbl rfl) (he : Jv 0 vs = e:=by rfl) : Calls P f vs.toArray w R:=qk hf hb hn hl he k
theorem qm {P : Program} {l : Array Oper} {n d i : Nat} {ts : List Nat} {e0 : List (Nat × Value)} {x : Operand} {v : Value} {ty : TypeId} {pos : String} {af : Array Edge} {G : Value → World → Prop} {C : World → Prop} {H : (Nat → Value) → World → Prop}
  (hx : ∀ u,opv (UI ts 0 u e0) x = some v:=by exact fun _=>rfl) (ht : ts[i]? = some d:=by rfl) (g : ∀ w,G v w:=by exact fun _=>rfl) (hd : d < n:=by decide) :
  ∀ a w (u : Nat → Value),Env n a (UI ts 0 u e0) → C w → H u w → wpList P l (nrm fun a' w'=>Kept (Old w) w w' ∧ ∃ v t,ts[i]? = some t ∧ Env n a' ((t,v) :: UI ts 0 u e0) ∧ G v w') [⟨some d,.move x,ty,pos,af,none⟩] a w :=
 fun _ w u hE _ _=>Zj hE Za hd (hx u) fun _ hE=>kq ht hE (g w)
section
variable {n : Nat} {a : Act} {e : List (Nat × Value)} {w w' : World} {P : Program} {ops : Array Oper} {rest : List Oper} {Q : Exit → Act → World → Prop} {d : Nat} {ty ty' : TypeId} {pos : String} {af : Array Edge} {g : Option (Nat × Bool)} {x y z : Operand} {v : Value}
theorem Zd  (h : Env n a e) (hx : opv e x = some v) (k : ∀ a,Env n a ((d,v) :: e) → wpList P ops Q rest a w) (hd : d < n:=by decide) : wpList P ops Q (⟨some d,.move x,ty,pos,af,none⟩ :: rest) a w :=
 Zj h Za hd hx k
theorem Zc  (h : Env n a e) (hx : opv e x = some v) (k : ∀ a,Env n a ((d,v) :: e) → wpList P ops Q rest a w) (hd : d < n:=by decide) : wpList P ops Q (⟨some d,.assign x,ty,pos,af,none⟩ :: rest) a w :=
 Qo h Za hd hx k
theorem Yx  (h : Env n a e) (hx : opv e x = some (vT true)) (hy : opv e y = some v) (k : ∀ a,Env n a ((d,v) :: e) → wpList P ops Q rest a w) (hd : d < n:=by decide) : wpList P ops Q (⟨some d,.pick x y z,ty,pos,af,none⟩ :: rest) a w :=
 Td h Za hd hx hy k
theorem X9  (h : Env n a e) (hx : opv e x = some (vT false)) (hz : opv e z = some v) (k : ∀ a,Env n a ((d,v) :: e) → wpList P ops Q rest a w) (hd : d < n:=by decide) : wpList P ops Q (⟨some d,.pick x y z,ty,pos,af,none⟩ :: rest) a w :=
 UW h Za hd hx hz k
theorem Zi {op : BinOp} {t2 : TypeId} {K : IntKind} {p q : Int} (h : Env n a e) (hx : opv e x = some (.int K p)) (hy : opv e y = some (.int K q)) (hv : Qv op K p q = some v) (k : ∀ a,Env n a ((d,v) :: e) → wpList P ops Q rest a w) (hd : d < n:=by decide) : wpList P ops Q (⟨some d,.binOp op ty' x y t2,ty,pos,af,none⟩ :: rest) a w :=
 Z9 h Za hd hx hy hv k
theorem Qk {p : Bool} (h : Env n a e) (hx : opv e x = some (vT p)) (k : ∀ a,Env n a ((d,vT (!p)) :: e) → wpList P ops Q rest a w) (hd : d < n:=by decide) : wpList P ops Q (⟨some d,.unOp .not ty' x,ty,pos,af,none⟩ :: rest) a w :=
 TF h Za hd hx k
end
section
variable {n : Nat} {a : Act} {e : List (Nat × Value)} {w w' : World} {P : Program} {ops : Array Oper} {rest : List Oper} {Q : Exit → Act → World → Prop} {d : Nat} {ty t : TypeId} {pos : String} {af : Array Edge} {g : Option (Nat × Bool)} {x y : Operand} {v : Value} {St : Nat → Prop} {w0 : World} {its : List Item}
theorem Zz {D : TypeDesc} {sz by_ : Nat} {z : List Value} (h : Env n a e) (hM : M St w0 w its) (ht : Ty P t D sz by_ z) (k : ∀ b w a,M St w0 w (raw b z :: its) → Env n a ((d,ptr b 0) :: e) → wpList P ops Q rest a w) (hd : d < n:=by decide) : wpList P ops Q (⟨some d,.alloc t,ty,pos,af,none⟩ :: rest) a w :=
 qh h hM Za hd ht k
theorem ZB {D : TypeDesc} {sz by_ : Nat} {z : List Value} {b o : Nat} (h : Env n a e) (hx : opv e x = some (ptr b o)) (ht : Ty P t D sz by_ z) (hD : Qe D = false) (hA : At w b o [v]) (k : ∀ a,Env n a ((d,v) :: e) → wpList P ops Q rest a w) (hd : d < n:=by decide) : wpList P ops Q (⟨some d,.load t x,ty,pos,af,none⟩ :: rest) a w :=
 ZM h Za hd hx ht hD hA k
theorem Zr {D : TypeDesc} {sz by_ : Nat} {z : List Value} {b o : Nat} {cs : List Value} (h : Env n a e) (hx : opv e x = some (ptr b o)) (ht : Ty P t D sz by_ z) (hD : Qe D = true) (hA : At w b o cs) (hl : cs.length = sz) (k : ∀ a,Env n a ((d,.agg cs.toArray) :: e) → wpList P ops Q rest a w) (hd : d < n:=by decide) : wpList P ops Q (⟨some d,.load t x,ty,pos,af,none⟩ :: rest) a w :=
 ZW h Za hd hx ht hD hA hl k
theorem Zy {f off b o : Nat} (h : Env n a e) (hx : opv e x = some (ptr b o)) (hf : Fd P t f off) (k : ∀ a,Env n a ((d,ptr b (o + off)) :: e) → wpList P ops Q rest a w) (hd : d < n:=by decide) : wpList P ops Q (⟨some d,.fieldAddr t x f,ty,pos,af,none⟩ :: rest) a w :=
 Zq h Za hd hx hf k
theorem ZF {N el sz by_ b o : Nat} {z : List Value} {D : TypeDesc} {K : IntKind} {i : Int} (h : Env n a e) (hx : opv e x = some (ptr b o)) (hy : opv e y = some (.int K i)) (ht : P.underlying t = some (.array N el)) (he : Ty P el D sz by_ z) (hi : 0 ≤ i ∧ i < N) (k : ∀ a,Env n a ((d,ptr b (o + i.toNat * sz)) :: e) → wpList P ops Q rest a w) (hd : d < n:=by decide) : wpList P ops Q (⟨some d,.indexAddr t x y,ty,pos,af,none⟩ :: rest) a w :=
 ZC h Za hd hx hy ht he hi k
theorem Yd {α : Type} [Rep α] {S : Nat → Prop} {l : List α} {fp : List Nat} {el sz by_ : Nat} {z : List Value} {D : TypeDesc} {K : IntKind} {i : Int} (h : Env n a e) (hx : opv e x = some v) (hy : opv e y = some (.int K i)) (ht : P.underlying t = some (.slice el)) (he : Ty P el D sz by_ z) (hs : Rep.sat S w l [v] fp) (hi : 0 ≤ i ∧ i < l.length) (k : ∀ a,Env n a ((d,ptr (sb v) (so v + i.toNat * sz)) :: e) → wpList P ops Q rest a w) (hd : d < n:=by decide) : wpList P ops Q (⟨some d,.indexAddr t x y,ty,pos,af,none⟩ :: rest) a w :=
 ZZ h Za hd hx hy ht he hs hi k
theorem Z5 {α : Type} [Rep α] {S : Nat → Prop} {l : List α} {fp : List Nat} {el : TypeId} (h : Env n a e) (hx : opv e x = some v) (ht : P.underlying t = some (.slice el)) (hs : Rep.sat S w l [v] fp) (k : ∀ a,Env n a ((d,vI l.length) :: e) → wpList P ops Q rest a w) (hd : d < n:=by decide) : wpList P ops Q (⟨some d,.call ⟨.builtin .len,[x].toArray,[t].toArray⟩,ty,pos,af,none⟩ :: rest) a w :=
 T3 h Za hd hx ht hs k
theorem Zx {f : Nat} {xs : List Operand} {ats : Array TypeId} {vs : List Value} {R : Value → World → Prop} (h : Env n a e) (hxs : Tq e xs = some vs) (hf : Callable P f) (hc : Calls P f vs.toArray w fun en w'=>∃ v,en = .returned v ∧ R v w') (k : ∀ v w' a,R v w' → Env n a ((d,v) :: e) → wpList P ops Q rest a w') (hd : d < n:=by decide) : wpList P ops Q (⟨some d,.call ⟨.value (.func f),xs.toArray,ats⟩,ty,pos,af,none⟩ :: rest) a w :=
 Yk h Za hd hxs hf hc k
end
end Go.Proofs.YtpibglnacohdkaaGreat
namespace Go.Proofs.YtpibglnacohdkaaGreat
open Go
section
variable {n : Nat} {a : Act} {e : List (Nat × Value)} {w w' : World} {P : Program} {ops : Array Oper} {rest : List Oper} {Q : Exit → Act → World → Prop}
variable {d : Nat} {ty t : TypeId} {pos : String} {af : Array Edge} {g : Option (Nat × Bool)} {p q : Operand}
end
def mkU (i : Nat) (A : Item) (f : Value → Item) : List Nat × (List Bool → List Value → Item):=([i],fun bs us=>tog (bs.headD false) A (f (us.headD undef)))
def mkW (s k b : Nat) (z : List Value) (f : Value → List Value) : List Nat × (List Bool → List Value → Item):=([s,k],fun bs us=>tog (bs.headD false) (raw b z) (raw b (f (us.getD 1 undef))))
def chn : List (Bool × Item) → Item
 | []=>Go.Proofs.YtpibglnacohdkaaGreat.emp
 | (b,x) :: r=>if b = true then x else chn r
def chz : List (Nat × (Value → Item)) → List Bool → List Value → List (Bool × Item)
 | p :: l,b :: bs,v :: us=>(b,p.2 v) :: chz l bs us
 | _,_,_=>[]
def mkN (l : List (Nat × (Value → Item))) : List Nat × (List Bool → List Value → Item):=(l.map (·.1),fun bs us=>chn (chz l bs us))
section
variable {St : Nat → Prop} {w0 w : World} {its pre post : List Item} {mk1 mk2 : Mk} {D : Nat → Bool} {u : Nat → Value} {b : Bool} {A B X : Item} {p : List Nat × (List Bool → List Value → Item)} {r : List (Bool × Item)}
theorem M.qUnconst (h : M St w0 w (its ++ qL (mk1 ++ ([],fun _ _=>X) :: mk2) D u)) (e : p.2 (p.1.map D) (p.1.map u) = X) : M St w0 w (its ++ qL (mk1 ++ p :: mk2) D u):=by
 rw [HN,e]; rw [HN] at h; exact h
theorem M.chnF (h : M St w0 w (pre ++ chn ((b,X) :: r) :: post)) (hb : b = false) : M St w0 w (pre ++ chn r :: post):=by subst hb; exact h
theorem M.chnT (h : M St w0 w (pre ++ chn ((b,X) :: r) :: post)) (hb : b = true) : M St w0 w (pre ++ X :: post):=by subst hb; exact h
theorem kD {i : Nat} {f : Value → Item} {v : Value} : (mkU i A f).2 ((mkU i A f).1.map (UM D i)) ((mkU i A f).1.map (UR u i v)) = f v:=by simp [mkU,tog,UM,UR]
theorem emN {l : List (Nat × (Value → Item))} : ∀ us,(mkN l).2 ((mkN l).1.map fun _=>false) us = Go.Proofs.YtpibglnacohdkaaGreat.emp:=by
 show ∀ us,chn (chz l ((l.map (·.1)).map fun _=>false) us) = _
 induction l with
 | nil=>intro us; rfl
 | cons p l ih =>
  intro us
  cases us with
  | nil=>rfl
  | cons v us=>exact ih us
abbrev Off (D : Nat → Bool) (l : List (Nat × (Value → Item))) : Prop:=∀ p ∈ l,D p.1 = false
theorem TC : Off D []:=fun _ h=>by cases h
theorem U6 {k : Nat} {f : Value → Item} {l : List (Nat × (Value → Item))} (h : D k = false) (r : Off D l) : Off D ((k,f) :: l):=fun p hp=>by
 rcases List.mem_cons.1 hp with rfl | hp
 ·exact h
 ·exact r p hp
theorem Al : ∀ {l : List (Nat × (Value → Item))} {m : List (Nat × (Value → Item))},Off D l → chn (chz (l ++ m) ((l ++ m).map fun p=>D p.1) ((l ++ m).map fun p=>u p.1)) = chn (chz m (m.map fun p=>D p.1) (m.map fun p=>u p.1))
 | [],m,_=>rfl
 | p :: l,m,h=>by
  have h1:=h p (by simp)
  simp only [List.cons_append,List.map_cons,chz,chn,h1,Bool.false_eq_true,if_false]
  exact Al fun q hq=>h q (by simp [hq])
theorem Qc {l : List (Nat × (Value → Item))} (h : Off D l) : (mkN l).2 ((mkN l).1.map D) ((mkN l).1.map u) = Go.Proofs.YtpibglnacohdkaaGreat.emp:=by
 have:=Al (u:=u) (m:=[]) h
 rw [List.append_nil] at this
 simp only [mkN,List.map_map]
 exact this
theorem V1 {l m : List (Nat × (Value → Item))} {i : Nat} {f : Value → Item} {v : Value} (h : Off D l) (hi : (l.all fun p=>p.1 != i) = true:=by rfl) : (mkN (l ++ (i,f) :: m)).2 ((mkN (l ++ (i,f) :: m)).1.map (UM D i)) ((mkN (l ++ (i,f) :: m)).1.map (UR u i v)) = f v:=by
 have h' : Off (UM D i) l:=fun p hp=>by
  have:=List.all_eq_true.1 hi p hp
  unfold UM
  rw [if_neg (by simpa using this)]
  exact h p hp
 have:=Al (D:=UM D i) (u:=UR u i v) (m:=(i,f) :: m) h'
 simp only [mkN,List.map_map]
 refine Eq.trans this ?_
 simp [chz,chn,UM,UR]
end
end Go.Proofs.YtpibglnacohdkaaGreat
namespace Go.Proofs.YtpibglnacohdkaaGreat
open Go
inductive Ent where
 | p0 (v : Value)
 | pl (ds : List Nat) (f : List Value → Value)
 | mk (pr : Value → Prop)
def Ent.g : Ent → List Nat × (List Value → Value → Prop)
 | .p0 x=>([],fun _ v=>v = x)
 | .pl ds f=>(ds,fun us v=>v = f us)
 | .mk pr=>([],fun _ v=>pr v)
def Ent.v (u : Nat → Value) (j : Nat) : Ent → Value
 | .p0 x=>x
 | .pl ds f=>f (ds.map u)
 | .mk _=>u j
def Ent.p (u : Nat → Value) (j t : Nat) : Ent → Nat × Value
 | .p0 x=>(t,x)
 | .pl ds f=>(t,f (ds.map u))
 | .mk _=>(t,u j)
theorem Ent.p_eq {u : Nat → Value} {j t : Nat} : ∀ {x : Ent},x.p u j t = (t,x.v u j)
 | .p0 _=>rfl
 | .pl _ _=>rfl
 | .mk _=>rfl
def Hg (ts : List Nat) (i : Nat) (acc : List Ent) (u : Nat → Value) : List Edge → List (Nat × Value)
 | []=>[]
 | e :: r=>cond (Region.binds .any e && decide (e.on < i)) (match ts[e.on]?,acc[i - 1 - e.on]? with
   | some t,some x=>x.p u e.on t :: Hg ts i acc u r
   | _,_=>Hg ts i acc u r) (Hg ts i acc u r)
def HX (ts : List Nat) (u : Nat → Value) : List Ent → Nat → List (Nat × Value)
 | x :: F,i + 1=>(match ts[i]? with | some t=>x.p u i t | none=>(0,undef)) :: HX ts u F i
 | _,_=>[]
theorem zc {ts : List Nat} {i : Nat} {acc : List Ent} {u : Nat → Value} : ∀ {es : List Edge} {p : Nat × Value},p ∈ Hg ts i acc u es → ∃ e ∈ es,Region.binds .any e = true ∧ e.on < i ∧ ∃ x,ts[e.on]? = some p.1 ∧ acc[i - 1 - e.on]? = some x ∧ p.2 = x.v u e.on
 | [],p,h=>by cases h
 | e :: r,p,h=>by
  have tl : p ∈ Hg ts i acc u r → ∃ e' ∈ e :: r,Region.binds .any e' = true ∧ e'.on < i ∧ ∃ x,ts[e'.on]? = some p.1 ∧ acc[i - 1 - e'.on]? = some x ∧ p.2 = x.v u e'.on:=fun h=>by
   obtain ⟨e',h1,h2⟩:=zc h
   exact ⟨e',by simp [h1],h2⟩
  unfold Hg at h
  cases hb : (Region.binds .any e && decide (e.on < i))
  ·rw [hb] at h; exact tl h
  ·rw [hb] at h
   simp only [cond_true] at h
   simp only [Bool.and_eq_true,decide_eq_true_eq] at hb
   split at h
   ·rename_i t x h1 h2
    rcases List.mem_cons.1 h with rfl | h
    ·rw [Ent.p_eq]
     exact ⟨e,by simp,hb.1,hb.2,x,h1,h2,rfl⟩
    ·exact tl h
   ·exact tl h
theorem HY {l : List (Nat × Value)} {s : Nat} {x : Value} (h : l.lookup s = some x) : (s,x) ∈ l:=by
 induction l with
 | nil=>cases h
 | cons p l ih =>
  obtain ⟨t,v⟩:=p
  rw [List.lookup_cons] at h
  by_cases hst : s = t
  ·subst hst; simp at h; subst h; simp
  ·rw [show (s == t) = false by simpa using hst] at h
   exact List.mem_cons_of_mem _ (ih h)
theorem Ks {X Y : List (Nat × Value)} {s : Nat} : (X ++ Y).lookup s = match X.lookup s with | some x=>some x | none=>Y.lookup s:=by
 induction X with
 | nil=>rfl
 | cons p X ih =>
  obtain ⟨t,v⟩:=p
  rw [List.cons_append,List.lookup_cons,List.lookup_cons]
  cases (s == t)
  ·exact ih
  ·rfl
theorem Env.pre {n : Nat} {a : Act} {X Y : List (Nat × Value)} (h : Env n a Y) (hX : ∀ p ∈ X,Y.lookup p.1 = some p.2) : Env n a (X ++ Y):=by
 refine ⟨h.sz,h.df,fun s v hs=>?_⟩
 rw [Ks] at hs
 cases hx : X.lookup s with
 | none=>rw [hx] at hs; exact h.get s v hs
 | some x =>
  rw [hx] at hs
  cases hs
  exact h.get s v (hX _ (HY hx))
theorem Env.unpre {n : Nat} {a : Act} {X Y : List (Nat × Value)} {t : Nat} {v : Value} (h : Env n a ((t,v) :: (X ++ Y))) (hX : ∀ p ∈ X,Y.lookup p.1 = some p.2) : Env n a ((t,v) :: Y):=by
 refine ⟨h.sz,h.df,fun s x hs=>h.get s x ?_⟩
 rw [List.lookup_cons] at hs ⊢
 cases hst : (s == t)
 ·rw [hst] at hs
  simp only at hs ⊢
  rw [Ks]
  cases hx : X.lookup s with
  | none=>exact hs
  | some y =>
   have:=hX _ (HY hx)
   simp only at this
   rw [this] at hs
   exact hs
 ·rw [hst] at hs; exact hs
theorem Jb {P : Program} {ops : Array Oper} {o : Oper} {X Y : Act → World → Prop} {a : Act} {w : World} (h : wpList P ops (nrm X) [o] a w) (hXY : ∀ a w,X a w → Y a w) : wpList P ops (nrm Y) [o] a w:=by
 unfold wpList at h ⊢
 split
 ·rename_i hw
  rw [if_pos hw] at h
  rcases h with h | ⟨_,a',w',h⟩
  ·exact .inl (Oper.wp_mono2 (fun _ _ h=>hXY _ _ h) (fun _ _ _ h=>h.elim) (fun ⟨_,_,h⟩=>h.elim) h)
  ·exact h.elim
 ·rename_i hw
  rw [if_neg hw] at h
  exact hXY _ _ h
structure QC (n : Nat) (ts : List Nat) (e0 : List (Nat × Value)) (St : Nat → Prop) (w0 : World) (its : List Item) (mk : Mk) (hd : List Oper) (i : Nat) (acc : List Ent) (o : Oper) (a : Act) (w : World) (u : Nat → Value) (D : Nat → Bool) : Prop where
 E : Env n a (Hg ts i acc u o.after.toList ++ UI ts 0 u e0)
 M : M St w0 w (its ++ qL mk D u)
 G : GOk (acc.reverse.map Ent.g) D u
 F : D i = false
 c : ∀ (j : Nat) (p : Oper) (e : Edge),hd[j]? = some p → e ∈ p.after.toList → Region.binds .any e = true → D j = true → D e.on = true
 p : ∀ (k : Nat) (e : Edge),o.after.toList[k]? = some e → Region.binds .any e = true → D e.on = true
section
variable (P : Program) (ops : Array Oper) (n : Nat) (ts : List Nat) (e0 : List (Nat × Value)) (St : Nat → Prop) (w0 : World) (its : List Item) (mk : Mk) (hd : List Oper)
def QOk (i : Nat) (acc : List Ent) (o : Oper) (x : Ent) : Prop :=
 ∀ a w (u : Nat → Value) (D : Nat → Bool),QC n ts e0 St w0 its mk hd i acc o a w u D → wpList P ops (nrm fun a' w'=>∃ v t,ts[i]? = some t ∧ Env n a' ((t,v) :: (Hg ts i acc u o.after.toList ++ UI ts 0 u e0)) ∧
  ((∀ k ∈ x.g.1,D k = true) ∧ x.g.2 (x.g.1.map u) v) ∧ M St w0 w' (its ++ qL mk (UM D i) (UR u i v))) [o] a w
def QS : Nat → List Oper → List Ent → List Ent → Prop
 | _,[],acc,F=>F = acc
 | i,o :: r,acc,F=>∃ x,QOk P ops n ts e0 St w0 its mk hd i acc o x ∧ QS (i + 1) r (x :: acc) F
end
section
variable {P : Program} {ops : Array Oper} {n : Nat} {ts : List Nat} {e0 : List (Nat × Value)} {St : Nat → Prop} {w0 : World} {its : List Item} {mk : Mk} {hd : List Oper} {i : Nat} {acc F : List Ent} {o : Oper} {r : List Oper}
theorem QS.pre : ∀ {r : List Oper} {i : Nat} {acc F : List Ent},acc.length = i → QS P ops n ts e0 St w0 its mk hd i r acc F → F.length = i + r.length ∧ F.drop r.length = acc ∧ ∀ k o,r[k]? = some o → ∃ x,F.reverse[i + k]? = some x ∧ ∃ A,A.reverse = F.reverse.take (i + k) ∧ A.length = i + k ∧ QOk P ops n ts e0 St w0 its mk hd (i + k) A o x
 | [],i,acc,F,hi,h=>by
  obtain rfl : F = acc:=h
  exact ⟨by simpa using hi,by simp,fun i o h=>by simp at h⟩
 | p :: r,i,acc,F,hi,⟨x,h1,h2⟩=>by
  obtain ⟨k1,k2,k3⟩:=QS.pre (by simp [hi]) h2
  have hrev : F.reverse.take (i + 1) = acc.reverse ++ [x]:=by
   have : F.reverse = (F.drop r.length).reverse ++ (F.take r.length).reverse:=by rw [← List.reverse_append,List.take_append_drop]
   rw [this,k2,List.reverse_cons,List.take_append_of_le_length (by simp [hi])]
   rw [List.take_of_length_le (by simp [hi])]
  refine ⟨by simp only [List.length_cons]; omega,?_,fun k o hk=>?_⟩
  ·have:=congrArg (List.drop 1) k2
   rw [List.drop_drop] at this
   simpa [Nat.add_comm] using this
  ·cases k with
   | zero =>
    simp at hk; subst hk
    refine ⟨x,?_,acc,?_,by simpa using hi,h1⟩
    ·have h5 : (F.reverse.take (i + 1))[i]? = some x:=by rw [hrev,List.getElem?_append_right (by simp [hi])]; simp [hi]
     rw [List.getElem?_take_of_lt (by omega)] at h5
     simpa using h5
    ·have h6:=congrArg (List.take i) hrev
     rw [List.take_take,Nat.min_eq_left (by omega)] at h6
     rw [Nat.add_zero,h6,List.take_append_of_le_length (by simp [hi])]
     exact (List.take_of_length_le (by simp [hi])).symm
   | succ k =>
    obtain ⟨y,h3,h4⟩:=k3 k o (by simpa using hk)
    have e : i + (k + 1) = i + 1 + k:=by omega
    rw [e]
    exact ⟨y,h3,h4⟩
theorem qs0 : QS P ops n ts e0 St w0 its mk hd i [] acc acc:=rfl
theorem qsP {v : Value} (h : ∀ {a w} {u : Nat → Value} {D : Nat → Bool},QC n ts e0 St w0 its mk hd i acc o a w u D → wpList P ops (nrm fun a' w'=>Kept (Old w) w w' ∧ ∃ t,ts[i]? = some t ∧ Env n a' ((t,v) :: (Hg ts i acc u o.after.toList ++ UI ts 0 u e0))) [o] a w)
  (k : QS P ops n ts e0 St w0 its mk hd (i + 1) r (.p0 v :: acc) F) (hi : (mk.all fun p=>p.1.all fun k=>k != i) = true:=by rfl) : QS P ops n ts e0 St w0 its mk hd i (o :: r) acc F:=by
 refine ⟨.p0 v,fun a w u D x=>Jb (h x) ?_,k⟩
 rintro a' w' ⟨hK,t,ht,hE⟩
 exact ⟨v,t,ht,hE,⟨(fun k h=>by cases h),rfl⟩,M.qKeep (x.M.keep hK) hi⟩
theorem qsD {ds : List Nat} {f : List Value → Value} (h : ∀ {a w} {u : Nat → Value} {D : Nat → Bool},QC n ts e0 St w0 its mk hd i acc o a w u D → wpList P ops (nrm fun a' w'=>Kept (Old w) w w' ∧ (∀ k ∈ ds,D k = true) ∧ ∃ t,ts[i]? = some t ∧ Env n a' ((t,f (ds.map u)) :: (Hg ts i acc u o.after.toList ++ UI ts 0 u e0))) [o] a w)
  (k : QS P ops n ts e0 St w0 its mk hd (i + 1) r (.pl ds f :: acc) F) (hi : (mk.all fun p=>p.1.all fun k=>k != i) = true:=by rfl) : QS P ops n ts e0 St w0 its mk hd i (o :: r) acc F:=by
 refine ⟨.pl ds f,fun a w u D x=>Jb (h x) ?_,k⟩
 rintro a' w' ⟨hK,hd',t,ht,hE⟩
 exact ⟨_,t,ht,hE,⟨hd',rfl⟩,M.qKeep (x.M.keep hK) hi⟩
theorem qsM {pr : Value → Prop} (h : ∀ {a w} {u : Nat → Value} {D : Nat → Bool},QC n ts e0 St w0 its mk hd i acc o a w u D → wpList P ops (nrm fun a' w'=>∃ v t,ts[i]? = some t ∧ Env n a' ((t,v) :: (Hg ts i acc u o.after.toList ++ UI ts 0 u e0)) ∧ M St w0 w' (its ++ qL mk (UM D i) (UR u i v)) ∧ pr v) [o] a w)
  (k : QS P ops n ts e0 St w0 its mk hd (i + 1) r (.mk pr :: acc) F) : QS P ops n ts e0 St w0 its mk hd i (o :: r) acc F:=by
 refine ⟨.mk pr,fun a w u D x=>Jb (h x) ?_,k⟩
 rintro a' w' ⟨v,t,ht,hE,hM,hp⟩
 exact ⟨v,t,ht,hE,⟨(fun k h=>by cases h),hp⟩,hM⟩
theorem Ent.eq {x : Ent} {u : Nat → Value} {j : Nat} (h : x.g.2 (x.g.1.map u) (u j)) : u j = x.v u j:=by
 cases x with
 | p0 v=>exact h
 | pl ds f=>exact h
 | mk pr=>rfl
theorem Env.setq {a : Act} {e : List (Nat × Value)} {t : Nat} {x y : Value} (h : Env n a e) (hl : e.lookup t = some x) (hq : x = y) : Env n a ((t,y) :: e):=by
 subst hq
 exact Env.pre (X:=[(t,x)]) h fun p hp=>by
  simp only [List.mem_singleton] at hp
  subst hp; exact hl
theorem z4 {u : Nat → Value} {s : Nat} {y : Value} : ∀ {F : List Ent} {m : Nat},m ≤ ts.length → F.length = m → (s,y) ∈ HX ts u F m → ∃ (i : Nat) (x : Ent),ts[i]? = some s ∧ F.reverse[i]? = some x ∧ y = x.v u i
 | [],m,_,hl,h=>by simp [HX] at h
 | x :: F,0,_,hl,h=>by simp at hl
 | x :: F,m + 1,hm,hl,h=>by
  rw [HX] at h
  have ht : ts[m]? = some ts[m]:=List.getElem?_eq_getElem (by omega)
  rw [ht] at h
  have hFl : F.length = m:=by simpa using hl
  rcases List.mem_cons.1 h with h | h
  ·simp only at h
   rw [Ent.p_eq] at h
   cases h
   refine ⟨m,x,ht,?_,rfl⟩
   rw [List.reverse_cons,List.getElem?_append_right (by simp [hFl])]
   simp [hFl]
  ·obtain ⟨i,z,h1,h2,h3⟩:=z4 (by omega) hFl h
   refine ⟨i,z,h1,?_,h3⟩
   have:=(List.getElem?_eq_some_iff.1 h2).1
   rw [List.reverse_cons,List.getElem?_append_left this]
   exact h2
theorem B7 {u : Nat → Value} {s : Nat} : ∀ {F : List Ent} {m : Nat},m ≤ ts.length → F.length = m → (HX ts u F m).lookup s = none → ∀ i,i < m → ts[i]? ≠ some s
 | [],m,_,hl,_=>fun i hi=>by simp at hl; omega
 | x :: F,0,_,hl,_=>by simp at hl
 | x :: F,m + 1,hm,hl,hn=>fun i hi hs=>by
  rw [HX] at hn
  have ht : ts[m]? = some ts[m]:=List.getElem?_eq_getElem (by omega)
  rw [ht] at hn
  simp only at hn
  rw [Ent.p_eq,List.lookup_cons] at hn
  by_cases hst : s = ts[m]
  ·rw [show (s == ts[m]) = true by simpa using hst] at hn; cases hn
  ·rw [show (s == ts[m]) = false by simpa using hst] at hn
   by_cases him : i = m
   ·subst him; rw [ht] at hs; exact hst (by simpa using hs.symm)
   ·exact B7 (by omega) (by simpa using hl) hn i (by omega) hs
theorem Env.fin {a : Act} {u : Nat → Value} (h : Env n a (HX ts u F ts.length ++ UI ts 0 u e0)) (hl : F.length = ts.length) : Env n a (HX ts u F ts.length ++ e0):=by
 refine ⟨h.sz,h.df,fun s v hs=>h.get s v ?_⟩
 rw [Ks] at hs ⊢
 cases hx : (HX ts u F ts.length).lookup s with
 | some x=>rw [hx] at hs; exact hs
 | none =>
  rw [hx] at hs
  simp only at hs ⊢
  rw [Bx ts 0 s u e0 (fun hm=>by
   obtain ⟨i,hi⟩:=List.mem_iff_getElem?.1 hm
   exact B7 (Nat.le_refl _) hl hx i (List.getElem?_eq_some_iff.1 hi).1 hi)]
  exact hs
theorem Yz {id : Nat} {Q : Exit → Act → World → Prop} {a : Act} {w : World} (ts : List Nat)
  (hm : P.follows .mixedOrders = true) (hE : Qy ops.toList 0 = true) (hT : B9 ops.toList ts.length = true) (hn : ts.Nodup) (hlen : Nat.ble ts.length ops.toList.length = true)
  (h0 : Env n a e0) (hM0 : ∀ u,M St w0 w.drew (its ++ qL mk (fun _=>false) u))
  (hS : QS P ops n ts e0 St w0 its mk (ops.toList.take ts.length) 0 (ops.toList.take ts.length) [] F)
  (htail : ∀ a w u D,Env n a (HX ts u F ts.length ++ e0) → M St w0 w (its ++ qL mk D u) → GOk (F.reverse.map Ent.g) D u → (∀ j,j < ts.length → D j = true) → wpList P ops Q (ops.toList.drop ts.length) a w) :
  (Code.region id ops true).wp P Q a w:=by
 have hops : (ops.toList.take ts.length ++ ops.toList.drop ts.length).toArray = ops:=by rw [List.take_append_drop,Array.toArray_toList]
 have hl : ops.toList.take ts.length ++ ops.toList.drop ts.length = ops.toList:=List.take_append_drop _ _
 obtain ⟨k1,_,k3⟩:=QS.pre (acc:=[]) (i:=0) rfl hS
 simp only [Nat.zero_add] at k1 k3
 have hlen:=Nat.le_of_ble_eq_true hlen
 have hhl : (ops.toList.take ts.length).length = ts.length:=by rw [List.length_take,Nat.min_eq_left hlen]
 have key:=qt (P:=P) (id:=id) (hd:=ops.toList.take ts.length) (tl:=ops.toList.drop ts.length) (Q:=Q) (a:=a) (w:=w) (n:=n) (e0:=e0) hm (by rw [hl]; exact hE) (by rw [hl,hhl]; exact hT) ts hn
  (fun D u w=>M St w0 w (its ++ qL mk D u) ∧ GOk (F.reverse.map Ent.g) D u) h0 (fun u=>⟨hM0 u,gok0⟩) ?_ ?_
 ·rw [hops] at key; exact key
 ·intro i o hi a w u D hEnv hI hD hdc hp
  rw [hops]
  obtain ⟨x,hx,A,hA,hAl,hok⟩:=k3 i o hi
  have hat : ∀ j,j < i → ∀ y,A[i - 1 - j]? = some y → F.reverse[j]? = some y:=fun j hj y hy=>by
   have h5 : A.reverse[j]? = some y:=by
    rw [List.getElem?_reverse (by omega),hAl]
    rw [← hy]
   rw [hA,List.getElem?_take_of_lt (by omega)] at h5
   exact h5
  have hX : ∀ p ∈ Hg ts i A u o.after.toList,(UI ts 0 u e0).lookup p.1 = some p.2:=by
   intro p hp'
   obtain ⟨e,he,hb,hei,y,h1,h2,h3⟩:=zc hp'
   obtain ⟨k,hk⟩:=List.mem_iff_getElem?.1 he
   have hDe:=hp k e hk hb
   have h6:=(hI.2 e.on hDe y.g (by rw [List.getElem?_map,hat e.on hei y h2]; rfl)).2
   rw [K1 ts 0 e.on p.1 u e0 hn h1,h3,Nat.zero_add,Ent.eq h6]
  refine Jb (hok a w u D ⟨hEnv.pre hX,hI.1,?_,hD,hdc,hp⟩) ?_
  ·intro j hj g hg
   refine hI.2 j hj g ?_
   rw [List.getElem?_map] at hg ⊢
   rw [hA] at hg
   cases hz : (F.reverse.take i)[j]? with
   | none=>rw [hz] at hg; cases hg
   | some z =>
    have h5:=(List.getElem?_eq_some_iff.1 hz).1
    have h6 : j < i:=by simp at h5; omega
    rw [hz] at hg
    rw [List.getElem?_take_of_lt h6] at hz
    rw [hz]
    exact hg
  ·rintro a' w' ⟨v,t,ht,hE',hg,hM'⟩
   exact ⟨v,t,ht,hE'.unpre hX,hM',hI.2.upd hD fun g hgi=>by
    rw [List.getElem?_map,hx] at hgi
    cases hgi
    exact hg⟩
 ·intro a w u D hEnv hI hall
  rw [hops]
  rw [hhl] at hall
  have hFl : F.length = ts.length:=by rw [k1,hhl]
  refine htail a w u D ((hEnv.pre ?_).fin hFl) hI.1 hI.2 hall
  rintro ⟨s,y⟩ hs
  obtain ⟨i,x,h1,h2,h3⟩:=z4 (Nat.le_refl _) hFl hs
  have hil:=(List.getElem?_eq_some_iff.1 h1).1
  have h6:=(hI.2 i (hall i hil) x.g (by rw [List.getElem?_map,h2]; rfl)).2
  rw [K1 ts 0 i s u e0 hn h1,h3,Nat.zero_add]
  simp only
  rw [Ent.eq h6]
theorem ZX {id : Nat} {Q : Exit → Act → World → Prop} {a : Act} {w : World} (ts : List Nat)
  (hm : P.follows .mixedOrders = true) (hE : Qy ops.toList 0 = true) (hT : B9 ops.toList ts.length = true) (hn : ts.Nodup) (hlen : Nat.ble ts.length ops.toList.length = true)
  (h0 : Env n a e0) (hM : M St w0 w its)
  (hS : QS P ops n ts e0 St w0 its [] (ops.toList.take ts.length) 0 (ops.toList.take ts.length) [] F)
  (htail : ∀ a w u,Env n a (HX ts u F ts.length ++ e0) → M St w0 w its → wpList P ops Q (ops.toList.drop ts.length) a w) :
  (Code.region id ops true).wp P Q a w :=
 Yz ts hm hE hT hn hlen h0 (fun u=>M.q0 hM.drew u) hS fun a w u D hE hM _ _=>htail a w u hE (by simpa [qL] using hM)
end
theorem aggQ {v : Value} {l : List Value} (h1 : (Value.cells v).toList = l) (h2 : ∃ cs,v = .agg cs) : v = .agg l.toArray:=by
 obtain ⟨cs,rfl⟩:=h2
 exact congrArg Value.agg (B8 h1)
theorem Qg {hd : List Oper} {D : Nat → Bool} {j k : Nat} {p : Oper} {e : Edge} (c : ∀ (j : Nat) (p : Oper) (e : Edge),hd[j]? = some p → e ∈ p.after.toList → Region.binds .any e = true → D j = true → D e.on = true) (hj : hd[j]? = some p) (he : p.after.toList[k]? = some e) (hb : Region.binds .any e = true) (h : D e.on = false) : D j = false :=
 Bool.eq_false_iff.2 fun hx=>Bool.noConfusion (h.symm.trans (c j p e hj (List.mem_of_getElem? he) hb hx))
section
variable {St : Nat → Prop} {w0 w : World} {its pre post : List Item}
theorem M.recown {α : Type} [Rep α] {S : Nat → Prop} {x : α} {c c' : List Value} (h : M St w0 w (own S x c :: its)) (e : c = c') : M St w0 w (own S x c' :: its):=e ▸ h
def SatI {α : Type} [Rep α] (it : Item) (l : List α) (u : Value) : Prop:=∀ w fp,it w fp → Rep.sat NoB w l [u] fp
theorem sio {α : Type} [Rep α] {l : List α} {u : Value} : SatI (osl NoB l u) l u:=fun _ _ h=>XV.sat h
end
theorem kr0 {P : Program} {l : Array Oper} {w : World} {n t : Nat} {e : List (Nat × Value)} {v : Value} {ti : Option Nat} (h1 : ti = some t) :
  ∀ a,Env n a ((t,v) :: e) → wpList P l (nrm fun a' w'=>Kept (Old w) w w' ∧ ∃ t,ti = some t ∧ Env n a' ((t,v) :: e)) [] a w:=fun _ hE=>⟨Kept.refl _ _,_,h1,hE⟩
theorem kc {P : Program} {l : Array Oper} {w : World} {n t : Nat} {e : List (Nat × Value)} {x : Value} {ti : Option Nat} (h1 : ti = some t) :
  ∀ v w' a,(v = x ∧ Kept (Old w) w w') → Env n a ((t,v) :: e) → wpList P l (nrm fun a' w'=>Kept (Old w) w w' ∧ ∃ t,ti = some t ∧ Env n a' ((t,x) :: e)) [] a w':=fun _ _ _ ⟨hv,hK⟩ hE=>⟨hK,_,h1,hv ▸ hE⟩
section
variable {n : Nat} {a : Act} {e : List (Nat × Value)} {w : World} {P : Program} {ops : Array Oper} {rest : List Oper} {Q : Exit → Act → World → Prop} {d : Nat} {ty t : TypeId} {pos : String} {af : Array Edge} {g : Option (Nat × Bool)} {x : Operand}
theorem HA {src dst : TypeId} {p : UInt8} {D : TypeDesc} (h : Env n a e) (hw : Goes ops ⟨some d,.convert src dst x,ty,pos,af,g⟩ a) (hd : d < n) (hx : opv e x = some (vB p))
  (hs : P.underlying src = some D) (ht : P.underlying dst = some (.int .i64)) (k : ∀ a,Env n a ((d,vI (bI p)) :: e) → wpList P ops Q rest a w) : wpList P ops Q (⟨some d,.convert src dst x,ty,pos,af,g⟩ :: rest) a w :=
 KC h hw hd hx hs ht fun a hE=>by rw [jH] at hE; exact k a hE
theorem Xo {src dst : TypeId} {J : IntKind} {p : Int} {D : TypeDesc} (h : Env n a e) (hw : Goes ops ⟨some d,.convert src dst x,ty,pos,af,g⟩ a) (hd : d < n) (hx : opv e x = some (.int J p))
  (hs : P.underlying src = some D) (ht : P.underlying dst = some (.int .u8)) (k : ∀ a,Env n a ((d,vB (ZG p)) :: e) → wpList P ops Q rest a w) : wpList P ops Q (⟨some d,.convert src dst x,ty,pos,af,g⟩ :: rest) a w :=
 KC h hw hd hx hs ht fun a hE=>by rw [JG] at hE; exact k a hE
end
end Go.Proofs.YtpibglnacohdkaaGreat
namespace Go.Proofs.YtpibglnacohdkaaGreat

end Go.Proofs.YtpibglnacohdkaaGreat
namespace Go.Proofs.YtpibglnacohdkaaGreat
open Go

structure Opq (n : Nat) where
 cs : List Value
 len : cs.length = n
 one : ∀ v ∈ cs,v.oneCell' = true
instance {n : Nat} : Flat (Opq n):=⟨n,fun x=>x.cs,fun x=>x.len,fun x=>x.one⟩
def Xg {n : Nat} (hs : List (Opq n)) : List Value:=(hs.map (·.cs)).flatten
section
variable {α : Type} [Rep α] {S St : Nat → Prop} {w w0 : World} {l : List α} {v : Value} {its : List Item}
def els (S : Nat → Prop) (l : List α) (hs : List (Opq (Rep.n α))) : Item:=fun w fp=>hs.length = l.length ∧ ZR S w l (Xg hs) fp
theorem Q9 {hs : List (Opq (Rep.n α))} (hS : ∀ b,S b → St b) : Loc St (els S l hs):=fun _ _ _ h hb=>⟨h.1,h.2.loc fun b k=>hb b (k.imp id (hS b))⟩
theorem H7 {n : Nat} : ∀ (hs : List (Opq n)),ZR (α:=Opq n) NoB w hs (Xg hs) []
 | []=>⟨rfl,rfl⟩
 | x :: hs=>⟨x.cs,Xg hs,[],[],rfl,rfl,⟨rfl,rfl⟩,H7 hs⟩
theorem zj {n : Nat} : ∀ {hs : List (Opq n)} {cs : List Value} {fp : List Nat},ZR (α:=Opq n) NoB w hs cs fp → cs = Xg hs ∧ fp = []
 | [],_,_,h=>⟨h.1,h.2⟩
 | x :: hs,_,_,h=>by
  obtain ⟨c,cs',f,fp',rfl,rfl,⟨rfl,rfl⟩,h2⟩:=h
  obtain ⟨rfl,rfl⟩:=zj h2
  exact ⟨rfl,rfl⟩
theorem yK : ∀ {l : List α} {cs : List Value} {fp : List Nat},ZR S w l cs fp → ∃ hs : List (Opq (Rep.n α)),hs.length = l.length ∧ cs = Xg hs
 | [],_,_,h=>⟨[],rfl,h.1⟩
 | x :: l,_,_,h=>by
  obtain ⟨c,cs',f,fp',rfl,rfl,h1,h2⟩:=h
  obtain ⟨hs,e,rfl⟩:=yK h2
  exact ⟨⟨c,Rep.len h1,Rep.cell h1⟩ :: hs,by simp [e],rfl⟩
theorem M.toHdr (hM : M St w0 w (osl S l v :: its)) (hS : ∀ b,S b → St b) : ∃ hs : List (Opq (Rep.n α)),hs.length = l.length ∧ M St w0 w (osl NoB hs v :: els S l hs :: its):=by
 obtain ⟨hk,hs0,fp,⟨f,f',rfl,_,⟨p,cap,rfl,hcap,hO⟩,hr⟩,hnd,hlt⟩:=hM
 rcases hO with ⟨rfl,rfl,_⟩ | ⟨b,o,ecs,fpe,rfl,k1,k2,rfl,k3⟩
 ·have : l = []:=List.eq_nil_of_length_eq_zero (by omega)
  subst this
  exact ⟨[],rfl,hk,hs0,[] ++ ([] ++ f'),⟨[],_,rfl,XE noB,⟨p,0,rfl,Nat.le_refl _,.inl ⟨rfl,rfl,trivial⟩⟩,[],f',rfl,Q9 hS,⟨rfl,rfl,rfl⟩,hr⟩,by simpa using hnd,fun k h=>hlt k (by simpa using h)⟩
 ·obtain ⟨hs,e,rfl⟩:=yK k1
  refine ⟨hs,e,hk,hs0,[b] ++ (fpe ++ f'),⟨[b],_,rfl,XE noB,⟨some ⟨b,o,Option.none⟩,cap,by rw [e],by omega,.inr ⟨b,o,Xg hs,[],rfl,H7 hs,k2,rfl,k3⟩⟩,fpe,f',rfl,Q9 hS,⟨e,k1⟩,hr⟩,by simpa using hnd,fun k h=>hlt k (by simpa using h)⟩
theorem M.ofHdr {hs : List (Opq (Rep.n α))} (hM : M St w0 w (osl NoB hs v :: els S l hs :: its)) (hS : ∀ b,S b → St b) : M St w0 w (osl S l v :: its):=by
 obtain ⟨hk,hs0,fp,⟨f,_,rfl,_,⟨p,cap,rfl,hcap,hO⟩,g,f',rfl,_,⟨e,hE⟩,hr⟩,hnd,hlt⟩:=hM
 rcases hO with ⟨rfl,rfl,_⟩ | ⟨b,o,ecs,fpe,rfl,k1,k2,rfl,k3⟩
 ·have e0 : hs = []:=List.eq_nil_of_length_eq_zero (by omega)
  subst e0
  have : l = []:=List.eq_nil_of_length_eq_zero (by simpa using e.symm)
  subst this
  obtain ⟨_,rfl⟩:=hE
  exact ⟨hk,hs0,[] ++ f',⟨[],f',rfl,XE hS,⟨p,0,rfl,Nat.le_refl _,.inl ⟨rfl,rfl,trivial⟩⟩,hr⟩,by simpa using hnd,fun k h=>hlt k (by simpa using h)⟩
 ·obtain ⟨rfl,rfl⟩:=zj k1
  exact ⟨hk,hs0,(b :: g) ++ f',⟨b :: g,f',rfl,XE hS,⟨some ⟨b,o,Option.none⟩,cap,by rw [e],by omega,.inr ⟨b,o,Xg hs,g,rfl,hE,k2,rfl,k3⟩⟩,hr⟩,by simpa using hnd,fun k h=>hlt k (by simpa using h)⟩
theorem ZR.cutAt : ∀ {l : List α} {hs : List (Opq (Rep.n α))} {fp : List Nat} (i : Nat),hs.length = l.length → ZR S w l (Xg hs) fp → ∃ f1 f2,fp = f1 ++ f2 ∧ ZR S w (l.take i) (Xg (hs.take i)) f1 ∧ ZR S w (l.drop i) (Xg (hs.drop i)) f2
 | l,hs,fp,0,_,h=>⟨[],fp,rfl,by simp [Xg,ZR],by simpa using h⟩
 | [],[],_,i + 1,_,h=>⟨[],[],by obtain ⟨_,rfl⟩:=h; rfl,by simp [Xg,ZR],by simp [Xg,ZR]⟩
 | [],_ :: _,_,_ + 1,e,_=>by simp at e
 | _ :: _,[],_,_ + 1,e,_=>by simp at e
 | x :: l,y :: hs,_,i + 1,e,h=>by
  obtain ⟨c,cs',f,fp',hc,rfl,h1,h2⟩:=h
  have hc : y.cs ++ Xg hs = c ++ cs':=hc
  have hl : y.cs.length = c.length:=by rw [y.len,Rep.len h1]
  obtain ⟨rfl,rfl⟩:=List.append_inj hc hl
  obtain ⟨f1,f2,rfl,k1,k2⟩:=ZR.cutAt i (by simpa using e) h2
  exact ⟨f ++ f1,f2,by simp,⟨y.cs,_,f,f1,rfl,rfl,h1,k1⟩,k2⟩
theorem HM {n : Nat} (a b : List (Opq n)) : Xg (a ++ b) = Xg a ++ Xg b:=by simp [Xg]
end
theorem y4 {α β : Type} {l l1 : List α} {hs : List β} {a b : Int} (h : slc l a b = some l1) (e : hs.length = l.length) : slc hs a b = some ((hs.take b.toNat).drop a.toNat) ∧ l1 = (l.take b.toNat).drop a.toNat ∧ ((hs.take b.toNat).drop a.toNat).length = l1.length:=by
 unfold slc at *
 by_cases c : 0 ≤ a ∧ a ≤ b ∧ b ≤ l.length
 ·rw [if_pos c] at h
  have h:=Option.some.inj h
  refine ⟨by rw [if_pos (by rw [e]; exact c)],h.symm,by rw [← h]; simp [e]⟩
 ·rw [if_neg c] at h; cases h
theorem zu {α β : Type} {l l1 : List α} {hs : List β} {a b : Int} (h : slc l a b = some l1) (e : hs.length = l.length) : ∃ h1,slc hs a b = some h1 ∧ h1.length = l1.length:=⟨_,(y4 h e).1,(y4 h e).2.2⟩
theorem jX {α β : Type} {l l1 : List α} {hs : List β} {a : Int} (h : slc l a (l.length : Int) = some l1) (e : hs.length = l.length) : ∃ h1,slc hs a (hs.length : Int) = some h1 ∧ h1.length = l1.length:=by
 rw [← e] at h
 exact zu h e
end Go.Proofs.YtpibglnacohdkaaGreat
namespace Go.Proofs.YtpibglnacohdkaaGreat
open Go
def delF {α : Type} (l : List α) (i j : Int) : Option (List α):=if 0 ≤ i ∧ i ≤ j ∧ j ≤ l.length then some (l.take i.toNat ++ l.drop j.toNat) else none
theorem Af {α : Type} [Flat α] (l : List α) (k : Nat) : ZY (l.drop k) = (ZY l).drop (k * Flat.n α):=by
 by_cases h : k ≤ l.length
 ·have e2 : ZY l = ZY (l.take k) ++ ZY (l.drop k):=by rw [← VC,List.take_append_drop]
  have e3 : (ZY (l.take k)).length = k * Flat.n α:=by rw [Y1,List.length_take]; congr 1; omega
  rw [e2,List.drop_left' e3]
 ·rw [List.drop_eq_nil_of_le (by omega),List.drop_eq_nil_of_le (by rw [Y1]; exact Nat.mul_le_mul_right _ (by omega))]; rfl
theorem eqI {i j : Nat} (h : ((i : Int) == (j : Int)) = true) : i = j:=by have:=eq_of_beq h; omega
theorem neI {i j : Nat} (h : ((i : Int) == (j : Int)) = false) : ¬ i = j:=fun e=>by subst e; simp at h
section
variable {P : Program} {St : Nat → Prop} {w0 w : World} {its : List Item} {n : Nat} {a : Act} {e : List (Nat × Value)} {ops : Array Oper} {rest : List Oper} {Q : Exit → Act → World → Prop} {v : Value} {x y : Operand} {d t ty : TypeId} {pos : String} {af : Array Edge} {g : Option (Nat × Bool)}
theorem U2 {α : Type} [Flat α] {l : List α} (hM : M St w0 w (osl NoB l v :: its)) (hne : 0 < l.length) : ∃ b o cap c T fz,v = .slice (some ⟨b,o,none⟩) l.length cap ∧ l.length ≤ cap ∧ At w b o (ZY l) ∧ w.heap[b]? = some (.cells c T fz) ∧ o + cap * Flat.n α ≤ c.size ∧ ∀ i,i < c.size → ¬ (fz.1 ≤ i ∧ i < fz.2):=by
 obtain ⟨fp,⟨p,cap,rfl,hcap,hO⟩,_⟩:=hM.head
 rcases hO with ⟨rfl,_⟩ | ⟨b,o,ecs,fpe,rfl,k1,k2,rfl,c,T,fz,k3,k4,k5⟩
 ·omega
 obtain ⟨rfl,rfl⟩:=Yl.1 k1
 exact ⟨b,o,cap,c,T,fz,rfl,hcap,k2,k3,k4,k5⟩
theorem z6 {b o len cap lo hi N : Nat} (h : lo < cap) : Y0 (.slice (some ⟨b,o,none⟩) len cap) lo hi N = .slice (some ⟨b,o + lo * N,none⟩) (hi - lo) (cap - lo):=by
 simp only [Y0,show ¬ cap = lo by omega,if_false,Option.map_some,Addr.add_lit]
theorem At.dropE {α : Type} [Flat α] {l : List α} {b o : Nat} (h : At w b o (ZY l)) (j : Nat) : At w b (o + j * Flat.n α) (ZY (l.drop j)):=by
 rw [Af]
 intro i u hu
 rw [List.getElem?_drop] at hu
 have:=h _ _ hu
 rwa [← Nat.add_assoc] at this
theorem Ae {α : Type} [Flat α] {z : α} : ∀ m,ZY (List.replicate m z) = (List.replicate m (Flat.enc z)).flatten
 | 0=>rfl
 | m + 1=>by rw [List.replicate_succ,List.replicate_succ,List.flatten_cons,← Ae m]; rfl
theorem Ty.zero {D : TypeDesc} {sz by_ : Nat} {z : List Value} (h : Ty P t D sz by_ z) : ∃ v,(∀ w,(zeroValue t).run P w = .ok v w) ∧ v.cells.toList = z:=by
 obtain ⟨i,v,h1,h2,_,h3,h4⟩:=h.get
 exact ⟨v,fun w=>by simp [zeroValue,typeInfo,h1,h3],h4⟩
end
def zM {α : Type} (by_ : Nat) (l : List α) (i : Int) (m : List α) : Option (List α):=if 0 ≤ i ∧ i ≤ l.length ∧ m.length = 1 ∧ (l.length + 1) * by_ ≤ 140737488355328 then some (l.take i.toNat ++ (m ++ l.drop i.toNat)) else none
theorem jw {α : Type} {by_ : Nat} {l m r : List α} {i : Int} (h : zM by_ l i m = some r) : (0 ≤ i ∧ i ≤ l.length ∧ m.length = 1 ∧ (l.length + 1) * by_ ≤ 140737488355328) ∧ r = l.take i.toNat ++ (m ++ l.drop i.toNat):=by
 unfold zM at h
 split at h
 ·rename_i h0; exact ⟨h0,(Option.some.inj h).symm⟩
 ·cases h
section
variable {P : Program} {St : Nat → Prop} {w0 w : World} {its : List Item} {n : Nat} {a : Act} {e : List (Nat × Value)} {ops : Array Oper} {rest : List Oper} {Q : Exit → Act → World → Prop} {v u : Value} {x y : Operand} {d t ty : TypeId} {pos : String} {af : Array Edge} {g : Option (Nat × Bool)}
theorem ym {el len cap : Nat} {p : Option Addr} (h : Env n a e) (hw : Goes ops ⟨some d,.call ⟨.builtin .cap,[x].toArray,[t].toArray⟩,ty,pos,af,g⟩ a) (hd : d < n) (hx : opv e x = some (.slice p len cap)) (ht : P.underlying t = some (.slice el))
  (k : ∀ a,Env n a ((d,vI (cap : Int)) :: e) → wpList P ops Q rest a w) : wpList P ops Q (⟨some d,.call ⟨.builtin .cap,[x].toArray,[t].toArray⟩,ty,pos,af,g⟩ :: rest) a w :=
 YT h hw rfl hd (by
  simp only [execOp,resolve]
  simp [invoke,builtin,h.ev hx,Builtin.cap_,run_underlying ht,goInt]) k
theorem Ut {el len cap b o i sz by_ : Nat} {D : TypeDesc} {z : List Value} {lo : Operand} {K : IntKind} (h : Env n a e) (hw : Goes ops ⟨some d,.slice t x (some lo) none none,ty,pos,af,g⟩ a) (hd : d < n) (hx : opv e x = some (.slice (some ⟨b,o,none⟩) len cap)) (hlo : opv e lo = some (.int K i)) (ht : P.underlying t = some (.slice el)) (he : Ty P el D sz by_ z) (hi : i ≤ len) (hc : i < cap)
  (k : ∀ a,Env n a ((d,.slice (some ⟨b,o + i * sz,none⟩) (len - i) (cap - i)) :: e) → wpList P ops Q rest a w) : wpList P ops Q (⟨some d,.slice t x (some lo) none none,ty,pos,af,g⟩ :: rest) a w:=by
 refine YT h hw rfl hd (w':=w) ?_ k
 simp only [execOp,h.ev hx,Option.map_some,h.ev hlo]
 have hsize:=Yy he w
 have hne : ¬ cap = i:=by omega
 simp [Instr.sliceAt,run_underlying ht,Instr.slice,Instr.sliceBounds,Instr.sliceBound,asIntOf,hi,hsize,hne,Addr.add_lit]
theorem TX {el len cap b o j sz by_ : Nat} {D : TypeDesc} {z : List Value} {hi : Operand} {K : IntKind} (h : Env n a e) (hw : Goes ops ⟨some d,.slice t x none (some hi) none,ty,pos,af,g⟩ a) (hd : d < n) (hx : opv e x = some (.slice (some ⟨b,o,none⟩) len cap)) (hhi : opv e hi = some (.int K j)) (ht : P.underlying t = some (.slice el)) (he : Ty P el D sz by_ z) (hj : j ≤ cap)
  (k : ∀ a,Env n a ((d,.slice (some ⟨b,o,none⟩) j cap) :: e) → wpList P ops Q rest a w) : wpList P ops Q (⟨some d,.slice t x none (some hi) none,ty,pos,af,g⟩ :: rest) a w:=by
 refine YT h hw rfl hd (w':=w) ?_ k
 simp only [execOp,h.ev hx,Option.map_some,h.ev hhi]
 have hsize:=Yy he w
 simp [Instr.sliceAt,run_underlying ht,Instr.slice,Instr.sliceBounds,Instr.sliceBound,asIntOf,hj,hsize,Addr.add_lit]
theorem B3 {t2 el b o dl dc m sl sc N by_ : Nat} {D : TypeDesc} {z : List Value} {A : Addr} {news : List Value} {c : Array Value} {T : TypeId} {fz : Nat × Nat} (ht : P.underlying t = some (.slice el)) (he : Ty P el D N by_ z) (hm : Nat.min sl dl = m)
  (hnl : news.length = m * N) (hsrc : ∀ j u,news[j]? = some u → w.cell? (A.add j) = some u) (h1 : ∀ u ∈ news,u.oneCell' = true) (hheap : w.heap[b]? = some (.cells c T fz)) (hfz : ∀ i,i < c.size → ¬ (fz.1 ≤ i ∧ i < fz.2)) (hfit : o + news.length ≤ c.size) :
  (Builtin.copy_ #[t,t2] ty #[.slice (some ⟨b,o,none⟩) dl dc,.slice (some A) sl sc]).run P w = .ok (vI (m : Int)) (w.setCells b o news):=by
 have hst:=Tt (P:=P) (o:=o) (vs:=news) hheap hfit hfz h1
 have hf:=run_firstCells_some (P:=P) w N m A sl sc news hnl hsrc
 have hsize:=Yy he w
 simp [Builtin.copy_,run_underlying ht,Builtin.lenOf,hm,hsize,hf,hst,goInt]
theorem qb {α : Type} [Flat α] {S : Nat → Prop} {m : List α} {fq : List Nat} (h : Rep.sat S w m [u] fq) (hm : 0 < m.length) : ∃ A cap,u = .slice (some A) m.length cap ∧ m.length ≤ cap ∧ (∃ b o,A = ⟨b,o,none⟩) ∧ ∀ j c,(ZY m)[j]? = some c → w.cell? (A.add j) = some c:=by
 obtain ⟨p,cap,hv,hc,hp⟩:=h
 obtain rfl:=(List.cons.inj hv).1
 cases p with
 | none=>have:=hp.1; omega
 | some q =>
  obtain ⟨hs,ecs,fpe,k1,k2,_⟩:=hp
  obtain ⟨rfl,rfl⟩:=Yl.1 k1
  have hs:=hs (by omega)
  obtain ⟨q1,q2,q3⟩:=q
  simp only at hs
  subst hs
  exact ⟨_,cap,rfl,hc,⟨q1,q2,rfl⟩,fun j c hj=>by rw [Addr.add_lit]; exact k2 j c hj⟩
theorem Tg {α : Type} [Flat α] {S : Nat → Prop} {l m : List α} {fq : List Nat} {i el t2 by_ : Nat} {D : TypeDesc} {z : List Value} (h : Env n a e) (hM : M St w0 w (osl NoB l v :: its)) (hw : Goes ops ⟨some d,.call ⟨.builtin .copy,[x,y].toArray,[t,t2].toArray⟩,ty,pos,af,g⟩ a) (hd : d < n)
  (hx : opv e x = some (Y0 v i l.length (Flat.n α))) (hy : opv e y = some u) (hu : Rep.sat S w m [u] fq) (ht : P.underlying t = some (.slice el)) (he : Ty P el D (Flat.n α) by_ z) (hm : 0 < m.length) (hi : i + m.length ≤ l.length)
  (k : ∀ w a,M St w0 w (osl NoB (l.take i ++ (m ++ l.drop (i + m.length))) v :: its) → Env n a ((d,vI (m.length : Int)) :: e) → wpList P ops Q rest a w) : wpList P ops Q (⟨some d,.call ⟨.builtin .copy,[x,y].toArray,[t,t2].toArray⟩,ty,pos,af,g⟩ :: rest) a w:=by
 obtain ⟨b,o,cap,c,T,fz,rfl,hcap,hA,hheap,hsz,hfz⟩:=U2 hM (by omega)
 obtain ⟨A,cu,rfl,hcu,_,hsrc⟩:=qb hu hm
 have hel:=Y1 l
 have hml:=Y1 m
 have hmul : i * Flat.n α + m.length * Flat.n α = (i + m.length) * Flat.n α:=by rw [← Nat.add_mul]
 have hmul2 : (i + m.length) * Flat.n α ≤ l.length * Flat.n α:=Nat.mul_le_mul_right _ hi
 have hmul3 : l.length * Flat.n α ≤ cap * Flat.n α:=Nat.mul_le_mul_right _ hcap
 have hM':=M.setRow P (l':=l.take i ++ (m ++ l.drop (i + m.length))) (k:=i * Flat.n α) (seg:=ZY m) hM (by simp; omega) (by
  rw [VC,VC,Qt,Af]
  unfold Z8
  rw [hml,hmul]) (by rw [hml,hel]; omega) (by omega) (Qn _)
 rw [z6 (by omega)] at hx
 have hr:=B3 (ty:=ty) (t2:=t2) (dc:=cap - i) (sc:=cu) ht he (show Nat.min m.length (l.length - i) = m.length from Nat.min_eq_left (by omega)) hml hsrc (Qn _) hheap hfz (o:=o + i * Flat.n α) (by rw [hml]; omega)
 refine YT h hw rfl hd (v:=vI (m.length : Int)) (w':=w.setCells b (o + i * Flat.n α) (ZY m)) ?_ fun a ha=>k _ _ hM' ha
 simp only [execOp,resolve]
 simp [invoke,builtin,h.ev hx,h.ev hy,hr]
theorem M.tailRow {α : Type} [Flat α] {l l' : List α} {b o cap k : Nat} {seg : List Value} (hM : M St w0 w (osl NoB l (.slice (some ⟨b,o,Option.none⟩) l.length cap) :: its)) (hne : 0 < l.length) (he : ZY l' = (ZY l).take k ++ seg) (hk : k ≤ (ZY l).length) (hc : l'.length ≤ cap) :
  M St w0 (w.setCells b (o + k) seg) (osl NoB l' (.slice (some ⟨b,o,Option.none⟩) l'.length cap) :: its):=by
 refine M.turn (new:=[osl NoB l' _]) hM (ZQ _ _ _ _).1 (ZQ _ _ _ _).2.1 (ZQ _ _ _ _).2.2 (by rw [Vc]; exact Nat.le_refl _) ?_
 rintro fp ⟨p,cap',hv,hcap,hO⟩ hlt hnd
 simp only [Value.slice.injEq] at hv
 obtain ⟨rfl,_,rfl⟩:=hv
 rcases hO with ⟨rfl,_⟩ | ⟨b',o',ecs,fpe,hq,k1,k2,rfl,c,T,fz,hheap,hsize,hfz⟩
 ·omega
 simp only [Option.some.injEq,Addr.mk.injEq,and_true] at hq
 obtain ⟨rfl,rfl⟩:=hq
 obtain ⟨rfl,rfl⟩:=Yl.1 k1
 have hl' : (ZY l').length = k + seg.length:=by rw [he,List.length_append,List.length_take]; omega
 have hl2:=Y1 l'
 have hmul : l'.length * Flat.n α ≤ cap * Flat.n α:=Nat.mul_le_mul_right _ hc
 have hsize : o + cap * Flat.n α ≤ c.size:=hsize
 have hfit : o + k + seg.length ≤ c.size:=by omega
 have hh:=YN b T fz seg (o + k) w c hheap hfit
 refine ⟨fun q hq _=>XY _ _ (by simpa using hq) _ _ _,[b],⟨[b],[],rfl,XE noB,⟨some ⟨b,o,Option.none⟩,cap,rfl,hc,.inr ⟨b,o,ZY l',[],rfl,Yl.2 ⟨rfl,rfl⟩,?_,rfl,_,T,fz,hh,?_,?_⟩⟩,rfl⟩,by simp,fun q hq=>.inl hq⟩
 ·have hrow : ∀ j,j < (ZY l).length → c.toList[o + j]? = (ZY l)[j]?:=by
   intro j hj
   have:=k2 j _ (List.getElem?_eq_getElem hj)
   simp only [World.cell?,hheap,Option.isSome_none,Bool.false_eq_true,if_false] at this
   rw [List.getElem?_eq_getElem hj]
   simpa using this
  intro j vv hv
  have hj:=(List.getElem?_eq_some_iff.1 hv).1
  simp only [World.cell?,hh,Option.isSome_none,Bool.false_eq_true,if_false]
  rw [List.getElem?_toArray]
  rw [he] at hv
  simp only [Z8]
  have e2 : (List.take (o + k) c.toList).length = o + k:=by simp; omega
  by_cases hj1 : j < k
  ·rw [List.getElem?_append_left (by rw [e2]; omega),List.getElem?_take,if_pos (by omega),hrow j (by omega)]
   rw [List.getElem?_append_left (by rw [List.length_take]; omega),List.getElem?_take,if_pos hj1] at hv
   exact hv
  ·rw [List.getElem?_append_right (by rw [e2]; omega),e2,show o + j - (o + k) = j - k by omega]
   rw [List.getElem?_append_right (by rw [List.length_take]; omega)] at hv
   have e1 : (List.take k (ZY l)).length = k:=by rw [List.length_take]; omega
   rw [e1] at hv
   rw [List.getElem?_append_left (by omega)]
   exact hv
 ·rw [List.size_toArray,Y4 (by simpa using hfit)]; exact (by simpa using hsize : o + cap * Flat.n α ≤ c.toList.length)
 ·intro j hj
  rw [List.size_toArray,Y4 (by simpa using hfit)] at hj
  exact hfz j (by simpa using hj)
theorem Bb {α : Type} [Flat α] {l : List α} {i el t2 by_ b o cap : Nat} {D : TypeDesc} {z : List Value} (h : Env n a e) (hM : M St w0 w (osl NoB l (.slice (some ⟨b,o,none⟩) l.length cap) :: its)) (hw : Goes ops ⟨some d,.call ⟨.builtin .copy,[x,y].toArray,[t,t2].toArray⟩,ty,pos,af,g⟩ a) (hd : d < n)
  (hx : opv e x = some (.slice (some ⟨b,o + (i + 1) * Flat.n α,none⟩) (l.length + 1 - (i + 1)) (cap - (i + 1)))) (hy : opv e y = some (.slice (some ⟨b,o + i * Flat.n α,none⟩) (l.length + 1 - i) (cap - i))) (ht : P.underlying t = some (.slice el)) (he : Ty P el D (Flat.n α) by_ z) (hi : i < l.length) (hc : l.length + 1 ≤ cap)
  (k : ∀ w a,M St w0 w (osl NoB (l.take (i + 1) ++ l.drop i) (.slice (some ⟨b,o,none⟩) (l.length + 1) cap) :: its) → Env n a ((d,vI ((l.length - i : Nat) : Int)) :: e) → wpList P ops Q rest a w) : wpList P ops Q (⟨some d,.call ⟨.builtin .copy,[x,y].toArray,[t,t2].toArray⟩,ty,pos,af,g⟩ :: rest) a w:=by
 obtain ⟨b',o',cap',c,T,fz,hv,hcap,hA,hheap,hsz,hfz⟩:=U2 hM (by omega)
 simp only [Value.slice.injEq,Option.some.injEq,Addr.mk.injEq,and_true,true_and] at hv
 obtain ⟨⟨rfl,rfl⟩,rfl⟩:=hv
 have hel:=Y1 l
 have hnl : (ZY (l.drop i)).length = (l.length - i) * Flat.n α:=by rw [Y1,List.length_drop]
 have hlen : (l.take (i + 1) ++ l.drop i).length = l.length + 1:=by simp; omega
 have hmul2 : (i + 1) * Flat.n α ≤ l.length * Flat.n α:=Nat.mul_le_mul_right _ hi
 have hmul3 : (i + 1) * Flat.n α + (l.length - i) * Flat.n α = (l.length + 1) * Flat.n α:=by rw [← Nat.add_mul]; congr 1; omega
 have hmul4 : (l.length + 1) * Flat.n α ≤ cap * Flat.n α:=Nat.mul_le_mul_right _ hc
 have hM':=M.tailRow (l':=l.take (i + 1) ++ l.drop i) (k:=(i + 1) * Flat.n α) (seg:=ZY (l.drop i)) hM (by omega) (by rw [VC,Qt]) (by rw [hel]; exact hmul2) (by rw [hlen]; exact hc)
 rw [hlen] at hM'
 have hr:=B3 (ty:=ty) (t2:=t2) (dc:=cap - (i + 1)) (sc:=cap - i) ht he (show Nat.min (l.length + 1 - i) (l.length + 1 - (i + 1)) = l.length - i from by show min _ _ = _; omega) hnl (A:=⟨b,o + i * Flat.n α,none⟩) (fun j u hu=>by rw [Addr.add_lit]; exact hA.dropE i j u hu) (Qn _) hheap hfz (o:=o + (i + 1) * Flat.n α) (by rw [hnl]; omega)
 generalize (Value.slice (some ⟨b,o + (i + 1) * Flat.n α,none⟩) (l.length + 1 - (i + 1)) (cap - (i + 1))) = X at hx hr
 generalize (Value.slice (some ⟨b,o + i * Flat.n α,none⟩) (l.length + 1 - i) (cap - i)) = Y at hy hr
 refine YT h hw rfl hd (v:=vI ((l.length - i : Nat) : Int)) (w':=w.setCells b (o + (i + 1) * Flat.n α) (ZY (l.drop i))) ?_ fun a ha=>k _ _ hM' ha
 simp only [execOp,resolve]
 simp [invoke,builtin,h.ev hx,h.ev hy,hr]
end
section
variable {P : Program} {St : Nat → Prop} {w0 w : World} {its : List Item} {n : Nat} {a : Act} {e : List (Nat × Value)} {ops : Array Oper} {rest : List Oper} {Q : Exit → Act → World → Prop} {v u : Value} {x y : Operand} {d t ty : TypeId} {pos : String} {af : Array Edge} {g : Option (Nat × Bool)}
theorem AP {N el by_ b o cap i q : Nat} {l : List (Opq N)} {tn : TypeId} {kn K : IntKind} {D : TypeDesc} {z : List Value} (h : Env n a e) (hM : M St w0 w (osl NoB l (.slice (some ⟨b,o,none⟩) l.length cap) :: its)) (hw : Goes ops ⟨some d,.call ⟨.builtin .append,[x,y].toArray,[t,tn].toArray⟩,ty,pos,af,g⟩ a) (hd : d < n)
  (hx : opv e x = some (.slice (some ⟨b,o,none⟩) i cap)) (hy : opv e y = some (.int K (q : Int))) (ht : P.underlying t = some (.slice el)) (htn : P.underlying tn = some (.int kn)) (he : Ty P el D N by_ z) (hzl : z.length = N) (hz1 : z.all (·.oneCell') = true) (h0 : 0 < by_) (hN : 0 < N) (hi : i ≤ l.length) (hne : 0 < l.length) (hq : 0 < q) (hg : cap < i + q) (hb : (i + q) * by_ ≤ 140737488355328)
  (k : ∀ (r : List (Opq N)) v' w a,r.length = q → M St w0 w (osl NoB (l.take i ++ r) v' :: osl NoB l (.slice (some ⟨b,o,none⟩) l.length cap) :: its) → Env n a ((d,v') :: e) → wpList P ops Q rest a w) : wpList P ops Q (⟨some d,.call ⟨.builtin .append,[x,y].toArray,[t,tn].toArray⟩,ty,pos,af,g⟩ :: rest) a w:=by
 obtain ⟨b',o',cap',c,T,fz,hv,hcap,hA,hheap,hsz,hfz⟩:=U2 hM hne
 simp only [Value.slice.injEq,Option.some.injEq,Addr.mk.injEq,and_true,true_and] at hv
 obtain ⟨⟨rfl,rfl⟩,rfl⟩:=hv
 obtain ⟨inf,zv,hin,hsize,hby,hzz,hzc⟩:=he.get
 have hle : i + q ≤ 140737488355328:=Nat.le_trans (Nat.le_mul_of_pos_right _ h0) hb
 have hqb : q * by_ ≤ (i + q) * by_:=Nat.mul_le_mul_right _ (by omega)
 have hol : (ZY (l.take i)).length = i * N:=by rw [Y1,List.length_take,Nat.min_eq_left hi]; rfl
 have hA' : At w b o (ZY (l.take i)):=by
  rw [Qt]
  intro j c hj
  rw [List.getElem?_take] at hj
  split at hj
  ·exact hA j c hj
  ·cases hj
 have hold : (Builtin.firstCells inf.size i (.slice (some ⟨b,o,none⟩) i cap)).run P w.drew = .ok (ZY (l.take i)).toArray w.drew :=
  run_firstCells_some (P:=P) w.drew inf.size i ⟨b,o,none⟩ i cap _ (by rw [hol,hsize]) fun j c hj=>by rw [Addr.add_lit]; exact hA' j c hj
 have hr:=Lib.run_append_grow_zeros (P:=P) w t tn ty el inf zv K kn ht htn hin hzz (some ⟨b,o,none⟩) i cap (ZY (l.take i)) hold q hq (by omega) hg (by omega) (by rw [hby]; omega) (growslice_fits (by omega) (by rw [hby]; exact hb))
 have hgc:=grownCap_ge w (i + q) cap el
 have hlen : (l.take i ++ List.replicate q (⟨z,hzl,fun u hu=>List.all_eq_true.1 hz1 u hu⟩ : Opq N)).length = i + q:=by simp; omega
 refine YT h hw rfl hd (v:=.slice (some ⟨w.heap.size,0,none⟩) (i + q) (grownCap w (i + q) cap el)) (w':=w.drew.alloc (.cells ((ZY (l.take i)).toArray ++ Builtin.zeroCells zv.cells q ++ Builtin.zeroCells zv.cells (grownCap w (i + q) cap el - (i + q))) el)) (by simp only [execOp,resolve]; simp [invoke,builtin,h.ev hx,h.ev hy,hr]) fun a ha=>k (List.replicate q ⟨z,hzl,fun u hu=>List.all_eq_true.1 hz1 u hu⟩) _ _ _ (by simp) ?_ ha
 have Xg : (ZY (l.take i)).toArray ++ Builtin.zeroCells zv.cells q ++ Builtin.zeroCells zv.cells (grownCap w (i + q) cap el - (i + q)) = ((ZY (l.take i) ++ (List.replicate q z).flatten) ++ (List.replicate (grownCap w (i + q) cap el - (i + q)) z).flatten).toArray:=by
  apply Array.ext'
  rw [Array.toList_append,Array.toList_append,Ka,Ka,hzc]
 rw [Xg]
 have hnew:=WK w.drew (.cells ((ZY (l.take i) ++ (List.replicate q z).flatten) ++ (List.replicate (grownCap w (i + q) cap el - (i + q)) z).flatten).toArray el)
 have hat:=At.of_heap hnew
 rw [At.append] at hat
 refine (hM.drew).add (new:=[osl NoB (l.take i ++ List.replicate q _) _]) (Kept.alloc _ _) ⟨[w.heap.size],⟨[w.heap.size],[],rfl,XE (fun _ h=>h),⟨some ⟨w.heap.size,0,none⟩,grownCap w (i + q) cap el,by rw [hlen],by rw [hlen]; exact hgc,.inr ⟨w.heap.size,0,ZY (l.take i) ++ (List.replicate q z).flatten,[],rfl,Yl.2 ⟨by rw [VC,Ae]; rfl,rfl⟩,hat.1,rfl,?_⟩⟩,rfl⟩,by simp,fun b hb=>by simp at hb; subst hb; exact ⟨Nat.le_refl _,by simp⟩⟩
 refine ⟨_,el,(0,0),hnew,?_,by intro j _; simp⟩
 have e1 : ∀ q : Nat,((List.replicate q z).flatten).length = q * N:=fun q=>by simp [hzl]
 rw [List.size_toArray,List.length_append,List.length_append,e1,e1,hol,← Nat.add_mul,← Nat.add_mul,Nat.zero_add,show i + q + (grownCap w (i + q) cap el - (i + q)) = grownCap w (i + q) cap el by omega]
 exact Nat.le_refl _
def NoMk (w : World) (b : Nat) : Prop:=∀ c T fz,w.heap[b]? = some (.cells c T fz) → ¬ (fz.1 ≤ c.size ∧ c.size < fz.2)
def osn {α : Type} [Rep α] (S : Nat → Prop) (l : List α) (v : Value) : Item:=fun w fp=>XV S w l v fp ∧ (sb v ∈ fp → NoMk w (sb v))
theorem AY {α : Type} [Rep α] {S : Nat → Prop} {l : List α} (hS : ∀ b,S b → St b) : Loc St (osn S l v):=fun _ _ _ h hb=>⟨h.1.loc fun b h=>hb b (h.imp id (hS b)),fun hm c T fz hh=>h.2 hm c T fz (by rw [← hb _ (.inl hm)]; exact hh)⟩
theorem M.osn_osl {α : Type} [Rep α] {S : Nat → Prop} {l : List α} (hM : M St w0 w (osn S l v :: its)) (hS : ∀ b,S b → St b) : M St w0 w (osl S l v :: its):=hM.pack1 (XE hS) fun _ k=>k.1
theorem M.insE {pre post : List Item} (hM : M St w0 w (pre ++ post)) : M St w0 w (pre ++ Go.Proofs.YtpibglnacohdkaaGreat.emp :: post):=by
 obtain ⟨h1,h2,fp,h3,h4,h5⟩:=hM
 obtain ⟨f,g,rfl,k1,k2⟩:=XH.split h3
 exact ⟨h1,h2,f ++ g,XH.append k1 ⟨[],g,rfl,y0,rfl,k2⟩,h4,h5⟩
theorem zp {α : Type} [Rep α] {S : Nat → Prop} {xs : List Operand} {vs : List Value} {m : Nat} {el : TypeId} {D : TypeDesc} {by_ : Nat} {z : List Value} {l : List α} {it : Item}
  (h : Env n a e) (hM : M St w0 w (it :: its)) (hS : ∀ b,S b → St b) (hw : Goes ops ⟨some d,.buildSlice t m (Ub 0 xs).toArray,ty,pos,af,g⟩ a) (hd : d < n) (hxs : Tq e xs = some vs) (hm : vs.length = m) (hlm : l.length = m)
  (ht : P.underlying t = some (.slice el)) (he : Ty P el D (Rep.n α) by_ z) (_hzl : z.length = Rep.n α) (hsmall : m * Rep.n α ≤ 16777216)
  (hel : ∀ fp,it w fp → ZR S w l (vs.map (·.cells.toList)).flatten fp) (hcell : ∀ v ∈ vs,v.cells.size = Rep.n α)
  (k : ∀ v' w a,M St w0 w (osn S l v' :: its) → Env n a ((d,v') :: e) → wpList P ops Q rest a w) : wpList P ops Q (⟨some d,.buildSlice t m (Ub 0 xs).toArray,ty,pos,af,g⟩ :: rest) a w:=by
 have hsz:=Yy he
 obtain ⟨zv,hzv,hzc⟩:=Tv he w
 have hsub : ∀ cs : Array Value,cs.size = m * Rep.n α → Instr.fill (fun i=>some (i * Rep.n α,Rep.n α)) cs (numbered 0 vs) = some (vs.map (·.cells.toList)).flatten.toArray:=by
  intro cs hcs
  rw [K7 (Rep.n α) _ (fun _=>rfl) vs 0 cs hcell (by simp [hm,hcs])]
  congr 2
  have hfl : ((vs.map (·.cells.toList)).flatten).length = m * Rep.n α:=by
   rw [← hm]
   clear hm hxs hel
   induction vs with
   | nil=>simp
   | cons u xs ih=>rw [List.map_cons,List.flatten_cons,List.length_append,ih (fun y hy=>hcell y (by simp [hy])),List.length_cons,Nat.add_mul]; have:=hcell u (by simp); simp [this]; omega
  rw [Nat.zero_mul]
  exact Zh (by simpa [hcs] using hfl)
 have hnum:=h.numbered xs 0 vs hxs
 have Xg : ∀ (zz : Array Value),((Array.range (m * Rep.n α)).map (zz[· % zz.size]!)).size = m * Rep.n α:=by intro zz; simp
 have hrun : (Instr.buildSlice t m ((Ub 0 xs).toArray.map fun (i,x)=>(i,a.eval x))).run P w = .ok (.slice (some ⟨w.heap.size,0,none⟩) m m) (w.alloc (.cells (vs.map (·.cells.toList)).flatten.toArray el)):=by
  have hparts : ((Ub 0 xs).toArray.map fun (i,x)=>(i,a.eval x)).toList = numbered 0 vs:=by simpa using hnum
  have hlim : ¬ (m * Rep.n α > 2 ^ 24):=by omega
  have hfill : ∀ zz : Array Value,Instr.fill (fun i=>some (i * Rep.n α,Rep.n α)) ((Array.range (m * Rep.n α)).map (zz[· % zz.size]!)) (numbered 0 vs) = some (vs.map (·.cells.toList)).flatten.toArray:=fun zz=>hsub _ (Xg zz)
  unfold Instr.buildSlice
  simp only [Sem.run_bind,run_underlying ht,Result.andThen_ok,hsz,if_neg hlim,hparts]
  by_cases h0 : m * Rep.n α = 0
  ·simp only [if_pos h0,pure_bind]
   rw [hfill]
   simp [newRow]
  ·simp only [if_neg h0,pure_bind,Sem.run_bind,hzv,Result.andThen_ok]
   rw [hfill]
   simp [newRow]
 refine YT h hw rfl hd (v:=.slice (some ⟨w.heap.size,0,none⟩) m m) (w':=w.alloc (.cells (vs.map (·.cells.toList)).flatten.toArray el)) (by simp only [execOp]; simp only [Sem.run_bind,hrun]; rfl) fun a ha=>k _ _ _ ?_ ha
 have hst:=hM.st'
 refine hM.turn (new:=[osn S l _]) rfl rfl rfl (by simp) ?_
 intro fp hit hlt hnd
 have hE:=hel fp hit
 have hnew:=WK w (.cells (vs.map (·.cells.toList)).flatten.toArray el)
 have hkeep : ∀ b,(b ∈ fp ∨ S b) → (w.alloc (.cells (vs.map (·.cells.toList)).flatten.toArray el)).heap[b]? = w.heap[b]?:=fun b hb=>Vx w _ b (by rcases hb with hb | hb; exact (hlt b hb).2; exact hst b (hS b hb))
 refine ⟨fun b _ hb=>Vx w _ b hb,w.heap.size :: fp,⟨w.heap.size :: fp,[],by simp,AY hS,⟨⟨some ⟨w.heap.size,0,none⟩,m,by rw [hlm],by rw [hlm]; exact Nat.le_refl _,.inr ⟨w.heap.size,0,_,fp,rfl,hE.loc hkeep,At.of_heap hnew,rfl,?_⟩⟩,fun _ c T fz hh=>by
   have:=hnew.symm.trans hh
   simp only [Option.some.injEq,Obj.cells.injEq] at this
   obtain ⟨_,_,rfl⟩:=this
   simp⟩,rfl⟩,?_,?_⟩
 ·refine ⟨_,el,(0,0),hnew,?_,by intro i _; simp⟩
  have:=hE.len
  rw [List.size_toArray,this,hlm]; omega
 ·exact List.nodup_cons.2 ⟨fun hb=>by have:=(hlt _ hb).2; omega,hnd⟩
 ·intro b hb
  rcases List.mem_cons.1 hb with rfl | hb
  ·exact .inr ⟨Nat.le_refl _,by simp⟩
  ·exact .inl hb
theorem Aa {α : Type} [Flat α] {xs : List Operand} {vs : List Value} {m : Nat} {el : TypeId} {D : TypeDesc} {by_ : Nat} {z : List Value} {l : List α}
  (h : Env n a e) (hM : M St w0 w its) (hw : Goes ops ⟨some d,.buildSlice t m (Ub 0 xs).toArray,ty,pos,af,g⟩ a) (hd : d < n) (hxs : Tq e xs = some vs) (hlm : l.length = m)
  (ht : P.underlying t = some (.slice el)) (he : Ty P el D (Rep.n α) by_ z) (hzl : z.length = Rep.n α) (hsmall : m * Rep.n α ≤ 16777216)
  (hel : vs.map (·.cells.toList) = l.map Flat.enc)
  (k : ∀ v' w a,M St w0 w (osn NoB l v' :: its) → Env n a ((d,v') :: e) → wpList P ops Q rest a w) : wpList P ops Q (⟨some d,.buildSlice t m (Ub 0 xs).toArray,ty,pos,af,g⟩ :: rest) a w:=by
 have hlen : vs.length = l.length:=by simpa using congrArg List.length hel
 refine zp (S:=NoB) (l:=l) h hM.emp noB hw hd hxs (by rw [hlen,hlm]) hlm ht he hzl hsmall ?_ ?_ k
 ·intro fp hfp
  have hfp : fp = []:=hfp
  subst hfp
  refine Yl.2 ⟨?_,rfl⟩
  rw [hel]
  have : ∀ l : List α,(l.map Flat.enc).flatten = ZY l:=by
   intro l
   induction l with
   | nil=>rfl
   | cons x l ih=>simp [ZY,ih]
  exact this l
 ·intro v hv
  have : v.cells.toList ∈ l.map Flat.enc:=by rw [← hel]; exact List.mem_map_of_mem (f:=fun v : Value=>v.cells.toList) hv
  obtain ⟨x,_,hx⟩:=List.mem_map.1 this
  have:=Flat.len x
  rw [hx] at this
  have h2 : Rep.n α = Flat.n α:=rfl
  rw [h2]
  simpa using this
theorem ji {α : Type} [Rep α] {S : Nat → Prop} {xs : List Operand} {el : TypeId} {D : TypeDesc} {by_ : Nat} {z seg : List Value} {xn : α}
  (h : Env n a e) (hM : M St w0 w (own S xn seg :: its)) (hS : ∀ b,S b → St b) (hw : Goes ops ⟨some d,.buildSlice t 1 (Ub 0 xs).toArray,ty,pos,af,g⟩ a) (hd : d < n) (hxs : Tq e xs = some [u]) (hu : u.cells.toList = seg)
  (ht : P.underlying t = some (.slice el)) (he : Ty P el D (Rep.n α) by_ z) (hzl : z.length = Rep.n α) (hsmall : 1 * Rep.n α ≤ 16777216)
  (k : ∀ v' w a,M St w0 w (osn S [xn] v' :: its) → Env n a ((d,v') :: e) → wpList P ops Q rest a w) : wpList P ops Q (⟨some d,.buildSlice t 1 (Ub 0 xs).toArray,ty,pos,af,g⟩ :: rest) a w:=by
 subst hu
 obtain ⟨fp0,hfp0,_⟩:=hM.head
 have hl0:=Rep.len hfp0
 exact zp (l:=[xn]) h hM hS hw hd hxs rfl rfl ht he hzl hsmall (fun fp hfp=>by
  have hfp : Rep.sat S w xn u.cells.toList fp:=hfp
  exact ⟨u.cells.toList,[],fp,[],by simp,by simp,hfp,rfl,rfl⟩) (fun v hv=>by simp at hv; subst hv; simpa using hl0) k
theorem Kx {α β : Type} [Flat α] [Flat β] {l : List α} {m : List β} {f el tB la ca k2 sz by_ b o cap : Nat} {D : TypeDesc} {z : List Value} {fn : Func} {ats : Array TypeId} {xs : List Operand} (h : Env n a e) (hM : M St w0 w (osl NoB l (.slice (some ⟨b,o,none⟩) l.length cap) :: osn NoB m u :: its)) (hw : Goes ops ⟨some d,.call ⟨.value (.func f),xs.toArray,ats⟩,ty,pos,af,g⟩ a) (hd : d < n)
  (hxs : Tq e xs = some [u, .slice (some ⟨b, o + k2, none⟩) la ca]) (hf : P.funcs[f]? = some fn) (hb : fn.body.isNone = true) (hn : (fn.name == "runtime.NumGoroutine") = false) (hnx : Extern.findNext fn = none) (hfd : Extern.find fn = some (Extern.SlicesOverlaps.overlaps #[t, t] #[tB])) (ht : P.underlying t = some (.slice el)) (he : Ty P el D sz by_ z)
  (hm : 0 < m.length) (hl : 0 < l.length) (hN : 0 < Flat.n α) (hN2 : 0 < Flat.n β) (hc : 0 < cap)
  (k : ∀ a,Env n a ((d,vT false) :: e) → wpList P ops Q rest a w) : wpList P ops Q (⟨some d,.call ⟨.value (.func f),xs.toArray,ats⟩,ty,pos,af,g⟩ :: rest) a w:=by
 have hMp:=hM.pull (pre:=[_])
 obtain ⟨bu,ou,cu,cc,T1,fz1,rfl,hcu,_,hh1,hs1,hf1⟩:=U2 (hMp.osn_osl noB) hm
 have hcu1 : 0 < cu * Flat.n β:=Nat.mul_pos (by omega) hN2
 obtain ⟨b',o',cap',c,T,fz,hv,hcap,hA,hheap,hsz,hfz⟩:=U2 hM hl
 simp only [Value.slice.injEq,Option.some.injEq,Addr.mk.injEq,and_true,true_and] at hv
 obtain ⟨⟨rfl,rfl⟩,rfl⟩:=hv
 have hne : bu ≠ b:=by
  obtain ⟨_,_,fp,⟨f1,f',rfl,_,⟨p1,c1,e1,_,g1⟩,f2,f3,rfl,_,⟨⟨p2,c2,e2,_,g2⟩,_⟩,_⟩,hnd,_⟩:=hM
  rintro rfl
  simp only [Value.slice.injEq] at e1 e2
  obtain ⟨rfl,_,rfl⟩:=e1
  obtain ⟨rfl,_,rfl⟩:=e2
  rcases g1 with ⟨e,_⟩ | ⟨b1,o1,_,_,e,_,_,rfl,_⟩
  ·omega
  rcases g2 with ⟨e',_⟩ | ⟨b2,o2,_,_,e',_,_,rfl,_⟩
  ·omega
  simp only [Option.some.injEq,Addr.mk.injEq,and_true] at e e'
  obtain ⟨rfl,rfl⟩:=e
  obtain ⟨rfl,rfl⟩:=e'
  simp at hnd
 have hcs : 0 < c.size:=by
  have : 0 < cap * Flat.n α:=Nat.mul_pos hc hN
  omega
 have hr:=Lib.run_overlaps_apart (P:=P) w t tB el ht sz (fun w=>Yy he w) ⟨bu,ou,none⟩ ⟨b,o + k2,none⟩ m.length cu la ca hne T1 T cc.size c.size (by simp [World.shape?,hh1]) (by simp [World.shape?,hheap]) (by omega)
  (by
   have:=hf1 ou (by omega)
   simp only [World.frozen?,hh1,Bool.and_eq_false_iff,decide_eq_false_iff_not]
   omega)
  (by
   have : ¬ (fz1.1 ≤ cc.size ∧ cc.size < fz1.2):=by
    obtain ⟨fp,⟨⟨p2,c2,e2,_,g2⟩,hk⟩,_⟩:=hMp.head
    simp only [Value.slice.injEq] at e2
    obtain ⟨rfl,_,rfl⟩:=e2
    rcases g2 with ⟨e',_⟩ | ⟨b2,o2,_,_,e',_,_,rfl,_⟩
    ·omega
    simp only [Option.some.injEq,Addr.mk.injEq,and_true] at e'
    obtain ⟨rfl,rfl⟩:=e'
    exact hk (by simp [sb]) _ _ _ hh1
   simp only [World.frozen?,hh1,Bool.and_eq_false_iff,decide_eq_false_iff_not]
   omega)
 refine YT h hw rfl hd (w':=w) ?_ k
 simp only [execOp,resolve,Act.eval]
 simp only [Deferred.ofValue,Sem.run_bind,pure,Sem.run,Result.andThen_ok,invoke]
 have hargs : (xs.toArray.map a.eval) = #[.slice (some ⟨bu,ou,none⟩) m.length cu,.slice (some ⟨b,o + k2,none⟩) la ca]:=by simp [h.evs hxs]
 simp only [hargs,Array.append_empty]
 have:=run_callFunc_extern (P:=P) hf hn hb hnx hfd #[.slice (some ⟨bu,ou,none⟩) m.length cu,.slice (some ⟨b,o + k2,none⟩) la ca] w
 simpa [hr] using this
end
theorem Hi {α : Type} {l : List α} {i : Nat} (h : i ≤ l.length) : slc l (i : Int) (l.length : Int) = some (l.drop i):=by
 unfold slc; rw [if_pos (by omega)]; simp
theorem wrI {x : Int} {k : Nat} (h : x = k) (h1 : 0 ≤ x) (h2 : x ≤ 4611686018427387904) : wr x = k:=by
 show IntKind.i64.wrap x = k
 rw [IntKind.wrap_i64]; omega
theorem insA {α : Type} {l m q : List α} {i : Nat} (hi : i ≤ l.length) (hm : m.length = 1) : (l.take i ++ q).take i ++ (m ++ (l.take i ++ q).drop (i + m.length)) = l.take i ++ (m ++ q.drop 1):=by
 have e : (l.take i).length = i:=by simp; omega
 rw [List.take_left' e,hm,List.drop_append,e,List.drop_eq_nil_of_le (by omega),List.nil_append,show i + 1 - i = 1 by omega]
theorem insB {α : Type} {l m q : List α} {i : Nat} (hi : i ≤ l.length) (hm : m.length = 1) (hq : q.length = l.length + 1 - i) : (l.take i ++ (m ++ q.drop 1)).take (i + 1) ++ (l.drop i ++ (l.take i ++ (m ++ q.drop 1)).drop (i + 1 + (l.drop i).length)) = l.take i ++ (m ++ l.drop i):=by
 have e : (l.take i ++ m).length = i + 1:=by simp; omega
 have e2 : (l.take i ++ m ++ q.drop 1).drop (i + 1 + (l.drop i).length) = []:=List.drop_eq_nil_of_le (by simp; omega)
 rw [← List.append_assoc (l.take i) m,List.take_left' e,e2,List.append_nil,List.append_assoc]
theorem insC {α : Type} {l m : List α} {i : Nat} (hi : i ≤ l.length) (hm : m.length = 1) : (l.take (i + 1) ++ l.drop i).take i ++ (m ++ (l.take (i + 1) ++ l.drop i).drop (i + m.length)) = l.take i ++ (m ++ l.drop i):=by
 rw [hm]
 by_cases h : i = l.length
 ·subst h
  rw [List.take_of_length_le (Nat.le_succ _),List.drop_length,List.append_nil,List.take_length,List.drop_eq_nil_of_le (Nat.le_succ _)]
 ·have e : (l.take (i + 1)).length = i + 1:=by simp; omega
  rw [List.drop_left' e,List.take_append_of_le_length (by omega),List.take_take,Nat.min_eq_left (Nat.le_succ _)]
section
variable {P : Program} {α : Type} [Rep α] {S St : Nat → Prop} {w w0 : World} {l m r : List α} {v u : Value} {its : List Item}
theorem M.toHdrN (hM : M St w0 w (osn S l v :: its)) (hS : ∀ b,S b → St b) : ∃ hs : List (Opq (Rep.n α)),hs.length = l.length ∧ M St w0 w (osn NoB hs v :: els S l hs :: its):=by
 obtain ⟨hk,hs0,fp,⟨f,f',rfl,_,⟨⟨p,cap,rfl,hcap,hO⟩,hmk⟩,hr⟩,hnd,hlt⟩:=hM
 rcases hO with ⟨rfl,rfl,_⟩ | ⟨b,o,ecs,fpe,rfl,k1,k2,rfl,k3⟩
 ·have : l = []:=List.eq_nil_of_length_eq_zero (by omega)
  subst this
  exact ⟨[],rfl,hk,hs0,[] ++ ([] ++ f'),⟨[],_,rfl,AY noB,⟨⟨p,0,rfl,Nat.le_refl _,.inl ⟨rfl,rfl,trivial⟩⟩,fun h=>by cases h⟩,[],f',rfl,Q9 hS,⟨rfl,rfl,rfl⟩,hr⟩,by simpa using hnd,fun k h=>hlt k (by simpa using h)⟩
 ·obtain ⟨hs,e,rfl⟩:=yK k1
  refine ⟨hs,e,hk,hs0,[b] ++ (fpe ++ f'),⟨[b],_,rfl,AY noB,⟨⟨some ⟨b,o,Option.none⟩,cap,by rw [e],by omega,.inr ⟨b,o,Xg hs,[],rfl,H7 hs,k2,rfl,k3⟩⟩,fun _=>hmk (by simp [sb])⟩,fpe,f',rfl,Q9 hS,⟨e,k1⟩,hr⟩,by simpa using hnd,fun k h=>hlt k (by simpa using h)⟩
theorem M.insEls {hs ms : List (Opq (Rep.n α))} (hM : M St w0 w (els S m ms :: els S l hs :: its)) (hS : ∀ b,S b → St b) (i : Nat) : M St w0 w (els S (l.take i ++ (m ++ l.drop i)) (hs.take i ++ (ms ++ hs.drop i)) :: its):=by
 obtain ⟨hk,hs0,fp,⟨f,_,rfl,_,⟨e1,hE1⟩,g,f',rfl,_,⟨e,hE⟩,hr⟩,hnd,hlt⟩:=hM
 obtain ⟨f1,f2,rfl,k1,k2⟩:=hE.cutAt i e
 refine ⟨hk,hs0,(f1 ++ (f ++ f2)) ++ f',⟨f1 ++ (f ++ f2),f',rfl,Q9 hS,⟨by simp [e,e1],?_⟩,hr⟩,?_,fun k h=>hlt k (by simp at h ⊢; grind)⟩
 ·rw [HM,HM]
  exact k1.append (hE1.append k2)
 ·refine (List.Perm.nodup_iff ?_).1 hnd
  rw [← List.append_assoc,← List.append_assoc]
  refine List.Perm.append_right _ ?_
  rw [← List.append_assoc]
  exact List.Perm.append_right _ List.perm_append_comm
theorem H8 {K by_ : Nat} {W : World} {p1 : Int} (hd : ∀ {its : List Item} {hs ms : List (Opq (Rep.n α))} {i : Nat},M St W w (osl NoB hs v :: osn NoB ms u :: its) → i ≤ hs.length → ms.length = 1 → (hs.length + 1) * by_ ≤ 140737488355328 →
   Calls P K [v,vI (i : Int),u].toArray w (fun en w'=>∃ y,en = .returned y ∧ M St W w' (osl NoB (hs.take i ++ (ms ++ hs.drop i)) y :: its)))
  (hM : M St W w (osl NoB l v :: osn NoB m u :: its)) (hF : zM by_ l p1 m = some r) : Calls P K [v,vI p1,u].toArray w (fun en w'=>∃ x,en = .returned x ∧ ∃ y,x = y ∧ M St W w' (osl NoB r y :: its)):=by
 obtain ⟨⟨h0,h1,h2,h3⟩,rfl⟩:=jw hF
 obtain ⟨i,rfl⟩ : ∃ i : Nat,p1 = i:=⟨p1.toNat,by omega⟩
 obtain ⟨hs,hl,hM⟩:=hM.toHdr noB
 obtain ⟨ms,hl2,hM⟩:=(hM.pull (pre:=[_,_])).toHdrN noB
 refine (hd (hM.pull (pre:=[_,_])) (by omega) (by omega) (by rw [hl]; exact h3)).mono ?_
 rintro en w' ⟨y,rfl,hM⟩
 refine ⟨y,rfl,y,rfl,?_⟩
 have hM:=(((hM.pull (pre:=[_,_])).pull (pre:=[_,_])).insEls noB i).pull (pre:=[_])
 exact M.ofHdr (α:=α) hM noB
end
section
variable {α : Type} [Rep α] {S St : Nat → Prop} {w w0 : World} {l l1 l2 m : List α} {its : List Item} {hs h1 h2 ms : List (Opq (Rep.n α))} {i : Int}
theorem M.insEls2 (hM : M St w0 w (els S m ms :: els S l hs :: its)) (hS : ∀ b,S b → St b) (e1 : slc l 0 i = some l1) (e2 : slc l i (l.length : Int) = some l2) (g1 : slc hs 0 i = some h1) (g2 : slc hs i (hs.length : Int) = some h2) :
  M St w0 w (els S ((([] ++ l1) ++ m) ++ l2) ((([] ++ h1) ++ ms) ++ h2) :: its):=by
 have a1:=(TD e1).2
 have a2:=(TD e2).2
 have b1:=(TD g1).2
 have b2:=(TD g2).2
 have:=hM.insEls hS i.toNat
 simp only [Int.toNat_natCast,List.take_length,Int.toNat_zero,List.drop_zero] at a1 a2 b1 b2
 rw [a1,a2,b1,b2,List.nil_append,List.nil_append,List.append_assoc,List.append_assoc]
 exact this
theorem M.elsOne {β : Type} [Rep β] {x : List β} {u : Value} {o : Opq (Rep.n (List β))} (hM : M St w0 w (osl NoB x u :: its)) (ho : o.cs = [u]) : M St w0 w (els NoB [x] [o] :: its) :=
 hM.pack1 (Q9 noB) fun fp h=>⟨rfl,[u],[],fp,[],by simp [Xg,ho],by simp,XV.sat h,rfl,rfl⟩
end
end Go.Proofs.YtpibglnacohdkaaGreat
