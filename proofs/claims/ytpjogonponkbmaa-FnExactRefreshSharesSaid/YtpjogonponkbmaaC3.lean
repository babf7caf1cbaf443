/- Plain laws, no program in sight. -/
import Derived.Test.YtpjogonponkbmaaC2
set_option linter.unusedVariables false
set_option linter.unusedSimpArgs false
set_option maxRecDepth 20000
set_option maxHeartbeats 400000
namespace Go.Proofs.Ytpjogonponkbmaa
open Go
open Flat (enc)
theorem UV {α : Type} {l : List α} {i : Nat} (h : i < l.length) : idx l (i : Int) = some l[i]:=by
 unfold idx
 rw [if_pos (by omega)]
 simp
theorem YQ {i : Nat} (h : i < 9223372036854775807) : wr ((i : Int) + 1) = ((i + 1 : Nat) : Int):=by
 rw [WL (by omega)]; rfl

section
variable {S T : Type} {f : S → Option (Fl S T)}
theorem Jh (g : Nat → S) (m n : Nat) (hmn : m ≤ n) (h : ∀ i, m ≤ i → i < n → f (g i) = some (.nx (g (i + 1)))) : ZB f (g m) = ZB f (g n) := by
  induction n with
  | zero => have : m = 0 := by omega
            subst this; rfl
  | succ n ih =>
    rcases Nat.lt_or_ge m (n + 1) with h1 | h1
    · rw [ih (by omega) (fun i h2 h3 => h i h2 (by omega)), Xs (h n (by omega) (by omega))]
    · have : m = n + 1 := by omega
      subst this; rfl
theorem Y1 (g : Nat → S) (m n : Nat) (hmn : m ≤ n) {t : T} (h : ∀ i,m ≤ i → i < n → f (g i) = some (.nx (g (i + 1)))) (he : f (g n) = some (.ex t)) : ZB f (g m) = some t:=by
 rw [Jh g m n hmn h,Y3 he]
theorem Uh (g : Nat → S) (p : Nat → Bool) (t : Nat → T) {e : T} (n : Nat) : ∀ (k m : Nat),m + k = n → (∀ i,m ≤ i → i < n → f (g i) = some (if p i then .ex (t i) else .nx (g (i + 1)))) → f (g n) = some (.ex e) →
  ZB f (g m) = some (((List.range' m k).find? p).elim e t)
 | 0,m,hk,_,he=>by
  have : m = n:=by omega
  subst this
  rw [Y3 he]; rfl
 | k + 1,m,hk,h,he=>by
  have h1:=h m (Nat.le_refl _) (by omega)
  rw [List.range'_succ,List.find?_cons]
  cases hp : p m with
  | true=>rw [hp] at h1; rw [Y3 h1]; rfl
  | false =>
   rw [hp] at h1
   rw [Xs h1,Uh g p t n k (m + 1) (by omega) (fun i h2 h3=>h i (by omega) h3) he]
end

theorem Td {T : Type} {f : Int → Option (Fl Int (Fl Unit T))} (p : Nat → Bool) {t : T} {n m : Nat} (hm : m ≤ n)
  (h : ∀ i,m ≤ i → i < n → f (i : Int) = some (if p i then .ex (.ex t) else .nx ((i + 1 : Nat) : Int))) (he : f (n : Int) = some (.ex (.nx ()))) :
  ZB f (m : Int) = some (if (List.range' m (n - m)).any p then .ex t else .nx ()):=by
 rw [Uh (fun i : Nat=>(i : Int)) p (fun _=>.ex t) n (n - m) m (by omega) h he]
 cases hf : (List.range' m (n - m)).find? p with
 | none =>
  have : (List.range' m (n - m)).any p = false:=by
   rw [List.any_eq_false]
   rw [List.find?_eq_none] at hf
   exact hf
  rw [this]; rfl
 | some i =>
  have : (List.range' m (n - m)).any p = true:=by
   rw [List.any_eq_true]
   exact ⟨i,List.mem_of_find?_eq_some hf,List.find?_some hf⟩
  rw [this]; rfl
theorem Wm {p : Nat → Bool} {m n : Nat} : (List.range' m (n - m)).any p = true ↔ ∃ i,m ≤ i ∧ i < n ∧ p i = true:=by
 rw [List.any_eq_true]
 simp only [List.mem_range'_1]
 constructor
 ·rintro ⟨i,⟨h1,h2⟩,h3⟩; exact ⟨i,h1,by omega,h3⟩
 ·rintro ⟨i,h1,h2,h3⟩; exact ⟨i,⟨h1,by omega⟩,h3⟩
theorem KN {α : Type} {q : α → Bool} {l : List α} {p : Nat → Bool} (hp : ∀ i (h : i < l.length),p i = q l[i]) : (List.range' 0 (l.length - 0)).any p = l.any q:=by
 rw [Bool.eq_iff_iff,Wm,List.any_eq_true]
 constructor
 ·rintro ⟨i,_,h,h3⟩; exact ⟨l[i],List.getElem_mem h,by rw [← hp i h]; exact h3⟩
 ·rintro ⟨x,hx,h⟩
  obtain ⟨i,hi,rfl⟩:=List.mem_iff_getElem.1 hx
  exact ⟨i,Nat.zero_le _,hi,by rw [hp i hi]; exact h⟩

theorem TQ {T α : Type} {f : Int → Option (Fl Int (Fl Unit T))} (l : List α) (q : α → Bool) {t : T} (hl : l.length < 9223372036854775807)
  (h : ∀ i (hi : i < l.length),f (i : Int) = some (if q l[i] then .ex (.ex t) else .nx (wr ((i : Int) + 1)))) (he : f (l.length : Int) = some (.ex (.nx ()))) :
  ZB f 0 = some (if l.any q then .ex t else .nx ()):=by
 have:=Td (f:=f) (fun i=>if hi : i < l.length then q l[i] else false) (t:=t) (n:=l.length) (m:=0) (Nat.zero_le _) (fun i _ hi=>by
  rw [h i hi,YQ (by omega)]; simp [hi]) he
 rw [KN (q:=q) (fun i hi=>by simp [hi])] at this
 exact this

class Wt (α : Type) [Dat α] where
 wt : α → Nat
 ln : α → Prop
 bdln : ∀ x,Dat.bd x → ln x
 wtln : ∀ x,wt x ≤ 1048576 → ln x
instance : Wt Int:=⟨fun _=>0,fun _=>True,fun _ _=>trivial,fun _ _=>trivial⟩
instance : Wt UInt8:=⟨fun _=>0,fun _=>True,fun _ _=>trivial,fun _ _=>trivial⟩
instance : Wt Bool:=⟨fun _=>0,fun _=>True,fun _ _=>trivial,fun _ _=>trivial⟩
instance : Wt Str:=⟨fun s=>s.l.length,fun s=>s.l.length ≤ 9223372036854775807,fun _ h=>h,fun _ h=>by omega⟩
instance {n : Nat} : Wt (Vector UInt8 n):=⟨fun _=>0,fun _=>True,fun _ _=>trivial,fun _ _=>trivial⟩
instance {n m : Nat} : Wt (Vector (Vector UInt8 m) n):=⟨fun _=>0,fun _=>True,fun _ _=>trivial,fun _ _=>trivial⟩
theorem Kd {α : Type} {f : α → Nat} {l : List α} {x : α} (h : x ∈ l) : f x ≤ (l.map f).sum:=by
 induction l with
 | nil=>cases h
 | cons y l ih =>
  rw [List.map_cons,List.sum_cons]
  rcases List.mem_cons.1 h with rfl | h
  ·omega
  ·have:=ih h; omega
instance {α : Type} [Dat α] [Wt α] : Wt (List α):=⟨fun l=>l.length + (l.map Wt.wt).sum,fun l=>l.length ≤ 9223372036854775807 ∧ ∀ x ∈ l,Wt.ln x,fun _ h=>⟨h.1,fun x hx=>Wt.bdln x (h.2 x hx)⟩,
 fun l h=>⟨by omega,fun x hx=>Wt.wtln x (by have:=Kd (f:=Wt.wt) hx; omega)⟩⟩
instance {α β : Type} [Dat α] [Dat β] [Wt α] [Wt β] : Wt (α × β):=⟨fun x=>Wt.wt x.1 + Wt.wt x.2,fun x=>Wt.ln x.1 ∧ Wt.ln x.2,fun x h=>⟨Wt.bdln x.1 h.1,Wt.bdln x.2 h.2⟩,fun x h=>⟨Wt.wtln x.1 (by omega),Wt.wtln x.2 (by omega)⟩⟩
theorem Ve {α : Type} [Dat α] [Wt α] (l : List α) : Wt.wt l = l.length + (l.map Wt.wt).sum:=rfl
theorem wt_mem {α : Type} [Dat α] [Wt α] {l : List α} {x : α} (h : x ∈ l) : Wt.wt x ≤ (l.map Wt.wt).sum:=Kd h
theorem Kl {α : Type} [Dat α] [Wt α] {l : List α} {x : α} (h : x ∈ l) : Wt.wt x ≤ Wt.wt l:=by
 have:=wt_mem h; rw [Ve]; omega
theorem VN {α : Type} [Dat α] [Wt α] (l : List α) : l.length ≤ Wt.wt l:=by rw [Ve]; omega
theorem WQ {α : Type} [Dat α] [Wt α] {l : List α} (h : Wt.ln l) : l.length ≤ 9223372036854775807:=h.1
theorem VO {α : Type} [Dat α] [Wt α] {l : List α} {x : α} (h : Wt.ln l) (hx : x ∈ l) : Wt.ln x:=h.2 x hx

theorem Us {α β : Type} (p0 : List α) (c : α → Option β) (g : α → β) (by_ : Nat) (z : β) (L : List β × Int → Option (Fl (List β × Int) (List β)))
  (hL : ∀ s,L s = if (decide (s.2 < (p0.length : Int))) = true then ((idx p0 s.2).bind fun x=>(c x).bind fun r=>(idx s.1 s.2).bind fun _=>some (Fl.nx ((s.1.set (s.2).toNat r),wr (s.2 + 1)))) else (some (Fl.ex s.1)))
  (hc : ∀ x ∈ p0,c x = some (g x)) (hl : p0.length * by_ ≤ 140737488355328) (hl' : p0.length < 9223372036854775807) :
  ((mkS by_ z (p0.length : Int)).bind fun l1=>(ZB L (l1,0) : Option (List β)).bind fun j=>some j) = some (p0.map g):=by
 have hm : mkS by_ z (p0.length : Int) = some (List.replicate p0.length z):=by
  have h3 : ((p0.length * by_ : Nat) : Int) ≤ ((140737488355328 : Nat) : Int):=Int.ofNat_le.2 hl
  rw [Int.natCast_mul] at h3
  unfold mkS
  rw [if_pos ⟨by omega,h3⟩,Int.toNat_natCast]
 rw [hm]
 simp only [Option.bind_some]
 have hrun:=Y1 (f:=L) (fun i : Nat=>((p0.take i).map g ++ List.replicate (p0.length - i) z,(i : Int))) 0 p0.length (Nat.zero_le _) (t:=p0.map g) (fun i _ hi=>by
  rw [hL]
  simp only [Int.ofNat_lt,hi,decide_true,if_true,UV hi,Option.bind_some,hc _ (List.getElem_mem hi)]
  rw [UV (by simp; omega)]
  simp only [Option.bind_some,YQ (show i < 9223372036854775807 by omega),Int.toNat_natCast]
  congr 3
  rw [List.set_append_right _ _ (by simp; omega)]
  have e1 : p0.length - i = (p0.length - (i + 1)) + 1:=by omega
  have e2 : i - ((p0.take i).map g).length = 0:=by simp; omega
  rw [e1,List.replicate_succ,e2,List.set_cons_zero]
  rw [List.take_succ_eq_append_getElem hi,List.map_append,List.append_assoc]
  rfl) (by
  rw [hL]
  simp)
 simp at hrun
 simp [hrun]

theorem T1 {α : Type} (p0 : List α) (ne : α → α → Option Bool) (L : Int → Option (Fl Int (Fl Unit Bool)))
  (hL : ∀ s,L s = if (decide (s < (p0.length : Int))) = true then (((idx p0 s).bind fun x=>(idx p0 s).bind fun y=>ne x y : Option Bool).bind fun j=>if j = true then (some (Fl.ex (Fl.ex false))) else (some (Fl.nx (wr (s + 1))))) else (some (Fl.ex (Fl.nx ()))))
  (hn : ∀ x ∈ p0,ne x x = some false) (hl : p0.length ≤ 9223372036854775807) :
  (if ((p0.length : Int) != (p0.length : Int)) = true then (some false) else ((ZB L 0 : Option (Fl Unit Bool)).bind fun j2=>j2.el (fun _=>some true) (fun r=>some r))) = some true:=by
 have:=Y1 (f:=L) (fun i : Nat=>(i : Int)) 0 p0.length (Nat.zero_le _) (t:=.nx ()) (fun i _ hi=>by
  rw [hL]
  simp only [Int.ofNat_lt,hi,decide_true,if_true,UV hi,Option.bind_some,hn _ (List.getElem_mem hi)]
  simp [YQ (show i < 9223372036854775807 by omega)]) (by
  rw [hL]; simp)
 have h2 : ZB L 0 = some (.nx ()):=this
 simp [h2,Fl.el]

def Vn {α : Type} [Dat α] [Wt α] (f : α → Int → Option Int) (x : α) : Prop:=∀ left : Int,0 ≤ left → left ≤ 1048576 → ∃ r,f x left = some r ∧ r ≤ 1048576 ∧ (0 ≤ r → r + Wt.wt x ≤ left)
theorem Q1 {α : Type} [Dat α] [Wt α] {l : List α} (h0 : ∀ x : α,Wt.wt x = 0) (f : List α → Int → Option Int)
  (hf : ∀ left,f l left = if (decide ((wr (left - (l.length : Int))) < 0)) = true then (some (-1)) else (some (wr (left - (l.length : Int))))) (hl : l.length ≤ 9223372036854775807) : Vn f l:=by
 intro left h1 h2
 have hs : (l.map Wt.wt).sum = 0:=by
  clear hf hl
  induction l with
  | nil=>rfl
  | cons x l ih=>rw [List.map_cons,List.sum_cons,h0,ih]
 have hw : Wt.wt l = l.length:=by rw [Ve,hs]; rfl
 rw [hf,WL (by omega),hw]
 by_cases h : left - (l.length : Int) < 0
 ·exact ⟨-1,by simp [h],by omega,by omega⟩
 ·exact ⟨left - l.length,by simp [h],by omega,by omega⟩
theorem Tc {α : Type} [Dat α] [Wt α] {p0 : List α} (f : List α → Int → Option Int) (c : α → Int → Option Int) (L : Int × Int → Option (Fl (Int × Int) (Fl Int Int)))
  (hL : ∀ s,L s = if (decide (s.2 < (p0.length : Int))) = true then ((idx p0 s.2).bind fun x=>(c x s.1).bind fun r=>if (decide (r < 0)) = true then (some (Fl.ex (Fl.ex (-1)))) else (some (Fl.nx (r,wr (s.2 + 1))))) else (some (Fl.ex (Fl.nx s.1))))
  (hf : ∀ left,f p0 left = if (decide ((wr (left - (p0.length : Int))) < 0)) = true then (some (-1)) else ((ZB L (wr (left - (p0.length : Int)),0) : Option (Fl Int Int)).bind fun j2=>j2.el (fun s=>some s) (fun r=>some r)))
  (hl : p0.length ≤ 9223372036854775807) (hc : ∀ x ∈ p0,Vn c x) : Vn f p0:=by
 intro left h1 h2
 rw [hf,WL (by omega)]
 by_cases h : left - (p0.length : Int) < 0
 ·exact ⟨-1,by simp [h],by omega,by omega⟩
 simp only [h,decide_false,Bool.false_eq_true,if_false]
 have key : ∀ (k m : Nat) (a : Int),m + k = p0.length → 0 ≤ a → a ≤ 1048576 → ∃ o : Fl Int Int,ZB L (a,(m : Int)) = some o ∧ ((o = .ex (-1)) ∨ ∃ r,o = .nx r ∧ 0 ≤ r ∧ r + (((p0.drop m).map Wt.wt).sum : Nat) ≤ a):=by
  intro k
  induction k with
  | zero =>
   intro m a hm h0 h3
   have : m = p0.length:=by omega
   subst this
   refine ⟨.nx a,?_,.inr ⟨a,rfl,h0,?_⟩⟩
   ·rw [Y3 (t:=.nx a)]; rw [hL]; simp
   ·simp
  | succ k ih =>
   intro m a hm h0 h3
   have hi : m < p0.length:=by omega
   obtain ⟨r,e1,e2,e3⟩:=hc _ (List.getElem_mem hi) a h0 h3
   have hst : L (a,(m : Int)) = (if (decide (r < 0)) = true then (some (Fl.ex (Fl.ex (-1)))) else (some (Fl.nx (r,((m + 1 : Nat) : Int))))):=by
    rw [hL]
    simp only [Int.ofNat_lt,hi,decide_true,if_true,UV hi,Option.bind_some,e1,YQ (show m < 9223372036854775807 by omega)]
   by_cases hr : r < 0
   ·simp only [hr,decide_true,if_true] at hst
    exact ⟨_,Y3 hst,.inl rfl⟩
   ·simp only [hr,decide_false,Bool.false_eq_true,if_false] at hst
    obtain ⟨o,k1,k2⟩:=ih (m + 1) r (by omega) (by omega) e2
    refine ⟨o,by rw [Xs hst]; exact k1,k2.imp id ?_⟩
    rintro ⟨q,rfl,q1,q2⟩
    refine ⟨q,rfl,q1,?_⟩
    have e3:=e3 (by omega)
    rw [List.drop_eq_getElem_cons hi,List.map_cons,List.sum_cons]
    omega
 obtain ⟨o,k1,k2⟩:=key p0.length 0 (left - p0.length) (by omega) (by omega) (by omega)
 have k1' : ZB L (left - (p0.length : Int),0) = some o:=k1
 rw [k1']
 rcases k2 with rfl | ⟨r,rfl,q1,q2⟩
 ·exact ⟨-1,rfl,by omega,by omega⟩
 ·refine ⟨r,rfl,by omega,fun _=>?_⟩
  rw [List.drop_zero] at q2
  rw [Ve]; omega
@[simp] theorem ZI {α : Type} (l : List α) (i : Nat) : idx l (i : Int) = l[i]?:=by unfold idx; simp
@[simp] theorem Tt {α : Type} (l : List α) : idx l (0 : Int) = l[0]?:=ZI l 0
theorem Qt {T : Type} {f : Int → Option (Fl Int (Fl Unit T))} (n : Nat) (p : Nat → Bool) (t : Nat → T) (hn : n < 9223372036854775807)
  (h : ∀ i,i < n → f (i : Int) = some (if p i then .ex (.ex (t i)) else .nx (wr ((i : Int) + 1)))) (he : f (n : Int) = some (.ex (.nx ()))) (m : Nat) (hm : m ≤ n) :
  ZB f (m : Int) = some (match (List.range' m (n - m)).find? p with | some i=>.ex (t i) | none=>.nx ()):=by
 rw [Uh (fun i : Nat=>(i : Int)) p (fun i=>.ex (t i)) n (n - m) m (by omega) (fun i _ hi=>by rw [h i hi,YQ (by omega)]) he]
 cases (List.range' m (n - m)).find? p <;> rfl
theorem Uc {T : Type} {f : Int → Option (Fl Int (Fl Unit T))} (n : Nat) (p : Nat → Bool) (t : T) (hn : n < 9223372036854775807)
  (h : ∀ i,i < n → f (i : Int) = some (if p i then .ex (.ex t) else .nx (wr ((i : Int) + 1)))) (he : f (n : Int) = some (.ex (.nx ()))) (m : Nat) (hm : m ≤ n) :
  ZB f (m : Int) = some (if (List.range' m (n - m)).any p then .ex t else .nx ()) :=
 Td p hm (fun i _ hi=>by rw [h i hi,YQ (by omega)]) he
theorem Un {T : Type} {f : Int → Option (Fl Int (Fl Unit T))} (n : Nat) (p : Nat → Bool) (t : T) (hn : n < 9223372036854775807) (m : Nat) (hm : m ≤ n)
  (h : ∀ i,m ≤ i → i < n → f (i : Int) = some (if p i then .ex (.ex t) else .nx (wr ((i : Int) + 1)))) (he : f (n : Int) = some (.ex (.nx ()))) :
  ZB f (m : Int) = some (if (List.range' m (n - m)).any p then .ex t else .nx ()) :=
 Td p hm (fun i hmi hi=>by rw [h i hmi hi,YQ (by omega)]) he
theorem KF {α β S T : Type} {f : S → Option (Fl S T)} (l : List α) (pack : β → Int → S) (g : β → α → β) (b0 : β) {t : T} (hn : l.length < 9223372036854775807)
  (h : ∀ i (hi : i < l.length),f (pack ((l.take i).foldl g b0) (i : Int)) = some (.nx (pack (g ((l.take i).foldl g b0) l[i]) (wr ((i : Int) + 1))))) (he : f (pack (l.foldl g b0) (l.length : Int)) = some (.ex t)) :
  ZB f (pack b0 0) = some t:=by
 have:=Y1 (f:=f) (fun i : Nat=>pack ((l.take i).foldl g b0) (i : Int)) 0 l.length (Nat.zero_le _) (t:=t) (fun i _ hi=>by
  rw [h i hi,YQ (by omega)]
  congr 3
  rw [List.take_succ_eq_append_getElem hi,List.foldl_append]; rfl) (by rw [List.take_length]; exact he)
 simpa using this
theorem TA {α β : Type} (g : α → β) (l : List α) (acc : List β) : l.foldl (fun b x=>b ++ [g x]) acc = acc ++ l.map g:=by
 induction l generalizing acc with
 | nil=>simp
 | cons x l ih=>simp [ih]
theorem Tp {α β T : Type} {f : List β × Int → Option (Fl (List β × Int) T)} (l : List α) (g : α → β) {t : T} (hn : l.length < 9223372036854775807)
  (h : ∀ i (hi : i < l.length),f ((l.take i).map g,(i : Int)) = some (.nx ((l.take i).map g ++ [g l[i]],wr ((i : Int) + 1)))) (he : f (l.map g,(l.length : Int)) = some (.ex t)) :
  ZB f ([],0) = some t:=by
 have e : ∀ m : List α,m.foldl (fun b x=>b ++ [g x]) [] = m.map g:=fun m=>by rw [TA]; rfl
 exact KF (f:=f) l (fun b i=>(b,i)) (fun b x=>b ++ [g x]) [] hn (fun i hi=>by simp only [e]; exact h i hi) (by simp only [e]; exact he)
theorem Wp {α : Type} {by_ : Nat} {l m : List α} (h : (l.length + m.length) * by_ ≤ 140737488355328) : app by_ l m = some (l ++ m):=by unfold app; rw [if_pos h]
theorem slc_ok {α : Type} {l : List α} {i j : Nat} (h : i ≤ j) (h2 : j ≤ l.length) : slc l (i : Int) (j : Int) = some ((l.take j).drop i):=by
 unfold slc; rw [if_pos (by omega)]; simp

@[simp] theorem vidx_cast {α : Type} {n : Nat} (v : Vector α n) (i : Nat) : vidx v (i : Int) = v[i]?:=by unfold vidx; simp
theorem wr_k {k : Int} (h : 0 ≤ k) (h2 : k < 9223372036854775807) : wr (k + 1) = k + 1:=WL (by omega)
def QH {α : Type} (Fm : α → Int → Option (α × Int)) (Fh : α → Int → Option Int) (x : α) (n : Nat) : Prop :=
 ∀ k : Int,0 ≤ k → k + n ≤ 4611686018427387904 → ∃ x',Fm x k = some (x',k + n) ∧ Fh x' k = some (k + n)
theorem TJ {α : Type} (Fm : List α → Int → Option (List α × Int)) (Fh : List α → Int → Option Int) (Lm : List α × Int × Int → Option (Fl (List α × Int × Int) (List α × Int))) (Lh : List α → Int × Int → Option (Fl (Int × Int) (Fl Int Int))) (mk : α → Nat)
  (hFm : ∀ l k,Fm l k = (ZB Lm (l,k,0) : Option (List α × Int)).bind fun j1=>some (j1.1,j1.2)) (hFh : ∀ l k,Fh l k = (ZB (Lh l) (k,0) : Option (Fl Int Int)).bind fun j1=>j1.el (fun s=>some s) (fun r=>some r))
  (l : List α) (hl : l.length ≤ 9223372036854775807)
  (hm : ∀ (l' : List α) (i : Nat) (k : Int) (hi : i < l'.length),l'[i] ∈ l → i < 9223372036854775807 → 0 ≤ k → k + mk l'[i] ≤ 4611686018427387904 → ∃ x',Lm (l',k,(i : Int)) = some (.nx (l'.set i x',k + mk l'[i],wr ((i : Int) + 1))) ∧
   ∀ (m : List α),m[i]? = some x' → Lh m (k,(i : Int)) = some (.nx (k + mk l'[i],wr ((i : Int) + 1))))
  (hme : ∀ (l' : List α) k,Lm (l',k,(l'.length : Int)) = some (.ex (l',k))) (hhe : ∀ (m : List α) k,Lh m (k,(m.length : Int)) = some (.ex (.nx k))) : QH Fm Fh l (l.map mk).sum:=by
 have aux : ∀ (n i : Nat) (l' : List α) (k : Int),i + n = l'.length → l'.length = l.length → l'.drop i = l.drop i → 0 ≤ k → k + (((l.drop i).map mk).sum : Nat) ≤ 4611686018427387904 →
   ∃ l'',ZB Lm (l',k,(i : Int)) = some (l'',k + (((l.drop i).map mk).sum : Nat)) ∧ l''.length = l'.length ∧ (∀ j,j < i → l''[j]? = l'[j]?) ∧ ZB (Lh l'') (k,(i : Int)) = some (.nx (k + (((l.drop i).map mk).sum : Nat))):=by
  intro n
  induction n with
  | zero =>
   intro i l' k hi hll hd h0 hk
   have hi : i = l'.length:=by omega
   subst hi
   have e : l.drop l'.length = []:=by rw [hll]; simp
   rw [e]
   refine ⟨l',?_,rfl,fun _ _=>rfl,?_⟩
   ·rw [Y3 (hme l' k)]; simp
   ·rw [Y3 (hhe l' k)]; simp
  | succ n ih =>
   intro i l' k hi hll hd h0 hk
   have hil : i < l'.length:=by omega
   have hil2 : i < l.length:=by omega
   have e1 : l'[i] = l[i]:=by
    have h1:=List.drop_eq_getElem_cons hil
    have h2:=List.drop_eq_getElem_cons hil2
    rw [h1,h2] at hd
    exact (List.cons.inj hd).1
   have e2 : l.drop i = l[i] :: l.drop (i + 1):=List.drop_eq_getElem_cons hil2
   rw [e2,List.map_cons,List.sum_cons] at hk ⊢
   obtain ⟨x',h1,h2⟩:=hm l' i k hil (by rw [e1]; exact List.getElem_mem hil2) (by omega) h0 (by rw [e1]; omega)
   rw [e1] at h1 h2
   rw [YQ (by omega)] at h1 h2
   obtain ⟨l'',k1,k2,k3,k4⟩:=ih (i + 1) (l'.set i x') (k + mk l[i]) (by simp; omega) (by simpa using hll) (by
    rw [List.drop_set_of_lt (by omega)]
    have h1:=List.drop_eq_getElem_cons hil
    rw [h1,e2] at hd
    exact (List.cons.inj hd).2) (by omega) (by omega)
   refine ⟨l'',?_,by simpa using k2,fun j hj=>?_,?_⟩
   ·rw [Xs h1,k1]; congr 2; omega
   ·rw [k3 j (by omega),List.getElem?_set_ne (by omega)]
   ·rw [Xs (h2 l'' (by rw [k3 i (by omega)]; simp [hil])),k4]; congr 2; omega
 intro k h0 hk
 obtain ⟨l'',k1,k2,k3,k4⟩:=aux l.length 0 l k (by omega) rfl rfl h0 (by simpa using hk)
 simp only [List.drop_zero] at k1 k4
 refine ⟨l'',?_,?_⟩
 ·rw [hFm]
  have : ZB Lm (l,k,0) = _:=k1
  rw [this]; rfl
 ·rw [hFh]
  have : ZB (Lh l'') (k,0) = _:=k4
  rw [this]; rfl
theorem Kn {α : Type} [Dat α] [Wt α] (mk : α → Nat) (c : Nat) (h : ∀ x,mk x ≤ c * (1 + Wt.wt x)) (l : List α) : (l.map mk).sum ≤ c * Wt.wt l:=by
 rw [Ve]
 induction l with
 | nil=>simp
 | cons x l ih =>
  have:=h x
  simp only [List.map_cons,List.sum_cons,List.length_cons]
  have e : c * (l.length + 1 + (Wt.wt x + (l.map Wt.wt).sum)) = c * (1 + Wt.wt x) + c * (l.length + (l.map Wt.wt).sum):=by
   rw [← Nat.mul_add]; congr 1; omega
  omega
theorem Ud (l : List UInt8) : Wt.wt l = l.length:=by
 rw [Ve]
 have : (l.map Wt.wt).sum = 0:=by
  induction l with
  | nil=>rfl
  | cons x l ih=>rw [List.map_cons,List.sum_cons,ih]; rfl
 omega
theorem TI (l : List UInt8) (h : Wt.wt l ≤ 1048576) : YN l = some l:=by
 have:=VN l
 unfold YN
 have:=Us l (fun x=>some x) id 1 0 (X6 l) (fun s=>by unfold X6; rfl) (fun _ _=>rfl) (by omega) (by omega)
 simpa using this
theorem TO (l : List UInt8) (h : Wt.ln l) : YH l l = some true:=by
 unfold YH
 exact T1 l (fun x y=>some (x != y)) (X9 l l) (fun s=>by unfold X9; rfl) (fun x _=>by simp) (WQ h)
theorem TP (l : List UInt8) (h : Wt.ln l) : Vn Yl l :=
 Q1 (fun _=>rfl) Yl (fun left=>by unfold Yl; rfl) (WQ h)
theorem Qq (l : List UInt8) (h : Wt.ln l) : QH Z2 Xm l (l.map fun _=>1).sum :=
 TJ Z2 Xm ZT Y6 (fun _=>1) (fun _ _=>rfl) (fun _ _=>rfl) l (WQ h) (fun l' i k hi _ _ h0 hk=>by
  have e:=wr_k (k:=k) h0 (by omega)
  refine ⟨Xa k,?_,fun m hm=>?_⟩
  ·unfold ZT
   simp only [Int.ofNat_lt,hi,decide_true,if_true,ZI,List.getElem?_eq_getElem hi,Option.bind_some,Int.toNat_natCast,e]; rfl
  ·have hi':=(List.getElem?_eq_some_iff.1 hm).1
   unfold Y6
   simp only [Int.ofNat_lt,hi',decide_true,if_true,ZI,hm,Option.bind_some,bne_self_eq_false,Bool.false_eq_true,if_false,e]; rfl) (fun l' k=>by unfold ZT; simp) (fun m k=>by unfold Y6; simp)
theorem QS (l : List (List UInt8)) (h : Wt.wt l ≤ 1048576) : Yc l = some l:=by
 have:=VN l
 unfold Yc
 have:=Us l YN id 24 [] (XU l) (fun s=>by unfold XU; rfl) (fun x hx=>TI x (Nat.le_trans (Kl hx) h)) (by omega) (by omega)
 simpa using this
theorem QO (l : List (List UInt8)) (h : Wt.ln l) : Xy l l = some true:=by
 unfold Xy
 exact T1 l (fun x y=>(YH x y).bind fun r=>some (!r)) (XZ l l) (fun s=>by unfold XZ; rfl) (fun x hx=>by simp [TO x (VO h hx)]) (WQ h)
theorem QM (l : List (List UInt8)) (h : Wt.ln l) : Vn YR l :=
 Tc YR Yl (XX l) (fun s=>by unfold XX; rfl) (fun left=>by unfold YR; rfl) (WQ h) (fun x hx=>TP x (VO h hx))
instance : Wt GShare:=⟨fun x=>Wt.wt x.Data,fun x=>Wt.ln x.Data,fun x h=>Wt.bdln x.Data h.2,fun x h=>Wt.wtln x.Data h⟩
theorem Ku (x : GShare) (h : Wt.wt x ≤ 1048576) : Xi x = some x:=by
 unfold Xi
 rw [TI x.Data h]; rfl
theorem QQ (l : List GShare) (h : Wt.wt l ≤ 1048576) : Yb l = some l:=by
 have hl:=VN l
 unfold Yb
 have:=Us l Xi id 32 ⟨0,[]⟩ (X1 l) (fun s=>by unfold X1; rfl) (fun x hx=>Ku x (Nat.le_trans (Kl hx) h)) (by omega) (by omega)
 simpa using this
theorem Kv (x : GShare) (h : Wt.ln x) : Xj x x = some true:=by
 unfold Xj
 simp [TO x.Data h]
theorem Te (l : List GShare) (h : Wt.ln l) : Yd l l = some true:=by
 unfold Yd
 exact T1 l (fun x y=>(Xj x y).bind fun r=>some (!r)) (XT l l) (fun s=>by unfold XT; rfl) (fun x hx=>by simp [Kv x (VO h hx)]) (WQ h)
theorem Kt (x : GShare) (h : Wt.ln x) : Vn Xo x:=by
 intro left h1 h2
 obtain ⟨r,e1,e2,e3⟩:=TP x.Data h left h1 h2
 unfold Xo
 rw [e1]
 by_cases hr : r < 0
 ·exact ⟨-1,by simp [hr],by omega,by omega⟩
 ·exact ⟨r,by simp [hr],e2,e3⟩
theorem Q3 (l : List GShare) (h : Wt.ln l) : Vn YZ l :=
 Tc YZ Xo (X0 l) (fun s=>by unfold X0; rfl) (fun left=>by unfold YZ; rfl) (WQ h) (fun x hx=>Kt x (VO h hx))
def Xd (x : GShare) : Nat:=1 + (x.Data.map fun _=>1).sum
theorem Qj (l : List GShare) (h : Wt.ln l) : QH ZU Yq l (l.map Xd).sum :=
 TJ ZU Yq ZP YM Xd (fun _ _=>rfl) (fun _ _=>rfl) l (WQ h) (fun l' i k hi hx hib h0 hk=>by
  have hk' : k + 1 + ((l'[i].Data.map fun _=>1).sum : Nat) ≤ 4611686018427387904:=by unfold Xd at hk; omega
  have e:=wr_k (k:=k) h0 (by omega)
  obtain ⟨d',d1,d2⟩:=Qq l'[i].Data (VO h hx : Wt.ln l'[i]) (k + 1) (by omega) hk'
  have e2 : k + ((Xd l'[i] : Nat) : Int) = k + 1 + ((l'[i].Data.map fun _=>1).sum : Nat):=by unfold Xd; omega
  rw [e2]
  refine ⟨⟨Xa k,d'⟩,?_,fun m hm=>?_⟩
  ·unfold ZP
   have hi2 : i < (l'.set i (⟨Xa k,l'[i].Data⟩ : GShare)).length:=by simpa using hi
   simp only [Int.ofNat_lt,hi,decide_true,if_true,ZI,List.getElem?_eq_getElem hi,List.getElem?_eq_getElem hi2,Option.bind_some,Int.toNat_natCast,List.getElem_set_self,e,d1,List.set_set]
  ·have hi':=(List.getElem?_eq_some_iff.1 hm).1
   have e3 : ¬ (k + 1 + ((l'[i].Data.map fun _=>1).sum : Nat) < 0):=by omega
   unfold YM
   simp only [Int.ofNat_lt,hi',decide_true,if_true,ZI,hm,Option.bind_some,bne_self_eq_false,Bool.false_eq_true,if_false,e,d2,e3,decide_false]) (fun l' k=>by unfold ZP; simp) (fun m k=>by unfold YM; simp)
def T0 {α : Type} (Fm : α → Int → Option (α × Int)) (x : α) (n : Nat) : Prop :=
 ∀ k : Int,0 ≤ k → k + n ≤ 4611686018427387904 → ∃ x',Fm x k = some (x',k + n)
theorem T4 {α : Type} (Fm : List α → Int → Option (List α × Int)) (Lm : List α × Int × Int → Option (Fl (List α × Int × Int) (List α × Int))) (mk : α → Nat)
  (hFm : ∀ l k,Fm l k = (ZB Lm (l,k,0) : Option (List α × Int)).bind fun j1=>some (j1.1,j1.2)) (l : List α) (hl : l.length ≤ 9223372036854775807)
  (hm : ∀ (l' : List α) (i : Nat) (k : Int) (hi : i < l'.length),l'[i] ∈ l → i < 9223372036854775807 → 0 ≤ k → k + mk l'[i] ≤ 4611686018427387904 → ∃ x',Lm (l',k,(i : Int)) = some (.nx (l'.set i x',k + mk l'[i],wr ((i : Int) + 1))))
  (hme : ∀ (l' : List α) k,Lm (l',k,(l'.length : Int)) = some (.ex (l',k))) : T0 Fm l (l.map mk).sum:=by
 intro k h0 hk
 have aux : ∀ (n i : Nat) (l' : List α) (k : Int),i + n = l'.length → l'.length = l.length → l'.drop i = l.drop i → 0 ≤ k → k + (((l.drop i).map mk).sum : Nat) ≤ 4611686018427387904 →
   ∃ l'',ZB Lm (l',k,(i : Int)) = some (l'',k + (((l.drop i).map mk).sum : Nat)):=by
  intro n
  induction n with
  | zero =>
   intro i l' k hi hll hd h0 hk
   have hi : i = l'.length:=by omega
   subst hi
   have e : l.drop l'.length = []:=by rw [hll]; simp
   rw [e]
   exact ⟨l',by rw [Y3 (hme l' k)]; simp⟩
  | succ n ih =>
   intro i l' k hi hll hd h0 hk
   have hil : i < l'.length:=by omega
   have hil2 : i < l.length:=by omega
   have h1:=List.drop_eq_getElem_cons hil
   have e2 : l.drop i = l[i] :: l.drop (i + 1):=List.drop_eq_getElem_cons hil2
   rw [h1,e2] at hd
   have e1:=(List.cons.inj hd).1
   rw [e2,List.map_cons,List.sum_cons] at hk ⊢
   obtain ⟨x',h1⟩:=hm l' i k hil (by rw [e1]; exact List.getElem_mem hil2) (by omega) h0 (by rw [e1]; omega)
   rw [e1,YQ (by omega)] at h1
   obtain ⟨l'',k1⟩:=ih (i + 1) (l'.set i x') (k + mk l[i]) (by simp; omega) (by simpa using hll) (by
    rw [List.drop_set_of_lt (by omega)]
    exact (List.cons.inj hd).2) (by omega) (by omega)
   exact ⟨l'',by rw [Xs h1,k1]; congr 2; omega⟩
 obtain ⟨l'',k1⟩:=aux l.length 0 l k (by omega) rfl rfl h0 (by simpa using hk)
 simp only [List.drop_zero] at k1
 refine ⟨l'',?_⟩
 rw [hFm]
 have : ZB Lm (l,k,0) = _:=k1
 rw [this]; rfl
theorem Uy (l : List UInt8) (h : Wt.ln l) : T0 Z2 l (l.map fun _=>1).sum :=
 T4 Z2 ZT (fun _=>1) (fun _ _=>rfl) l (WQ h) (fun l' i k hi _ _ h0 hk=>by
  have e:=wr_k (k:=k) h0 (by omega)
  refine ⟨Xa k,?_⟩
  unfold ZT
  simp only [Int.ofNat_lt,hi,decide_true,if_true,ZI,List.getElem?_eq_getElem hi,Option.bind_some,Int.toNat_natCast,e]; rfl) (fun l' k=>by unfold ZT; simp)
theorem Qk (l : List GShare) (h : Wt.ln l) : T0 ZU l (l.map Xd).sum :=
 T4 ZU ZP Xd (fun _ _=>rfl) l (WQ h) (fun l' i k hi hx hib h0 hk=>by
  have hk' : k + 1 + ((l'[i].Data.map fun _=>1).sum : Nat) ≤ 4611686018427387904:=by unfold Xd at hk; omega
  have e:=wr_k (k:=k) h0 (by omega)
  obtain ⟨d',d1⟩:=Uy l'[i].Data (VO h hx : Wt.ln l'[i]) (k + 1) (by omega) hk'
  have e2 : k + ((Xd l'[i] : Nat) : Int) = k + 1 + ((l'[i].Data.map fun _=>1).sum : Nat):=by unfold Xd; omega
  rw [e2]
  refine ⟨⟨Xa k,d'⟩,?_⟩
  unfold ZP
  have hi2 : i < (l'.set i (⟨Xa k,l'[i].Data⟩ : GShare)).length:=by simpa using hi
  simp only [Int.ofNat_lt,hi,decide_true,if_true,ZI,List.getElem?_eq_getElem hi,List.getElem?_eq_getElem hi2,Option.bind_some,Int.toNat_natCast,List.getElem_set_self,e,d1,List.set_set]) (fun l' k=>by unfold ZP; simp)
theorem Q9 (l : List UInt8) : (l.map fun _=>1).sum = l.length:=by
 induction l with
 | nil=>rfl
 | cons x l ih=>rw [List.map_cons,List.sum_cons,ih,List.length_cons]; omega
theorem TU (n a b : Int) : YL n a b = some (decide (a ≤ n ∧ n ≤ b)):=by
 unfold YL
 by_cases h1 : a ≤ n <;> by_cases h2 : n ≤ b <;> simp [h1,h2]
theorem Kh (n a b : Int) : XV n a b = some (decide (a ≤ n ∧ n ≤ b)):=by
 unfold XV
 by_cases h1 : a ≤ n <;> by_cases h2 : n ≤ b <;> simp [h1,h2]
theorem Q8 {α : Type} (l : List α) (p : α → Option Bool) (q : α → Bool) (L : Int → Option (Fl Int (Fl Unit Int)))
  (hL : ∀ s,L s = if (decide (s < (l.length : Int))) = true then ((idx l s).bind fun x=>((p x)).bind fun r=>if r = true then (some (Fl.ex (Fl.ex s))) else (some (Fl.nx (wr (s + 1))))) else (some (Fl.ex (Fl.nx ()))))
  (hl : l.length < 9223372036854775807) (hp : ∀ x ∈ l,p x = some (q x)) :
  ((ZB L 0 : Option (Fl Unit Int)).bind fun j1=>j1.el (fun _=>some (-1)) (fun r=>some r)) = some (match l.findIdx? q with | some i=>(i : Int) | none=>-1):=by
 have h:=Qt (f:=L) l.length (fun i=>(l[i]?.map q).getD false) (fun i=>(i : Int)) hl (fun i hi=>by
  rw [hL]
  simp only [Int.ofNat_lt,hi,decide_true,if_true,ZI,List.getElem?_eq_getElem hi,Option.bind_some,Option.map_some,Option.getD_some,hp _ (List.getElem_mem hi)]
  split <;> rfl) (by rw [hL]; simp) 0 (Nat.zero_le _)
 have h3 : ZB L 0 = _:=h
 rw [h3]
 have key : (List.range' 0 (l.length - 0)).find? (fun i=>(l[i]?.map q).getD false) = l.findIdx? q:=by
  rw [Nat.sub_zero,← List.range_eq_range']
  clear h h3 hL hp hl
  induction l with
  | nil=>rfl
  | cons x l ih =>
   rw [List.length_cons,List.range_succ_eq_map,List.find?_cons,List.findIdx?_cons]
   simp only [List.getElem?_cons_zero,Option.map_some,Option.getD_some]
   cases q x with
   | true=>rfl
   | false =>
    simp only [Bool.false_eq_true,if_false]
    rw [List.find?_map,← ih]
    congr 1
 rw [key]
 cases l.findIdx? q <;> rfl
theorem K4 {α : Type} (l : List α) (q : α → Bool) : decide ((match l.findIdx? q with | some i=>(i : Int) | none=>-1) ≥ 0) = l.any q:=by
 rw [Bool.eq_iff_iff,decide_eq_true_eq]
 cases h : l.findIdx? q with
 | none =>
  have:=List.findIdx?_eq_none_iff.1 h
  simp
  exact this
 | some i =>
  have h2:=List.findIdx?_eq_some_iff_getElem.1 h
  obtain ⟨hi,hq,_⟩:=h2
  simp
  exact ⟨_,List.getElem_mem hi,hq⟩
theorem Q6 {α : Type} [Dat α] [Wt α] {f : α → Int → Option Int} {x : α} {left : Int} {G : Int → Option Bool} (hf : Vn f x) (h1 : 0 ≤ left) (h2 : left ≤ 1048576) (hG : ∀ r,0 ≤ r → r ≤ 1048576 → r + (Wt.wt x : Nat) ≤ left → G r = some true) :
  ((f x left).bind fun r=>if decide (r < 0) = true then some true else G r) = some true:=by
 obtain ⟨r,e1,e2,e3⟩:=hf left h1 h2
 rw [e1]
 by_cases hr : r < 0
 ·simp [hr]
 ·have:=hG r (by omega) e2 (e3 (by omega))
  simp [hr,this]
theorem Qh (a : Nat) (h : a < 9223372036854775808) : (BitVec.ofInt 64 (a : Int)).toNat = a:=by
 rw [BitVec.toNat_ofInt]
 omega
theorem Vp (a b : Nat) (ha : a < 9223372036854775808) (hb : b < 9223372036854775808) : Ug (a : Int) (b : Int) = ((a ^^^ b : Nat) : Int):=by
 unfold Ug
 rw [BitVec.toNat_xor,Qh a ha,Qh b hb]
 have : a ^^^ b < 2 ^ 63:=Nat.xor_lt_two_pow ha hb
 exact WL (by omega)
theorem K1 (a b : Nat) (ha : a < 9223372036854775808) (hb : b < 9223372036854775808) : andI (a : Int) (b : Int) = ((a &&& b : Nat) : Int):=by
 unfold andI
 rw [BitVec.toNat_and,Qh a ha,Qh b hb]
 have : a &&& b < 2 ^ 63:=Nat.and_lt_two_pow _ hb
 exact WL (by omega)
theorem VC (a i : Nat) (hi : i ≤ 63) (h : a <<< i < 9223372036854775808) : Vs (a : Int) (i : Int) = ((a <<< i : Nat) : Int):=by
 unfold Vs
 rw [show min ((i : Int)).toNat 64 = i by omega]
 have : ((a : Int) * 2 ^ i) = ((a <<< i : Nat) : Int):=by rw [Nat.shiftLeft_eq]; simp
 rw [this]
 generalize a <<< i = x at h ⊢
 exact WL (by omega)
theorem KS (a i : Nat) (hi : i ≤ 63) : QX (a : Int) (i : Int) = ((a >>> i : Nat) : Int):=by
 unfold QX
 rw [show min ((i : Int)).toNat 64 = i by omega,Nat.shiftRight_eq_div_pow,Int.fdiv_eq_ediv_of_nonneg _ (by exact_mod_cast Nat.zero_le _)]
 simp
theorem Qb (a i : Nat) : ((a >>> i) &&& 1 = 1) ↔ a.testBit i = true:=by
 rw [Nat.testBit,Nat.and_comm]
 have h:=Nat.and_one_is_mod (a >>> i)
 rw [Nat.and_comm] at h
 rw [h]
 rcases Nat.mod_two_eq_zero_or_one (a >>> i) with h | h <;> simp [h]
theorem tmod2 (a : Nat) : Int.tmod (a : Int) 2 = ((a % 2 : Nat) : Int):=by
 rw [Int.tmod_eq_emod_of_nonneg (by omega)]; simp
theorem tdiv2 (a : Nat) : Int.tdiv (a : Int) 2 = ((a / 2 : Nat) : Int):=by
 rw [Int.tdiv_eq_ediv_of_nonneg (by omega)]; simp
theorem Kf (a : Nat) (h : a < 9223372036854775808) : wr (a : Int) = (a : Int):=WL (by omega)
theorem wru_nn (a : Nat) (h : a < 9223372036854775808) : IntKind.u64.wrap (a : Int) = (a : Int):=by
 simp only [IntKind.wrap,IntKind.bits,IntKind.signed]
 simp
 omega

def ZQ (m deg : Nat) : Nat → Nat → Nat
 | 0,a=>a
 | k + 1,a=>ZQ m deg k (if a.testBit (deg + k) then a ^^^ (m <<< k) else a)
theorem VT {m k n : Nat} (h : m < 2 ^ n) : m <<< k < 2 ^ (n + k):=by
 rw [Nat.shiftLeft_eq,Nat.pow_add]
 exact Nat.mul_lt_mul_of_pos_right h (Nat.two_pow_pos _)
theorem Uf {a n : Nat} (h : a < 2 ^ (n + 1)) (hb : a.testBit n = false) : a < 2 ^ n:=by
 apply Nat.lt_pow_two_of_testBit
 intro i hi
 rcases Nat.eq_or_lt_of_le hi with rfl | hi
 ·exact hb
 ·exact Nat.testBit_lt_two_pow (Nat.lt_of_lt_of_le h (Nat.pow_le_pow_right (by omega) hi))
theorem Ki {m d : Nat} (h1 : 2 ^ d ≤ m) (h2 : m < 2 ^ (d + 1)) : m.testBit d = true:=by
 rw [Nat.testBit,Nat.shiftRight_eq_div_pow]
 have : m / 2 ^ d = 1:=by
  apply Nat.div_eq_of_lt_le
  ·simpa using h1
  ·rw [Nat.pow_succ] at h2; omega
 rw [this]; rfl
theorem Q5 {m d k a : Nat} (h1 : 2 ^ d ≤ m) (h2 : m < 2 ^ (d + 1)) (ha : a < 2 ^ (d + (k + 1))) (hb : a.testBit (d + k) = true) : a ^^^ (m <<< k) < 2 ^ (d + k):=by
 have hm : m <<< k < 2 ^ (d + (k + 1)):=by have:=VT (k:=k) h2; rwa [show d + 1 + k = d + (k + 1) by omega] at this
 refine Uf (Nat.xor_lt_two_pow (by rwa [show d + k + 1 = d + (k + 1) by omega]) (by rwa [show d + k + 1 = d + (k + 1) by omega])) ?_
 rw [Nat.testBit_xor,hb,Nat.testBit_shiftLeft]
 simp [Ki h1 h2]
theorem U3 {m d : Nat} (h1 : 2 ^ d ≤ m) (h2 : m < 2 ^ (d + 1)) : ∀ (k a : Nat),a < 2 ^ (d + k) → ZQ m d k a < 2 ^ d
 | 0,a,h=>by simpa [ZQ] using h
 | k + 1,a,h=>by
  unfold ZQ
  cases hb : a.testBit (d + k) with
  | true=>simp only [if_true]; exact U3 h1 h2 k _ (Q5 h1 h2 h hb)
  | false=>simp only [Bool.false_eq_true,if_false]; exact U3 h1 h2 k a (Uf h hb)
theorem W5 (m d : Nat) : ∀ (k a b : Nat),ZQ m d k (a ^^^ b) = ZQ m d k a ^^^ ZQ m d k b
 | 0,_,_=>rfl
 | k + 1,a,b=>by
  simp only [ZQ]
  rw [Nat.testBit_xor]
  cases a.testBit (d + k) <;> cases b.testBit (d + k) <;> simp only [Bool.xor_false,Bool.false_xor,Bool.xor_self,Bool.xor_true,Bool.not_false,Bool.not_true,Bool.false_eq_true,if_true,if_false]
  ·exact W5 m d k a b
  ·rw [Nat.xor_assoc]; exact W5 m d k a _
  ·rw [← W5 m d k]; congr 1; rw [Nat.xor_assoc,Nat.xor_comm b,← Nat.xor_assoc]
  ·rw [← W5 m d k]; congr 1
   rw [Nat.xor_assoc,← Nat.xor_assoc (m <<< k),Nat.xor_comm (m <<< k) b,Nat.xor_assoc,Nat.xor_self,Nat.xor_zero]
theorem WC {m d : Nat} : ∀ (k a : Nat),a < 2 ^ d → ZQ m d k a = a
 | 0,_,_=>rfl
 | k + 1,a,h=>by
  unfold ZQ
  rw [Nat.testBit_lt_two_pow (Nat.lt_of_lt_of_le h (Nat.pow_le_pow_right (by omega) (by omega)))]
  simp only [Bool.false_eq_true,if_false]
  exact WC k a h
theorem TS {m d k a : Nat} (h : a < 2 ^ (d + k)) : ZQ m d (k + 1) a = ZQ m d k a:=by
 conv=>lhs; unfold ZQ
 rw [Nat.testBit_lt_two_pow h]; rfl
theorem Vl (m d : Nat) : ∀ (k x : Nat),ZQ m d (k + 1) (x <<< 1) = (if ((ZQ m d k x) <<< 1).testBit d then ((ZQ m d k x) <<< 1) ^^^ m else (ZQ m d k x) <<< 1)
 | 0,x=>by simp [ZQ]
 | k + 1,x=>by
  conv=>lhs; unfold ZQ
  conv=>rhs; unfold ZQ
  have e : (x <<< 1).testBit (d + (k + 1)) = x.testBit (d + k):=by
   rw [Nat.testBit_shiftLeft]
   have : d + (k + 1) ≥ 1:=by omega
   simp only [this,decide_true,Bool.true_and]
   congr 1
  rw [e]
  cases x.testBit (d + k) with
  | false=>simp only [Bool.false_eq_true,if_false]; exact Vl m d k x
  | true =>
   simp only [if_true]
   have e2 : x <<< 1 ^^^ m <<< (k + 1) = (x ^^^ m <<< k) <<< 1:=by
    rw [Nat.shiftLeft_xor_distrib,← Nat.shiftLeft_add]
   rw [e2]
   exact Vl m d k _

def W7 (n : Nat) : Nat:=if n = 0 then 0 else n.log2 + 1
theorem KC (n : Nat) (h : 0 < n) : W7 n = W7 (n / 2) + 1:=by
 unfold W7
 rw [if_neg (by omega)]
 by_cases h2 : n / 2 = 0
 ·have : n = 1:=by omega
  subst this; rfl
 ·rw [if_neg h2]
  conv=>lhs; rw [Nat.log2_def]
  rw [if_pos (by omega)]
theorem US {n p : Nat} (h1 : 2 ^ p ≤ n) (h2 : n < 2 ^ (p + 1)) : W7 n = p + 1:=by
 have h0 : n ≠ 0:=by have:=Nat.two_pow_pos p; omega
 unfold W7
 rw [if_neg h0,(Nat.log2_eq_iff h0).2 ⟨h1,h2⟩]
theorem K9 {n p : Nat} (h : n < 2 ^ p) : W7 n ≤ p:=by
 unfold W7
 split
 ·omega
 ·rename_i h0
  have:=(Nat.log2_lt h0).2 h
  omega
theorem VA (n : Nat) (h : n < 9223372036854775808) : Yg (n : Int) = some ((W7 n : Nat) : Int):=by
 have key : ∀ (f n c : Nat),n < 2 ^ f → f ≤ 63 → c + f ≤ 1000 → ZB ZV ((n : Int),(c : Int)) = some ((c + W7 n : Nat) : Int):=by
  intro f
  induction f with
  | zero =>
   intro n c hn _ _
   have : n = 0:=by simpa using hn
   subst this
   rw [Y3 (t:=(c : Int))]
   ·simp [W7]
   ·unfold ZV; simp
  | succ f ih =>
   intro n c hn hf hc
   by_cases h0 : n = 0
   ·subst h0
    rw [Y3 (t:=(c : Int))]
    ·simp [W7]
    ·unfold ZV; simp
   ·have hp : 0 < n:=by omega
    have hlt : n < 9223372036854775808:=Nat.lt_of_lt_of_le hn (Nat.pow_le_pow_right (by omega : 0 < 2) hf)
    have hst : ZV ((n : Int),(c : Int)) = some (.nx (((n / 2 : Nat) : Int),((c + 1 : Nat) : Int))):=by
     unfold ZV
     have : (n : Int) > 0:=by omega
     simp only [this,decide_true,if_true,tdiv2]
     rw [Kf _ (by omega),YQ (by omega)]
    rw [Xs hst,ih (n / 2) (c + 1) (by rw [Nat.pow_succ] at hn; omega) (by omega) (by omega),KC n hp]
    congr 2; omega
 unfold Yg
 have:=key 63 n 0 h (by omega) (by omega)
 have h2 : ZB ZV ((n : Int),0) = _:=this
 rw [h2]
 simp
theorem Kp (a b d k : Nat) (hd : d ≤ 20) (hk : k ≤ 20) (h1 : 2 ^ d ≤ b) (h2 : b < 2 ^ (d + 1)) (ha : a < 2 ^ (d + k)) : XP (a : Int) (b : Int) = some ((ZQ b d k a : Nat) : Int):=by
 have big : ∀ n,n ≤ 62 → ∀ x : Nat,x < 2 ^ n → x < 9223372036854775808:=fun n hn x hx=>Nat.lt_of_lt_of_le hx (Nat.pow_le_pow_right (by omega : 0 < 2) (by omega : n ≤ 63))
 have key : ∀ (k a : Nat),k ≤ 20 → a < 2 ^ (d + k) → ZB (YS (b : Int) ((d + 1 : Nat) : Int)) ((a : Int),((W7 a : Nat) : Int)) = some ((ZQ b d k a : Nat) : Int):=by
  intro k
  induction k with
  | zero =>
   intro a _ ha
   have hl:=K9 (p:=d) ha
   rw [Y3 (t:=(a : Int))]
   ·rfl
   ·unfold YS
    have : ¬ (((W7 a : Nat) : Int) ≥ ((d + 1 : Nat) : Int)):=by omega
    simp only [this,decide_false,Bool.false_eq_true,if_false]
  | succ k ih =>
   intro a hk ha
   cases hb : a.testBit (d + k) with
   | false =>
    have ha':=Uf (by rwa [show d + k + 1 = d + (k + 1) by omega]) hb
    rw [ih a (by omega) ha',TS ha']
   | true =>
    have hge : 2 ^ (d + k) ≤ a:=Nat.ge_two_pow_of_testBit hb
    have hl : W7 a = d + k + 1:=US hge (by rwa [show d + k + 1 = d + (k + 1) by omega])
    have hx:=Q5 h1 h2 ha hb
    have hshl : b <<< k < 2 ^ (d + 1 + k):=VT h2
    have hst : YS (b : Int) ((d + 1 : Nat) : Int) ((a : Int),((W7 a : Nat) : Int)) = some (.nx (((a ^^^ b <<< k : Nat) : Int),((W7 (a ^^^ b <<< k) : Nat) : Int))):=by
     unfold YS
     have c1 : ((W7 a : Nat) : Int) ≥ ((d + 1 : Nat) : Int):=by rw [hl]; omega
     have c2 : IntKind.u64.wrap (wr (((W7 a : Nat) : Int) - ((d + 1 : Nat) : Int))) = ((k : Nat) : Int):=by
      rw [hl,show ((d + k + 1 : Nat) : Int) - ((d + 1 : Nat) : Int) = ((k : Nat) : Int) by omega,Kf _ (by omega),wru_nn _ (by omega)]
     simp only [c1,decide_true,if_true,c2]
     have c3 : Yi ((k : Nat) : Int) = some ():=by unfold Yi; rw [if_pos (by omega)]
     rw [c3,VC b k (by omega) (big _ (by omega) _ hshl),Vp a _ (big _ (by omega) _ ha) (big _ (by omega) _ hshl)]
     simp only [Option.bind_some]
     rw [VA _ (big _ (by omega) _ hx)]
     rfl
    rw [Xs hst,ih _ (by omega) hx]
    conv=>rhs; unfold ZQ
    rw [hb]; rfl
 unfold XP
 rw [VA b (big _ (by omega) _ h2),VA a (big _ (by omega) _ ha)]
 simp only [Option.bind_some]
 rw [US h1 h2,key k a hk ha]
 rfl
theorem KZ (a m d : Nat) (hd : d ≤ 15) (ha : a < 2 ^ 16) (hm : m < 2 ^ 20) : Xp (a : Int) (m : Int) (d : Int) = some ((ZQ m d (16 - d) a : Nat) : Int):=by
 have key : ∀ (k a : Nat),d + k ≤ 16 → a < 2 ^ 40 → ZB (Z7 (m : Int) (d : Int)) ((a : Int),((d + k : Nat) : Int) - 1) = some ((ZQ m d k a : Nat) : Int):=by
  intro k
  induction k with
  | zero =>
   intro a _ _
   rw [Y3 (t:=(a : Int))]
   ·rfl
   ·unfold Z7
    have : ¬ (((d + 0 : Nat) : Int) - 1 ≥ (d : Int)):=by omega
    simp only [this,decide_false,Bool.false_eq_true,if_false]
  | succ k ih =>
   intro a hk ha
   have e0 : ((d + (k + 1) : Nat) : Int) - 1 = ((d + k : Nat) : Int):=by omega
   have hsh : m <<< k < 2 ^ (20 + k):=VT hm
   have hsh2 : m <<< k < 2 ^ 40:=Nat.lt_of_lt_of_le hsh (Nat.pow_le_pow_right (by omega) (by omega))
   have hst : Z7 (m : Int) (d : Int) ((a : Int),((d + (k + 1) : Nat) : Int) - 1) = some (.nx (((if a.testBit (d + k) then a ^^^ (m <<< k) else a : Nat) : Int),((d + k : Nat) : Int) - 1)):=by
    rw [e0]
    unfold Z7
    have c1 : ((d + k : Nat) : Int) ≥ (d : Int):=by omega
    have c2 : Yi ((d + k : Nat) : Int) = some ():=by unfold Yi; rw [if_pos (by omega)]
    have c3 : wr (((d + k : Nat) : Int) - (d : Int)) = ((k : Nat) : Int):=by rw [show ((d + k : Nat) : Int) - (d : Int) = ((k : Nat) : Int) by omega,Kf _ (by omega)]
    have c4 : Yi ((k : Nat) : Int) = some ():=by unfold Yi; rw [if_pos (by omega)]
    have c5 : wr (((d + k : Nat) : Int) - 1) = ((d + k : Nat) : Int) - 1:=WL (by omega)
    simp only [c1,decide_true,if_true,c2,c3,c4,c5,Option.bind_some]
    have c6 : andI (QX (a : Int) ((d + k : Nat) : Int)) 1 = (((a >>> (d + k)) &&& 1 : Nat) : Int):=by
     rw [KS a (d + k) (by omega)]
     exact K1 _ 1 (Nat.lt_of_le_of_lt (Nat.shiftRight_le _ _) (by omega)) (by omega)
    rw [c6,VC m k (by omega) (by omega),Vp a _ (by omega) (by omega)]
    cases hb : a.testBit (d + k) with
    | true =>
     have:=(Qb a (d + k)).2 hb
     rw [this]; rfl
    | false =>
     have : ¬ ((a >>> (d + k)) &&& 1 = 1):=fun h=>by rw [(Qb a (d + k)).1 h] at hb; cases hb
     have h2 : (((((a >>> (d + k)) &&& 1 : Nat) : Int)) == 1) = false:=by
      rw [beq_eq_false_iff_ne]; omega
     rw [h2]; rfl
   rw [Xs hst,ih _ (by omega) ?_]
   ·conv=>rhs; unfold ZQ
   ·split
    ·exact Nat.xor_lt_two_pow ha hsh2
    ·exact ha
 unfold Xp
 have:=key (16 - d) a (by omega) (by omega)
 rw [show ((d + (16 - d) : Nat) : Int) - 1 = 15 by omega] at this
 rw [this]; rfl

def QP : Nat → Nat → Nat → Nat
 | 0,_,_=>0
 | n + 1,a,b=>(if b % 2 = 1 then a else 0) ^^^ QP n (a <<< 1) (b / 2)
theorem Uq : ∀ (n a : Nat),QP n a 0 = 0
 | 0,_=>rfl
 | n + 1,a=>by simp [QP,Uq n]
def prC : Nat → Nat → Nat → Nat
 | 0,_,_=>0
 | i + 1,a,b=>prC i a b ^^^ (if b.testBit i then a <<< i else 0)
theorem Qr : ∀ (n a b : Nat),prC (n + 1) a b = (if b % 2 = 1 then a else 0) ^^^ prC n (a <<< 1) (b / 2)
 | 0,a,b=>by
  simp only [prC,Nat.zero_xor,Nat.xor_zero,Nat.shiftLeft_zero]
  have : b.testBit 0 = decide (b % 2 = 1):=by simp [Nat.testBit_zero]
  rw [this]; simp
 | n + 1,a,b=>by
  conv=>lhs; unfold prC
  rw [Qr n a b]
  conv=>rhs; unfold prC
  rw [← Nat.xor_assoc]
  congr 1
  rw [Nat.testBit_succ,← Nat.shiftLeft_add,Nat.add_comm 1 n]
theorem KV : ∀ (n a b : Nat),prC n a b = QP n a b
 | 0,_,_=>rfl
 | n + 1,a,b=>by rw [Qr,KV n]; rfl
theorem QR (a b : Nat) (h : a < 256) : ∀ i,i ≤ 8 → prC i a b < 2 ^ 16
 | 0,_=>by simp [prC]
 | i + 1,hi=>by
  unfold prC
  have h1 : a <<< i < 2 ^ (8 + i):=VT h
  have h2 : 2 ^ (8 + i) ≤ 2 ^ 16:=Nat.pow_le_pow_right (by omega) (by omega)
  refine Nat.xor_lt_two_pow (QR a b h i (by omega)) ?_
  split
  ·omega
  ·omega
def Qd (m : Nat) (a b : UInt8) : UInt8:=Xa ((ZQ m 8 8 (QP 8 a.toNat b.toNat) : Nat) : Int)
theorem TB (m : Nat) (hm : m < 512) (a b : UInt8) : ZO (m : Int) a b = some (Qd m a b):=by
 have ha : a.toNat < 256:=a.toNat_lt
 have hb : b.toNat < 256:=b.toNat_lt
 have h:=Y1 (f:=ZD a b) (fun i : Nat=>(((prC i a.toNat b.toNat : Nat) : Int),(i : Int))) 0 8 (Nat.zero_le _) (t:=((prC 8 a.toNat b.toNat : Nat) : Int)) (fun i _ hi=>by
  unfold ZD
  have c1 : ((i : Int) < 8):=by omega
  have c2 : Yi (i : Int) = some ():=by unfold Yi; rw [if_pos (by omega)]
  have c3 : prC i a.toNat b.toNat < 2 ^ 16:=QR _ _ ha i (by omega)
  have c4 : a.toNat <<< i < 2 ^ (8 + i):=VT ha
  have c5 : 2 ^ (8 + i) ≤ 2 ^ 16:=Nat.pow_le_pow_right (by omega) (by omega)
  have c6 : (((Qc b (i : Int)) &&& 1) == 1) = b.toNat.testBit i:=by
   have e1 : (Qc b (i : Int)).toNat = b.toNat >>> i:=by
    unfold Qc Xa
    rw [show min ((i : Int)).toNat 8 = i by omega,Int.fdiv_eq_ediv_of_nonneg _ (by exact_mod_cast Nat.zero_le _)]
    have : ((b.toNat : Int) / 2 ^ i) = ((b.toNat >>> i : Nat) : Int):=by rw [Nat.shiftRight_eq_div_pow]; simp
    rw [this]
    have h3 : b.toNat >>> i ≤ b.toNat:=Nat.shiftRight_le _ _
    generalize b.toNat >>> i = q at h3 ⊢
    have h4 : (((q : Nat) : Int) % 256).toNat = q:=by omega
    rw [h4]
    simp
    omega
   rw [Bool.eq_iff_iff,beq_iff_eq,← Qb,← UInt8.toNat_inj,UInt8.toNat_and,e1]
   simp
  simp only [c1,decide_true,if_true,c2,Option.bind_some,c6,YQ (show i < 9223372036854775807 by omega)]
  rw [VC _ i (by omega) (by omega),Vp _ _ (by omega) (by omega)]
  cases hbit : b.toNat.testBit i with
  | true=>simp [prC,hbit]
  | false=>simp [prC,hbit]) (by unfold ZD; simp)
 have h2 : ZB (ZD a b) (0,0) = _:=h
 unfold ZO
 rw [h2]
 simp only [Option.bind_some]
 have h3:=KZ (prC 8 a.toNat b.toNat) m 8 (by omega) (QR _ _ ha 8 (by omega)) (by omega)
 have h4 : Xp ((prC 8 a.toNat b.toNat : Nat) : Int) (m : Int) 8 = _:=h3
 rw [h4,KV]
 rfl
theorem QV (m : Nat) (hm : m < 512) (hm2 : 256 ≤ m) (a b : UInt8) : Xu (m : Int) a b = some (Qd m a b):=by
 have ha : a.toNat < 256:=a.toNat_lt
 have hb : b.toNat < 256:=b.toNat_lt
 have h1 : 2 ^ 8 ≤ m:=hm2
 have h2 : m < 2 ^ (8 + 1):=hm
 have hR : ∀ i,i ≤ 8 → ZQ m 8 8 (a.toNat <<< i) < 256:=fun i hi=>U3 h1 h2 8 _ (by
  have:=VT (k:=i) (show a.toNat < 2 ^ 8 from ha)
  exact Nat.lt_of_lt_of_le this (Nat.pow_le_pow_right (by omega) (by omega)))
 have hdbl : ∀ i,i ≤ 7 → ZQ m 8 8 (a.toNat <<< (i + 1)) = if 256 ≤ (ZQ m 8 8 (a.toNat <<< i)) * 2 then (ZQ m 8 8 (a.toNat <<< i)) * 2 ^^^ m else (ZQ m 8 8 (a.toNat <<< i)) * 2:=by
  intro i hi
  have hx : a.toNat <<< i < 2 ^ (8 + 7):=Nat.lt_of_lt_of_le (VT (show a.toNat < 2 ^ 8 from ha)) (Nat.pow_le_pow_right (by omega) (by omega))
  have e : a.toNat <<< (i + 1) = (a.toNat <<< i) <<< 1:=by rw [← Nat.shiftLeft_add]
  rw [e,Vl m 8 7,← TS hx]
  have hlt:=hR i (by omega)
  generalize ZQ m 8 8 (a.toNat <<< i) = y at hlt ⊢
  have e2 : y <<< 1 = y * 2:=by rw [Nat.shiftLeft_eq]
  rw [e2]
  have e3 : (y * 2).testBit 8 = decide (256 ≤ y * 2):=by
   by_cases hy : 256 ≤ y * 2
   ·rw [Ki (d:=8) hy (by omega)]; simp [hy]
   ·rw [Nat.testBit_lt_two_pow (by omega : y * 2 < 2 ^ 8)]; simp [hy]
  rw [e3]
  by_cases hy : 256 ≤ y * 2 <;> simp [hy]
 have key : ∀ (n i o r : Nat),i + n ≤ 8 → r < 2 ^ n → o < 256 → ZB (Z0 (m : Int)) ((o : Int),((ZQ m 8 8 (a.toNat <<< i) : Nat) : Int),(r : Int)) = some ((o ^^^ ZQ m 8 8 (QP n (a.toNat <<< i) r) : Nat) : Int):=by
  intro n
  induction n with
  | zero =>
   intro i o r _ hr ho
   have : r = 0:=by simpa using hr
   subst this
   rw [Y3 (t:=(o : Int))]
   ·rw [Uq,WC 8 0 (by omega),Nat.xor_zero]
   ·unfold Z0; simp
  | succ n ih =>
   intro i o r hi hr ho
   by_cases h0 : r = 0
   ·subst h0
    rw [Y3 (t:=(o : Int))]
    ·rw [Uq,WC 8 0 (by omega),Nat.xor_zero]
    ·unfold Z0; simp
   ·have hy:=hR i (by omega)
    have hst : Z0 (m : Int) ((o : Int),((ZQ m 8 8 (a.toNat <<< i) : Nat) : Int),(r : Int)) = some (.nx (((o ^^^ ZQ m 8 8 (if r % 2 = 1 then a.toNat <<< i else 0) : Nat) : Int),((ZQ m 8 8 (a.toNat <<< (i + 1)) : Nat) : Int),((r / 2 : Nat) : Int))):=by
     rw [hdbl i (by omega)]
     unfold Z0
     have c1 : (r : Int) > 0:=by omega
     have hr2 : r < 512:=Nat.lt_of_lt_of_le hr (Nat.le_trans (Nat.pow_le_pow_right (by omega) (by omega : n + 1 ≤ 9)) (by omega))
     simp only [c1,decide_true,if_true,tmod2,tdiv2]
     have e1 : wr (((ZQ m 8 8 (a.toNat <<< i) : Nat) : Int) * 2) = (((ZQ m 8 8 (a.toNat <<< i)) * 2 : Nat) : Int):=by rw [WL (by omega)]; omega
     have e2 : wr ((r / 2 : Nat) : Int) = ((r / 2 : Nat) : Int):=Kf _ (by omega)
     rw [e1,e2,Vp _ _ (by omega) (by omega),Vp _ _ (by omega) (by omega)]
     have e3 : ((((r % 2 : Nat) : Int)) == 1) = decide (r % 2 = 1):=by
      rw [Bool.eq_iff_iff,beq_iff_eq,decide_eq_true_eq]; omega
     rw [e3]
     have e4 : decide ((((ZQ m 8 8 (a.toNat <<< i)) * 2 : Nat) : Int) ≥ 256) = decide (256 ≤ (ZQ m 8 8 (a.toNat <<< i)) * 2):=by rw [decide_eq_decide]; omega
     rw [e4]
     have e5 : ZQ m 8 8 0 = 0:=WC 8 0 (by omega)
     by_cases c2 : r % 2 = 1 <;> by_cases c3 : 256 ≤ (ZQ m 8 8 (a.toNat <<< i)) * 2 <;> simp only [c2,c3,decide_true,decide_false,Bool.false_eq_true,if_true,if_false,Option.bind_some,e5,Nat.xor_zero]
    rw [Xs hst,ih (i + 1) _ (r / 2) (by omega) (by rw [Nat.pow_succ] at hr; omega) ?_]
    ·conv=>rhs; unfold QP
     rw [W5,Nat.xor_assoc,Nat.shiftLeft_add]
    ·refine Nat.xor_lt_two_pow (n:=8) ho ?_
     split
     ·exact hR i (by omega)
     ·rw [WC 8 0 (by omega)]; omega
 have:=key 8 0 0 b.toNat (by omega) hb (by omega)
 rw [Nat.shiftLeft_zero,WC 8 a.toNat ha,Nat.zero_xor] at this
 have h3 : ZB (Z0 (m : Int)) (0,bI a,bI b) = _:=this
 unfold Xu
 rw [h3]
 rfl

def UL (m d : Nat) : Bool:=ZQ d (W7 d - 1) (16 - (W7 d - 1)) m == 0
def Xz (m : Int) : Bool:=decide (256 ≤ m ∧ m ≤ 511) && !((List.range' 2 30).any (UL m.toNat))
theorem QG (m : Int) : XB m = some (Xz m):=by
 unfold XB Xz
 rw [Kh]
 by_cases hm : 256 ≤ m ∧ m ≤ 511
 ·obtain ⟨n,rfl⟩:=Int.eq_ofNat_of_zero_le (show 0 ≤ m by omega)
  have hn : n < 512:=by omega
  have h:=Un (f:=YB (n : Int)) 32 (UL n) false (by omega) 2 (by omega) (fun d h2 hd=>by
   unfold YB
   have c1 : (d : Int) < 32:=by omega
   have hp : ∃ p,p ≤ 4 ∧ 2 ^ p ≤ d ∧ d < 2 ^ (p + 1):=by
    refine ⟨d.log2,?_,Nat.log2_self_le (by omega),Nat.lt_log2_self⟩
    have:=(Nat.log2_lt (n:=d) (by omega)).2 (show d < 2 ^ 5 by omega)
    omega
   obtain ⟨p,h3,h4,h5⟩:=hp
   have hl:=US h4 h5
   rw [Kp n d p (16 - p) (by omega) (by omega) h4 h5 (by rw [show p + (16 - p) = 16 by omega]; omega)]
   simp only [c1,decide_true,if_true,Option.bind_some]
   unfold UL
   rw [hl,show p + 1 - 1 = p by omega]
   generalize ZQ d p (16 - p) n = q
   have : ((((q : Nat) : Int)) == 0) = (q == 0):=by rw [Bool.eq_iff_iff,beq_iff_eq,beq_iff_eq]; omega
   rw [this]
   cases q == 0 <;> simp) (by unfold YB; simp)
  have h2 : ZB (YB (n : Int)) 2 = _:=h
  rw [h2]
  simp only [hm,decide_true,and_self,Bool.not_true,Bool.false_eq_true,if_false,Option.bind_some,Bool.true_and,Int.toNat_natCast]
  cases (List.range' 2 30).any (UL n) <;> rfl
 ·simp [hm]
theorem KA (m : Int) : XM m = some (Xz m):=by
 unfold XM Xz
 rw [TU]
 by_cases hm : 256 ≤ m ∧ m ≤ 511
 ·obtain ⟨n,rfl⟩:=Int.eq_ofNat_of_zero_le (show 0 ≤ m by omega)
  have hn : n < 512:=by omega
  have inner : ∀ p : Nat,p ≤ 4 → ZB (YV (n : Int) (p : Int)) ((2 ^ p : Nat) : Int) = some (if (List.range' (2 ^ p) (2 ^ p)).any (UL n) then Fl.ex false else Fl.nx ()):=by
   intro p hp
   have c2 : Yi (p : Int) = some ():=by unfold Yi; rw [if_pos (by omega)]
   have hpow : 2 ^ p ≤ 2 ^ 4:=Nat.pow_le_pow_right (by omega) hp
   have hpp:=Nat.two_pow_pos p
   have c3 : Vs 2 (p : Int) = ((2 ^ (p + 1) : Nat) : Int):=by
    have:=VC 2 p (by omega) (by rw [Nat.shiftLeft_eq]; omega)
    rw [Nat.shiftLeft_eq] at this
    rw [show (2 : Int) = ((2 : Nat) : Int) from rfl,this,Nat.pow_succ,Nat.mul_comm]
   have h:=Un (f:=YV (n : Int) (p : Int)) (2 ^ (p + 1)) (UL n) false (by rw [Nat.pow_succ]; omega) (2 ^ p) (by rw [Nat.pow_succ]; omega) (fun d h4 h5=>by
    unfold YV
    have c1 : (d : Int) < ((2 ^ (p + 1) : Nat) : Int):=by omega
    have hd : d < 32:=by rw [Nat.pow_succ] at h5; omega
    have hl:=US h4 h5
    rw [c2,c3,KZ n d p (by omega) (by omega) (by omega)]
    simp only [c1,decide_true,if_true,Option.bind_some]
    unfold UL
    rw [hl,show p + 1 - 1 = p by omega]
    generalize ZQ d p (16 - p) n = q
    have : ((((q : Nat) : Int)) == 0) = (q == 0):=by rw [Bool.eq_iff_iff,beq_iff_eq,beq_iff_eq]; omega
    rw [this]
    cases q == 0 <;> simp) (by
     unfold YV
     rw [c2,c3]; simp)
   rw [show 2 ^ (p + 1) - 2 ^ p = 2 ^ p by rw [Nat.pow_succ]; omega] at h
   exact h
  have h:=Un (f:=YW (n : Int)) 5 (fun p=>(List.range' (2 ^ p) (2 ^ p)).any (UL n)) false (by omega) 1 (by omega) (fun p _ hp=>by
   unfold YW
   have c1 : (p : Int) ≤ 4:=by omega
   have c2 : Yi (p : Int) = some ():=by unfold Yi; rw [if_pos (by omega)]
   have c3 : Vs 1 (p : Int) = ((2 ^ p : Nat) : Int):=by
    have hpow : 2 ^ p ≤ 2 ^ 4:=Nat.pow_le_pow_right (by omega) (by omega)
    have:=VC 1 p (by omega) (by rw [Nat.shiftLeft_eq]; omega)
    rw [Nat.shiftLeft_eq,Nat.one_mul] at this
    exact this
   rw [c2,c3,inner p (by omega)]
   simp only [c1,decide_true,if_true,Option.bind_some]
   cases (List.range' (2 ^ p) (2 ^ p)).any (UL n) <;> rfl) (by unfold YW; simp)
  have h2 : ZB (YW (n : Int)) 1 = _:=h
  rw [h2]
  have e : ((List.range' 1 (5 - 1)).any fun p=>(List.range' (2 ^ p) (2 ^ p)).any (UL n)) = (List.range' 2 30).any (UL n):=by
   have e1 : List.range' 2 30 = List.range' 2 2 ++ (List.range' 4 4 ++ (List.range' 8 8 ++ List.range' 16 16)):=by decide
   have e2 : List.range' 1 (5 - 1) = [1,2,3,4]:=by decide
   rw [e1,e2]
   simp only [List.any_append,List.any_cons,List.any_nil,Bool.or_false,Nat.reducePow]
  rw [e]
  simp only [hm,decide_true,and_self,Bool.not_true,Bool.false_eq_true,if_false,Option.bind_some,Bool.true_and,Int.toNat_natCast]
  cases (List.range' 2 30).any (UL n) <;> rfl
 ·simp [hm]
theorem Uw {m : Int} (h : Xz m = true) : ∃ n : Nat,m = n ∧ 256 ≤ n ∧ n < 512:=by
 unfold Xz at h
 simp only [Bool.and_eq_true,decide_eq_true_eq] at h
 exact ⟨m.toNat,by omega,by omega,by omega⟩
def Yw (s : GShare) : Bool:=s.Place != 0 && decide (s.Data.length ≤ 100)
theorem QF (s : GShare) : XA s = some (Yw s):=by
 unfold XA Yw
 cases h : s.Place != 0 <;> simp <;> omega
theorem Ky (s : GShare) : XO s = some (Yw s):=by
 unfold XO Yw
 cases h : s.Place != 0 <;> simp <;> omega

def WO (l : List UInt8) : Bool:=decide l.Nodup
theorem TW (l : List UInt8) : ((List.range' 0 (l.length - 0)).any fun i=>(List.range' 0 (i - 0)).any fun k=>l[i]? == l[k]?) = !WO l:=by
 rw [Bool.eq_iff_iff,Wm]
 rw [WO,Bool.not_eq_true',decide_eq_false_iff_not]
 unfold List.Nodup
 rw [List.pairwise_iff_getElem]
 simp only [Wm,beq_iff_eq]
 constructor
 ·rintro ⟨i,_,hi,k,_,hk,h⟩ hn
  have hk' : k < l.length:=by omega
  rw [List.getElem?_eq_getElem hi,List.getElem?_eq_getElem hk'] at h
  exact hn k i hk' hi hk (by simpa using h.symm)
 ·intro h
  simp only [Classical.not_forall,ne_eq,Decidable.not_not] at h
  obtain ⟨k,i,hk,hi,hki,h⟩:=h
  exact ⟨i,Nat.zero_le _,hi,k,Nat.zero_le _,hki,by rw [List.getElem?_eq_getElem hi,List.getElem?_eq_getElem hk,h]⟩
theorem QZ (l : List UInt8) (h : l.length < 9223372036854775807) : Xv l = some (!WO l):=by
 unfold Xv
 have:=Uc (f:=YA l) l.length (fun i=>(List.range' 0 (i - 0)).any fun k=>l[i]? == l[k]?) true h (fun i hi=>by
  unfold YA
  have h2:=Uc (f:=YC l i) i (fun k=>l[i]? == l[k]?) true (by omega) (fun k hk=>by
   unfold YC
   have hk' : k < l.length:=by omega
   have e1 : decide ((k : Int) < (i : Int)) = true:=by simp; omega
   rw [e1]
   simp [List.getElem?_eq_getElem hi,List.getElem?_eq_getElem hk']
   split <;> rfl) (by unfold YC; simp) 0 (Nat.zero_le _)
  have h3 : ZB (YC l i) 0 = _:=h2
  simp only [Int.ofNat_lt,hi,decide_true,if_true,h3,Option.bind_some]
  cases (List.range' 0 (i - 0)).any fun k=>l[i]? == l[k]? <;> simp [Fl.el]) (by unfold YA; simp) 0 (Nat.zero_le _)
 have h3 : ZB (YA l) 0 = _:=this
 rw [h3,TW]
 cases WO l <;> simp [Fl.el]
theorem TD (l : List GShare) (h : l.length ≤ 140737488355327) : YG l = some (WO (l.map (·.Place))):=by
 unfold YG
 have:=Tp (f:=Yu l) l (·.Place) (t:=l.map (·.Place)) (by omega) (fun i hi=>by
  unfold Yu
  simp only [Int.ofNat_lt,hi,decide_true,if_true,ZI,List.getElem?_eq_getElem hi,Option.bind_some]
  rw [Wp (by simp; omega)]
  simp) (by unfold Yu; simp)
 rw [this]
 simp only [Option.bind_some]
 rw [QZ _ (by simp; omega)]
 simp
theorem Tu (l : List GShare) (h : l.length ≤ 140737488355327) : Ys l = some (l.map (·.Place)):=by
 unfold Ys
 have:=Tp (f:=Xe l) l (·.Place) (t:=l.map (·.Place)) (by omega) (fun i hi=>by
  unfold Xe
  simp only [Int.ofNat_lt,hi,decide_true,if_true,ZI,List.getElem?_eq_getElem hi,Option.bind_some]
  rw [Wp (by simp; omega)]
  simp) (by unfold Xe; simp)
 rw [this]; rfl

def V0 (l : List GShare) : Bool:=l.all fun s=>s.Data.length == (l.headD default).Data.length
def X2 (l : List GShare) : Int :=
 if !(l.all Yw) then 1 else if !(WO (l.map (·.Place))) then 1 else if l.length < 1 ∨ 12 < l.length then 2 else if !V0 l then 2 else 0
theorem Kx (l : List GShare) (h : l.length ≤ 140737488355327) : XS l = some (X2 l):=by
 unfold XS
 have h1:=TQ (f:=XC l) l (fun s=>!Yw s) (t:=(1 : Int)) (by omega) (fun i hi=>by
  unfold XC
  simp only [Int.ofNat_lt,hi,decide_true,if_true,ZI,List.getElem?_eq_getElem hi,Option.bind_some,QF]
  cases Yw l[i] <;> simp) (by unfold XC; simp)
 rw [h1,List.any_eq_not_all_not]
 simp only [Bool.not_not,X2]
 cases ha : l.all Yw with
 | false=>simp [Fl.el]
 | true =>
  simp only [Bool.not_true,Bool.false_eq_true,if_false,Option.bind_some,Fl.el,TD l h]
  cases hd : WO (l.map (·.Place)) with
  | false=>simp
  | true =>
   simp only [Bool.not_true,Bool.false_eq_true,if_false]
   by_cases hlen : l.length < 1
   ·have e : (l.length : Int) < 1:=by omega
    simp [hlen,e]
   ·by_cases hlen2 : 12 < l.length
    ·have e : ¬ ((l.length : Int) < 1):=by omega
     have e2 : (l.length : Int) > 12:=by omega
     simp [hlen2,e,e2]
    ·have e : ¬ ((l.length : Int) < 1):=by omega
     have e2 : ¬ ((l.length : Int) > 12):=by omega
     have h0 : 0 < l.length:=by omega
     have h2:=Uc (f:=YU l) l.length (fun i=>(l[i]?.getD default).Data.length != (l.headD default).Data.length) (2 : Int) (by omega) (fun i hi=>by
      unfold YU
      simp only [Int.ofNat_lt,hi,decide_true,if_true,ZI,Tt,List.getElem?_eq_getElem hi,List.getElem?_eq_getElem h0,Option.bind_some,Option.getD_some]
      have e3 : (l.headD default) = l[0]:=by cases l with | nil=>simp at h0 | cons x l=>rfl
      rw [e3]
      by_cases hq : l[i].Data.length = l[0].Data.length
      ·simp [hq]
      ·have : ¬ ((l[i].Data.length : Int) = l[0].Data.length):=by omega
       simp [hq,this]) (by unfold YU; simp) 1 (by omega)
     have h3 : ZB (YU l) 1 = _:=h2
     have key : ((List.range' 1 (l.length - 1)).any fun i=>(l[i]?.getD default).Data.length != (l.headD default).Data.length) = !V0 l:=by
      rw [Bool.eq_iff_iff,Wm,Bool.not_eq_true',V0,List.all_eq_false]
      constructor
      ·rintro ⟨i,_,hi,hne⟩
       refine ⟨l[i],List.getElem_mem hi,?_⟩
       simpa [List.getElem?_eq_getElem hi] using hne
      ·rintro ⟨x,hx,hne⟩
       obtain ⟨i,hi,rfl⟩:=List.mem_iff_getElem.1 hx
       refine ⟨i,?_,hi,by simpa [List.getElem?_eq_getElem hi] using hne⟩
       rcases Nat.eq_zero_or_pos i with rfl | hp
       ·exfalso; apply hne; cases l with | nil=>simp at h0 | cons x l=>simp
       ·exact hp
     rw [key] at h3
     rw [h3]
     simp [e,e2,hlen,hlen2]
     cases V0 l <;> simp
theorem TE (l : List GShare) : Yj l = some (l.length : Int):=rfl
theorem Vh (l : List GShare) (p : GShare → Option Bool) (q : GShare → Bool) (hl : l.length < 9223372036854775807) (hp : ∀ x ∈ l,p x = some (q x)) : Zw l p = some (l.any q):=by
 unfold Zw ZE
 rw [Q8 l p q _ (fun s=>by unfold ZN; rfl) hl hp]
 simp only [Option.bind_some,K4]
theorem TF (l : List UInt8) (c : UInt8) : decide (indexByte l c ≥ 0) = l.contains c:=by
 induction l with
 | nil=>rfl
 | cons b l ih =>
  have hge:=Lib.indexByte_ge l c
  show decide (Lib.indexByte (b :: l) c ≥ 0) = _
  unfold Lib.indexByte
  rw [List.contains_cons,← ih]
  by_cases hb : b = c
  ·subst hb; simp
  ·have hb' : (c == b) = false:=by simpa using fun h=>hb h.symm
   simp only [beq_eq_false_iff_ne.2 hb,hb',Bool.false_eq_true,if_false,Bool.false_or]
   rw [decide_eq_decide]
   show _ ↔ Lib.indexByte l c ≥ 0
   by_cases h1 : Lib.indexByte l c = -1
   ·simp [h1]
   ·rw [if_neg (by simpa using h1)]; omega
theorem Ti (l : List UInt8) (h : l.length < 9223372036854775807) : Yy l = some (WO l):=by
 unfold Yy
 have:=Uc (f:=Z1 l) l.length (fun i=>(l.take i).any fun x=>l[i]? == some x) false h (fun i hi=>by
  unfold Z1
  have e1 : slc l (0 : Int) (i : Int) = some (l.take i):=by have:=slc_ok (l:=l) (i:=0) (j:=i) (Nat.zero_le _) (by omega); simpa using this
  simp only [Int.ofNat_lt,hi,decide_true,if_true,ZI,List.getElem?_eq_getElem hi,Option.bind_some,e1]
  unfold XI
  simp only [Option.bind_some,TF]
  have e2 : (l.take i).contains l[i] = (l.take i).any fun x=>some l[i] == some x:=by
   rw [Bool.eq_iff_iff]; simp [List.any_eq_true]
  rw [e2]
  split <;> rfl) (by unfold Z1; simp) 0 (Nat.zero_le _)
 have h3 : ZB (Z1 l) 0 = _:=this
 have key : ((List.range' 0 (l.length - 0)).any fun i=>(l.take i).any fun x=>l[i]? == some x) = !WO l:=by
  rw [← TW,Bool.eq_iff_iff,Wm,Wm]
  refine exists_congr fun i=>and_congr_right fun _=>and_congr_right fun hi=>?_
  rw [Wm,List.any_eq_true]
  constructor
  ·rintro ⟨x,hx,h⟩
   obtain ⟨k,hk,rfl⟩:=List.mem_iff_getElem.1 hx
   have hk2 : k < i ∧ k < l.length:=by simp at hk; omega
   exact ⟨k,Nat.zero_le _,hk2.1,by rw [List.getElem?_eq_getElem hk2.2]; simpa using h⟩
  ·rintro ⟨k,_,hk,h⟩
   have hkl : k < l.length:=by omega
   refine ⟨l[k],List.mem_iff_getElem.2 ⟨k,by simp; omega,by simp⟩,?_⟩
   rw [List.getElem?_eq_getElem hkl] at h; exact h
 rw [h3,key]
 cases WO l <;> simp [Fl.el]
theorem Q0 (l : List GShare) (h0 : 0 < l.length) (s : GShare) : YD s l = some (s.Data.length != (l.headD default).Data.length):=by
 unfold YD
 have e3 : (l.headD default) = l[0]:=by cases l with | nil=>simp at h0 | cons x l=>rfl
 simp only [Tt,List.getElem?_eq_getElem h0,Option.bind_some,e3]
 congr 1
 rw [Bool.eq_iff_iff]
 simp only [bne_iff_ne,ne_eq]
 omega
theorem KE (l : List GShare) (h : l.length < 9223372036854775807) : XN l = some (V0 l):=by
 unfold XN
 rw [Vh l _ (fun s=>s.Data.length != (l.headD default).Data.length) h (fun x hx=>Q0 l (List.length_pos_of_mem hx) x)]
 simp only [Option.bind_some,V0,List.any_eq_not_all_not]
 simp [bne]
def YP (m : Nat) (l : List UInt8) (x : UInt8) : UInt8:=l.foldr (fun a acc=>Qd m acc x ^^^ a) 0
def tab (n : Nat) (f : Nat → UInt8) : List UInt8:=(List.range n).map f
@[simp] theorem tab_len (n : Nat) (f : Nat → UInt8) : (tab n f).length = n:=by simp [tab]
theorem Ua {n i : Nat} (f : Nat → UInt8) (h : i < n) : (tab n f)[i]? = some (f i):=by simp [tab,h]
theorem Jk (n i : Nat) (f : Nat → UInt8) (v : UInt8) : (tab n f).set i v = tab n (fun j=>if j = i then v else f j):=by
 apply List.ext_getElem?
 intro j
 rw [List.getElem?_set]
 by_cases hj : j < n
 ·rw [Ua _ hj,Ua _ hj]
  by_cases h : i = j
  ·subst h; simp [hj]
  ·simp [h,Ne.symm h]
 ·rw [List.getElem?_eq_none (by simp; omega),List.getElem?_eq_none (by simp; omega)]
  simp
  omega
theorem QY {n : Nat} {f g : Nat → UInt8} (h : ∀ i,i < n → f i = g i) : tab n f = tab n g:=by
 unfold tab
 apply List.map_congr_left
 intro i hi
 exact h i (by simpa using hi)
theorem K0 (l : List UInt8) : l = tab l.length (fun i=>l.getD i 0):=by
 apply List.ext_getElem?
 intro i
 by_cases h : i < l.length
 ·rw [Ua _ h,List.getElem?_eq_getElem h]; simp [List.getD_eq_getElem?_getD,List.getElem?_eq_getElem h]
 ·rw [List.getElem?_eq_none (by omega),List.getElem?_eq_none (by simp; omega)]
theorem V4 {l : List UInt8} {i : Nat} (h : i < l.length) : l[i]? = some (l.getD i 0):=by simp [List.getD_eq_getElem?_getD,List.getElem?_eq_getElem h]
theorem K2 {n : Nat} (h : n ≤ 140737488355328) (x : UInt8) : mkS 1 x (n : Int) = some (List.replicate n x):=by
 unfold mkS; rw [if_pos (by omega)]; simp

section
variable {m : Nat} (h1 : 256 ≤ m) (h2 : m < 512)
include h1 h2
theorem QT (l : List UInt8) (x : UInt8) (hl : l.length ≤ 1000) : XD (m : Int) l x = some (YP m l x):=by
 have key : ∀ (k : Nat),k ≤ l.length → ZB (Yh (m : Int) l x) (YP m (l.drop k) x,(k : Int) - 1) = some (YP m l x):=by
  intro k
  induction k with
  | zero =>
   intro _
   rw [List.drop_zero]
   exact Y3 (by unfold Yh; simp)
  | succ k ih =>
   intro hk
   have hk' : k < l.length:=by omega
   have hst : Yh (m : Int) l x (YP m (l.drop (k + 1)) x,((k + 1 : Nat) : Int) - 1) = some (.nx (YP m (l.drop k) x,(k : Int) - 1)):=by
    unfold Yh
    have e : ((k + 1 : Nat) : Int) - 1 = (k : Int):=by omega
    have c : (k : Int) ≥ 0:=by omega
    have e2 : wr ((k : Int) - 1) = (k : Int) - 1:=WL (by omega)
    simp only [e,c,decide_true,if_true,ZI,List.getElem?_eq_getElem hk',Option.bind_some,QV m h2 h1,e2]
    congr 3
    conv=>rhs; rw [List.drop_eq_getElem_cons hk']
    rfl
   rw [Xs hst]
   exact ih (by omega)
 unfold XD
 have e : wr ((l.length : Int) - 1) = (l.length : Int) - 1:=WL (by omega)
 have:=key l.length (Nat.le_refl _)
 rw [List.drop_length] at this
 rw [e]
 have h3 : ZB (Yh (m : Int) l x) (0,(l.length : Int) - 1) = _:=this
 rw [h3]; rfl
end
def WH (m : Int) (l : List GShare) (t : Int) : Int:=if !Xz m then 1 else if X2 l == 0 && !decide (1 ≤ t ∧ t ≤ 8) then 2 else X2 l
theorem Kw (m : Int) (l : List GShare) (t : Int) (h : l.length ≤ 140737488355327) : XR m l t = some (WH m l t):=by
 unfold XR WH
 rw [QG]
 cases Xz m with
 | false=>simp
 | true =>
  simp only [Option.bind_some,Bool.not_true,Bool.false_eq_true,if_false,Kx l h]
  cases hc : X2 l == 0 with
  | false=>simp
  | true =>
   simp only [if_true,Kh,Option.bind_some,Bool.true_and]
   by_cases ht : 1 ≤ t ∧ t ≤ 8 <;> simp [ht]
theorem Tz (m : Int) (l : List GShare) (t : Int) (h : l.length ≤ 140737488355327) : YO m l t = some (WH m l t):=by
 unfold YO WH
 rw [KA,Vh l _ (fun s=>!Yw s) (by omega) (fun x _=>by unfold Yn; rw [Ky]; rfl),Tu l h]
 simp only [Option.bind_some]
 rw [Ti _ (by simp; omega),KE l (by omega),TE]
 have ea : (l.any fun s=>!Yw s) = !(l.all Yw):=by rw [List.any_eq_not_all_not]; simp
 simp only [ea,TU,Option.bind_some]
 by_cases c0 : Xz m = true
 ·by_cases c1 : l.all Yw = true
  ·by_cases c2 : WO (l.map (·.Place)) = true
   ·by_cases h1 : l.length < 1 ∨ 12 < l.length
    ·have e : ¬ ((1 : Int) ≤ l.length ∧ (l.length : Int) ≤ 12):=by omega
     have hc : X2 l = 2:=by unfold X2; rw [c1,c2,if_neg (by simp),if_neg (by simp),if_pos h1]
     rw [hc]
     simp [c0,c1,c2,e]
    ·have e : ((1 : Int) ≤ l.length ∧ (l.length : Int) ≤ 12):=by omega
     by_cases c3 : V0 l = true
     ·have hc : X2 l = 0:=by unfold X2; rw [c1,c2,c3,if_neg (by simp),if_neg (by simp),if_neg h1,if_neg (by simp)]
      rw [hc]
      by_cases ht : 1 ≤ t ∧ t ≤ 8 <;> simp [c0,c1,c2,c3,e,ht]
     ·have c3 : V0 l = false:=by simpa using c3
      have hc : X2 l = 2:=by unfold X2; simp [c1,c2,c3]
      rw [hc]
      simp [c0,c1,c2,c3,e]
   ·have c2 : WO (l.map (·.Place)) = false:=by simpa using c2
    have hc : X2 l = 1:=by unfold X2; simp [c1,c2]
    rw [hc]
    simp [c0,c1,c2]
  ·have c1 : l.all Yw = false:=by simpa using c1
   have hc : X2 l = 1:=by unfold X2; simp [c1]
   rw [hc]
   simp [c0,c1]
 ·have c0 : Xz m = false:=by simpa using c0
  simp [c0]
structure Good (l : List GShare) : Prop where
 share : ∀ s ∈ l,True ∧ s.Data.length ≤ 100
 diff : (l.map (·.Place)).Nodup
 len : 1 ≤ l.length ∧ l.length ≤ 13
 even : ∀ s ∈ l,s.Data.length = (l.headD default).Data.length
theorem Jj {l : List GShare} (h : X2 l = 0) : Good l:=by
 unfold X2 at h
 cases h1 : l.all Yw with
 | false=>simp [h1] at h
 | true =>
  cases h2 : WO (l.map (·.Place)) with
  | false=>simp [h1,h2] at h
  | true =>
   by_cases h3 : l.length < 1 ∨ 12 < l.length
   ·rw [h1,h2,if_neg (by simp),if_neg (by simp),if_pos h3] at h; cases h
   ·cases h4 : V0 l with
    | false=>simp [h1,h2,h4] at h
    | true =>
     refine ⟨fun s hs=>?_,by simpa [WO] using h2,by omega,fun s hs=>?_⟩
     ·have:=List.all_eq_true.1 h1 s hs
      unfold Yw at this
      simp only [Bool.and_eq_true,decide_eq_true_eq] at this
      exact ⟨trivial,this.2⟩
     ·have:=List.all_eq_true.1 h4 s hs
      simpa using this
theorem TM {m : Int} {l : List GShare} {t : Int} (h : WH m l t = 0) : Xz m = true ∧ Good l ∧ 1 ≤ t ∧ t ≤ 8:=by
 unfold WH at h
 cases h1 : Xz m with
 | false=>simp [h1] at h
 | true =>
  cases h2 : X2 l == 0 with
  | false =>
   simp [h1,h2] at h
   rw [h] at h2; simp at h2
  | true =>
   by_cases h3 : 1 ≤ t ∧ t ≤ 8
   ·exact ⟨rfl,Jj (by simpa using h2),h3⟩
   ·simp [h1,h2,h3] at h
theorem Good.take {l : List GShare} (h : Good l) {t : Nat} (h1 : 1 ≤ t) (h2 : t ≤ l.length) : Good (l.take t):=by
 have hd : (l.take t).headD default = l.headD default:=by
  cases l with
  | nil=>simp
  | cons x l=>cases t with
   | zero=>omega
   | succ t=>rfl
 refine ⟨fun s hs=>h.share s (List.mem_of_mem_take hs),?_,by rw [List.length_take]; have:=h.len; omega,fun s hs=>by rw [hd]; exact h.even s (List.mem_of_mem_take hs)⟩
 rw [List.map_take]
 exact (List.take_sublist _ _).nodup h.diff
theorem Good.at {l : List GShare} (h : Good l) {i : Nat} (hi : i < l.length) : l[i].Data.length = (l.headD default).Data.length:=h.even _ (List.getElem_mem hi)

def Wy (l : List GShare) : Nat:=(l.headD default).Data.length
def Wv (l : List GShare) : List UInt8:=l.map (·.Place)
theorem VU (l : List GShare) : (Wv l).length = l.length:=by simp [Wv]
theorem Vq (l : List GShare) : (l.map Xd).sum ≤ Wt.wt l:=by
 have:=Kn Xd 1 (fun x=>by
  unfold Xd
  have e : Wt.wt x = Wt.wt x.Data:=rfl
  rw [e,Ud,Q9]; omega) l
 omega
def addS (a b : GShare) : GShare:=⟨a.Place,List.zipWith (· ^^^ ·) a.Data b.Data⟩
def QW (a b : List GShare) : List GShare:=List.zipWith addS a b
theorem U7 {α β γ : Type} (f : α → β → γ) (a : List α) (b : List β) (i : Nat) (ha : i < a.length) (hb : i < b.length) : List.zipWith f (a.take (i + 1)) (b.take (i + 1)) = List.zipWith f (a.take i) (b.take i) ++ [f a[i] b[i]]:=by
 rw [List.take_succ_eq_append_getElem ha,List.take_succ_eq_append_getElem hb,List.zipWith_append (by simp; omega)]
 rfl
theorem Qg {α β γ : Type} (f : α → β → γ) (a : List α) (b : List β) (i : Nat) (ha : i ≤ a.length) (hb : i ≤ b.length) : (List.zipWith f (a.take i) (b.take i)).length = i:=by simp; omega
theorem KR (a b : List GShare) (hl : a.length = b.length) (ha : a.length ≤ 13) (hd : ∀ i (h1 : i < a.length) (h2 : i < b.length),a[i].Data.length = b[i].Data.length ∧ a[i].Data.length ≤ 100) : X5 a b = some (QW a b):=by
 unfold X5
 have h:=Y1 (f:=Xf a b) (fun i : Nat=>(List.zipWith addS (a.take i) (b.take i),(i : Int))) 0 a.length (Nat.zero_le _) (t:=QW a b) (fun i _ hi=>by
  unfold Xf
  have hi2 : i < b.length:=by omega
  obtain ⟨d1,d2⟩:=hd i hi hi2
  have h2:=Y1 (f:=Xg a b (List.zipWith addS (a.take i) (b.take i),(i : Int))) (fun j : Nat=>(List.zipWith (· ^^^ ·) (a[i].Data.take j) (b[i].Data.take j),(j : Int))) 0 a[i].Data.length (Nat.zero_le _) (t:=List.zipWith (· ^^^ ·) a[i].Data b[i].Data) (fun j _ hj=>by
   unfold Xg
   have hj2 : j < b[i].Data.length:=by omega
   simp only [ZI,List.getElem?_eq_getElem hi,List.getElem?_eq_getElem hi2,Option.bind_some,Int.ofNat_lt,hj,decide_true,if_true,List.getElem?_eq_getElem hj,List.getElem?_eq_getElem hj2,YQ (show j < 9223372036854775807 by omega)]
   rw [Wp (by rw [Qg _ _ _ _ (by omega) (by omega)]; simp; omega),U7 _ _ _ _ hj hj2]
   rfl) (by
    unfold Xg
    simp only [ZI,List.getElem?_eq_getElem hi,Option.bind_some,Int.ofNat_lt,Nat.lt_irrefl,decide_false,Bool.false_eq_true,if_false]
    rw [List.take_length,d1,List.take_length])
  have h3 : ZB (Xg a b (List.zipWith addS (a.take i) (b.take i),(i : Int))) ([],0) = _:=h2
  simp only [Int.ofNat_lt,hi,decide_true,if_true,ZI,List.getElem?_eq_getElem hi,Option.bind_some,h3,YQ (show i < 9223372036854775807 by omega)]
  rw [Wp (by rw [Qg _ _ _ _ (by omega) (by omega)]; simp; omega),U7 _ _ _ _ hi hi2]
  rfl) (by
   unfold Xf
   simp only [Int.ofNat_lt,Nat.lt_irrefl,decide_false,Bool.false_eq_true,if_false]
   rw [List.take_length,hl,List.take_length]; rfl)
 have h3 : ZB (Xf a b) ([],0) = _:=h
 rw [h3]; rfl
theorem Jb (a b : List GShare) (hl : a.length = b.length) (ha : a.length ≤ 13) (hd : ∀ i (h1 : i < a.length) (h2 : i < b.length),a[i].Data.length = b[i].Data.length ∧ a[i].Data.length ≤ 100) : Wh a b = some (QW a b):=by
 unfold Wh
 have h:=Y1 (f:=XF a b) (fun i : Nat=>((i : Int),List.zipWith addS (a.take i) (b.take i))) 0 a.length (Nat.zero_le _) (t:=QW a b) (fun i _ hi=>by
  unfold XF
  have hi2 : i < b.length:=by omega
  obtain ⟨d1,d2⟩:=hd i hi hi2
  have hcl : ZW a[i].Data = some a[i].Data:=by
   unfold ZW
   rw [Wp (by simp; omega)]; rfl
  have hz : List.zipWith (· ^^^ ·) a[i].Data b[i].Data = tab a[i].Data.length (fun j=>a[i].Data.getD j 0 ^^^ b[i].Data.getD j 0):=by
   apply List.ext_getElem?
   intro j
   by_cases hj : j < a[i].Data.length
   ·rw [Ua _ hj,List.getElem?_zipWith,V4 hj,V4 (by omega : j < b[i].Data.length)]
   ·rw [List.getElem?_eq_none (by simp; omega),List.getElem?_eq_none (by simp; omega)]
  have h2:=Y1 (f:=XE b ((i : Int),List.zipWith addS (a.take i) (b.take i)) a[i].Data) (fun j : Nat=>((j : Int),tab a[i].Data.length (fun q=>if q < j then a[i].Data.getD q 0 ^^^ b[i].Data.getD q 0 else a[i].Data.getD q 0))) 0 a[i].Data.length (Nat.zero_le _) (t:=List.zipWith (· ^^^ ·) a[i].Data b[i].Data) (fun j _ hj=>by
   unfold XE
   have hj2 : j < b[i].Data.length:=by omega
   simp only [Int.ofNat_lt,hj,decide_true,if_true,ZI,List.getElem?_eq_getElem hi2,Option.bind_some,Ua _ hj,V4 hj2,Jk,Int.toNat_natCast,YQ (show j < 9223372036854775807 by omega)]
   congr 3
   apply QY
   intro q hq
   by_cases c2 : q = j
   ·subst c2
    rw [if_pos rfl,if_neg (Nat.lt_irrefl q),if_pos (Nat.lt_succ_self q)]
   ·have d1 : (q < j + 1) ↔ (q < j):=by omega
    simp only [c2,if_false,d1]) (by
    unfold XE
    rw [hz]
    simp only [Int.ofNat_lt,Nat.lt_irrefl,decide_false,Bool.false_eq_true,if_false]
    congr 2
    apply QY
    intro q hq
    simp [hq])
  have e0 : a[i].Data = tab a[i].Data.length (fun q=>if q < 0 then a[i].Data.getD q 0 ^^^ b[i].Data.getD q 0 else a[i].Data.getD q 0):=by
   conv=>lhs; rw [K0 a[i].Data]
   apply QY
   intro q _
   simp
  rw [← e0] at h2
  have h3 : ZB (XE b ((i : Int),List.zipWith addS (a.take i) (b.take i)) a[i].Data) (0,a[i].Data) = _:=h2
  simp only [Int.ofNat_lt,hi,decide_true,if_true,ZI,List.getElem?_eq_getElem hi,Option.bind_some,hcl,h3,YQ (show i < 9223372036854775807 by omega)]
  rw [Wp (by rw [Qg _ _ _ _ (by omega) (by omega)]; simp; omega),U7 _ _ _ _ hi hi2]
  rfl) (by
   unfold XF
   simp only [Int.ofNat_lt,Nat.lt_irrefl,decide_false,Bool.false_eq_true,if_false]
   rw [List.take_length,hl,List.take_length]; rfl)
 have h3 : ZB (XF a b) (0,[]) = _:=h
 rw [h3]; rfl
theorem Qs (l : List GShare) (hl : l.length ≤ 140737488355327) : Xn l = some (Wv l):=by
 unfold Xn
 have:=Tp (f:=Y2 l) l (·.Place) (t:=l.map (·.Place)) (by omega) (fun i hi=>by
  unfold Y2
  simp only [Int.ofNat_lt,hi,decide_true,if_true,ZI,List.getElem?_eq_getElem hi,Option.bind_some]
  rw [Wp (by simp; omega)]
  simp) (by unfold Y2; simp)
 rw [this]; rfl
theorem idx0 (l : List GShare) (h : 0 < l.length) : idx l (0 : Int) = some l[0]:=by rw [Tt,List.getElem?_eq_getElem h]
theorem K8 (a b : List GShare) : Wt.wt (QW a b) ≤ Wt.wt a:=by
 unfold QW
 have key : ∀ (a b : List GShare),(List.zipWith addS a b).length + ((List.zipWith addS a b).map Wt.wt).sum ≤ a.length + (a.map Wt.wt).sum:=by
  intro a
  induction a with
  | nil=>intro b; simp
  | cons x a ih =>
   intro b
   cases b with
   | nil=>simp
   | cons y b =>
    have:=ih b
    have h2 : Wt.wt (addS x y) ≤ Wt.wt x:=by
     have e1 : Wt.wt (addS x y) = Wt.wt (addS x y).Data:=rfl
     have e2 : Wt.wt x = Wt.wt x.Data:=rfl
     rw [e1,e2,Ud,Ud]
     simp [addS]
     omega
    simp only [List.zipWith_cons_cons,List.length_cons,List.map_cons,List.sum_cons]
    omega
 exact key a b
def Wd (data : List UInt8) (cs : List (List UInt8)) (i : Nat) : List UInt8:=data.getD i 0 :: cs.map (·.getD i 0)
def Wl (m : Nat) (data : List UInt8) (cs : List (List UInt8)) (p : UInt8) : GShare:=⟨p,tab data.length fun i=>YP m (Wd data cs i) p⟩
def WE (cs : List (List UInt8)) (n : Nat) : Bool:=decide (cs.length ≤ 7) && cs.all fun c=>c.length == n
theorem KW (n : Nat) (c : List UInt8) : ((c.length : Int) != (n : Int)) = !(c.length == n):=by
 by_cases h : c.length = n
 ·subst h; simp
 ·have : ¬ ((c.length : Int) = (n : Int)):=by omega
  have e1 : (c.length == n) = false:=by simpa using h
  have e2 : ((c.length : Int) != (n : Int)) = true:=by simpa using this
  rw [e1,e2]; rfl
theorem Q2 (cs : List (List UInt8)) (n : Nat) (h : cs.length < 9223372036854775807) : Xw cs (n : Int) = some (WE cs n):=by
 unfold Xw
 have h:=TQ (f:=Xk cs (n : Int)) cs (fun c=>(c.length : Int) != (n : Int)) (t:=false) h (fun i hi=>by
  unfold Xk
  simp only [Int.ofNat_lt,hi,decide_true,if_true,ZI,List.getElem?_eq_getElem hi,Option.bind_some]
  by_cases c : ((cs[i].length : Int) != (n : Int)) = true <;> simp [c]) (by unfold Xk; simp)
 rw [h]
 have e : (cs.any fun c=>(c.length : Int) != (n : Int)) = !cs.all fun c=>c.length == n:=by
  rw [List.any_eq_not_all_not]
  simp only [KW,Bool.not_not]
 rw [e]
 unfold WE
 have e2 : decide ((cs.length : Int) ≤ 7) = decide (cs.length ≤ 7):=by rw [decide_eq_decide]; omega
 cases (cs.all fun c=>c.length == n) <;> simp [Fl.el,e2]
theorem Uu (cs : List (List UInt8)) (n : Nat) (h : cs.length < 9223372036854775807) : Yf cs (n : Int) = some (WE cs n):=by
 unfold Yf
 have e2 : decide ((cs.length : Int) ≤ 7) = decide (cs.length ≤ 7):=by rw [decide_eq_decide]; omega
 have hc : ZH cs (fun z0=>Z3 z0 (n : Int)) = some (cs.any fun c=>(c.length : Int) != (n : Int)):=by
  unfold ZH ZX
  rw [Q8 cs _ (fun c=>(c.length : Int) != (n : Int)) _ (fun s=>by unfold Yp; rfl) h (fun x _=>rfl)]
  simp only [Option.bind_some,K4]
 have e : (cs.any fun c=>(c.length : Int) != (n : Int)) = !cs.all fun c=>c.length == n:=by
  rw [List.any_eq_not_all_not]
  simp only [KW,Bool.not_not]
 rw [hc,e,e2]
 unfold WE
 by_cases c : cs.length ≤ 7 <;> simp [c]
theorem Ko {m : Nat} (h2 : m < 512) (x y : UInt8) : U4 (m : Int) x y = Qd m x y:=by
 have:=Uz (m : Int) x y
 rw [TB m h2] at this
 exact (Option.some.inj this).symm
theorem QD {n : Nat} (f : Nat → UInt8) (i : Nat) (h : i < n) : (tab n f).take i ++ [f i] = (tab n f).take (i + 1):=by
 rw [List.take_succ_eq_append_getElem (by simpa using h)]
 simp [tab]
section
variable {m : Nat} (h1 : 256 ≤ m) (h2 : m < 512)
include h1 h2
omit h1 in
theorem Jm (l : List UInt8) (x : UInt8) (h : l.length ≤ 140737488351232) : YI (m : Int) l x = some (YP m l x):=by
 unfold YI
 rw [if_pos h,List.foldl_reverse]
 congr 1
 unfold YP
 congr 1
 funext a acc
 unfold TV
 rw [Ko h2]
omit h1 in
theorem K7 (data : List UInt8) (cs : List (List UInt8)) (ps : List UInt8) (hd : data.length ≤ 100) (hc : WE cs data.length = true) (hp : ps.length ≤ 12) :
  YJ (m : Int) data cs ps = some (ps.map (Wl m data cs)):=by
 unfold WE at hc
 simp only [Bool.and_eq_true,decide_eq_true_eq,List.all_eq_true,beq_iff_eq] at hc
 obtain ⟨hc1,hc2⟩:=hc
 unfold YJ
 have h:=Y1 (f:=Ya (m : Int) data cs ps) (fun i : Nat=>((i : Int),(ps.take i).map (Wl m data cs))) 0 ps.length (Nat.zero_le _) (t:=ps.map (Wl m data cs)) (fun i _ hi=>by
  unfold Ya
  have hin:=Y1 (f:=Z9 (m : Int) data cs ps[i]) (fun j : Nat=>((tab data.length fun q=>YP m (Wd data cs q) ps[i]).take j,(j : Int))) 0 data.length (Nat.zero_le _) (t:=tab data.length fun q=>YP m (Wd data cs q) ps[i]) (fun j _ hj=>by
   unfold Z9
   have hin2:=Y1 (f:=Z8 cs ((tab data.length fun q=>YP m (Wd data cs q) ps[i]).take j,(j : Int))) (fun k : Nat=>([data.getD j 0] ++ (cs.take k).map (·.getD j 0),(k : Int))) 0 cs.length (Nat.zero_le _) (t:=Wd data cs j) (fun k _ hk=>by
    unfold Z8
    have hl:=hc2 cs[k] (List.getElem_mem hk)
    have hj' : j < cs[k].length:=by omega
    simp only [Int.ofNat_lt,hk,decide_true,if_true,ZI,List.getElem?_eq_getElem hk,Option.bind_some,List.getElem?_eq_getElem hj',YQ (show k < 9223372036854775807 by omega)]
    rw [Wp (by simp; omega)]
    simp only [Option.bind_some]
    rw [List.take_succ_eq_append_getElem hk,List.map_append,List.append_assoc]
    simp [List.getD_eq_getElem?_getD,List.getElem?_eq_getElem hj']) (by unfold Z8; simp [Wd])
   have hg : data[j]? = some (data.getD j 0):=V4 hj
   simp only [Int.ofNat_lt,hj,decide_true,if_true,ZI,hg,Option.bind_some,YQ (show j < 9223372036854775807 by omega)]
   have hin2' : ZB (Z8 cs ((tab data.length fun q=>YP m (Wd data cs q) ps[i]).take j,(j : Int))) ([data.getD j 0],0) = some (Wd data cs j):=hin2
   rw [hin2']
   simp only [Option.bind_some]
   rw [Jm h2 _ _ (by simp [Wd]; omega)]
   simp only [Option.bind_some]
   rw [Wp (by simp; omega)]
   simp only [Option.bind_some]
   rw [QD _ _ hj]) (by unfold Z9; simp [List.take_of_length_le])
  simp only [Int.ofNat_lt,hi,decide_true,if_true,ZI,List.getElem?_eq_getElem hi,Option.bind_some,YQ (show i < 9223372036854775807 by omega)]
  have hin' : ZB (Z9 (m : Int) data cs ps[i]) ([],0) = some (tab data.length fun q=>YP m (Wd data cs q) ps[i]):=hin
  rw [hin']
  simp only [Option.bind_some]
  rw [Wp (by simp; omega)]
  simp only [Option.bind_some]
  rw [List.take_succ_eq_append_getElem hi,List.map_append]
  rfl) (by unfold Ya; simp)
 have h3 : ZB (Ya (m : Int) data cs ps) (0,[]) = _:=h
 rw [h3]; rfl
theorem Ks (data : List UInt8) (cs : List (List UInt8)) (ps : List UInt8) (hd : data.length ≤ 100) (hc : WE cs data.length = true) (hp : ps.length ≤ 12) :
  XQ (m : Int) data cs ps = some (ps.map (Wl m data cs)):=by
 unfold WE at hc
 simp only [Bool.and_eq_true,decide_eq_true_eq,List.all_eq_true,beq_iff_eq] at hc
 obtain ⟨hc1,hc2⟩:=hc
 unfold XQ
 have h:=Y1 (f:=YX (m : Int) data cs ps) (fun i : Nat=>((i : Int),(ps.take i).map (Wl m data cs))) 0 ps.length (Nat.zero_le _) (t:=ps.map (Wl m data cs)) (fun i _ hi=>by
  unfold YX
  have hin:=Y1 (f:=YY (m : Int) data cs ps ((i : Int),(ps.take i).map (Wl m data cs))) (fun j : Nat=>((tab data.length fun q=>YP m (Wd data cs q) ps[i]).take j,(j : Int))) 0 data.length (Nat.zero_le _) (t:=tab data.length fun q=>YP m (Wd data cs q) ps[i]) (fun j _ hj=>by
   unfold YY
   have hin2:=Y1 (f:=YT cs ((tab data.length fun q=>YP m (Wd data cs q) ps[i]).take j,(j : Int))) (fun k : Nat=>([data.getD j 0] ++ (cs.take k).map (·.getD j 0),(k : Int))) 0 cs.length (Nat.zero_le _) (t:=Wd data cs j) (fun k _ hk=>by
    unfold YT
    have hl:=hc2 cs[k] (List.getElem_mem hk)
    have hj' : j < cs[k].length:=by omega
    simp only [Int.ofNat_lt,hk,decide_true,if_true,ZI,List.getElem?_eq_getElem hk,Option.bind_some,List.getElem?_eq_getElem hj',YQ (show k < 9223372036854775807 by omega)]
    rw [Wp (by simp; omega)]
    simp only [Option.bind_some]
    rw [List.take_succ_eq_append_getElem hk,List.map_append,List.append_assoc]
    simp [List.getD_eq_getElem?_getD,List.getElem?_eq_getElem hj']) (by unfold YT; simp [Wd])
   have hg : data[j]? = some (data.getD j 0):=V4 hj
   simp only [Int.ofNat_lt,hj,decide_true,if_true,ZI,hg,Option.bind_some,YQ (show j < 9223372036854775807 by omega)]
   have hin2' : ZB (YT cs ((tab data.length fun q=>YP m (Wd data cs q) ps[i]).take j,(j : Int))) ([data.getD j 0],0) = some (Wd data cs j):=hin2
   rw [hin2']
   simp only [Option.bind_some,List.getElem?_eq_getElem hi]
   rw [QT h1 h2 _ _ (by simp [Wd]; omega)]
   simp only [Option.bind_some]
   rw [Wp (by simp; omega)]
   simp only [Option.bind_some]
   rw [QD _ _ hj]) (by unfold YY; simp [List.take_of_length_le])
  simp only [Int.ofNat_lt,hi,decide_true,if_true,ZI,List.getElem?_eq_getElem hi,Option.bind_some,YQ (show i < 9223372036854775807 by omega)]
  have hin' : ZB (YY (m : Int) data cs ps ((i : Int),(ps.take i).map (Wl m data cs))) ([],0) = some (tab data.length fun q=>YP m (Wd data cs q) ps[i]):=hin
  rw [hin']
  simp only [Option.bind_some]
  rw [Wp (by simp; omega)]
  simp only [Option.bind_some]
  rw [List.take_succ_eq_append_getElem hi,List.map_append]
  rfl) (by unfold YX; simp)
 have h3 : ZB (YX (m : Int) data cs ps) (0,[]) = _:=h
 rw [h3]; rfl
end
def V5 (x : List UInt8) : Nat:=(x.map fun _=>1).sum
theorem Qe (l : List (List UInt8)) (h : Wt.ln l) : T0 Y4 l (l.map V5).sum :=
 T4 Y4 YK V5 (fun _ _=>rfl) l (WQ h) (fun l' i k hi hx _ h0 hk=>by
  obtain ⟨d',d1⟩:=Uy l'[i] (VO h hx : Wt.ln l'[i]) k h0 hk
  refine ⟨d',?_⟩
  unfold YK
  simp only [Int.ofNat_lt,hi,decide_true,if_true,ZI,List.getElem?_eq_getElem hi,Option.bind_some,Int.toNat_natCast,d1]; rfl) (fun l' k=>by unfold YK; simp)
theorem VB : ∀ l : List (List UInt8),(l.map V5).sum ≤ (l.map Wt.wt).sum
 | []=>by simp
 | x :: l=>by
  have:=VB l
  have h2 : V5 x = Wt.wt x:=by rw [Ud]; exact Q9 x
  simp only [List.map_cons,List.sum_cons]
  omega
def X4 (m : Int) (l : List GShare) (cs : List (List UInt8)) : List GShare × Int :=
 if WH m l 1 != 0 then ([],WH m l 1) else if WE cs (Wy l) = false then ([],2) else (QW l ((Wv l).map (Wl m.toNat (List.replicate (Wy l) 0) cs)),0)
theorem U6 {m : Nat} {l : List GShare} (cs : List (List UInt8)) (g : Good l) :
  l.length = ((Wv l).map (Wl m (List.replicate (Wy l) 0) cs)).length ∧ l.length ≤ 13 ∧ ∀ i (h1 : i < l.length) (h2 : i < ((Wv l).map (Wl m (List.replicate (Wy l) 0) cs)).length),l[i].Data.length = ((Wv l).map (Wl m (List.replicate (Wy l) 0) cs))[i].Data.length ∧ l[i].Data.length ≤ 100:=by
 refine ⟨by simp [VU],g.len.2,fun i h1 h2=>⟨?_,(g.share _ (List.getElem_mem h1)).2⟩⟩
 rw [g.at h1]
 simp [Wl,Wy]
theorem QE {l : List GShare} (h : X2 l = 0) : l.length ≤ 12:=by
 unfold X2 at h
 cases h1 : l.all Yw with
 | false=>simp [h1] at h
 | true =>
  cases h2 : WO (l.map (·.Place)) with
  | false=>simp [h1,h2] at h
  | true =>
   by_cases h3 : l.length < 1 ∨ 12 < l.length
   ·rw [h1,h2,if_neg (by simp),if_neg (by simp),if_pos h3] at h; cases h
   ·omega
theorem Vo (m : Int) (l : List GShare) (cs : List (List UInt8)) (hl : Wt.wt l ≤ 1048576) (hc : Wt.wt cs ≤ 1048576) : Yo m l cs = some (X4 m l cs):=by
 have hll:=VN l
 have hcl:=VN cs
 unfold Yo X4
 rw [Kw m l 1 (by omega)]
 by_cases hb : WH m l 1 = 0
 ·obtain ⟨hf,g,_,_⟩:=TM hb
  obtain ⟨n,rfl,h1,h2⟩:=Uw hf
  have h0 : 0 < l.length:=g.len.1
  have hd0 : l[0].Data.length = Wy l:=g.at h0
  have hdn : Wy l ≤ 100:=by rw [← hd0]; exact (g.share _ (List.getElem_mem h0)).2
  have h12:=g.len.2
  have hp12 : (Wv l).length ≤ 12:=by
   have hcode : X2 l = 0:=by unfold WH at hb; rw [hf] at hb; simpa using hb
   rw [VU]
   exact QE hcode
  simp only [hb,Option.bind_some,idx0 l h0,hd0,Q2 cs (Wy l) (by omega),bne_self_eq_false,Bool.false_eq_true,if_false,BEq.rfl,if_true]
  cases hL : WE cs (Wy l) with
  | false=>simp
  | true =>
   obtain ⟨o1,o2,o3⟩:=U6 (m:=n) cs g
   simp only [Bool.not_true,Option.bind_some,Bool.false_eq_true,if_false,K2 (show Wy l ≤ 140737488355328 by omega),Qs l (by omega),bne_self_eq_false,reduceCtorEq]
   rw [Ks h1 h2 _ cs (Wv l) (by simpa using hdn) (by simpa using hL) hp12]
   simp only [Option.bind_some]
   rw [KR l _ o1 o2 o3]
   rfl
 ·have e1 : (WH m l 1 == 0) = false:=by simpa using hb
  have e2 : (WH m l 1 != 0) = true:=by simpa using hb
  simp only [Option.bind_some,e1,e2,Bool.false_eq_true,if_false,if_true]
theorem Vw (m : Int) (l : List GShare) (cs : List (List UInt8)) (hl : Wt.wt l ≤ 1048576) (hc : Wt.wt cs ≤ 1048576) : ZZ m l cs = some (X4 m l cs):=by
 have hll:=VN l
 have hcl:=VN cs
 unfold ZZ X4
 rw [Tz m l 1 (by omega)]
 by_cases hb : WH m l 1 = 0
 ·obtain ⟨hf,g,_,_⟩:=TM hb
  obtain ⟨n,rfl,h1,h2⟩:=Uw hf
  have h0 : 0 < l.length:=g.len.1
  have hd0 : l[0].Data.length = Wy l:=g.at h0
  have hdn : Wy l ≤ 100:=by rw [← hd0]; exact (g.share _ (List.getElem_mem h0)).2
  have hp12 : (Wv l).length ≤ 12:=by
   have hcode : X2 l = 0:=by unfold WH at hb; rw [hf] at hb; simpa using hb
   rw [VU]
   exact QE hcode
  simp only [hb,Option.bind_some,idx0 l h0,hd0,Uu cs (Wy l) (by omega),bne_self_eq_false,Bool.false_eq_true,if_false]
  cases hL : WE cs (Wy l) with
  | false=>simp
  | true =>
   obtain ⟨o1,o2,o3⟩:=U6 (m:=n) cs g
   have hpl : Ys l = some (Wv l):=Tu l (by omega)
   simp only [Bool.not_true,Option.bind_some,Bool.false_eq_true,if_false,K2 (show Wy l ≤ 140737488355328 by omega),hpl,reduceCtorEq]
   rw [K7 h2 _ cs (Wv l) (by simpa using hdn) (by simpa using hL) hp12]
   simp only [Option.bind_some]
   rw [Jb l _ o1 o2 o3]
   rfl
 ·have e2 : (WH m l 1 != 0) = true:=by simpa using hb
  simp only [Option.bind_some,e2,if_true]
theorem QC (m : Int) (l : List GShare) (cs : List (List UInt8)) : Wt.wt (X4 m l cs).1 ≤ Wt.wt l:=by
 unfold X4
 have h0 : Wt.wt ([] : List GShare) = 0:=rfl
 split
 ·rw [h0]; omega
 ·split
  ·rw [h0]; omega
  ·exact K8 l _
theorem WY (m : Int) (l : List GShare) (cs : List (List UInt8)) (_ : Dat.bd m) (h : Dat.bd l) (hc : Dat.bd cs) : Z4 m l cs = some true:=by
 unfold Z4
 refine Q6 (Q3 l (Wt.bdln l h)) (by omega) (by omega) fun r r0 r1 hw=>?_
 refine Q6 (QM cs (Wt.bdln cs hc)) r0 r1 fun r' _ _ hw'=>?_
 have hwl : Wt.wt l ≤ 1048576:=by omega
 have hwc : Wt.wt cs ≤ 1048576:=by omega
 have hll:=Wt.wtln l hwl
 have hlc:=Wt.wtln cs hwc
 have hr:=QC m l cs
 have hrl:=Wt.wtln (X4 m l cs).1 (by omega)
 have k1:=VB cs
 have k2:=Vq l
 have k3:=Vq (X4 m l cs).1
 have k4:=Ve cs
 obtain ⟨x',m1⟩:=Qk l hll 1 (by omega) (by omega)
 obtain ⟨y',m2⟩:=Qe cs hlc (1 + ((l.map Xd).sum : Nat)) (by omega) (by omega)
 obtain ⟨r',m4,m5⟩:=Qj (X4 m l cs).1 hrl 1 (by omega) (by omega)
 have e1 : ¬ ((1 : Int) + ((l.map Xd).sum : Nat) + ((cs.map V5).sum : Nat) < 0):=by omega
 have e2 : ¬ ((1 : Int) + (((X4 m l cs).1.map Xd).sum : Nat) < 0):=by omega
 simp only [QQ l hwl,QS cs hwc,Vo m l cs hwl hwc,Vw m l cs hwl hwc,Te l hll,QO cs hlc,Te _ hrl,m1,m2,m4,m5,e1,e2,Option.bind_some,Bool.not_true,Bool.false_eq_true,if_false,bne_self_eq_false,decide_false]
end Go.Proofs.Ytpjogonponkbmaa
