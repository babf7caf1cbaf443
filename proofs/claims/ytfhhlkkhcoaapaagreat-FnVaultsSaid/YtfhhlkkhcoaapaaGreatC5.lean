/- Plain laws, no program in sight. -/
import Derived.Test.YtfhhlkkhcoaapaaGreatC4
set_option linter.unusedVariables false
set_option linter.unusedSimpArgs false
set_option maxRecDepth 20000
set_option maxHeartbeats 400000
namespace Go.Proofs.YtfhhlkkhcoaapaaGreat
open Go
open Flat (enc)
theorem ob_ {α β : Type} {a : α} {f : α → Option β} : (Option.some a).bind f = f a:=rfl
abbrev ge_:=@List.getElem?_eq_getElem
theorem Vd {i : Nat} (h : i < 9223372036854775807) : wr ((i : Int) + 1) = ((i + 1 : Nat) : Int):=by
 rw [Y4 (by omega)]; rfl

section
variable {S T : Type} {f : S → Option (Fl S T)}
theorem Zia (g : Nat → S) (m n : Nat) (hmn : m ≤ n) (h : ∀ i, m ≤ i → i < n → f (g i) = some (.nx (g (i + 1)))) : ZQ f (g m) = ZQ f (g n) := by
  induction n with
  | zero => have : m = 0 := by omega
            subst this; rfl
  | succ n ih =>
    rcases Nat.lt_or_ge m (n + 1) with h1 | h1
    · rw [ih (by omega) (λi h2 h3 => h i h2 (by omega)), UH (h n (by omega) (by omega))]
    · have : m = n + 1 := by omega
      subst this; rfl
theorem YL (g : Nat → S) (m n : Nat) (hmn : m ≤ n) {t : T} (h : ∀ i,m ≤ i → i < n → f (g i) = some (.nx (g (i + 1)))) (he : f (g n) = some (.ex t)) : ZQ f (g m) = some t:=by
 rw [Zia g m n hmn h,UJ he]
theorem J2 (g : Nat → S) (p : Nat → Bool) (t : Nat → T) {e : T} (n : Nat) : ∀ (k m : Nat),m + k = n → (∀ i,m ≤ i → i < n → f (g i) = some (if p i then .ex (t i) else .nx (g (i + 1)))) → f (g n) = some (.ex e) →
  ZQ f (g m) = some (((List.range' m k).find? p).elim e t)
 | 0,m,hk,_,he=>by
  have : m = n:=by omega
  subst this
  rw [UJ he]; rfl
 | k + 1,m,hk,h,he=>by
  have h1:=h m (Nat.le_refl _) (by omega)
  rw [List.range'_succ,List.find?_cons]
  cases hp : p m with
  | true=>rw [hp] at h1; rw [UJ h1]; rfl
  | false =>
   rw [hp] at h1
   rw [UH h1,J2 g p t n k (m + 1) (by omega) (λi h2 h3=>h i (by omega) h3) he]
end

theorem Zaj {T : Type} {f : Int → Option (Fl Int (Fl Unit T))} (p : Nat → Bool) {t : T} {n m : Nat} (hm : m ≤ n)
  (h : ∀ i,m ≤ i → i < n → f (i : Int) = some (if p i then .ex (.ex t) else .nx ((i + 1 : Nat) : Int))) (he : f (n : Int) = some (.ex (.nx ()))) :
  ZQ f (m : Int) = some (if (List.range' m (n - m)).any p then .ex t else .nx ()):=by
 rw [J2 (λi : Nat=>(i : Int)) p (λ_=>.ex t) n (n - m) m (by omega) h he]
 cases hf : (List.range' m (n - m)).find? p with
 | none =>
  have : (List.range' m (n - m)).any p = false:=by
   rw [List.any_eq_false]
   rw [List.find?_eq_none] at hf
   exact hf
  rw [this]; rfl
 | some i =>
  have : (List.range' m (n - m)).any p = true:=by
   rw [List.any_eq_true]
   exact ⟨i,List.mem_of_find?_eq_some hf,List.find?_some hf⟩
  rw [this]; rfl
theorem Zex {p : Nat → Bool} {m n : Nat} : (List.range' m (n - m)).any p = true ↔ ∃ i,m ≤ i ∧ i < n ∧ p i = true:=by
 rw [List.any_eq_true]
 simp only [List.mem_range'_1]
 constructor
 ·rintro ⟨i,⟨h1,h2⟩,h3⟩; exact ⟨i,h1,by omega,h3⟩
 rintro ⟨i,h1,h2,h3⟩; exact ⟨i,⟨h1,by omega⟩,h3⟩
theorem Zgv {α : Type} {q : α → Bool} {l : List α} {p : Nat → Bool} (hp : ∀ i (h : i < l.length),p i = q l[i]) : (List.range' 0 (l.length - 0)).any p = l.any q:=by
 rw [Bool.eq_iff_iff,Zex,List.any_eq_true]
 constructor
 ·rintro ⟨i,_,h,h3⟩; exact ⟨l[i],List.getElem_mem h,by rw [← hp i h]; exact h3⟩
 rintro ⟨x,hx,h⟩
 obtain ⟨i,hi,rfl⟩:=List.mem_iff_getElem.1 hx
 exact ⟨i,Nat.zero_le _,hi,by rw [hp i hi]; exact h⟩

theorem KK {T α : Type} {f : Int → Option (Fl Int (Fl Unit T))} (l : List α) (q : α → Bool) {t : T} (hl : l.length < 9223372036854775807)
  (h : ∀ i (hi : i < l.length),f (i : Int) = some (if q l[i] then .ex (.ex t) else .nx (wr ((i : Int) + 1)))) (he : f (l.length : Int) = some (.ex (.nx ()))) :
  ZQ f 0 = some (if l.any q then .ex t else .nx ()):=by
 have:=Zaj (f:=f) (λi=>if hi : i < l.length then q l[i] else false) (t:=t) (n:=l.length) (m:=0) (Nat.zero_le _) (λi _ hi=>by
  rw [h i hi,Vd (by omega)]; simp [hi]) he
 rw [Zgv (q:=q) (λi hi=>by simp [hi])] at this
 exact this

class Wt (α : Type) [Dat α] where
 wt : α → Nat
 ln : α → Prop
 bdln : ∀ x,Dat.bd x → ln x
 wtln : ∀ x,wt x ≤ 1048576 → ln x
instance : Wt Int:=⟨λ_=>0,λ_=>True,λ_ _=>trivial,λ_ _=>trivial⟩
instance : Wt UInt8:=⟨λ_=>0,λ_=>True,λ_ _=>trivial,λ_ _=>trivial⟩
instance : Wt Bool:=⟨λ_=>0,λ_=>True,λ_ _=>trivial,λ_ _=>trivial⟩
instance : Wt Str:=⟨λs=>s.l.length,λs=>s.l.length ≤ 9223372036854775807,λ_ h=>h,λ_ h=>by omega⟩
instance {n : Nat} : Wt (Vector UInt8 n):=⟨λ_=>0,λ_=>True,λ_ _=>trivial,λ_ _=>trivial⟩
instance {n m : Nat} : Wt (Vector (Vector UInt8 m) n):=⟨λ_=>0,λ_=>True,λ_ _=>trivial,λ_ _=>trivial⟩
theorem Zi5 {α : Type} {f : α → Nat} {l : List α} {x : α} (h : x ∈ l) : f x ≤ (l.map f).sum:=by
 induction l with
 | nil=>cases h
 | cons y l ih =>
  rw [List.map_cons,List.sum_cons]
  rcases List.mem_cons.1 h with rfl | h
  ·omega
  ·have:=ih h; omega
instance {α : Type} [Dat α] [Wt α] : Wt (List α):=⟨λl=>l.length + (l.map Wt.wt).sum,λl=>l.length ≤ 9223372036854775807 ∧ ∀ x ∈ l,Wt.ln x,λ_ h=>⟨h.1,λx hx=>Wt.bdln x (h.2 x hx)⟩,
 λl h=>⟨by omega,λx hx=>Wt.wtln x (by have:=Zi5 (f:=Wt.wt) hx; omega)⟩⟩
instance {α β : Type} [Dat α] [Dat β] [Wt α] [Wt β] : Wt (α × β):=⟨λx=>Wt.wt x.1 + Wt.wt x.2,λx=>Wt.ln x.1 ∧ Wt.ln x.2,λx h=>⟨Wt.bdln x.1 h.1,Wt.bdln x.2 h.2⟩,λx h=>⟨Wt.wtln x.1 (by omega),Wt.wtln x.2 (by omega)⟩⟩
theorem zj {α : Type} [Dat α] [Wt α] {l : List α} (h : Wt.ln l) : l.length ≤ 9223372036854775807:=h.1
@[simp] theorem YF {α : Type} (l : List α) (i : Nat) : idx l (i : Int) = l[i]?:=by unfold idx; simp
theorem Zbz {T : Type} {f : Int → Option (Fl Int (Fl Unit T))} (n : Nat) (p : Nat → Bool) (t : Nat → T) (hn : n < 9223372036854775807)
  (h : ∀ i,i < n → f (i : Int) = some (if p i then .ex (.ex (t i)) else .nx (wr ((i : Int) + 1)))) (he : f (n : Int) = some (.ex (.nx ()))) (m : Nat) (hm : m ≤ n) :
  ZQ f (m : Int) = some (match (List.range' m (n - m)).find? p with | some i=>.ex (t i) | none=>.nx ()):=by
 rw [J2 (λi : Nat=>(i : Int)) p (λi=>.ex (t i)) n (n - m) m (by omega) (λi _ hi=>by rw [h i hi,Vd (by omega)]) he]
 cases (List.range' m (n - m)).find? p <;> rfl
theorem Zgr {T : Type} {f : Int → Option (Fl Int (Fl Unit T))} (n : Nat) (p : Nat → Bool) (t : T) (hn : n < 9223372036854775807)
  (h : ∀ i,i < n → f (i : Int) = some (if p i then .ex (.ex t) else .nx (wr ((i : Int) + 1)))) (he : f (n : Int) = some (.ex (.nx ()))) (m : Nat) (hm : m ≤ n) :
  ZQ f (m : Int) = some (if (List.range' m (n - m)).any p then .ex t else .nx ()) :=
 Zaj p hm (λi _ hi=>by rw [h i hi,Vd (by omega)]) he
theorem QB {α β S T : Type} {f : S → Option (Fl S T)} (l : List α) (pack : β → Int → S) (g : β → α → β) (b0 : β) {t : T} (hn : l.length < 9223372036854775807)
  (h : ∀ i (hi : i < l.length),f (pack ((l.take i).foldl g b0) (i : Int)) = some (.nx (pack (g ((l.take i).foldl g b0) l[i]) (wr ((i : Int) + 1))))) (he : f (pack (l.foldl g b0) (l.length : Int)) = some (.ex t)) :
  ZQ f (pack b0 0) = some t:=by
 have:=YL (f:=f) (λi : Nat=>pack ((l.take i).foldl g b0) (i : Int)) 0 l.length (Nat.zero_le _) (t:=t) (λi _ hi=>by
  rw [h i hi,Vd (by omega)]
  congr 3
  rw [List.take_succ_eq_append_getElem hi,List.foldl_append]; rfl) (by rw [List.take_length]; exact he)
 simpa using this
theorem kj {α β : Type} (g : α → β) (l : List α) (acc : List β) : l.foldl (λb x=>b ++ [g x]) acc = acc ++ l.map g:=by
 induction l generalizing acc with
 | nil=>simp
 | cons x l ih=>simp [ih]
theorem jf {α β T : Type} {f : List β × Int → Option (Fl (List β × Int) T)} (l : List α) (g : α → β) {t : T} (hn : l.length < 9223372036854775807)
  (h : ∀ i (hi : i < l.length),f ((l.take i).map g,(i : Int)) = some (.nx ((l.take i).map g ++ [g l[i]],wr ((i : Int) + 1)))) (he : f (l.map g,(l.length : Int)) = some (.ex t)) :
  ZQ f ([],0) = some t:=by
 have e : ∀ m : List α,m.foldl (λb x=>b ++ [g x]) [] = m.map g:=λm=>by rw [kj]; rfl
 exact QB (f:=f) l (λb i=>(b,i)) (λb x=>b ++ [g x]) [] hn (λi hi=>by simp only [e]; exact h i hi) (by simp only [e]; exact he)
theorem YH {α : Type} {by_ : Nat} {l m : List α} (h : (l.length + m.length) * by_ ≤ 140737488355328) : app by_ l m = some (l ++ m):=by unfold app; rw [if_pos h]
theorem Hj {α : Type} {l : List α} {i j : Nat} (h : i ≤ j) (h2 : j ≤ l.length) : slc l (i : Int) (j : Int) = some ((l.take j).drop i):=by
 unfold slc; rw [if_pos (by omega)]; simp

theorem Br {α : Type} {n : Nat} {v w : Vector α n} (h : ∀ i (hi : i < n),v[i] = w[i]) : v = w:=Vector.ext h
@[simp] theorem TK {α : Type} {n : Nat} (v : Vector α n) (i : Nat) : ZZ v (i : Int) = v[i]?:=by unfold ZZ; simp
instance : Wt GRecord:=⟨λx=>Wt.wt x.Label + Wt.wt x.Body,λx=>Wt.ln x.Label ∧ Wt.ln x.Body,λx h=>⟨Wt.bdln x.Label h.2.2.2.1,Wt.bdln x.Body h.2.2.2.2.1⟩,λx h=>⟨Wt.wtln x.Label (by omega),Wt.wtln x.Body (by omega)⟩⟩
instance : Wt GEvent:=⟨λ_=>0,λ_=>True,λ_ _=>trivial,λ_ _=>trivial⟩
instance : Wt GVault:=⟨λx=>Wt.wt x.Keys + (Wt.wt x.Records + Wt.wt x.Events),λx=>Wt.ln x.Keys ∧ Wt.ln x.Records ∧ Wt.ln x.Events,λx h=>⟨Wt.bdln x.Keys h.1,Wt.bdln x.Records h.2.2.1,Wt.bdln x.Events h.2.2.2.1⟩,
 λx h=>⟨Wt.wtln x.Keys (by omega),Wt.wtln x.Records (by omega),Wt.wtln x.Events (by omega)⟩⟩
theorem zi (n a b : Int) : X2 n a b = some (decide (a ≤ n ∧ n ≤ b)):=by
 unfold X2
 by_cases h1 : a ≤ n <;> by_cases h2 : n ≤ b <;> simp [h1,h2]
theorem qZ (n a b : Int) : Uo n a b = some (decide (a ≤ n ∧ n ≤ b)):=by
 unfold Uo
 by_cases h1 : a ≤ n <;> by_cases h2 : n ≤ b <;> simp [h1,h2]
theorem AO {α : Type} (l : List α) (p : α → Option Bool) (q : α → Bool) (L : Int → Option (Fl Int (Fl Unit Int)))
  (hL : ∀ s,L s = if (decide (s < (l.length : Int))) = true then ((idx l s).bind λx=>((p x)).bind λr=>if r = true then (some (Fl.ex (Fl.ex s))) else (some (Fl.nx (wr (s + 1))))) else (some (Fl.ex (Fl.nx ()))))
  (hl : l.length < 9223372036854775807) (hp : ∀ x ∈ l,p x = some (q x)) :
  ((ZQ L 0 : Option (Fl Unit Int)).bind λj1=>j1.el (λ_=>some (-1)) (λr=>some r)) = some (match l.findIdx? q with | some i=>(i : Int) | none=>-1):=by
 have h:=Zbz (f:=L) l.length (λi=>(l[i]?.map q).getD false) (λi=>(i : Int)) hl (λi hi=>by
  rw [hL]
  simp only [Int.ofNat_lt,hi,decide_true,if_true,YF,ge_ hi,ob_,Option.map_some,Option.getD_some,hp _ (List.getElem_mem hi)]
  split <;> rfl) (by rw [hL]; simp) 0 (Nat.zero_le _)
 have h3 : ZQ L 0 = _:=h
 rw [h3]
 have key : (List.range' 0 (l.length - 0)).find? (λi=>(l[i]?.map q).getD false) = l.findIdx? q:=by
  rw [Nat.sub_zero,← List.range_eq_range']
  clear h h3 hL hp hl
  induction l with
  | nil=>rfl
  | cons x l ih =>
   rw [List.length_cons,List.range_succ_eq_map,List.find?_cons,List.findIdx?_cons]
   simp only [List.getElem?_cons_zero,Option.map_some,Option.getD_some]
   cases q x with
   | true=>rfl
   | false =>
    simp only [Bool.false_eq_true,if_false]
    rw [List.find?_map,← ih]
    congr 1
 rw [key]
 cases l.findIdx? q <;> rfl
theorem Zdc {α : Type} (l : List α) (q : α → Bool) : decide ((match l.findIdx? q with | some i=>(i : Int) | none=>-1) ≥ 0) = l.any q:=by
 rw [Bool.eq_iff_iff,decide_eq_true_eq]
 cases h : l.findIdx? q with
 | none =>
  have:=List.findIdx?_eq_none_iff.1 h
  simp
  exact this
 | some i =>
  have h2:=List.findIdx?_eq_some_iff_getElem.1 h
  obtain ⟨hi,hq,_⟩:=h2
  simp
  exact ⟨_,List.getElem_mem hi,hq⟩
def Vj (e : GEvent) : Bool:=decide ((1 ≤ e.Kind ∧ e.Kind ≤ 4) ∧ (0 ≤ e.Number ∧ e.Number ≤ 1000000))
theorem Zcy (e : GEvent) : Tu e = some (Vj e):=by
 unfold Tu Vj
 simp only [qZ,ob_]
 by_cases h1 : (1 ≤ e.Kind ∧ e.Kind ≤ 4) <;> by_cases h2 : (0 ≤ e.Number ∧ e.Number ≤ 1000000) <;> simp [h1,h2]
theorem Zfg (e : GEvent) : Qc e = some (Vj e):=by
 unfold Qc Vj QX
 simp only [zi,ob_]
 by_cases h1 : (1 ≤ e.Kind ∧ e.Kind ≤ 4) <;> by_cases h2 : (0 ≤ e.Number ∧ e.Number ≤ 1000000) <;> simp [h1,h2]
theorem yr (l : List GEvent) (p : GEvent → Option Bool) (q : GEvent → Bool) (hl : l.length < 9223372036854775807) (hp : ∀ x ∈ l,p x = some (q x)) : Yv l p = some (l.any q):=by
 unfold Yv Y0
 rw [AO l p q _ (λs=>by unfold Xn; rfl) hl hp]
 simp only [ob_,Zdc]
def QP (l : List GRecord) : Nat → Int
 | 0=>0
 | i + 1=>(l[i]?.map (·.Number)).getD 0
def H9 (v : GVault) (r : GRecord) : Bool:=!decide ((0 : Int) ≤ r.Version ∧ r.Version ≤ (v.Keys.length : Int) - 1) || decide (32 < r.Label.length) || decide (200 < r.Body.length)
def HL (v : GVault) (i : Nat) : Bool:=match v.Records[i]? with
 | some r=>decide (r.Number ≤ QP v.Records i) || decide (r.Number ≥ v.Next) || H9 v r
 | none=>false
def badI (v : GVault) (i : Nat) : Bool:=match v.Records[i]? with
 | some r=>!decide (1 ≤ r.Number ∧ r.Number ≤ v.Next - 1) || (decide (0 < i) && decide (QP v.Records i ≥ r.Number)) || H9 v r
 | none=>false
def Bd (v : GVault) : Bool:=decide (1 ≤ v.Keys.length ∧ v.Keys.length ≤ 8 ∧ 1 ≤ v.Next ∧ v.Next ≤ 1000000 ∧ v.Records.length ≤ 12 ∧ v.Events.length ≤ 60)
def Z0 (v : GVault) : Bool:=Bd v && !((List.range' 0 (v.Records.length - 0)).any (HL v)) && v.Events.all Vj
theorem Zgz (v : GVault) : (List.range' 0 (v.Records.length - 0)).any (badI v) = (List.range' 0 (v.Records.length - 0)).any (HL v):=by
 have h : ∀ b c : Bool,(b = false ↔ c = false) → b = c:=by intro b c; cases b <;> cases c <;> simp
 apply h
 rw [List.any_eq_false,List.any_eq_false]
 simp only [List.mem_range'_1,Nat.zero_le,true_and,Nat.sub_zero,Nat.zero_add,Bool.not_eq_true]
 constructor
 ·intro hI i hi
  have h1:=hI i hi
  unfold badI HL at *
  rw [ge_ hi] at h1 ⊢
  simp only [Bool.or_eq_false_iff,Bool.not_eq_false',decide_eq_true_eq,Bool.and_eq_false_iff,decide_eq_false_iff_not] at h1 ⊢
  refine ⟨⟨?_,by omega⟩,h1.2⟩
  cases i with
  | zero=>simp only [QP]; omega
  | succ i =>
   rcases h1.1.2 with h2 | h2
   ·omega
   ·omega
 intro hS
 have pos : ∀ i,i < v.Records.length → 0 ≤ QP v.Records i ∧ QP v.Records i < (v.Records[i]?.map (·.Number)).getD 0:=by
  intro i
  induction i with
  | zero =>
   intro hi
   have h1:=hS 0 hi
   unfold HL at h1
   rw [ge_ hi] at h1 ⊢
   simp only [Bool.or_eq_false_iff,decide_eq_false_iff_not,Option.map_some,Option.getD_some] at h1 ⊢
   have e : QP v.Records 0 = 0:=rfl
   have h2:=h1.1.1
   rw [e] at h2 ⊢
   omega
  | succ i ih =>
   intro hi
   have h0:=ih (by omega)
   have h1:=hS (i + 1) hi
   unfold HL at h1
   have e : QP v.Records (i + 1) = (v.Records[i]?.map (·.Number)).getD 0:=rfl
   rw [ge_ hi] at h1 ⊢
   simp only [Bool.or_eq_false_iff,decide_eq_false_iff_not,Option.map_some,Option.getD_some] at h1 ⊢
   rw [e] at h1 ⊢
   omega
 intro i hi
 have h1:=hS i hi
 have h2:=pos i hi
 unfold badI HL at *
 rw [ge_ hi] at h1 h2 ⊢
 simp only [Bool.or_eq_false_iff,Bool.not_eq_false',decide_eq_true_eq,Bool.and_eq_false_iff,decide_eq_false_iff_not,Option.map_some,Option.getD_some] at h1 h2 ⊢
 exact ⟨⟨by omega,.inr (by omega)⟩,h1.2⟩
theorem Ao (v : GVault) (hb : Wt.ln v) : Vq v = some (Z0 v):=by
 have hb1:=zj hb.1; have hb2:=zj hb.2.1; have hb3:=zj hb.2.2
 unfold Vq
 simp only [qZ,ob_]
 by_cases hh : Bd v = true
 ·have hh' : 1 ≤ v.Keys.length ∧ v.Keys.length ≤ 8 ∧ 1 ≤ v.Next ∧ v.Next ≤ 1000000 ∧ v.Records.length ≤ 12 ∧ v.Events.length ≤ 60:=by simpa [Bd] using hh
  have c1 : ¬ ((v.Keys.length : Int) < 1):=by omega
  have c2 : ¬ ((v.Keys.length : Int) > 8):=by omega
  have c3 : 1 ≤ v.Next ∧ v.Next ≤ 1000000:=by omega
  have c4 : ¬ ((v.Records.length : Int) > 12):=by omega
  have c5 : ¬ ((v.Events.length : Int) > 60):=by omega
  simp only [c1,c2,c3,c4,c5,decide_false,decide_true,and_self,Bool.not_true,Bool.false_eq_true,if_false,ob_]
  have hw : wr ((v.Keys.length : Int) - 1) = (v.Keys.length : Int) - 1:=Y4 (by omega)
  have h1:=J2 (f:=TI v) (λi : Nat=>(QP v.Records i,(i : Int))) (HL v) (λ_=>(.ex false : Fl Unit Bool)) (e:=.nx ()) v.Records.length v.Records.length 0 (by omega) (λi _ hi=>by
   unfold TI HL
   simp only [Int.ofNat_lt,hi,decide_true,if_true,YF,ge_ hi,ob_,qZ,hw,Vd (show i < 9223372036854775807 by omega)]
   have e : QP v.Records (i + 1) = v.Records[i].Number:=by simp [QP,ge_ hi]
   rw [e]
   unfold H9
   by_cases d1 : v.Records[i].Number ≤ QP v.Records i
   ·simp [d1]
   ·by_cases d2 : v.Records[i].Number ≥ v.Next
    ·simp [d1,d2]
    ·by_cases d3 : (0 : Int) ≤ v.Records[i].Version ∧ v.Records[i].Version ≤ (v.Keys.length : Int) - 1
     ·by_cases d4 : 32 < v.Records[i].Label.length
      ·have d4' : (v.Records[i].Label.length : Int) > 32:=by omega
       simp [d1,d2,d3,d4,d4']
      ·have d4' : ¬ ((v.Records[i].Label.length : Int) > 32):=by omega
       by_cases d5 : 200 < v.Records[i].Body.length
       ·have d5' : (v.Records[i].Body.length : Int) > 200:=by omega
        simp [d1,d2,d3,d4,d4',d5,d5']
       ·have d5' : ¬ ((v.Records[i].Body.length : Int) > 200):=by omega
        simp [d1,d2,d3,d4,d4',d5,d5']
     ·simp [d1,d2,d3]) (by unfold TI; simp)
  have h2 : ZQ (TI v) (0,0) = _:=h1
  rw [h2]
  have h3:=KK (f:=QM v) v.Events (λe=>!Vj e) (t:=false) (by omega) (λi hi=>by
   unfold QM
   simp only [Int.ofNat_lt,hi,decide_true,if_true,YF,ge_ hi,ob_,Zcy]
   cases Vj v.Events[i] <;> simp) (by unfold QM; simp)
  rw [h3]
  unfold Z0
  rw [hh,Nat.sub_zero]
  cases hf : (List.range' 0 v.Records.length).find? (HL v) with
  | none =>
   have : (List.range' 0 v.Records.length).any (HL v) = false:=by
    rw [List.any_eq_false]; exact List.find?_eq_none.1 hf
   rw [this,List.any_eq_not_all_not]
   simp only [Bool.not_not]
   cases v.Events.all Vj <;> rfl
  | some i =>
   have : (List.range' 0 v.Records.length).any (HL v) = true:=by
    rw [List.any_eq_true]; exact ⟨i,List.mem_of_find?_eq_some hf,List.find?_some hf⟩
   rw [this]; rfl
 have hf : Bd v = false:=by simpa using hh
 unfold Z0
 rw [hf]
 have hh' : ¬ (1 ≤ v.Keys.length ∧ v.Keys.length ≤ 8 ∧ 1 ≤ v.Next ∧ v.Next ≤ 1000000 ∧ v.Records.length ≤ 12 ∧ v.Events.length ≤ 60):=by simpa [Bd] using hf
 by_cases c1 : ((v.Keys.length : Int) < 1)
 ·simp [c1]
 by_cases c2 : ((v.Keys.length : Int) > 8)
 ·simp [c1,c2]
 by_cases c3 : 1 ≤ v.Next ∧ v.Next ≤ 1000000
 ·by_cases c4 : ((v.Records.length : Int) > 12)
  ·simp [c1,c2,c3,c4]
  have c5 : ((v.Events.length : Int) > 60):=by omega
  simp [c1,c2,c3,c4,c5]
 simp [c1,c2,c3]
theorem UP (v : GVault) (hb : Wt.ln v) : X1 v = some (Z0 v):=by
 have hb1:=zj hb.1; have hb2:=zj hb.2.1; have hb3:=zj hb.2.2
 unfold X1 Z6
 simp only [zi,ob_]
 by_cases hh : Bd v = true
 ·have hh' : 1 ≤ v.Keys.length ∧ v.Keys.length ≤ 8 ∧ 1 ≤ v.Next ∧ v.Next ≤ 1000000 ∧ v.Records.length ≤ 12 ∧ v.Events.length ≤ 60:=by simpa [Bd] using hh
  have c1 : (1 : Int) ≤ v.Keys.length ∧ (v.Keys.length : Int) ≤ 8:=by omega
  have c3 : 1 ≤ v.Next ∧ v.Next ≤ 1000000:=by omega
  have c4 : ¬ ((v.Records.length : Int) > 12):=by omega
  have c5 : ¬ ((v.Events.length : Int) > 60):=by omega
  simp only [c1,c3,c4,c5,decide_false,decide_true,and_self,Bool.not_true,Bool.false_eq_true,if_false,ob_]
  have hw : wr ((v.Keys.length : Int) - 1) = (v.Keys.length : Int) - 1:=Y4 (by omega)
  have hw2 : wr (v.Next - 1) = v.Next - 1:=Y4 (by omega)
  have h1:=Zgr (f:=Ua v) v.Records.length (badI v) false (by omega) (λi hi=>by
   unfold Ua badI Z6
   simp only [Int.ofNat_lt,hi,decide_true,if_true,YF,ge_ hi,ob_,zi,hw,hw2]
   unfold H9
   by_cases d1 : 1 ≤ v.Records[i].Number ∧ v.Records[i].Number ≤ v.Next - 1
   ·have key : (if decide ((i : Int) > 0) = true then (idx v.Records (wr ((i : Int) - 1))).bind λx=>some (decide (x.Number ≥ v.Records[i].Number)) else some false) = some (decide (0 < i) && decide (QP v.Records i ≥ v.Records[i].Number)):=by
     cases i with
     | zero=>simp
     | succ i =>
      have e1 : wr (((i + 1 : Nat) : Int) - 1) = (i : Int):=by rw [Y4 (by omega)]; omega
      have hi' : i < v.Records.length:=by omega
      have e2 : QP v.Records (i + 1) = v.Records[i].Number:=by simp [QP,ge_ hi']
      have e3 : ((i + 1 : Nat) : Int) > 0:=by omega
      simp only [e1,e2,e3,decide_true,if_true,YF,ge_ hi',ob_]
      simp
    simp only [d1,decide_true,and_self,Bool.not_true,Bool.false_eq_true,if_false,key,ob_,Bool.false_or]
    by_cases d2 : (decide (0 < i) && decide (QP v.Records i ≥ v.Records[i].Number)) = true
    ·simp [d2]
    ·have d2 : (decide (0 < i) && decide (QP v.Records i ≥ v.Records[i].Number)) = false:=by simpa using d2
     rw [d2]
     by_cases d3 : (0 : Int) ≤ v.Records[i].Version ∧ v.Records[i].Version ≤ (v.Keys.length : Int) - 1
     ·by_cases d4 : 32 < v.Records[i].Label.length
      ·have d4' : (v.Records[i].Label.length : Int) > 32:=by omega
       simp [d3,d4,d4']
      ·have d4' : ¬ ((v.Records[i].Label.length : Int) > 32):=by omega
       by_cases d5 : 200 < v.Records[i].Body.length
       ·have d5' : (v.Records[i].Body.length : Int) > 200:=by omega
        simp [d3,d4,d4',d5,d5']
       ·have d5' : ¬ ((v.Records[i].Body.length : Int) > 200):=by omega
        simp [d3,d4,d4',d5,d5']
     ·simp [d3]
   ·simp [d1]) (by unfold Ua; simp) 0 (Nat.zero_le _)
  have h2 : ZQ (Ua v) 0 = _:=h1
  rw [h2,Zgz,yr v.Events _ (λe=>!Vj e) (by omega) (λx _=>by unfold UU; rw [Zfg]; rfl)]
  have ha : (v.Events.any λe=>!Vj e) = !(v.Events.all Vj):=by rw [List.any_eq_not_all_not]; simp
  unfold Z0
  rw [hh,ha]
  generalize (List.range' 0 (v.Records.length - 0)).any (HL v) = z
  cases z <;> simp [Fl.el]
 have hf : Bd v = false:=by simpa using hh
 unfold Z0
 rw [hf]
 have hh' : ¬ (1 ≤ v.Keys.length ∧ v.Keys.length ≤ 8 ∧ 1 ≤ v.Next ∧ v.Next ≤ 1000000 ∧ v.Records.length ≤ 12 ∧ v.Events.length ≤ 60):=by simpa [Bd] using hf
 by_cases c1 : (1 : Int) ≤ v.Keys.length ∧ (v.Keys.length : Int) ≤ 8
 ·by_cases c3 : 1 ≤ v.Next ∧ v.Next ≤ 1000000
  ·by_cases c4 : ((v.Records.length : Int) > 12)
   ·simp [c1,c3,c4]
   have c5 : ((v.Events.length : Int) > 60):=by omega
   simp [c1,c3,c4,c5]
  simp [c1,c3]
 simp [c1]
theorem jD (v : GVault) (hb : Wt.ln v) : T4 v = some (Z0 v):=by
 unfold T4; rw [Ao v hb]; rfl

theorem XG {v : GVault} (h : Z0 v = true) : 1 ≤ v.Keys.length ∧ v.Keys.length ≤ 8 ∧ 1 ≤ v.Next ∧ v.Next ≤ 1000000 ∧ v.Records.length ≤ 12 ∧ v.Events.length ≤ 60:=by
 unfold Z0 Bd at h
 simp only [Bool.and_eq_true,decide_eq_true_eq] at h
 exact h.1.1
theorem zl (a : Nat) (h : a < 9223372036854775808) : (BitVec.ofInt 64 (a : Int)).toNat = a:=by
 rw [BitVec.toNat_ofInt]
 omega
theorem Bg (a b : Nat) (ha : a < 9223372036854775808) (hb : b < 9223372036854775808) : zy (a : Int) (b : Int) = ((a ^^^ b : Nat) : Int):=by
 unfold zy
 rw [BitVec.toNat_xor,zl a ha,zl b hb]
 have : a ^^^ b < 2 ^ 63:=Nat.xor_lt_two_pow ha hb
 exact Y4 (by omega)
theorem Zho (a b : Nat) (ha : a < 9223372036854775808) (hb : b < 9223372036854775808) : Jh (a : Int) (b : Int) = ((a &&& b : Nat) : Int):=by
 unfold Jh
 rw [BitVec.toNat_and,zl a ha,zl b hb]
 have : a &&& b < 2 ^ 63:=Nat.and_lt_two_pow _ hb
 exact Y4 (by omega)
theorem Za6 (a i : Nat) (hi : i ≤ 63) (h : a <<< i < 9223372036854775808) : jY (a : Int) (i : Int) = ((a <<< i : Nat) : Int):=by
 unfold jY
 rw [show min ((i : Int)).toNat 64 = i by omega]
 have : ((a : Int) * 2 ^ i) = ((a <<< i : Nat) : Int):=by rw [Nat.shiftLeft_eq]; simp
 rw [this]
 generalize a <<< i = x at h ⊢
 exact Y4 (by omega)
theorem Zag (a i : Nat) (hi : i ≤ 63) : WG (a : Int) (i : Int) = ((a >>> i : Nat) : Int):=by
 unfold WG
 rw [show min ((i : Int)).toNat 64 = i by omega,Nat.shiftRight_eq_div_pow,Int.fdiv_eq_ediv_of_nonneg _ (by exact_mod_cast Nat.zero_le _)]
 simp
theorem qC (a i : Nat) : ((a >>> i) &&& 1 = 1) ↔ a.testBit i = true:=by
 rw [Nat.testBit,Nat.and_comm]
 have h:=Nat.and_one_is_mod (a >>> i)
 rw [Nat.and_comm] at h
 rw [h]
 rcases Nat.mod_two_eq_zero_or_one (a >>> i) with h | h <;> simp [h]
theorem Zg6 (a : Nat) : Int.tmod (a : Int) 2 = ((a % 2 : Nat) : Int):=by
 rw [Int.tmod_eq_emod_of_nonneg (by omega)]; simp
theorem Zf5 (a : Nat) : Int.tdiv (a : Int) 2 = ((a / 2 : Nat) : Int):=by
 rw [Int.tdiv_eq_ediv_of_nonneg (by omega)]; simp
theorem Zdg (a : Nat) (h : a < 9223372036854775808) : wr (a : Int) = (a : Int):=Y4 (by omega)
theorem Zcb (a : Nat) (h : a < 9223372036854775808) : IntKind.u64.wrap (a : Int) = (a : Int):=by
 simp only [IntKind.wrap,IntKind.bits,IntKind.signed]
 simp
 omega

def XL (m deg : Nat) : Nat → Nat → Nat
 | 0,a=>a
 | k + 1,a=>XL m deg k (if a.testBit (deg + k) then a ^^^ (m <<< k) else a)
theorem HT {m k n : Nat} (h : m < 2 ^ n) : m <<< k < 2 ^ (n + k):=by
 rw [Nat.shiftLeft_eq,Nat.pow_add]
 exact Nat.mul_lt_mul_of_pos_right h (Nat.two_pow_pos _)
theorem kK {a n : Nat} (h : a < 2 ^ (n + 1)) (hb : a.testBit n = false) : a < 2 ^ n:=by
 apply Nat.lt_pow_two_of_testBit
 intro i hi
 rcases Nat.eq_or_lt_of_le hi with rfl | hi
 ·exact hb
 exact Nat.testBit_lt_two_pow (Nat.lt_of_lt_of_le h (Nat.pow_le_pow_right (by omega) hi))
theorem Zdk {m d : Nat} (h1 : 2 ^ d ≤ m) (h2 : m < 2 ^ (d + 1)) : m.testBit d = true:=by
 rw [Nat.testBit,Nat.shiftRight_eq_div_pow]
 have : m / 2 ^ d = 1:=by
  apply Nat.div_eq_of_lt_le
  ·simpa using h1
  ·rw [Nat.pow_succ] at h2; omega
 rw [this]; rfl
theorem Zh4 {m d k a : Nat} (h1 : 2 ^ d ≤ m) (h2 : m < 2 ^ (d + 1)) (ha : a < 2 ^ (d + (k + 1))) (hb : a.testBit (d + k) = true) : a ^^^ (m <<< k) < 2 ^ (d + k):=by
 have hm : m <<< k < 2 ^ (d + (k + 1)):=by have:=HT (k:=k) h2; rwa [show d + 1 + k = d + (k + 1) by omega] at this
 refine kK (Nat.xor_lt_two_pow (by rwa [show d + k + 1 = d + (k + 1) by omega]) (by rwa [show d + k + 1 = d + (k + 1) by omega])) ?_
 rw [Nat.testBit_xor,hb,Nat.testBit_shiftLeft]
 simp [Zdk h1 h2]
theorem AX {m d : Nat} (h1 : 2 ^ d ≤ m) (h2 : m < 2 ^ (d + 1)) : ∀ (k a : Nat),a < 2 ^ (d + k) → XL m d k a < 2 ^ d
 | 0,a,h=>by simpa [XL] using h
 | k + 1,a,h=>by
  unfold XL
  cases hb : a.testBit (d + k) with
  | true=>simp only [if_true]; exact AX h1 h2 k _ (Zh4 h1 h2 h hb)
  | false=>simp only [Bool.false_eq_true,if_false]; exact AX h1 h2 k a (kK h hb)
theorem Jp (m d : Nat) : ∀ (k a b : Nat),XL m d k (a ^^^ b) = XL m d k a ^^^ XL m d k b
 | 0,_,_=>rfl
 | k + 1,a,b=>by
  simp only [XL]
  rw [Nat.testBit_xor]
  cases a.testBit (d + k) <;> cases b.testBit (d + k) <;> simp only [Bool.xor_false,Bool.false_xor,Bool.xor_self,Bool.xor_true,Bool.not_false,Bool.not_true,Bool.false_eq_true,if_true,if_false]
  ·exact Jp m d k a b
  ·rw [Nat.xor_assoc]; exact Jp m d k a _
  ·rw [← Jp m d k]; congr 1; rw [Nat.xor_assoc,Nat.xor_comm b,← Nat.xor_assoc]
  ·rw [← Jp m d k]; congr 1
   rw [Nat.xor_assoc,← Nat.xor_assoc (m <<< k),Nat.xor_comm (m <<< k) b,Nat.xor_assoc,Nat.xor_self,Nat.xor_zero]
theorem Qv {m d : Nat} : ∀ (k a : Nat),a < 2 ^ d → XL m d k a = a
 | 0,_,_=>rfl
 | k + 1,a,h=>by
  unfold XL
  rw [Nat.testBit_lt_two_pow (Nat.lt_of_lt_of_le h (Nat.pow_le_pow_right (by omega) (by omega)))]
  simp only [Bool.false_eq_true,if_false]
  exact Qv k a h
theorem ky {m d k a : Nat} (h : a < 2 ^ (d + k)) : XL m d (k + 1) a = XL m d k a:=by
 conv=>lhs; unfold XL
 rw [Nat.testBit_lt_two_pow h]; rfl
theorem JK (m d : Nat) : ∀ (k x : Nat),XL m d (k + 1) (x <<< 1) = (if ((XL m d k x) <<< 1).testBit d then ((XL m d k x) <<< 1) ^^^ m else (XL m d k x) <<< 1)
 | 0,x=>by simp [XL]
 | k + 1,x=>by
  conv=>lhs; unfold XL
  conv=>rhs; unfold XL
  have e : (x <<< 1).testBit (d + (k + 1)) = x.testBit (d + k):=by
   rw [Nat.testBit_shiftLeft]
   have : d + (k + 1) ≥ 1:=by omega
   simp only [this,decide_true,Bool.true_and]
   congr 1
  rw [e]
  cases x.testBit (d + k) with
  | false=>simp only [Bool.false_eq_true,if_false]; exact JK m d k x
  | true =>
   simp only [if_true]
   have e2 : x <<< 1 ^^^ m <<< (k + 1) = (x ^^^ m <<< k) <<< 1:=by
    rw [Nat.shiftLeft_xor_distrib,← Nat.shiftLeft_add]
   rw [e2]
   exact JK m d k _

def lenN (n : Nat) : Nat:=if n = 0 then 0 else n.log2 + 1
theorem v_rest (a m d : Nat) (hd : d ≤ 15) (ha : a < 2 ^ 16) (hm : m < 2 ^ 20) : Kc (a : Int) (m : Int) (d : Int) = some ((XL m d (16 - d) a : Nat) : Int):=by
 have key : ∀ (k a : Nat),d + k ≤ 16 → a < 2 ^ 40 → ZQ (Qs (m : Int) (d : Int)) ((a : Int),((d + k : Nat) : Int) - 1) = some ((XL m d k a : Nat) : Int):=by
  intro k
  induction k with
  | zero =>
   intro a _ _
   rw [UJ (t:=(a : Int))]
   ·rfl
   ·unfold Qs
    have : ¬ (((d + 0 : Nat) : Int) - 1 ≥ (d : Int)):=by omega
    simp only [this,decide_false,Bool.false_eq_true,if_false]
  | succ k ih =>
   intro a hk ha
   have e0 : ((d + (k + 1) : Nat) : Int) - 1 = ((d + k : Nat) : Int):=by omega
   have hsh : m <<< k < 2 ^ (20 + k):=HT hm
   have hsh2 : m <<< k < 2 ^ 40:=Nat.lt_of_lt_of_le hsh (Nat.pow_le_pow_right (by omega) (by omega))
   have hst : Qs (m : Int) (d : Int) ((a : Int),((d + (k + 1) : Nat) : Int) - 1) = some (.nx (((if a.testBit (d + k) then a ^^^ (m <<< k) else a : Nat) : Int),((d + k : Nat) : Int) - 1)):=by
    rw [e0]
    unfold Qs
    have c1 : ((d + k : Nat) : Int) ≥ (d : Int):=by omega
    have c2 : Wo ((d + k : Nat) : Int) = some ():=by unfold Wo; rw [if_pos (by omega)]
    have c3 : wr (((d + k : Nat) : Int) - (d : Int)) = ((k : Nat) : Int):=by rw [show ((d + k : Nat) : Int) - (d : Int) = ((k : Nat) : Int) by omega,Zdg _ (by omega)]
    have c4 : Wo ((k : Nat) : Int) = some ():=by unfold Wo; rw [if_pos (by omega)]
    have c5 : wr (((d + k : Nat) : Int) - 1) = ((d + k : Nat) : Int) - 1:=Y4 (by omega)
    simp only [c1,decide_true,if_true,c2,c3,c4,c5,ob_]
    have c6 : Jh (WG (a : Int) ((d + k : Nat) : Int)) 1 = (((a >>> (d + k)) &&& 1 : Nat) : Int):=by
     rw [Zag a (d + k) (by omega)]
     exact Zho _ 1 (Nat.lt_of_le_of_lt (Nat.shiftRight_le _ _) (by omega)) (by omega)
    rw [c6,Za6 m k (by omega) (by omega),Bg a _ (by omega) (by omega)]
    cases hb : a.testBit (d + k) with
    | true =>
     have:=(qC a (d + k)).2 hb
     rw [this]; rfl
    | false =>
     have : ¬ ((a >>> (d + k)) &&& 1 = 1):=λh=>by rw [(qC a (d + k)).1 h] at hb; cases hb
     have h2 : (((((a >>> (d + k)) &&& 1 : Nat) : Int)) == 1) = false:=by
      rw [beq_eq_false_iff_ne]; omega
     rw [h2]; rfl
   rw [UH hst,ih _ (by omega) ?_]
   ·conv=>rhs; unfold XL
   ·split
    ·exact Nat.xor_lt_two_pow ha hsh2
    ·exact ha
 unfold Kc
 have:=key (16 - d) a (by omega) (by omega)
 rw [show ((d + (16 - d) : Nat) : Int) - 1 = 15 by omega] at this
 rw [this]; rfl

def Ag : Nat → Nat → Nat → Nat
 | 0,_,_=>0
 | n + 1,a,b=>(if b % 2 = 1 then a else 0) ^^^ Ag n (a <<< 1) (b / 2)
theorem A6 : ∀ (n a : Nat),Ag n a 0 = 0
 | 0,_=>rfl
 | n + 1,a=>by simp [Ag,A6 n]
theorem Zdy : ∀ (n a b p : Nat),a < 2 ^ p → Ag n a b < 2 ^ (p + n)
 | 0,_,_,_,_=>by simp [Ag]; exact Nat.two_pow_pos _
 | n + 1,a,b,p,h=>by
  unfold Ag
  have h1 : a <<< 1 < 2 ^ (p + 1):=HT h
  have h2:=Zdy n (a <<< 1) (b / 2) (p + 1) h1
  rw [show p + 1 + n = p + (n + 1) by omega] at h2
  refine Nat.xor_lt_two_pow ?_ h2
  have h3 : 2 ^ p ≤ 2 ^ (p + (n + 1)):=Nat.pow_le_pow_right (by omega) (by omega)
  have h4:=Nat.two_pow_pos (p + (n + 1))
  split <;> omega
def prC : Nat → Nat → Nat → Nat
 | 0,_,_=>0
 | i + 1,a,b=>prC i a b ^^^ (if b.testBit i then a <<< i else 0)
theorem Zbn : ∀ (n a b : Nat),prC (n + 1) a b = (if b % 2 = 1 then a else 0) ^^^ prC n (a <<< 1) (b / 2)
 | 0,a,b=>by
  simp only [prC,Nat.zero_xor,Nat.xor_zero,Nat.shiftLeft_zero]
  have : b.testBit 0 = decide (b % 2 = 1):=by simp [Nat.testBit_zero]
  rw [this]; simp
 | n + 1,a,b=>by
  conv=>lhs; unfold prC
  rw [Zbn n a b]
  conv=>rhs; unfold prC
  rw [← Nat.xor_assoc]
  congr 1
  rw [Nat.testBit_succ,← Nat.shiftLeft_add,Nat.add_comm 1 n]
theorem Zgt : ∀ (n a b : Nat),prC n a b = Ag n a b
 | 0,_,_=>rfl
 | n + 1,a,b=>by rw [Zbn,Zgt n]; rfl
theorem Zdb (a b : Nat) (h : a < 256) : ∀ i,i ≤ 8 → prC i a b < 2 ^ 16
 | 0,_=>by simp [prC]
 | i + 1,hi=>by
  unfold prC
  have h1 : a <<< i < 2 ^ (8 + i):=HT h
  have h2 : 2 ^ (8 + i) ≤ 2 ^ 16:=Nat.pow_le_pow_right (by omega) (by omega)
  refine Nat.xor_lt_two_pow (Zdb a b h i (by omega)) ?_
  split
  ·omega
  ·omega
def YC (m : Nat) (a b : UInt8) : UInt8:=Zv ((XL m 8 8 (Ag 8 a.toNat b.toNat) : Nat) : Int)
theorem QL (m : Nat) (hm : m < 512) (a b : UInt8) : YO (m : Int) a b = some (YC m a b):=by
 have ha : a.toNat < 256:=a.toNat_lt
 have hb : b.toNat < 256:=b.toNat_lt
 have h:=YL (f:=Wz a b) (λi : Nat=>(((prC i a.toNat b.toNat : Nat) : Int),(i : Int))) 0 8 (Nat.zero_le _) (t:=((prC 8 a.toNat b.toNat : Nat) : Int)) (λi _ hi=>by
  unfold Wz
  have c1 : ((i : Int) < 8):=by omega
  have c2 : Wo (i : Int) = some ():=by unfold Wo; rw [if_pos (by omega)]
  have c3 : prC i a.toNat b.toNat < 2 ^ 16:=Zdb _ _ ha i (by omega)
  have c4 : a.toNat <<< i < 2 ^ (8 + i):=HT ha
  have c5 : 2 ^ (8 + i) ≤ 2 ^ 16:=Nat.pow_le_pow_right (by omega) (by omega)
  have c6 : (((jJ b (i : Int)) &&& 1) == 1) = b.toNat.testBit i:=by
   have e1 : (jJ b (i : Int)).toNat = b.toNat >>> i:=by
    unfold jJ Zv
    rw [show min ((i : Int)).toNat 8 = i by omega,Int.fdiv_eq_ediv_of_nonneg _ (by exact_mod_cast Nat.zero_le _)]
    have : ((b.toNat : Int) / 2 ^ i) = ((b.toNat >>> i : Nat) : Int):=by rw [Nat.shiftRight_eq_div_pow]; simp
    rw [this]
    have h3 : b.toNat >>> i ≤ b.toNat:=Nat.shiftRight_le _ _
    generalize b.toNat >>> i = q at h3 ⊢
    have h4 : (((q : Nat) : Int) % 256).toNat = q:=by omega
    rw [h4]
    simp
    omega
   rw [Bool.eq_iff_iff,beq_iff_eq,← qC,← UInt8.toNat_inj,UInt8.toNat_and,e1]
   simp
  simp only [c1,decide_true,if_true,c2,ob_,c6,Vd (show i < 9223372036854775807 by omega)]
  rw [Za6 _ i (by omega) (by omega),Bg _ _ (by omega) (by omega)]
  cases hbit : b.toNat.testBit i with
  | true=>simp [prC,hbit]
  | false=>simp [prC,hbit]) (by unfold Wz; simp)
 have h2 : ZQ (Wz a b) (0,0) = _:=h
 unfold YO
 rw [h2]
 simp only [ob_]
 have h3:=v_rest (prC 8 a.toNat b.toNat) m 8 (by omega) (Zdb _ _ ha 8 (by omega)) (by omega)
 have h4 : Kc ((prC 8 a.toNat b.toNat : Nat) : Int) (m : Int) 8 = _:=h3
 rw [h4,Zgt]
 rfl
theorem B2 (m : Nat) (hm : m < 512) (hm2 : 256 ≤ m) (a b : UInt8) : XN (m : Int) a b = some (YC m a b):=by
 have ha : a.toNat < 256:=a.toNat_lt
 have hb : b.toNat < 256:=b.toNat_lt
 have h1 : 2 ^ 8 ≤ m:=hm2
 have h2 : m < 2 ^ (8 + 1):=hm
 have hR : ∀ i,i ≤ 8 → XL m 8 8 (a.toNat <<< i) < 256:=λi hi=>AX h1 h2 8 _ (by
  have:=HT (k:=i) (show a.toNat < 2 ^ 8 from ha)
  exact Nat.lt_of_lt_of_le this (Nat.pow_le_pow_right (by omega) (by omega)))
 have hdbl : ∀ i,i ≤ 7 → XL m 8 8 (a.toNat <<< (i + 1)) = if 256 ≤ (XL m 8 8 (a.toNat <<< i)) * 2 then (XL m 8 8 (a.toNat <<< i)) * 2 ^^^ m else (XL m 8 8 (a.toNat <<< i)) * 2:=by
  intro i hi
  have hx : a.toNat <<< i < 2 ^ (8 + 7):=Nat.lt_of_lt_of_le (HT (show a.toNat < 2 ^ 8 from ha)) (Nat.pow_le_pow_right (by omega) (by omega))
  have e : a.toNat <<< (i + 1) = (a.toNat <<< i) <<< 1:=by rw [← Nat.shiftLeft_add]
  rw [e,JK m 8 7,← ky hx]
  have hlt:=hR i (by omega)
  generalize XL m 8 8 (a.toNat <<< i) = y at hlt ⊢
  have e2 : y <<< 1 = y * 2:=by rw [Nat.shiftLeft_eq]
  rw [e2]
  have e3 : (y * 2).testBit 8 = decide (256 ≤ y * 2):=by
   by_cases hy : 256 ≤ y * 2
   ·rw [Zdk (d:=8) hy (by omega)]; simp [hy]
   ·rw [Nat.testBit_lt_two_pow (by omega : y * 2 < 2 ^ 8)]; simp [hy]
  rw [e3]
  by_cases hy : 256 ≤ y * 2 <;> simp [hy]
 have key : ∀ (n i o r : Nat),i + n ≤ 8 → r < 2 ^ n → o < 256 → ZQ (We (m : Int)) ((o : Int),((XL m 8 8 (a.toNat <<< i) : Nat) : Int),(r : Int)) = some ((o ^^^ XL m 8 8 (Ag n (a.toNat <<< i) r) : Nat) : Int):=by
  intro n
  induction n with
  | zero =>
   intro i o r _ hr ho
   have : r = 0:=by simpa using hr
   subst this
   rw [UJ (t:=(o : Int))]
   ·rw [A6,Qv 8 0 (by omega),Nat.xor_zero]
   ·unfold We; simp
  | succ n ih =>
   intro i o r hi hr ho
   by_cases h0 : r = 0
   ·subst h0
    rw [UJ (t:=(o : Int))]
    ·rw [A6,Qv 8 0 (by omega),Nat.xor_zero]
    ·unfold We; simp
   ·have hy:=hR i (by omega)
    have hst : We (m : Int) ((o : Int),((XL m 8 8 (a.toNat <<< i) : Nat) : Int),(r : Int)) = some (.nx (((o ^^^ XL m 8 8 (if r % 2 = 1 then a.toNat <<< i else 0) : Nat) : Int),((XL m 8 8 (a.toNat <<< (i + 1)) : Nat) : Int),((r / 2 : Nat) : Int))):=by
     rw [hdbl i (by omega)]
     unfold We
     have c1 : (r : Int) > 0:=by omega
     have hr2 : r < 512:=Nat.lt_of_lt_of_le hr (Nat.le_trans (Nat.pow_le_pow_right (by omega) (by omega : n + 1 ≤ 9)) (by omega))
     simp only [c1,decide_true,if_true,Zg6,Zf5]
     have e1 : wr (((XL m 8 8 (a.toNat <<< i) : Nat) : Int) * 2) = (((XL m 8 8 (a.toNat <<< i)) * 2 : Nat) : Int):=by rw [Y4 (by omega)]; omega
     have e2 : wr ((r / 2 : Nat) : Int) = ((r / 2 : Nat) : Int):=Zdg _ (by omega)
     rw [e1,e2,Bg _ _ (by omega) (by omega),Bg _ _ (by omega) (by omega)]
     have e3 : ((((r % 2 : Nat) : Int)) == 1) = decide (r % 2 = 1):=by
      rw [Bool.eq_iff_iff,beq_iff_eq,decide_eq_true_eq]; omega
     rw [e3]
     have e4 : decide ((((XL m 8 8 (a.toNat <<< i)) * 2 : Nat) : Int) ≥ 256) = decide (256 ≤ (XL m 8 8 (a.toNat <<< i)) * 2):=by rw [decide_eq_decide]; omega
     rw [e4]
     have e5 : XL m 8 8 0 = 0:=Qv 8 0 (by omega)
     by_cases c2 : r % 2 = 1 <;> by_cases c3 : 256 ≤ (XL m 8 8 (a.toNat <<< i)) * 2 <;> simp only [c2,c3,decide_true,decide_false,Bool.false_eq_true,if_true,if_false,ob_,e5,Nat.xor_zero]
    rw [UH hst,ih (i + 1) _ (r / 2) (by omega) (by rw [Nat.pow_succ] at hr; omega) ?_]
    ·conv=>rhs; unfold Ag
     rw [Jp,Nat.xor_assoc,Nat.shiftLeft_add]
    ·refine Nat.xor_lt_two_pow (n:=8) ho ?_
     split
     ·exact hR i (by omega)
     ·rw [Qv 8 0 (by omega)]; omega
 have:=key 8 0 0 b.toNat (by omega) hb (by omega)
 rw [Nat.shiftLeft_zero,Qv 8 a.toNat ha,Nat.zero_xor] at this
 have h3 : ZQ (We (m : Int)) (0,bI a,bI b) = _:=this
 unfold XN
 rw [h3]
 rfl

def yt (m : Nat) : Nat → UInt8 → Nat → UInt8 → UInt8
 | 0,_,_,o=>o
 | f + 1,a,k,o=>if k = 0 then o else yt m f (YC m a a) (k / 2) (if k % 2 = 1 then YC m o a else o)
theorem Zby (m : Nat) (L : UInt8 × Int × UInt8 → Option (Fl (UInt8 × Int × UInt8) UInt8)) (T : UInt8 → UInt8 → Option UInt8) (hT : ∀ a b,T a b = some (YC m a b))
  (hL : ∀ s,L s = if (decide (s.2.1 > 0)) = true then (((if ((Int.tmod s.2.1 2) == 1) = true then ((T s.2.2 s.1).bind λr=>some r) else (some s.2.2) : Option UInt8).bind λj12=>(T s.1 s.1).bind λr20=>some (r20,j12) : Option (UInt8 × UInt8)).bind λj9=>some (Fl.nx (j9.1,wr (Int.tdiv s.2.1 2),j9.2))) else (some (Fl.ex s.2.2))) :
  ∀ (f k : Nat) (a o : UInt8),k < 2 ^ f → f ≤ 62 → ZQ L (a,(k : Int),o) = some (yt m f a k o):=by
 intro f
 induction f with
 | zero =>
  intro k a o hk _
  have : k = 0:=by simpa using hk
  subst this
  exact UJ (by rw [hL]; simp [yt])
 | succ f ih =>
  intro k a o hk hf
  by_cases h0 : k = 0
  ·subst h0
   exact UJ (by rw [hL]; simp [yt])
  ·have hlt : k < 9223372036854775808:=Nat.lt_of_lt_of_le hk (Nat.pow_le_pow_right (by omega : 0 < 2) (by omega : f + 1 ≤ 63))
   have hst : L (a,(k : Int),o) = some (.nx (YC m a a,((k / 2 : Nat) : Int),if k % 2 = 1 then YC m o a else o)):=by
    rw [hL]
    have c1 : (k : Int) > 0:=by omega
    have e3 : ((((k % 2 : Nat) : Int)) == 1) = decide (k % 2 = 1):=by
     rw [Bool.eq_iff_iff,beq_iff_eq,decide_eq_true_eq]; omega
    simp only [c1,decide_true,if_true,Zg6,Zf5,hT,e3,ob_,Zdg (k / 2) (by omega)]
    by_cases c2 : k % 2 = 1 <;> simp [c2]
   rw [UH hst,ih (k / 2) _ _ (by rw [Nat.pow_succ] at hk; omega) (by omega)]
   conv=>rhs; unfold yt
   rw [if_neg h0]
theorem jZ (m : Nat) (hm : m < 512) (a : UInt8) (k f : Nat) (hk : k < 2 ^ f) (hf : f ≤ 62) : WP (m : Int) a (k : Int) = some (yt m f a k 1):=by
 unfold WP
 rw [Zby m (UF (m : Int)) _ (QL m hm) (λs=>by unfold UF; rfl) f k a 1 hk hf]; rfl
theorem Zb3 (m : Nat) (hm : m < 512) (hm2 : 256 ≤ m) (a : UInt8) (k f : Nat) (hk : k < 2 ^ f) (hf : f ≤ 62) : V8 (m : Int) a (k : Int) = some (yt m f a k 1):=by
 unfold V8
 rw [Zby m (Qu (m : Int)) _ (B2 m hm hm2) (λs=>by unfold Qu; rfl) f k a 1 hk hf]; rfl
def Jy (m : Nat) (a : UInt8) : UInt8:=yt m 8 a 254 1
theorem HA (m : Nat) (hm : m < 512) (a : UInt8) : Y5 (m : Int) a = some (Jy m a):=by
 unfold Y5
 have:=jZ m hm a 254 8 (by omega) (by omega)
 have h2 : WP (m : Int) a 254 = _:=this
 rw [h2]; rfl
theorem Zhl (m : Nat) (hm : m < 512) (hm2 : 256 ≤ m) (a : UInt8) : Uz (m : Int) a = some (Jy m a):=by
 unfold Uz
 have:=Zb3 m hm hm2 a 254 8 (by omega) (by omega)
 have h2 : V8 (m : Int) a 254 = _:=this
 rw [h2]; rfl

def redB (m d : Nat) : Bool:=XL d (lenN d - 1) (16 - (lenN d - 1)) m == 0
def AM (m : Int) : Bool:=decide (256 ≤ m ∧ m ≤ 511) && !((List.range' 2 30).any (redB m.toNat))
theorem Zbs {m : Int} (h : AM m = true) : ∃ n : Nat,m = n ∧ 256 ≤ n ∧ n < 512:=by
 unfold AM at h
 simp only [Bool.and_eq_true,decide_eq_true_eq] at h
 exact ⟨m.toNat,by omega,by omega,by omega⟩
def Zgl (l : List UInt8) : Bool:=decide l.Nodup
def dbl (m y : Nat) : Nat:=if (y <<< 1).testBit 8 then (y <<< 1) ^^^ m else y <<< 1
theorem Zbk (a b c d : Nat) : (a ^^^ b) ^^^ (c ^^^ d) = (a ^^^ c) ^^^ (b ^^^ d):=by
 rw [Nat.xor_assoc,Nat.xor_assoc,← Nat.xor_assoc b,← Nat.xor_assoc c,Nat.xor_comm b c]
theorem Zdw (m x y : Nat) : dbl m (x ^^^ y) = dbl m x ^^^ dbl m y:=by
 unfold dbl
 rw [Nat.shiftLeft_xor_distrib,Nat.testBit_xor]
 cases (x <<< 1).testBit 8 <;> cases (y <<< 1).testBit 8 <;> simp only [Bool.xor_false,Bool.false_xor,Bool.xor_self,Bool.xor_true,Bool.not_false,Bool.not_true,Bool.false_eq_true,if_true,if_false]
 ·rw [Nat.xor_assoc]
 ·rw [Nat.xor_assoc,Nat.xor_assoc,Nat.xor_comm m]
 rw [Zbk,Nat.xor_self,Nat.xor_zero]
theorem jM (m : Nat) : dbl m 0 = 0:=by simp [dbl]
def opP (m : Nat) : Nat → Nat → Nat → Nat
 | 0,_,_=>0
 | n + 1,b,x=>(if b % 2 = 1 then x else 0) ^^^ opP m n (b / 2) (dbl m x)
theorem Za5 (m n b x : Nat) : opP m (n + 1) b x = (if b % 2 = 1 then x else 0) ^^^ opP m n (b / 2) (dbl m x):=rfl
theorem Zab (m : Nat) : ∀ (n b x y : Nat),opP m n b (x ^^^ y) = opP m n b x ^^^ opP m n b y
 | 0,_,_,_=>by simp [opP]
 | n + 1,b,x,y=>by
  unfold opP
  rw [Zdw,Zab m n,Zbk]
  congr 1
  split <;> simp
theorem Ax (m : Nat) : ∀ (n b : Nat),opP m n b 0 = 0
 | 0,_=>rfl
 | n + 1,b=>by unfold opP; rw [jM,Ax m n]; simp
theorem Zdl (m : Nat) : ∀ (n b x : Nat),opP m n b (dbl m x) = dbl m (opP m n b x)
 | 0,_,_=>(jM m).symm
 | n + 1,b,x=>by
  unfold opP
  rw [Zdl m n,Zdw]
  congr 1
  split
  ·rfl
  ·exact (jM m).symm
theorem Zaf (m : Nat) : ∀ (n b k c x : Nat),opP m n b (opP m k c x) = opP m k c (opP m n b x)
 | 0,_,k,c,_=>(Ax m k c).symm
 | n + 1,b,k,c,x=>by
  rw [Za5,Za5,← Zdl,Zaf m n,Zab]
  congr 1
  split
  ·rfl
  ·exact (Ax m k c).symm
theorem Zek (a : Nat) : (if a % 2 = 1 then 1 else 0) ^^^ (a / 2) <<< 1 = a:=by
 rw [Nat.shiftLeft_eq]
 have h : (if a % 2 = 1 then 1 else 0) = a % 2:=by split <;> omega
 rw [h]
 apply Nat.eq_of_testBit_eq
 intro i
 rw [Nat.testBit_xor]
 cases i with
 | zero =>
  simp [Nat.testBit_zero]
 | succ i =>
  rw [Nat.testBit_succ,Nat.testBit_succ,Nat.testBit_succ]
  have h1 : a % 2 / 2 = 0:=by omega
  have h2 : a / 2 * 2 ^ 1 / 2 = a / 2:=by omega
  rw [h1,h2]; simp
theorem Zix (m i : Nat) (hi : i < 7) : dbl m (1 <<< i) = 1 <<< (i + 1):=by
 unfold dbl
 rw [← Nat.shiftLeft_add]
 have : (1 <<< (i + 1)).testBit 8 = false:=by
  apply Nat.testBit_lt_two_pow
  rw [Nat.shiftLeft_eq,Nat.one_mul]
  exact Nat.pow_lt_pow_right (by omega) (by omega)
 rw [this]; rfl
theorem qs (m : Nat) : ∀ (n i a : Nat), n + i ≤ 8 → a < 2 ^ n → opP m n a (1 <<< i) = a <<< i
  | 0, i, a, _, ha => by
    have : a = 0 := by simpa using ha
    subst this; simp [opP]
  | n + 1, i, a, hn, ha => by
    have e : a <<< i = (if a % 2 = 1 then 1 <<< i else 0) ^^^ (a / 2) <<< (i + 1) := by
      conv => lhs; rw [← Zek a]
      rw [Nat.shiftLeft_xor_distrib, ← Nat.shiftLeft_add, Nat.add_comm 1 i]
      congr 1
      split <;> simp
    unfold opP
    rw [e]
    congr 1
    rcases Nat.eq_zero_or_pos n with rfl | hp
    · have : a / 2 = 0 := by have : a < 2 := by simpa using ha
                             omega
      rw [this]; simp [opP]
    · rw [Zix m i (by omega)]
      exact qs m n (i + 1) (a / 2) (by omega) (by rw [Nat.pow_succ] at ha; omega)

theorem Ze8 (m x : Nat) (hx : x < 2 ^ 15) : XL m 8 8 (x <<< 1) = dbl m (XL m 8 8 x):=by
 rw [JK m 8 7,← ky (d:=8) (k:=7) hx]; rfl
theorem Zg5 (m : Nat) : ∀ (n i a b : Nat),i + n ≤ 8 → a < 2 ^ 8 → XL m 8 8 (Ag n (a <<< i) b) = opP m n b (XL m 8 8 (a <<< i))
 | 0,_,_,_,_,_=>by simp [Ag,opP,Qv 8 0]
 | n + 1,i,a,b,hn,ha=>by
  unfold Ag opP
  rw [Jp]
  have hx : a <<< i < 2 ^ 15:=Nat.lt_of_lt_of_le (HT ha) (Nat.pow_le_pow_right (by omega) (by omega))
  rw [← Ze8 m _ hx,← Nat.shiftLeft_add,Zg5 m n (i + 1) a (b / 2) (by omega) ha]
  congr 1
  split
  ·rfl
  ·exact Qv 8 0 (by omega)
theorem Jo (m : Nat) (h1 : 256 ≤ m) (h2 : m < 512) (a b : UInt8) : (YC m a b).toNat = opP m 8 b.toNat a.toNat:=by
 have ha : a.toNat < 2 ^ 8:=a.toNat_lt
 have hr : XL m 8 8 (Ag 8 a.toNat b.toNat) < 256:=AX (d:=8) h1 h2 8 _ (Zdy 8 a.toNat b.toNat 8 ha)
 have e:=Zg5 m 8 0 a.toNat b.toNat (by omega) ha
 rw [Nat.shiftLeft_zero,Qv 8 _ ha] at e
 unfold YC Zv
 rw [e] at hr ⊢
 generalize opP m 8 b.toNat a.toNat = q at hr ⊢
 have : (((q : Nat) : Int) % 256).toNat = q:=by omega
 rw [this]
 simp
 omega
section
variable {m : Nat} (h1 : 256 ≤ m) (h2 : m < 512)
include h1 h2
theorem Hb (a b : UInt8) : YC m a b = YC m b a:=by
 apply UInt8.toNat_inj.1
 rw [Jo m h1 h2,Jo m h1 h2]
 have ea:=qs m 8 0 a.toNat (by omega) a.toNat_lt
 have eb:=qs m 8 0 b.toNat (by omega) b.toNat_lt
 simp only [Nat.shiftLeft_zero] at ea eb
 rw [← ea,Zaf,eb,ea]
theorem Zfm (a b c : UInt8) : YC m (a ^^^ b) c = YC m a c ^^^ YC m b c:=by
 apply UInt8.toNat_inj.1
 rw [UInt8.toNat_xor,Jo m h1 h2,Jo m h1 h2,Jo m h1 h2,UInt8.toNat_xor,Zab]
theorem Zca (a b c : UInt8) : YC m a (b ^^^ c) = YC m a b ^^^ YC m a c:=by
 rw [Hb h1 h2,Zfm h1 h2,Hb h1 h2 b,Hb h1 h2 c]
theorem B4 (a : UInt8) : YC m 0 a = 0:=by
 apply UInt8.toNat_inj.1
 rw [Jo m h1 h2]
 exact Ax m 8 _
end
def vf {α : Type} (n : Nat) (f : Nat → α) : Vector α n:=Vector.ofFn λi=>f i.1
theorem Hq {α : Type} {n i : Nat} (f : Nat → α) (h : i < n) : (vf n f)[i] = f i:=by simp [vf]
theorem AK {α : Type} {n i : Nat} (f : Nat → α) (h : i < n) : (vf n f)[i]? = some (f i):=by rw [Vector.getElem?_eq_getElem h,Hq f h]
theorem Yk {α : Type} {n i : Nat} (f : Nat → α) (h : i < n) : ZZ (vf n f) (i : Int) = some (f i):=by rw [TK,AK f h]
theorem X6 {α : Type} {n : Nat} {f g : Nat → α} (h : ∀ i,i < n → f i = g i) : vf n f = vf n g:=by
 apply Br
 intro i hi
 rw [Hq f hi,Hq g hi,h i hi]
theorem Kh {α : Type} {n : Nat} (f : Nat → α) (k : Nat) (x : α) : (vf n f).setIfInBounds k x = vf n (λi=>if i = k then x else f i):=by
 apply Br
 intro i hi
 rw [Vector.getElem_setIfInBounds,Hq _ hi,Hq _ hi]
 by_cases h : k = i
 ·subst h; simp
 rw [if_neg h,if_neg (λe=>h e.symm)]
theorem Q6 {α : Type} (n : Nat) (x : α) : Vector.replicate n x = vf n (λ_=>x):=by
 apply Br
 intro i hi
 rw [Hq _ hi]; simp
theorem Zed {α : Type} [Inhabited α] {n : Nat} (v : Vector α n) : v = vf n (λi=>v[i]?.getD default):=by
 apply Br
 intro i hi
 rw [Hq _ hi,Vector.getElem?_eq_getElem hi]; rfl
abbrev Mat:=Vector (Vector UInt8 4) 4
def mf (f : Nat → Nat → UInt8) : Mat:=vf 4 λi=>vf 4 (f i)
theorem VN {f g : Nat → Nat → UInt8} (h : ∀ i,i < 4 → ∀ j,j < 4 → f i j = g i j) : mf f = mf g:=X6 λi hi=>X6 λj hj=>h i hi j hj
theorem Qx {i : Nat} (f : Nat → Nat → UInt8) (h : i < 4) : ZZ (mf f) (i : Int) = some (vf 4 (f i)):=Yk _ h
theorem BQ (f : Nat → Nat → UInt8) (k : Nat) (g : Nat → UInt8) : (mf f).setIfInBounds k (vf 4 g) = mf (λi j=>if i = k then g j else f i j):=by
 unfold mf
 rw [Kh]
 apply X6
 intro i hi
 by_cases h : i = k
 ·simp [h]
 simp [h]
theorem qv : Vector.replicate 4 (Vector.replicate 4 (0 : UInt8)) = mf (λ_ _=>0):=by rw [Q6 4 (0 : UInt8),Q6]; rfl
theorem lt4 {i : Nat} (h : i < 4) : decide ((i : Int) < 4) = true:=by simp; omega
theorem lt4' {i : Nat} (h : ¬ i < 4) : decide ((i : Int) < 4) = false:=by simp; omega
theorem wr4 {i : Nat} (h : i < 1000) : wr ((i : Int) + 1) = ((i + 1 : Nat) : Int):=Vd (by omega)

def Al (i j : Nat) : UInt8:=if i = j then 1 else 0
theorem Zff (L : Mat × Int → Option (Fl (Mat × Int) Mat))
  (hL : ∀ s8,L s8 = if (decide (s8.2 < 4)) = true then ((ZZ s8.1 s8.2).bind λ(x14 : (Vector UInt8 4))=>(ZZ x14 s8.2).bind λ(x17 : UInt8)=>some (Fl.nx ((s8.1.setIfInBounds (s8.2).toNat (x14.setIfInBounds (s8.2).toNat 1)),wr (s8.2 + 1)))) else (some (Fl.ex s8.1))) :
  ZQ L (Vector.replicate 4 (Vector.replicate 4 (0 : UInt8)),0) = some (mf Al):=by
 have:=YL (f:=L) (λi : Nat=>(mf λr c=>if r < i then Al r c else 0,(i : Int))) 0 4 (by omega) (t:=mf Al) (λi _ hi=>by
  rw [hL]
  simp only [lt4 hi,if_true,Qx _ hi,Yk _ hi,ob_,Int.toNat_natCast,Kh,BQ,wr4 (show i < 1000 by omega)]
  congr 3
  apply VN
  intro r hr c hc
  by_cases h1 : r = i
  ·subst h1; simp [Al,eq_comm]
  ·simp only [h1,if_false]
   by_cases h2 : r < i
   ·rw [if_pos h2,if_pos (by omega)]
   ·rw [if_neg h2,if_neg (by omega)]) (by
  rw [hL]
  simp only [lt4' (show ¬ 4 < 4 by omega),Bool.false_eq_true,if_false]
  exact congrArg (λz=>some (Fl.ex z)) (VN λr hr c hc=>by rw [if_pos hr]))
 rw [qv]
 simpa using this
theorem A3 : Up = some (mf Al):=by
 unfold Up
 rw [Zff Q5 λs=>rfl]; rfl

abbrev MF:=Nat → Nat → UInt8
def BM (f : MF) (k : Nat) : Nat:=((List.range' k (4 - k)).find? λi=>!(f i k == 0)).getD 4
def Zgc (f : MF) (i k : Nat) : MF:=λr c=>if r = k then f i c else if r = i then f k c else f r c
def qA (m : Nat) (f : MF) (k : Nat) (by_ : UInt8) : MF:=λr c=>if r = k then YC m (f k c) by_ else f r c
def TW (m : Nat) (f g : MF) (k : Nat) : MF:=λr c=>if r = k then g r c else g r c ^^^ YC m (f r k) (g k c)
structure Red where
 a : MF
 b : MF
 det : UInt8
def AY (m : Nat) (s : Red) (k : Nat) : Option Red :=
 let i:=BM s.a k
 if i = 4 then none else
  let f:=Zgc s.a i k
  let g:=Zgc s.b i k
  let q:=Jy m (f k k)
  let f2:=qA m f k q
  let g2:=qA m g k q
  some ⟨TW m f2 f2 k,TW m f2 g2 k,YC m s.det (f k k)⟩
def AS (m : Nat) : Nat → Nat → Red → Option Red
 | 0,_,s=>some s
 | n + 1,k,s=>(AY m s k).bind (AS m n (k + 1))
def yA (m : Nat) (a : MF) : UInt8 × Mat:=match AS m 4 0 ⟨a,Al,1⟩ with
 | some s=>(s.det,mf s.b)
 | none=>(0,mf λ_ _=>0)
theorem Zc9 (L : Int → Option (Fl Int Int)) (f : MF) (k : Nat) (hk : k < 4)
  (hL : ∀ s,L s = (if (decide (s < 4)) = true then ((ZZ (mf f) s).bind λ(x30 : (Vector UInt8 4))=>(ZZ x30 (k : Int)).bind λ(x33 : UInt8)=>some (x33 == 0)) else (some false) : Option (Bool)).bind λ(j25 : Bool)=>if j25 = true then (some (Fl.nx (wr (s + 1)))) else (some (Fl.ex s))) :
  ZQ L (k : Int) = some ((BM f k : Nat) : Int):=by
 have:=J2 (f:=L) (λi : Nat=>(i : Int)) (λi=>!(f i k == 0)) (λi=>(i : Int)) (e:=(4 : Int)) 4 (4 - k) k (by omega) (λi _ hi=>by
  rw [hL]
  simp only [lt4 hi,if_true,Qx _ hi,Yk _ hk,ob_]
  cases h : (f i k == 0)
  ·simp
  ·simp [wr4 (show i < 1000 by omega)]) (by rw [hL]; simp)
 rw [this]
 unfold BM
 cases (List.range' k (4 - k)).find? λi=>!(f i k == 0) <;> rfl
theorem Zhv {f : MF} {k : Nat} (h : BM f k ≠ 4) : BM f k < 4:=by
 unfold BM at h ⊢
 cases hf : (List.range' k (4 - k)).find? λi=>!(f i k == 0) with
 | none=>rw [hf] at h; exact absurd rfl h
 | some i =>
  have:=List.mem_range'_1.1 (List.mem_of_find?_eq_some hf)
  simp only [Option.getD_some]
  omega
theorem qb (L : Mat × Mat × Int → Option (Fl (Mat × Mat × Int) (Mat × Mat))) (f g : MF) (k : Nat) (hk : k < 4) (p q : Nat → UInt8)
  (hL : ∀ c,c < 4 → ∀ a b : MF,(∀ r,r ≠ k → a r = f r) → (∀ r,r ≠ k → b r = g r) → a k c = f k c → b k c = g k c → L (mf a,mf b,(c : Int)) = some (Fl.nx ((mf a).setIfInBounds k ((vf 4 (a k)).setIfInBounds c (p c)),(mf b).setIfInBounds k ((vf 4 (b k)).setIfInBounds c (q c)),wr ((c : Int) + 1))))
  (he : ∀ a b : Mat,L (a,b,4) = some (Fl.ex (a,b))) :
  ZQ L (mf f,mf g,0) = some (mf (λr c=>if r = k then p c else f r c),mf (λr c=>if r = k then q c else g r c)):=by
 have k1 : (mf λr c=>if r = k then (if c < 4 then p c else f k c) else f r c) = mf λr c=>if r = k then p c else f r c:=VN λr _ c hc=>by rw [if_pos hc]
 have k2 : (mf λr c=>if r = k then (if c < 4 then q c else g k c) else g r c) = mf λr c=>if r = k then q c else g r c:=VN λr _ c hc=>by rw [if_pos hc]
 have:=YL (f:=L) (λi : Nat=>(mf λr c=>if r = k then (if c < i then p c else f k c) else f r c,mf λr c=>if r = k then (if c < i then q c else g k c) else g r c,(i : Int))) 0 4 (by omega)
  (t:=(mf (λr c=>if r = k then p c else f r c),mf (λr c=>if r = k then q c else g r c))) (λi _ hi=>by
  rw [hL i hi _ _ (λr hr=>by funext c; rw [if_neg hr]) (λr hr=>by funext c; rw [if_neg hr]) (by simp) (by simp)]
  simp only [Kh,BQ,wr4 (show i < 1000 by omega)]
  congr 3
  ·apply VN
   intro r hr c hc
   by_cases h : r = k
   ·simp only [h,if_true]
    by_cases h2 : c = i
    ·subst h2; simp
    ·by_cases h3 : c < i
     ·rw [if_neg h2,if_pos h3,if_pos (by omega)]
     ·rw [if_neg h2,if_neg h3,if_neg (by omega)]
   ·simp only [h,if_false]
  ·congr 1
   apply VN
   intro r hr c hc
   by_cases h : r = k
   ·simp only [h,if_true]
    by_cases h2 : c = i
    ·subst h2; simp
    ·by_cases h3 : c < i
     ·rw [if_neg h2,if_pos h3,if_pos (by omega)]
     ·rw [if_neg h2,if_neg h3,if_neg (by omega)]
   ·simp only [h,if_false]) (by
  simp only [k1,k2]
  exact he _ _)
 have e1 : mf (λr c=>if r = k then (if c < 0 then p c else f k c) else f r c) = mf f:=VN λr hr c hc=>by
  by_cases h : r = k
  ·subst h; simp
  ·simp [h]
 have e2 : mf (λr c=>if r = k then (if c < 0 then q c else g k c) else g r c) = mf g:=VN λr hr c hc=>by
  by_cases h : r = k
  ·subst h; simp
  ·simp [h]
 simp only [e1,e2] at this
 exact this
theorem Zak {S : Type} (m : Nat) (L : S → Option (Fl S (Fl (Mat × UInt8) (UInt8 × Mat)))) (pk : Red → Nat → S)
  (hstep : ∀ k,k < 4 → ∀ s,L (pk s k) = some (match AY m s k with | none=>.ex (.ex (0,mf λ_ _=>0)) | some s'=>.nx (pk s' (k + 1))))
  (hend : ∀ s,L (pk s 4) = some (.ex (.nx (mf s.b,s.det)))) : ∀ (n k : Nat) (s : Red),k + n = 4 → ZQ L (pk s k) = some (match AS m n k s with | some s'=>.nx (mf s'.b,s'.det) | none=>.ex (0,mf λ_ _=>0))
 | 0,k,s,h=>by
  have : k = 4:=by omega
  subst this
  rw [UJ (hend s)]; rfl
 | n + 1,k,s,h=>by
  have h1:=hstep k (by omega) s
  unfold AS
  cases hr : AY m s k with
  | none=>rw [hr] at h1; rw [UJ h1]; rfl
  | some s'=>rw [hr] at h1; rw [UH h1]; exact Zak m L pk hstep hend n (k + 1) s' (by omega)
theorem Ziq {i k : Nat} : (((i : Int)) != ((k : Nat) : Int)) = decide (i ≠ k):=by
 by_cases h : i = k
 ·subst h; simp
 have : (i : Int) ≠ (k : Int):=by omega
 simp [h,this]
theorem Zeh (m : Nat) (L : Mat × Mat × Int → Option (Fl (Mat × Mat × Int) (Mat × Mat))) (f g : MF) (k : Nat)
  (hL : ∀ i,i < 4 → ∀ a b : MF,(a i = f i) → (b i = g i) → (a k = f k) → (b k = g k) → L (mf a,mf b,(i : Int)) = some (Fl.nx (mf (λr c=>if r = i then TW m f f k r c else a r c),mf (λr c=>if r = i then TW m f g k r c else b r c),wr ((i : Int) + 1))))
  (he : ∀ a b : Mat,L (a,b,4) = some (Fl.ex (a,b))) : ZQ L (mf f,mf g,0) = some (mf (TW m f f k),mf (TW m f g k)):=by
 have ek : ∀ h : MF,TW m f h k k = h k:=λh=>by funext c; simp [TW]
 have k1 : (mf λr c=>if r < 4 then TW m f f k r c else f r c) = mf (TW m f f k):=VN λr hr c _=>by rw [if_pos hr]
 have k2 : (mf λr c=>if r < 4 then TW m f g k r c else g r c) = mf (TW m f g k):=VN λr hr c _=>by rw [if_pos hr]
 have:=YL (f:=L) (λi : Nat=>(mf λr c=>if r < i then TW m f f k r c else f r c,mf λr c=>if r < i then TW m f g k r c else g r c,(i : Int))) 0 4 (by omega)
  (t:=(mf (TW m f f k),mf (TW m f g k))) (λi _ hi=>by
  rw [hL i hi _ _ (by funext c; simp) (by funext c; simp) (by funext c; by_cases h : k < i <;> simp [h,ek]) (by funext c; by_cases h : k < i <;> simp [h,ek])]
  rw [wr4 (show i < 1000 by omega)]
  have e : ∀ (x y : MF),(mf λr c=>if r = i then x r c else if r < i then x r c else y r c) = mf λr c=>if r < i + 1 then x r c else y r c:=λx y=>VN λr _ c _=>by
   by_cases h1 : r = i
   ·subst h1; simp
   ·by_cases h2 : r < i
    ·rw [if_neg h1,if_pos h2,if_pos (by omega)]
    ·rw [if_neg h1,if_neg h2,if_neg (by omega)]
  rw [e,e]) (by
  simp only [k1,k2]
  exact he _ _)
 simpa using this

theorem Zhx (f : MF) {i k : Nat} : ((mf f).setIfInBounds i (vf 4 (f k))).setIfInBounds k (vf 4 (f i)) = mf (Zgc f i k):=by
 rw [BQ,BQ]; rfl
section
variable (m : Nat) (hm : m < 512) (hm2 : 256 ≤ m)
include hm
theorem Zb2 (A B : Mat) (det : UInt8) (q : UInt8) (f g : MF) (k : Nat) (hk : k < 4) : ZQ (WZ (m : Int) (A,B,(k : Int),det) q) (mf f,mf g,0) = some (mf (qA m f k q),mf (qA m g k q)):=by
 refine qb _ f g k hk (λc=>YC m (f k c) q) (λc=>YC m (g k c) q) (λc hc a b _ _ ha hb=>?_) (λa b=>?_)
 ·unfold WZ
  simp only [lt4 hc,if_true,Qx _ hk,Yk _ hc,ob_,QL m hm,ha,hb,Int.toNat_natCast]
 unfold WZ; simp
theorem Zg1 (A B : Mat) (det : UInt8) (s1 : Mat × Mat × Int) (x : UInt8) (f g : MF) (k i : Nat) (hk : k < 4) (hi : i < 4) (hik : i ≠ k) (hs : s1.2.2 = (i : Int)) :
  ZQ (WX (m : Int) (A,B,(k : Int),det) s1 x) (mf f,mf g,0) = some (mf (λr c=>if r = i then f i c ^^^ YC m x (f k c) else f r c),mf (λr c=>if r = i then g i c ^^^ YC m x (g k c) else g r c)):=by
 refine qb _ f g i hi (λc=>f i c ^^^ YC m x (f k c)) (λc=>g i c ^^^ YC m x (g k c)) (λc hc a b ha' hb' ha hb=>?_) (λa b=>?_)
 ·unfold WX
  have e1:=ha' k (Ne.symm hik)
  have e2:=hb' k (Ne.symm hik)
  simp only [hs,lt4 hc,if_true,Qx _ hk,Qx _ hi,Yk _ hc,ob_,QL m hm,ha,hb,e1,e2,Int.toNat_natCast]
 unfold WX; simp
include hm2
theorem Zfj (A B : Mat) (det : UInt8) (f g : MF) (k : Nat) (hk : k < 4) : ZQ (WW (m : Int) (A,B,(k : Int),det)) (mf f,mf g,0) = some (mf (TW m f f k),mf (TW m f g k)):=by
 refine Zeh m _ f g k (λi hi a b hai hbi hak hbk=>?_) (λa b=>by unfold WW; simp)
 unfold WW
 have hfi : a i k = f i k:=by rw [hai]
 simp only [lt4 hi,if_true,Qx _ hi,Yk _ hk,ob_,Ziq,hfi]
 by_cases h : i = k
 ·subst h
  simp only [ne_eq,not_true_eq_false,decide_false,Bool.false_eq_true,if_false,ob_]
  congr 3
  ·exact VN λr _ c _=>by
    by_cases h : r = i
    ·subst h; simp [TW,hai]
    ·simp [h]
  congr 1
  exact VN λr _ c _=>by
   by_cases h : r = i
   ·subst h; simp [TW,hbi]
   ·simp [h]
 have hd : decide (i ≠ k) = true:=by simpa using h
 simp only [hd,if_true,ob_]
 by_cases h0 : f i k = 0
 ·simp only [h0,bne_self_eq_false,Bool.false_eq_true,if_false,ob_]
  congr 3
  ·exact VN λr _ c _=>by
    by_cases h2 : r = i
    ·subst h2; simp [TW,hai,h,h0,B4 hm2 hm]
    ·simp [h2]
  congr 1
  exact VN λr _ c _=>by
   by_cases h2 : r = i
   ·subst h2; simp [TW,hbi,h,h0,B4 hm2 hm]
   ·simp [h2]
 have hb0 : (f i k != 0) = true:=by simpa using h0
 simp only [hb0,if_true,ob_]
 rw [Zg1 m hm A B det _ _ a b k i hk hi h rfl]
 simp only [ob_]
 congr 3
 ·exact VN λr _ c _=>by
   by_cases h2 : r = i
   ·subst h2; simp [TW,hai,hak,h]
   ·simp [h2]
 congr 1
 exact VN λr _ c _=>by
  by_cases h2 : r = i
  ·subst h2; simp [TW,hbi,hbk,h]
  ·simp [h2]
theorem Zfo (k : Nat) (hk : k < 4) (s : Red) : XC (m : Int) (mf s.a,mf s.b,(k : Int),s.det) = some (match AY m s k with | none=>.ex (.ex (0,mf λ_ _=>0)) | some s'=>.nx (mf s'.a,mf s'.b,((k + 1 : Nat) : Int),s'.det)):=by
 unfold XC
 have hp:=Zc9 (Qi (mf s.a,mf s.b,(k : Int),s.det)) s.a k hk (λx=>rfl)
 simp only [lt4 hk,if_true,hp,ob_]
 unfold AY
 by_cases h4 : BM s.a k = 4
 ·have : ((4 : Nat) : Int) = 4:=rfl
  simp only [h4,this,beq_self_eq_true,if_true,qv]
 have hi:=Zhv h4
 have h5 : (((BM s.a k : Nat) : Int) == 4) = false:=by
  have : ((BM s.a k : Nat) : Int) ≠ 4:=by omega
  simpa using this
 generalize hpi : BM s.a k = i at *
 simp only [h4,h5,Bool.false_eq_true,if_false]
 have x1 : ZZ ((mf s.a).setIfInBounds i (vf 4 (s.a k))) (k : Int) = some (vf 4 (λc=>if k = i then s.a k c else s.a k c)):=by rw [BQ]; exact Qx _ hk
 have x2 : ZZ ((mf s.b).setIfInBounds i (vf 4 (s.b k))) (k : Int) = some (vf 4 (λc=>if k = i then s.b k c else s.b k c)):=by rw [BQ]; exact Qx _ hk
 simp only [Qx _ hk,Qx _ hi,ob_,Int.toNat_natCast,x1,x2,Zhx,Yk _ hk,QL m hm,HA m hm,Zb2 m hm _ _ _ _ _ _ k hk,Zfj m hm hm2 _ _ _ _ _ k hk,wr4 (show k < 1000 by omega)]
theorem ja (f : MF) : Wv (m : Int) (mf f) = some (yA m f):=by
 unfold Wv
 have h:=Zak m (XC (m : Int)) (λs k=>(mf s.a,mf s.b,(k : Int),s.det)) (Zfo m hm hm2) (λs=>by unfold XC; simp) 4 0 ⟨f,Al,1⟩ rfl
 have h2 : ZQ (XC (m : Int)) (mf f,mf Al,0,1) = _:=h
 rw [A3,ob_,h2]
 unfold yA
 cases AS m 4 0 ⟨f,Al,1⟩ <;> rfl
end
theorem kr {n i : Nat} (v : Vector UInt8 n) (h : i < n) : ZZ v (i : Int) = some (v.toList.getD i 0):=by
 rw [TK,Vector.getElem?_eq_getElem h]
 simp [List.getD_eq_getElem?_getD,h]
theorem Zaz (x : UInt8) : (bI x).toNat = x.toNat:=rfl
def Jf (p : V16) : Bool:=p.toList.all (λx=>decide (x < 16)) && Zgl p.toList
def yq (a : Mat) : MF:=λi j=>(a[i]?.getD default)[j]?.getD default
theorem yy (a : Mat) : a = mf (yq a):=calc a = vf 4 (λi=>a[i]?.getD default):=Zed a
  _ = _:=X6 λi _=>Zed _
def detC (m : Nat) (a : Mat) : UInt8:=(yA m (yq a)).1
def invM (m : Nat) (a : Mat) : Mat:=(yA m (yq a)).2
def Y7 (c : GCipher) : Bool:=AM c.Field && Zgl c.Box.toList && Jf c.Places && decide (1 ≤ c.Rounds ∧ c.Rounds ≤ 20) && (detC c.Field.toNat c.Mix != 0)
theorem Zhf (m : Nat) (hm : m < 512) (hm2 : 256 ≤ m) (a : Mat) : Wv (m : Int) a = some (detC m a,invM m a):=by
 have:=ja m hm hm2 (yq a)
 rw [← yy] at this
 exact this
theorem Af {c : GCipher} (h : Y7 c = true) : ∃ m : Nat,c.Field = m ∧ 256 ≤ m ∧ m < 512:=by
 unfold Y7 at h
 simp only [Bool.and_eq_true] at h
 exact Zbs h.1.1.1.1
theorem W1 {n : Nat} (L : Vector UInt8 n × Int → Option (Fl (Vector UInt8 n × Int) (Vector UInt8 n))) (f h : Nat → UInt8) (hn : n < 9223372036854775807) (m : Nat) (hm : m ≤ n) (h0 : ∀ j,j < m → h j = f j)
  (hL : ∀ i,m ≤ i → i < n → ∀ a : Nat → UInt8,(∀ j,j < i → a j = h j) → (∀ j,i ≤ j → a j = f j) → L (vf n a,(i : Int)) = some (.nx ((vf n a).setIfInBounds i (h i),wr ((i : Int) + 1))))
  (he : ∀ v,L (v,(n : Int)) = some (.ex v)) : ZQ L (vf n f,(m : Int)) = some (vf n h):=by
 have k1 : (vf n λj=>if j < n then h j else f j) = vf n h:=X6 λj hj=>by rw [if_pos hj]
 have k0 : (vf n λj=>if j < m then h j else f j) = vf n f:=X6 λj hj=>by
  by_cases h1 : j < m
  ·rw [if_pos h1,h0 j h1]
  ·rw [if_neg h1]
 have:=YL (f:=L) (λi : Nat=>(vf n λj=>if j < i then h j else f j,(i : Int))) m n hm (t:=vf n h) (λi hmi hi=>by
  rw [hL i hmi hi _ (λj hj=>by rw [if_pos hj]) (λj hj=>by rw [if_neg (by omega)]),Kh,Vd (show i < 9223372036854775807 by omega)]
  refine congrArg (λz=>some (Fl.nx (z,((i + 1 : Nat) : Int)))) (X6 λj hj=>?_)
  by_cases h1 : j = i
  ·subst h1; simp
  ·by_cases h2 : j < i
   ·rw [if_neg h1,if_pos h2,if_pos (by omega)]
   ·rw [if_neg h1,if_neg h2,if_neg (by omega)]) (by
  simp only [k1]
  exact he _)
 simp only [k0] at this
 exact this
def kV (b : V256) (x : UInt8) : UInt8:=b[x.toNat]'(UInt8.toNat_lt x)
theorem Hh (b : V256) (x : UInt8) : ZZ b (bI x) = some (kV b x):=by
 have : ZZ b ((x.toNat : Nat) : Int) = _:=TK b x.toNat
 rw [Vector.getElem?_eq_getElem (UInt8.toNat_lt x)] at this
 exact this
abbrev Blk:=V16
def bf (v : Blk) (i : Nat) : UInt8:=v[i]?.getD default
theorem Zgs (v : Blk) : v = vf 16 (bf v):=Zed v
theorem B3 {i : Nat} (h : i < 16) : decide ((i : Int) < 16) = true:=by simp; omega
def AB (f g : Nat → UInt8) : Nat → UInt8:=λi=>f i ^^^ g i
theorem Am (f g : Nat → UInt8) : Wf (vf 16 f) (vf 16 g) = some (vf 16 (AB f g)):=by
 unfold Wf
 have:=W1 (UZ (vf 16 g)) f (AB f g) (by omega) 0 (by omega) (λj hj=>by omega) (λi _ hi a _ ha=>by
  unfold UZ
  simp only [B3 hi,if_true,Yk _ hi,ob_,Int.toNat_natCast,ha i (Nat.le_refl _),AB]) (λv=>by unfold UZ; simp)
 have h2 : ZQ (UZ (vf 16 g)) (vf 16 f,0) = _:=this
 rw [h2]; rfl
theorem Ka (f g : Nat → UInt8) : Xc (vf 16 f) (vf 16 g) = some (vf 16 (AB f g)):=by
 unfold Xc
 have:=W1 (W5 (vf 16 g)) f (AB f g) (by omega) 0 (by omega) (λj hj=>by omega) (λi _ hi a _ ha=>by
  unfold W5
  simp only [B3 hi,if_true,Yk _ hi,ob_,Int.toNat_natCast,ha i (Nat.le_refl _),AB]) (λv=>by unfold W5; simp)
 have h2 : ZQ (W5 (vf 16 g)) (vf 16 f,0) = _:=this
 rw [h2]; rfl
def jj (b : V256) (f : Nat → UInt8) : Nat → UInt8:=λi=>kV b (f i)
theorem Zct (b : V256) (f : Nat → UInt8) : TE b (vf 16 f) = some (vf 16 (jj b f)):=by
 unfold TE
 have:=W1 (VB b) f (jj b f) (by omega) 0 (by omega) (λj hj=>by omega) (λi _ hi a _ ha=>by
  unfold VB
  simp only [B3 hi,if_true,Yk _ hi,ob_,Int.toNat_natCast,ha i (Nat.le_refl _),Hh,jj]) (λv=>by unfold VB; simp)
 have h2 : ZQ (VB b) (vf 16 f,0) = _:=this
 rw [h2]; rfl
def BH (p : Blk) (f : Nat → UInt8) : Nat → UInt8:=λi=>f (bf p i).toNat
theorem zo {p : Blk} (h : Jf p = true) {i : Nat} (hi : i < 16) : (bf p i).toNat < 16:=by
 unfold Jf at h
 simp only [Bool.and_eq_true,List.all_eq_true,decide_eq_true_eq] at h
 have e : bf p i = p[i]:=by unfold bf; rw [Vector.getElem?_eq_getElem hi]; rfl
 have:=h.1 p[i] (by simp)
 rw [UInt8.lt_iff_toNat_lt] at this
 rw [e]; exact this
theorem AG (p : Blk) {i : Nat} (h : i < 16) : ZZ p (i : Int) = some (bf p i):=by
 rw [TK]; unfold bf; rw [Vector.getElem?_eq_getElem h]; rfl
theorem Zbg (f : Nat → UInt8) {x : UInt8} (h : x.toNat < 16) : ZZ (vf 16 f) (bI x) = some (f x.toNat):=Yk f h
theorem Zfb (p : Blk) (hp : Jf p = true) (f : Nat → UInt8) : Qm p (vf 16 f) = some (vf 16 (BH p f)):=by
 unfold Qm
 have:=W1 (Ue p (vf 16 f)) (λ_=>0) (BH p f) (by omega) 0 (by omega) (λj hj=>by omega) (λi _ hi a _ ha=>by
  unfold Ue
  simp only [B3 hi,if_true,Yk _ hi,AG _ hi,ob_,Int.toNat_natCast,Zbg f (zo hp hi),BH]) (λv=>by unfold Ue; simp)
 have h2 : ZQ (Ue p (vf 16 f)) (vf 16 (λ_=>0),0) = _:=this
 rw [Q6 16 (0 : UInt8),h2]; rfl
theorem v_move (p : Blk) (hp : Jf p = true) (f : Nat → UInt8) : VR p (vf 16 f) = some (vf 16 (BH p f)):=by
 unfold VR
 have:=W1 (Wr p (vf 16 f)) (λ_=>0) (BH p f) (by omega) 0 (by omega) (λj hj=>by omega) (λi _ hi a _ ha=>by
  unfold Wr
  simp only [B3 hi,if_true,Yk _ hi,AG _ hi,ob_,Int.toNat_natCast,Zbg f (zo hp hi),BH]) (λv=>by unfold Wr; simp)
 have h2 : ZQ (Wr p (vf 16 f)) (vf 16 (λ_=>0),0) = _:=this
 rw [Q6 16 (0 : UInt8),h2]; rfl

def JX (b : V256) (f : Nat → UInt8) (r : Int) : Nat → UInt8
 | 0=>f 0 ^^^ kV b (f 15 ^^^ Zv r)
 | i + 1=>f (i + 1) ^^^ kV b (JX b f r i)
theorem Zer (b : V256) (f : Nat → UInt8) (r : Int) : Qf b (vf 16 f) r = some (vf 16 (JX b f r)) := by
  unfold Qf
  have := W1 (V3 b r) f (JX b f r) (by omega) 0 (by omega) (λj hj => by omega) (λi _ hi a hb ha => by
    unfold V3
    cases i with
    | zero =>
      have e1 : Int.tmod (wr (((0 : Nat) : Int) + 15)) 16 = ((15 : Nat) : Int) := by decide
      simp only [e1, B3 hi, if_true, Yk a (show 15 < 16 by omega), ob_]
      have e2 : (((0 : Nat) : Int) == 0) = true := rfl
      simp only [e2, if_true, ob_, Hh, Yk a hi, Int.toNat_natCast, ha 0 (by omega), ha 15 (by omega), JX]
    | succ i =>
      have e1 : Int.tmod (wr (((i + 1 : Nat) : Int) + 15)) 16 = ((i : Nat) : Int) := by
        rw [Y4 (by omega)]
        have : (((i + 1 : Nat) : Int) + 15) = ((i + 16 : Nat) : Int) := by omega
        rw [this]
        have : Int.tmod ((i + 16 : Nat) : Int) 16 = (((i + 16) % 16 : Nat) : Int) := rfl
        rw [this]
        omega
      have e2 : (((i + 1 : Nat) : Int) == 0) = false := by have : ((i + 1 : Nat) : Int) ≠ 0 := by omega
                                                           simpa using this
      simp only [e1, e2, B3 hi, if_true, Yk a (show i < 16 by omega), ob_, Bool.false_eq_true, if_false, Hh, Yk a hi, Int.toNat_natCast, ha (i + 1) (Nat.le_refl _), hb i (by omega), JX]) (λv => by unfold V3; simp)
  have h2 : ZQ (V3 b r) (vf 16 f, 0) = _ := this
  rw [h2]; rfl
theorem Zeu (e : Ref Gengine) (f : Nat → UInt8) (r : Int) : WL e (vf 16 f) r = some (vf 16 (JX e.v.box f r)):=by
 unfold WL
 have x0 : ZZ (vf 16 f) (0 : Int) = some (f 0):=Yk f (show 0 < 16 by omega)
 have x15 : ZZ (vf 16 f) (15 : Int) = some (f 15):=Yk f (show 15 < 16 by omega)
 have z : (0 : Int).toNat = 0:=rfl
 simp only [x0,x15,ob_,Hh,z,Kh]
 have:=W1 (XR e) (λi=>if i = 0 then f 0 ^^^ kV e.v.box (f 15 ^^^ Zv r) else f i) (JX e.v.box f r) (by omega) 1 (by omega) (λj hj=>by
  have : j = 0:=by omega
  subst this; simp [JX]) (λi h1 hi a hb ha=>by
  unfold XR
  obtain ⟨i,rfl⟩ : ∃ k,i = k + 1:=⟨i - 1,by omega⟩
  have e1 : wr (((i + 1 : Nat) : Int) - 1) = ((i : Nat) : Int):=by rw [Y4 (by omega)]; omega
  simp only [e1,B3 hi,if_true,Yk a (show i < 16 by omega),Yk a hi,ob_,Hh,Int.toNat_natCast,ha (i + 1) (Nat.le_refl _),hb i (by omega),JX]
  simp) (λv=>by unfold XR; simp)
 have h2 : ZQ (XR e) (vf 16 (λi=>if i = 0 then f 0 ^^^ kV e.v.box (f 15 ^^^ Zv r) else f i),1) = _:=this
 rw [h2]; rfl
def qF (b : V256) (k : Nat → UInt8) : Nat → Nat → UInt8
 | 0=>k
 | r + 1=>JX b (qF b k r) ((r + 1 : Nat) : Int)
def TA (b : V256) (k : Nat → UInt8) (n : Nat) : List Blk:=(List.range (n + 1)).map λr=>vf 16 (qF b k r)
theorem kx (b : V256) (k : Nat → UInt8) (n : Nat) : TA b k (n + 1) = TA b k n ++ [vf 16 (JX b (qF b k n) ((n + 1 : Nat) : Int))]:=by
 unfold TA
 rw [List.range_succ,List.map_append]; rfl
theorem HQ (b : V256) (k : Nat → UInt8) (n : Nat) : (TA b k n).length = n + 1:=by simp [TA]
theorem Ad (b : V256) (k : Nat → UInt8) {n r : Nat} (h : r ≤ n) : idx (TA b k n) (r : Int) = some (vf 16 (qF b k r)):=by
 rw [YF]; unfold TA; rw [List.getElem?_map,List.getElem?_range (by omega)]; rfl
theorem Zfi (c : GCipher) (k : Nat → UInt8) (n : Nat) (hn : n ≤ 1000) : T8 c (vf 16 k) (n : Int) = some (TA c.Box k n):=by
 unfold T8
 have:=YL (f:=V2 c (n : Int)) (λi : Nat=>(vf 16 (qF c.Box k (i - 1)),TA c.Box k (i - 1),(i : Int))) 1 (n + 1) (by omega) (t:=TA c.Box k n) (λi h1 hi=>by
  unfold V2
  obtain ⟨i,rfl⟩ : ∃ q,i = q + 1:=⟨i - 1,by omega⟩
  have e1 : decide (((i + 1 : Nat) : Int) ≤ (n : Int)) = true:=by simp; omega
  have e2 : app 16 (TA c.Box k i) [vf 16 (JX c.Box (qF c.Box k i) ((i + 1 : Nat) : Int))] = _:=YH (by rw [HQ]; simp; omega)
  simp only [Nat.add_sub_cancel,e1,if_true,Zer,ob_,e2,Vd (show i + 1 < 9223372036854775807 by omega),kx]
  rfl) (by
  unfold V2
  have e1 : decide (((n + 1 : Nat) : Int) ≤ (n : Int)) = false:=by simp; omega
  simp only [e1,Bool.false_eq_true,if_false,Nat.add_sub_cancel])
 have h2 : ZQ (V2 c (n : Int)) (vf 16 k,[vf 16 k],1) = _:=this
 rw [h2]; rfl
theorem v_keys (e : Ref Gengine) (k : Nat → UInt8) (n : Nat) (hn : n ≤ 1000) : VV e (vf 16 k) (n : Int) = some (TA e.v.box k n):=by
 unfold VV
 have:=YL (f:=Ww e (n : Int)) (λi : Nat=>(vf 16 (qF e.v.box k (i - 1)),TA e.v.box k (i - 1),(i : Int))) 1 (n + 1) (by omega) (t:=TA e.v.box k n) (λi h1 hi=>by
  unfold Ww
  obtain ⟨i,rfl⟩ : ∃ q,i = q + 1:=⟨i - 1,by omega⟩
  have e1 : decide (((i + 1 : Nat) : Int) ≤ (n : Int)) = true:=by simp; omega
  have e2 : app 16 (TA e.v.box k i) [vf 16 (JX e.v.box (qF e.v.box k i) ((i + 1 : Nat) : Int))] = _:=YH (by rw [HQ]; simp; omega)
  simp only [Nat.add_sub_cancel,e1,if_true,Zeu,ob_,e2,Vd (show i + 1 < 9223372036854775807 by omega),kx]
  rfl) (by
  unfold Ww
  have e1 : decide (((n + 1 : Nat) : Int) ≤ (n : Int)) = false:=by simp; omega
  simp only [e1,Bool.false_eq_true,if_false,Nat.add_sub_cancel])
 have h2 : ZQ (Ww e (n : Int)) (vf 16 k,[vf 16 k],1) = _:=this
 rw [h2]; rfl

def rowF (m : Nat) (a : MF) (f : Nat → UInt8) (c r : Nat) : UInt8:=((YC m (a r 0) (f c) ^^^ YC m (a r 1) (f (c + 1))) ^^^ YC m (a r 2) (f (c + 2))) ^^^ YC m (a r 3) (f (c + 3))
def T1 (m : Nat) (a : MF) (f : Nat → UInt8) : Nat → UInt8:=λi=>rowF m a f (i / 4 * 4) (i % 4)
theorem Zh9 (f : Nat → UInt8) (k : Nat) (x y : UInt8) : (λi=>if i = k then y else if i = k then x else f i) = λi=>if i = k then y else f i:=by
 funext i; by_cases h : i = k <;> simp [h]
theorem wr_at {c r : Nat} (hc : c < 4) (hr : r < 4) : wr (wr (4 * (c : Int)) + (r : Int)) = ((c * 4 + r : Nat) : Int):=by
 rw [Y4 (x:=4 * (c : Int)) (by omega),Y4 (by omega)]; omega
theorem Zig (m : Nat) (hm : m < 512) (hm2 : 256 ≤ m) (a : MF) (f g : Nat → UInt8) (c r : Nat) (hc : c < 4) (hr : r < 4) (s1 s2 : Blk × Int) (h1 : s1.2 = (c : Int)) (h2 : s2.2 = (r : Int)) (hg : g (c * 4 + r) = 0) :
  ZQ (WS (m : Int) (mf a) (vf 16 f) s1 s2) (vf 16 g,0) = some (vf 16 λi=>if i = c * 4 + r then rowF m a f (c * 4) r else g i):=by
 have hcr : c * 4 + r < 16:=by omega
 have step : ∀ (j : Nat) (h : Nat → UInt8),j < 4 → WS (m : Int) (mf a) (vf 16 f) s1 s2 (vf 16 h,(j : Int)) = some (.nx (vf 16 (λi=>if i = c * 4 + r then h (c * 4 + r) ^^^ YC m (a r j) (f (c * 4 + j)) else h i),((j + 1 : Nat) : Int))):=λj h hj=>by
  unfold WS
  simp only [h1,h2,lt4 hj,if_true,wr_at hc hr,wr_at hc hj,Yk _ hcr,Qx _ hr,Yk _ hj,Yk f (show c * 4 + j < 16 by omega),ob_,B2 m hm hm2,Int.toNat_natCast,Kh,wr4 (show j < 1000 by omega)]
 have e0:=step 0 g (by omega)
 have e1:=step 1 (λi=>if i = c * 4 + r then g (c * 4 + r) ^^^ YC m (a r 0) (f (c * 4 + 0)) else g i) (by omega)
 have e2:=step 2 (λi=>if i = c * 4 + r then (g (c * 4 + r) ^^^ YC m (a r 0) (f (c * 4 + 0))) ^^^ YC m (a r 1) (f (c * 4 + 1)) else g i) (by omega)
 have e3:=step 3 (λi=>if i = c * 4 + r then ((g (c * 4 + r) ^^^ YC m (a r 0) (f (c * 4 + 0))) ^^^ YC m (a r 1) (f (c * 4 + 1))) ^^^ YC m (a r 2) (f (c * 4 + 2)) else g i) (by omega)
 have e4 : ∀ v : Blk,WS (m : Int) (mf a) (vf 16 f) s1 s2 (v,((4 : Nat) : Int)) = some (.ex v):=λv=>by unfold WS; simp
 simp only [if_true,Zh9] at e1 e2 e3
 have e0' : WS (m : Int) (mf a) (vf 16 f) s1 s2 (vf 16 g,0) = _:=e0
 rw [UH e0',UH e1,UH e2,UH e3,UJ (e4 _)]
 refine congrArg some (X6 λi _=>?_)
 by_cases h : i = c * 4 + r
 ·simp [h,hg,rowF]
 simp [h]
theorem Zf7 (m : Nat) (hm : m < 512) (hm2 : 256 ≤ m) (a : MF) (f : Nat → UInt8) : QO (m : Int) (mf a) (vf 16 f) = some (vf 16 (T1 m a f)):=by
 unfold QO
 -- after c columns and r rows of the next
 have inner : ∀ c : Nat,c < 4 → ∀ s1 : Blk × Int,s1.2 = (c : Int) → ZQ (U8 (m : Int) (mf a) (vf 16 f) s1) (vf 16 (λi=>if i < c * 4 then T1 m a f i else 0),0) = some (vf 16 λi=>if i < (c + 1) * 4 then T1 m a f i else 0):=λc hc s1 h1=>by
  have k1 : (vf 16 λi=>if i < c * 4 + 4 then T1 m a f i else 0) = vf 16 λi=>if i < (c + 1) * 4 then T1 m a f i else 0:=by rw [show c * 4 + 4 = (c + 1) * 4 by omega]
  have:=YL (f:=U8 (m : Int) (mf a) (vf 16 f) s1) (λr : Nat=>(vf 16 λi=>if i < c * 4 + r then T1 m a f i else 0,(r : Int))) 0 4 (by omega) (t:=vf 16 λi=>if i < (c + 1) * 4 then T1 m a f i else 0) (λr _ hr=>by
   unfold U8
   have h2:=Zig m hm hm2 a f (λi=>if i < c * 4 + r then T1 m a f i else 0) c r hc hr s1 (vf 16 λi=>if i < c * 4 + r then T1 m a f i else 0,(r : Int)) h1 rfl (by simp)
   simp only [lt4 hr,if_true,h2,ob_,wr4 (show r < 1000 by omega)]
   refine congrArg (λz=>some (Fl.nx (z,((r + 1 : Nat) : Int)))) (X6 λi _=>?_)
   by_cases h : i = c * 4 + r
   ·subst h
    have q1 : (c * 4 + r) / 4 = c:=by omega
    have q2 : (c * 4 + r) % 4 = r:=by omega
    rw [if_pos rfl,if_pos (by omega)]
    unfold T1; rw [q1,q2]
   ·by_cases h3 : i < c * 4 + r
    ·rw [if_neg h,if_pos h3,if_pos (by omega)]
    ·rw [if_neg h,if_neg h3,if_neg (by omega)]) (by
   unfold U8
   simp only [k1]
   simp)
  exact this
 have:=YL (f:=Td (m : Int) (mf a) (vf 16 f)) (λc : Nat=>(vf 16 λi=>if i < c * 4 then T1 m a f i else 0,(c : Int))) 0 4 (by omega) (t:=vf 16 (T1 m a f)) (λc _ hc=>by
  unfold Td
  have h2:=inner c hc (vf 16 λi=>if i < c * 4 then T1 m a f i else 0,(c : Int)) rfl
  simp only [lt4 hc,if_true,h2,ob_,wr4 (show c < 1000 by omega)]) (by
  unfold Td
  have : (vf 16 λi=>if i < 4 * 4 then T1 m a f i else 0) = vf 16 (T1 m a f):=X6 λi hi=>by rw [if_pos (by omega)]
  simp only [this]
  simp)
 have e0 : (vf 16 λi=>if i < 0 * 4 then T1 m a f i else 0) = vf 16 λ_=>(0 : UInt8):=X6 λi _=>by rw [if_neg (by omega)]
 simp only [e0] at this
 have h2 : ZQ (Td (m : Int) (mf a) (vf 16 f)) (vf 16 λ_=>(0 : UInt8),0) = _:=this
 rw [Q6 16 (0 : UInt8),h2]; rfl

abbrev Tab:=Vector (Vector V256 4) 4
def yv (m : Nat) (a : MF) : Tab:=vf 4 λi=>vf 4 λj=>vf 256 λx=>YC m (a i j) (UInt8.ofNat x)
theorem Zgd (m : Nat) (a : MF) (i j : Nat) (x : UInt8) : ZZ (vf 256 λx=>YC m (a i j) (UInt8.ofNat x)) (bI x) = some (YC m (a i j) x):=by
 rw [show bI x = ((x.toNat : Nat) : Int) from rfl,Yk _ (UInt8.toNat_lt x)]
 simp
theorem v_mix (m : Nat) (a : MF) (f : Nat → UInt8) : U9 ⟨yv m a⟩ (vf 16 f) = some (vf 16 (T1 m a f)):=by
 unfold U9
 have i0 : ∀ (v : Vector V256 4),ZZ v (0 : Int) = v[0]?:=λv=>TK v 0
 have i1 : ∀ (v : Vector V256 4),ZZ v (1 : Int) = v[1]?:=λv=>TK v 1
 have i2 : ∀ (v : Vector V256 4),ZZ v (2 : Int) = v[2]?:=λv=>TK v 2
 have i3 : ∀ (v : Vector V256 4),ZZ v (3 : Int) = v[3]?:=λv=>TK v 3
 have inner : ∀ c : Nat,c < 4 → ∀ s1 : Blk × Int,s1.2 = ((c * 4 : Nat) : Int) → ZQ (W6 ⟨yv m a⟩ s1 (f (c * 4),f (c * 4 + 1),f (c * 4 + 2),f (c * 4 + 3))) (vf 16 (λi=>if i < c * 4 then T1 m a f i else f i),0) = some (vf 16 λi=>if i < (c + 1) * 4 then T1 m a f i else f i):=λc hc s1 h1=>by
  have k1 : (vf 16 λi=>if i < c * 4 + 4 then T1 m a f i else f i) = vf 16 λi=>if i < (c + 1) * 4 then T1 m a f i else f i:=by rw [show c * 4 + 4 = (c + 1) * 4 by omega]
  have:=YL (f:=W6 ⟨yv m a⟩ s1 (f (c * 4),f (c * 4 + 1),f (c * 4 + 2),f (c * 4 + 3))) (λr : Nat=>(vf 16 λi=>if i < c * 4 + r then T1 m a f i else f i,(r : Int))) 0 4 (by omega) (t:=vf 16 λi=>if i < (c + 1) * 4 then T1 m a f i else f i) (λr _ hr=>by
   unfold W6
   have e1 : wr (s1.2 + (r : Int)) = ((c * 4 + r : Nat) : Int):=by rw [h1,Y4 (by omega)]; omega
   have et : ZZ (yv m a) (r : Int) = some (vf 4 λj=>vf 256 λx=>YC m (a r j) (UInt8.ofNat x)):=Yk _ hr
   simp only [lt4 hr,if_true,et,i0,i1,i2,i3,AK _ (show 0 < 4 by omega),AK _ (show 1 < 4 by omega),AK _ (show 2 < 4 by omega),AK _ (show 3 < 4 by omega),Zgd,e1,Yk _ (show c * 4 + r < 16 by omega),ob_,Int.toNat_natCast,Kh,wr4 (show r < 1000 by omega)]
   refine congrArg (λz=>some (Fl.nx (z,((r + 1 : Nat) : Int)))) (X6 λi _=>?_)
   by_cases h : i = c * 4 + r
   ·subst h
    have q1 : (c * 4 + r) / 4 = c:=by omega
    have q2 : (c * 4 + r) % 4 = r:=by omega
    rw [if_pos rfl,if_pos (by omega)]
    unfold T1; rw [q1,q2]; rfl
   ·by_cases h3 : i < c * 4 + r
    ·rw [if_neg h,if_pos h3,if_pos (by omega)]
    ·rw [if_neg h,if_neg h3,if_neg (by omega)]) (by
   unfold W6
   simp only [k1]
   simp)
  exact this
 have:=YL (f:=W4 ⟨yv m a⟩) (λc : Nat=>(vf 16 λi=>if i < c * 4 then T1 m a f i else f i,((c * 4 : Nat) : Int))) 0 4 (by omega) (t:=vf 16 (T1 m a f)) (λc _ hc=>by
  unfold W4
  have hd : decide (((c * 4 : Nat) : Int) < ((vf 16 λi=>if i < c * 4 then T1 m a f i else f i).toList.length : Int)) = true:=by rw [Vector.length_toList]; simp; omega
  have x0:=Yk (n:=16) (λi=>if i < c * 4 then T1 m a f i else f i) (show c * 4 < 16 by omega)
  have x1:=Yk (n:=16) (λi=>if i < c * 4 then T1 m a f i else f i) (show c * 4 + 1 < 16 by omega)
  have x2:=Yk (n:=16) (λi=>if i < c * 4 then T1 m a f i else f i) (show c * 4 + 2 < 16 by omega)
  have x3:=Yk (n:=16) (λi=>if i < c * 4 then T1 m a f i else f i) (show c * 4 + 3 < 16 by omega)
  have w1 : wr (((c * 4 : Nat) : Int) + 1) = ((c * 4 + 1 : Nat) : Int):=by rw [Y4 (by omega)]; omega
  have w2 : wr (((c * 4 : Nat) : Int) + 2) = ((c * 4 + 2 : Nat) : Int):=by rw [Y4 (by omega)]; omega
  have w3 : wr (((c * 4 : Nat) : Int) + 3) = ((c * 4 + 3 : Nat) : Int):=by rw [Y4 (by omega)]; omega
  have w4 : wr (((c * 4 : Nat) : Int) + 4) = (((c + 1) * 4 : Nat) : Int):=by rw [Y4 (by omega)]; omega
  rw [if_neg (by omega)] at x0 x1 x2 x3
  have h2:=inner c hc (vf 16 λi=>if i < c * 4 then T1 m a f i else f i,((c * 4 : Nat) : Int)) rfl
  simp only [hd,if_true,x0,w1,x1,w2,x2,w3,x3,ob_,h2,w4]) (by
  unfold W4
  have : (vf 16 λi=>if i < 4 * 4 then T1 m a f i else f i) = vf 16 (T1 m a f):=X6 λi hi=>by rw [if_pos (by omega)]
  simp only [this]
  simp)
 have e0 : (vf 16 λi=>if i < 0 * 4 then T1 m a f i else f i) = vf 16 f:=X6 λi _=>by rw [if_neg (by omega)]
 simp only [e0] at this
 have h2 : ZQ (W4 ⟨yv m a⟩) (vf 16 f,0) = _:=this
 rw [h2]; rfl

def tb (g : Nat → Nat → Nat → UInt8) : Tab:=vf 4 λi=>vf 4 λj=>vf 256 (g i j)
theorem zc {g h : Nat → Nat → Nat → UInt8} (e : ∀ i,i < 4 → ∀ j,j < 4 → ∀ x,x < 256 → g i j x = h i j x) : tb g = tb h :=
 X6 λi hi=>X6 λj hj=>X6 λx hx=>e i hi j hj x hx
theorem Zh3 (g : Nat → Nat → Nat → UInt8) {i : Nat} (hi : i < 4) : ZZ (tb g) (i : Int) = some (vf 4 λj=>vf 256 (g i j)):=Yk _ hi
theorem Zhd (g : Nat → Nat → Nat → UInt8) (i : Nat) {j : Nat} (hj : j < 4) : ZZ (vf 4 λj=>vf 256 (g i j)) (j : Int) = some (vf 256 (g i j)):=Yk _ hj
theorem tb_set (g : Nat → Nat → Nat → UInt8) (i j : Nat) (h : Nat → UInt8) : (tb g).setIfInBounds i ((vf 4 λj=>vf 256 (g i j)).setIfInBounds j (vf 256 h)) = tb (λi' j'=>if i' = i ∧ j' = j then h else g i' j'):=by
 unfold tb
 rw [Kh,Kh]
 refine X6 λi' _=>?_
 by_cases h1 : i' = i
 ·subst h1
  rw [if_pos rfl]
  refine X6 λj' _=>?_
  by_cases h2 : j' = j
  ·subst h2; simp
  simp [h2]
 rw [if_neg h1]
 refine X6 λj' _=>?_
 simp [h1]
theorem Zij (a b : Nat) (ha : a < 9223372036854775808) (hb : b < 9223372036854775808) : orI (a : Int) (b : Int) = ((a ||| b : Nat) : Int):=by
 unfold orI
 rw [BitVec.toNat_or,zl a ha,zl b hb]
 have : a ||| b < 2 ^ 63:=Nat.or_lt_two_pow ha hb
 exact Y4 (by omega)
theorem WC (n : Nat) : Zv (n : Int) = UInt8.ofNat n:=by
 unfold Zv
 have : ((n : Int) % 256).toNat = n % 256:=by omega
 rw [this]
 apply UInt8.toNat_inj.1
 simp
theorem Zi8 (g : Nat → Nat → Nat → UInt8) (i j : Nat) (h : Nat → UInt8) : (tb g).setIfInBounds i (vf 4 λj'=>if j' = j then vf 256 h else vf 256 (g i j')) = tb (λi' j'=>if i' = i ∧ j' = j then h else g i' j'):=by
 have:=tb_set g i j h
 rw [Kh] at this
 exact this
theorem Zhp {p low : Nat} (h : low < 2 ^ p) : 2 ^ p ||| low = 2 ^ p + low:=by
 have:=Nat.two_pow_add_eq_or_of_lt h 1
 simpa using this.symm
theorem Zfs {p low : Nat} (hp : p < 8) (h : low < 2 ^ p) : UInt8.ofNat (2 ^ p + low) = UInt8.ofNat (2 ^ p) ^^^ UInt8.ofNat low:=by
 apply UInt8.toNat_inj.1
 have h7 : 2 ^ p ≤ 2 ^ 7:=Nat.pow_le_pow_right (by omega) (by omega)
 rw [UInt8.toNat_xor]
 simp only [UInt8.toNat_ofNat']
 rw [Nat.mod_eq_of_lt (by omega),Nat.mod_eq_of_lt (by omega),Nat.mod_eq_of_lt (by omega)]
 rw [← Zhp h]
 apply Nat.eq_of_testBit_eq
 intro i
 rw [Nat.testBit_or,Nat.testBit_xor,Nat.testBit_two_pow]
 by_cases hi : p = i
 ·subst hi
  rw [Nat.testBit_lt_two_pow h]; simp
 simp [hi]
section
variable (m : Nat) (hm : m < 512) (hm2 : 256 ≤ m) (a : MF)
include hm hm2
def H1 (m : Nat) (a : MF) (i j n : Nat) (g : Nat → Nat → Nat → UInt8) : Nat → Nat → Nat → UInt8:=λi' j'=>if i' = i ∧ j' = j then (λx=>if x < n then YC m (a i j) (UInt8.ofNat x) else 0) else g i' j'
theorem Zgu (i j p : Nat) (hi : i < 4) (hj : j < 4) (hp : p < 8) (g : Nat → Nat → Nat → UInt8) (s0 s1 s2 : Tab × Int) (h0 : s0.2 = (i : Int)) (h1 : s1.2 = (j : Int)) (h2 : s2.2 = ((2 ^ p : Nat) : Int)) :
  ZQ (VF s0 s1 s2 (YC m (a i j) (UInt8.ofNat (2 ^ p)))) (tb (H1 m a i j (2 ^ p) g),0) = some (tb (H1 m a i j (2 ^ (p + 1)) g)):=by
 have h7 : 2 ^ p ≤ 2 ^ 7:=Nat.pow_le_pow_right (by omega) (by omega)
 have k1 : 2 ^ p + 2 ^ p = 2 ^ (p + 1):=by rw [Nat.pow_succ]; omega
 have:=YL (f:=VF s0 s1 s2 (YC m (a i j) (UInt8.ofNat (2 ^ p)))) (λlow : Nat=>(tb (H1 m a i j (2 ^ p + low) g),(low : Int))) 0 (2 ^ p) (Nat.zero_le _) (t:=tb (H1 m a i j (2 ^ (p + 1)) g)) (λlow _ hl=>by
  unfold VF
  have hd : decide ((low : Int) < ((2 ^ p : Nat) : Int)) = true:=by simp only [decide_eq_true_eq]; omega
  have ho : orI ((2 ^ p : Nat) : Int) (low : Int) = ((2 ^ p + low : Nat) : Int):=by rw [Zij _ _ (by omega) (by omega),Zhp hl]
  have eg : H1 m a i j (2 ^ p + low) g i j = λx=>if x < 2 ^ p + low then YC m (a i j) (UInt8.ofNat x) else 0:=by simp [H1]
  simp only [h0,h1,h2,hd,if_true,Zh3 _ hi,Zhd _ i hj,eg,Yk _ (show low < 256 by omega),ho,Yk _ (show 2 ^ p + low < 256 by omega),ob_,Int.toNat_natCast,Kh,Vd (show low < 9223372036854775807 by omega)]
  rw [if_pos (show low < 2 ^ p + low from Nat.lt_add_of_pos_left (Nat.two_pow_pos p)),← Zca hm2 hm,← Zfs hp hl]
  have:=Zi8 (H1 m a i j (2 ^ p + low) g) i j (λx=>if x = 2 ^ p + low then YC m (a i j) (UInt8.ofNat (2 ^ p + low)) else if x < 2 ^ p + low then YC m (a i j) (UInt8.ofNat x) else 0)
  rw [this]
  refine congrArg (λz=>some (Fl.nx (z,((low + 1 : Nat) : Int)))) (zc λi' _ j' _ x _=>?_)
  unfold H1
  by_cases h : i' = i ∧ j' = j
  ·simp only [h,and_self,if_true]
   by_cases hx : x = 2 ^ p + low
   ·subst hx; simp
   ·by_cases hx2 : x < 2 ^ p + low
    ·rw [if_neg hx,if_pos hx2,if_pos (by omega)]
    ·rw [if_neg hx,if_neg hx2,if_neg (by omega)]
  ·simp only [h,if_false]) (by
  unfold VF
  simp only [h2,k1]
  simp)
 exact this
theorem Zhg (i j : Nat) (hi : i < 4) (hj : j < 4) (g : Nat → Nat → Nat → UInt8) (s0 s1 : Tab × Int) (h0 : s0.2 = (i : Int)) (h1 : s1.2 = (j : Int)) :
  ZQ (VJ (m : Int) s0 s1 (a i j)) (tb (H1 m a i j 1 g),1) = some (tb (H1 m a i j 256 g)):=by
 have:=YL (f:=VJ (m : Int) s0 s1 (a i j)) (λp : Nat=>(tb (H1 m a i j (2 ^ p) g),((2 ^ p : Nat) : Int))) 0 8 (by omega) (t:=tb (H1 m a i j 256 g)) (λp _ hp=>by
  unfold VJ
  have h7 : 2 ^ p ≤ 2 ^ 7:=Nat.pow_le_pow_right (by omega) (by omega)
  have hd : decide (((2 ^ p : Nat) : Int) < 256) = true:=by simp only [decide_eq_true_eq]; omega
  have hb : Zv ((2 ^ p : Nat) : Int) = UInt8.ofNat (2 ^ p):=by rw [WC]
  have hw : wr (((2 ^ p : Nat) : Int) * 2) = ((2 ^ (p + 1) : Nat) : Int):=by
   rw [Nat.pow_succ]
   generalize 2 ^ p = q at h7 ⊢
   rw [Y4 (by omega)]; omega
  have h3:=Zgu m hm hm2 a i j p hi hj hp g s0 s1 (tb (H1 m a i j (2 ^ p) g),((2 ^ p : Nat) : Int)) h0 h1 rfl
  simp only [hd,if_true,hb,QL m hm,ob_,h3,hw]) (by unfold VJ; simp)
 exact this
theorem jm (A : Mat) (hA : A = mf a) : V5 (m : Int) A = some ⟨yv m a⟩:=by
 subst hA
 unfold V5
 let G : Nat → Nat → Nat → Nat → Nat → UInt8:=λr c i j x=>if i < r ∨ (i = r ∧ j < c) then YC m (a i j) (UInt8.ofNat x) else 0
 have hGt : ∀ r c i j x,(i < r ∨ (i = r ∧ j < c)) → G r c i j x = YC m (a i j) (UInt8.ofNat x):=λr c i j x h=>if_pos h
 have hGf : ∀ r c i j x,¬ (i < r ∨ (i = r ∧ j < c)) → G r c i j x = 0:=λr c i j x h=>if_neg h
 have hGe : ∀ r c r' c' i j x,((i < r ∨ (i = r ∧ j < c)) ↔ (i < r' ∨ (i = r' ∧ j < c'))) → G r c i j x = G r' c' i j x:=λr c r' c' i j x h=>by show (if _ then _ else _) = (if _ then _ else _); simp only [h]
 have z0 : ∀ i j,YC m (a i j) (UInt8.ofNat 0) = 0:=λi j=>by rw [Hb hm2 hm]; exact B4 hm2 hm _
 have col : ∀ r : Nat,r < 4 → ∀ s0 : Tab × Int,s0.2 = (r : Int) → ZQ (VM (m : Int) s0 (vf 4 (a r))) (tb (G r 0),0) = some (tb (G (r + 1) 0)):=λr hr s0 h0=>by
  have k1 : tb (G r 4) = tb (G (r + 1) 0):=zc λi hi j hj x _=>by
   exact hGe _ _ _ _ _ _ _ (by omega)
  have:=YL (f:=VM (m : Int) s0 (vf 4 (a r))) (λc : Nat=>(tb (G r c),(c : Int))) 0 4 (by omega) (t:=tb (G (r + 1) 0)) (λc _ hc=>by
   unfold VM
   have e1 : tb (G r c) = tb (H1 m a r c 1 (G r c)):=zc λi _ j _ x _=>by
    unfold H1
    by_cases h : i = r ∧ j = c
    ·obtain ⟨rfl,rfl⟩:=h
     simp only [and_self,if_true]
     rw [hGf _ _ _ _ _ (by omega)]
     by_cases hx : x < 1
     ·have : x = 0:=by omega
      subst this; rw [if_pos hx,z0]
     ·rw [if_neg hx]
    ·simp only [h,if_false]
   have e2 : tb (H1 m a r c 256 (G r c)) = tb (G r (c + 1)):=zc λi _ j _ x hx=>by
    unfold H1
    by_cases h : i = r ∧ j = c
    ·obtain ⟨rfl,rfl⟩:=h
     simp only [and_self,if_true,hx]
     rw [hGt _ _ _ _ _ (by omega)]
    ·simp only [h,if_false]
     exact hGe _ _ _ _ _ _ _ (by omega)
   have h3:=Zhg m hm hm2 a r c hr hc (G r c) s0 (tb (G r c),(c : Int)) h0 rfl
   rw [← e1,e2] at h3
   simp only [lt4 hc,if_true,Yk _ hc,h3,ob_,wr4 (show c < 1000 by omega)]) (by
   unfold VM
   simp only [k1]
   simp)
  exact this
 have kz : tb (G 0 0) = Vector.replicate 4 (Vector.replicate 4 (Vector.replicate 256 (0 : UInt8))):=by
  rw [Q6 256 (0 : UInt8),Q6 4,Q6 4]
  exact zc λi _ j _ x _=>by
   exact hGf _ _ _ _ _ (by omega)
 have k4 : tb (G 4 0) = yv m a:=zc λi hi j _ x _=>by
  exact hGt _ _ _ _ _ (by omega)
 have:=YL (f:=VL (m : Int) (mf a)) (λr : Nat=>(tb (G r 0),(r : Int))) 0 4 (by omega) (t:=yv m a) (λr _ hr=>by
  unfold VL
  have h3:=col r hr (tb (G r 0),(r : Int)) rfl
  simp only [lt4 hr,if_true,Qx _ hr,h3,ob_,wr4 (show r < 1000 by omega)]) (by
  unfold VL
  simp only [k4]
  simp)
 have h2 : ZQ (VL (m : Int) (mf a)) (tb (G 0 0),0) = _:=this
 rw [← kz,h2]; rfl
end

def jX (n : Nat) (p : Vector UInt8 n) : Nat → Vector UInt8 n
 | 0=>Vector.replicate n 0
 | i + 1=>(jX n p i).setIfInBounds (p.toList.getD i 0).toNat (Zv (i : Int))
theorem kh (p : V256) : VY p = some (jX 256 p 256):=by
 unfold VY
 have:=YL (f:=WA p) (λi : Nat=>(jX 256 p i,(i : Int))) 0 256 (by omega) (t:=jX 256 p 256) (λi _ hi=>by
  unfold WA
  have hd : decide ((i : Int) < 256) = true:=by simp; omega
  simp only [hd,if_true,kr p hi,Hh,ob_,Zaz,Vd (show i < 9223372036854775807 by omega)]
  rfl) (by unfold WA; simp)
 have h2 : ZQ (WA p) (Vector.replicate 256 0,0) = _:=this
 rw [h2]; rfl
theorem Ziu (p : Blk) {i : Nat} (h : i < 16) : p.toList.getD i 0 = bf p i:=by
 have h1:=kr p h
 rw [AG p h] at h1
 exact (Option.some.inj h1).symm
theorem zk (p : Blk) (hp : Jf p = true) : WM p = some (jX 16 p 16):=by
 unfold WM
 have:=YL (f:=XP p) (λi : Nat=>(jX 16 p i,(i : Int))) 0 16 (by omega) (t:=jX 16 p 16) (λi _ hi=>by
  unfold XP
  have hlt:=zo hp hi
  have hv : ZZ (jX 16 p i) (bI (bf p i)) = some (bf (jX 16 p i) (bf p i).toNat):=AG _ hlt
  simp only [B3 hi,if_true,AG p hi,hv,ob_,Zaz,Vd (show i < 9223372036854775807 by omega)]
  rw [← Ziu p hi]
  rfl) (by unfold XP; simp)
 have h2 : ZQ (XP p) (Vector.replicate 16 0,0) = _:=this
 rw [h2]; rfl

def YM (c : GCipher) : Gengine:=⟨c.Box,jX 256 c.Box 256,c.Places,jX 16 c.Places 16,⟨yv c.Field.toNat (yq c.Mix)⟩,⟨yv c.Field.toNat (yq (invM c.Field.toNat c.Mix))⟩,c.Rounds⟩
theorem JM {c : GCipher} (h : Y7 c = true) : Jf c.Places = true:=by
 unfold Y7 at h
 simp only [Bool.and_eq_true] at h
 exact h.1.1.2
theorem BN {c : GCipher} (h : Y7 c = true) : 1 ≤ c.Rounds ∧ c.Rounds ≤ 20:=by
 unfold Y7 at h
 simp only [Bool.and_eq_true,decide_eq_true_eq] at h
 exact h.1.2
theorem Za0 (c : GCipher) (h : Y7 c = true) : U5 c = some ⟨YM c⟩:=by
 obtain ⟨m,hm,h1,h2⟩:=Af h
 have e : c.Field.toNat = m:=by omega
 unfold U5 YM
 rw [e]
 simp only [hm,Zhf m h2 h1,ob_,kh,zk _ (JM h),jm m h2 h1 (yq c.Mix) c.Mix (yy _),jm m h2 h1 (yq (invM m c.Mix)) (invM m c.Mix) (yy _)]

def yZ (c : GCipher) (n r : Nat) (k f : Nat → UInt8) : Nat → UInt8 :=
 AB (if r < n then T1 c.Field.toNat (yq c.Mix) (BH c.Places (jj c.Box f)) else BH c.Places (jj c.Box f)) k
def zd (c : GCipher) (k f : Nat → UInt8) (n : Nat) : Nat → Nat → UInt8
 | 0=>AB f k
 | r + 1=>yZ c n (r + 1) (qF c.Box k (r + 1)) (zd c k f n r)
def qO (c : GCipher) (k f : Nat → UInt8) (n : Nat) : Nat → UInt8:=zd c k f n n
theorem ki (c : GCipher) (h : Y7 c = true) (k f : Nat → UInt8) (n : Nat) (hn : n ≤ 1000) : X5 c (vf 16 k) (vf 16 f) (n : Int) = some (vf 16 (qO c k f n)):=by
 obtain ⟨m,hm,h1,h2⟩:=Af h
 have e : c.Field.toNat = m:=by omega
 have hp:=JM h
 unfold X5
 have i0 : idx (TA c.Box k n) (0 : Int) = some (vf 16 k):=Ad c.Box k (Nat.zero_le n)
 simp only [Zfi c k n hn,ob_,i0,Am]
 have:=YL (f:=Ws c (n : Int) (TA c.Box k n)) (λi : Nat=>(vf 16 (zd c k f n (i - 1)),(i : Int))) 1 (n + 1) (by omega) (t:=vf 16 (qO c k f n)) (λi hi1 hi=>by
  unfold Ws
  obtain ⟨r,rfl⟩ : ∃ q,i = q + 1:=⟨i - 1,by omega⟩
  have e1 : decide (((r + 1 : Nat) : Int) ≤ (n : Int)) = true:=by simp only [decide_eq_true_eq]; omega
  have Yt:=Zf7 m h2 h1 (yq c.Mix) (BH c.Places (jj c.Box (zd c k f n r)))
  rw [← yy] at Yt
  simp only [Nat.add_sub_cancel,e1,if_true,Zct,ob_,Zfb c.Places hp,hm,Yt,Ad c.Box k (show r + 1 ≤ n by omega),Vd (show r + 1 < 9223372036854775807 by omega)]
  by_cases hr : r + 1 < n
  ·have e2 : decide (((r + 1 : Nat) : Int) < (n : Int)) = true:=by simp only [decide_eq_true_eq]; omega
   simp only [e2,if_true,ob_,Am,zd,yZ,hr,e]
  ·have e2 : decide (((r + 1 : Nat) : Int) < (n : Int)) = false:=by simp only [decide_eq_false_iff_not]; omega
   simp only [e2,Bool.false_eq_true,if_false,ob_,Am,zd,yZ,hr]) (by
  unfold Ws
  have e1 : decide (((n + 1 : Nat) : Int) ≤ (n : Int)) = false:=by simp only [decide_eq_false_iff_not]; omega
  simp only [e1,Bool.false_eq_true,if_false,Nat.add_sub_cancel,qO])
 have h3 : ZQ (Ws c (n : Int) (TA c.Box k n)) (vf 16 (AB f k),1) = _:=this
 rw [h3]; rfl
theorem Zcl (e : Ref Gengine) (s : Blk × Int) (f : Nat → UInt8) (hs : s.1 = vf 16 f) : ZQ (Xa e s) (vf 16 f,0) = some (vf 16 (jj e.v.box f)):=by
 have:=W1 (Xa e s) f (jj e.v.box f) (by omega) 0 (by omega) (λj hj=>by omega) (λi _ hi a _ ha=>by
  unfold Xa
  simp only [hs,B3 hi,if_true,Yk _ hi,ob_,Int.toNat_natCast,Hh,jj]) (λv=>by unfold Xa; simp)
 exact this
theorem jx (c : GCipher) (h : Y7 c = true) (k f : Nat → UInt8) (n : Nat) (hn : n ≤ 1000) : XK ⟨YM c⟩ (TA c.Box k n) (vf 16 f) = some (vf 16 (qO c k f n)):=by
 have hp:=JM h
 unfold XK
 have i0 : idx (TA c.Box k n) (0 : Int) = some (vf 16 k):=Ad c.Box k (Nat.zero_le n)
 simp only [ob_,i0,Ka]
 have:=YL (f:=Y8 ⟨YM c⟩ (TA c.Box k n)) (λi : Nat=>(vf 16 (zd c k f n (i - 1)),(i : Int))) 1 (n + 1) (by omega) (t:=vf 16 (qO c k f n)) (λi hi1 hi=>by
  unfold Y8
  obtain ⟨r,rfl⟩ : ∃ q,i = q + 1:=⟨i - 1,by omega⟩
  have e1 : decide (((r + 1 : Nat) : Int) < ((TA c.Box k n).length : Int)) = true:=by rw [HQ]; simp only [decide_eq_true_eq]; omega
  have e3 : wr (((TA c.Box k n).length : Int) - 1) = (n : Int):=by rw [HQ,Y4 (by omega)]; omega
  have hb:=Zcl ⟨YM c⟩ (vf 16 (zd c k f n r),((r + 1 : Nat) : Int)) (zd c k f n r) rfl
  have hmv:=v_move c.Places hp (jj c.Box (zd c k f n r))
  have Yt:=v_mix c.Field.toNat (yq c.Mix) (BH c.Places (jj c.Box (zd c k f n r)))
  have hsl : ∀ g : Nat → UInt8,slc (vf 16 g).toList (0 : Int) (16 : Int) = some (vf 16 g).toList:=λg=>by
   have:=Hj (l:=(vf 16 g).toList) (i:=0) (j:=16) (by omega) (by simp)
   simp only [List.drop_zero] at this
   rw [List.take_of_length_le (by simp)] at this
   exact this
  have q1 : (YM c).box = c.Box:=rfl
  have q2 : (YM c).places = c.Places:=rfl
  have q3 : (YM c).mixer = ⟨yv c.Field.toNat (yq c.Mix)⟩:=rfl
  simp only [q1] at hb
  simp only [Nat.add_sub_cancel,e1,if_true,hb,ob_,q2,q3,hmv,e3,hsl,Yt,Ad c.Box k (show r + 1 ≤ n by omega),Vd (show r + 1 < 9223372036854775807 by omega)]
  by_cases hr : r + 1 < n
  ·have e2 : decide (((r + 1 : Nat) : Int) < (n : Int)) = true:=by simp only [decide_eq_true_eq]; omega
   simp only [e2,if_true,ob_,Ka,zd,yZ,hr]
  ·have e2 : decide (((r + 1 : Nat) : Int) < (n : Int)) = false:=by simp only [decide_eq_false_iff_not]; omega
   simp only [e2,Bool.false_eq_true,if_false,ob_,Ka,zd,yZ,hr]) (by
  unfold Y8
  have e1 : decide (((n + 1 : Nat) : Int) < ((TA c.Box k n).length : Int)) = false:=by rw [HQ]; simp only [decide_eq_false_iff_not]; omega
  simp only [e1,Bool.false_eq_true,if_false,Nat.add_sub_cancel,qO])
 have h3 : ZQ (Y8 ⟨YM c⟩ (TA c.Box k n)) (vf 16 (AB f k),1) = _:=this
 rw [h3]; rfl
theorem A5 (c : GCipher) (h : Y7 c = true) (k f : Nat → UInt8) : Xk ⟨YM c⟩ (vf 16 k) (vf 16 f) = some (vf 16 (qO c k f c.Rounds.toNat)):=by
 have hr:=BN h
 obtain ⟨n,hn⟩ : ∃ n : Nat,c.Rounds = n:=⟨c.Rounds.toNat,by omega⟩
 have e1 : (YM c).rounds = (n : Int):=hn
 have e2 : (YM c).box = c.Box:=rfl
 have hk:=v_keys ⟨YM c⟩ k n (by omega)
 rw [e2] at hk
 unfold Xk
 simp only [e1,hk,ob_,jx c h k f n (by omega),hn,Int.toNat_natCast]
theorem A1 (c : GCipher) (h : Y7 c = true) (k f : Nat → UInt8) : X5 c (vf 16 k) (vf 16 f) c.Rounds = some (vf 16 (qO c k f c.Rounds.toNat)):=by
 have hr:=BN h
 obtain ⟨n,hn⟩ : ∃ n : Nat,c.Rounds = n:=⟨c.Rounds.toNat,by omega⟩
 rw [hn]
 exact ki c h k f n (by omega)
theorem kM (x : Nat) : UInt8.ofNat (x % 256) = UInt8.ofNat x:=by
 apply UInt8.toNat_inj.1; simp
theorem Zha {α : Type} (by_ : Nat) (z : α) (n : Nat) (h : n * by_ ≤ 140737488355328) (hby : 0 < by_) :
  ((if (decide ((n : Int) < 0)) = true then (none) else (some ()) : Option (Unit)).bind λ(_ : Unit)=>(if (decide ((wr ((n : Int) - (wr (0 - 0)))) > 0)) = true then ((mkS by_ z (wr ((n : Int) - (wr (0 - 0))))).bind λ(l14 : List α)=>(slc l14 (0 : Int) (0 : Int)).bind λ(l16 : List α)=>some l16) else (some ([])) : Option (List α)).bind λ(j6 : List α)=>some j6) = some []:=by
 have hn : n ≤ 140737488355328:=Nat.le_trans (Nat.le_mul_of_pos_right _ hby) h
 have e0 : wr (0 - 0) = 0:=by decide
 have e1 : wr ((n : Int) - (wr (0 - 0))) = (n : Int):=by rw [e0,Y4 (by omega)]; omega
 have e2 : ¬ ((n : Int) < 0):=by omega
 rw [e1]
 simp only [e2,decide_false,Bool.false_eq_true,if_false,ob_]
 by_cases h3 : (n : Int) > 0
 ·have hm : mkS by_ z (n : Int) = some (List.replicate n z):=by
   have h4 : ((n * by_ : Nat) : Int) ≤ 140737488355328:=by omega
   rw [Int.natCast_mul] at h4
   unfold mkS
   rw [if_pos ⟨by omega,h4⟩,Int.toNat_natCast]
  have hs : slc (List.replicate n z) (0 : Int) (0 : Int) = some []:=by
   have:=Hj (l:=List.replicate n z) (i:=0) (j:=0) (Nat.le_refl _) (Nat.zero_le _)
   simpa using this
  simp [h3,hm,hs]
 have h4 : decide ((n : Int) > 0) = false:=by simp only [decide_eq_false_iff_not]; exact h3
 simp only [h4,Bool.false_eq_true,if_false,ob_]
theorem qU {α : Type} (by_ : Nat) (p0 : List (List α)) (L0 : Int × Int → Option (Fl (Int × Int) Int)) (L1 : Int × List α → Option (Fl (Int × List α) (List α)))
  (h0 : ∀ s,L0 s = if (decide (s.1 < (p0.length : Int))) = true then (((idx p0 s.1).bind λ(x : List α)=>(if (decide ((wr (s.2 + (x.length : Int))) < 0)) = true then (none) else (some ()) : Option (Unit)).bind λ(_ : Unit)=>some (wr (s.2 + (x.length : Int))) : Option (Int)).bind λ(j : Int)=>some (Fl.nx (wr (s.1 + 1),j))) else (some (Fl.ex s.2)))
  (h1 : ∀ s,L1 s = if (decide (s.1 < (p0.length : Int))) = true then ((idx p0 s.1).bind λ(x : List α)=>(app by_ s.2 x).bind λ(_ : List α)=>some (Fl.nx (wr (s.1 + 1),(s.2 ++ x)))) else (some (Fl.ex s.2)))
  (hl : p0.flatten.length * by_ ≤ 140737488355328) (hby : 0 < by_) (hn : p0.length < 9223372036854775807) :
  ZQ L0 (0,0) = some (p0.flatten.length : Int) ∧ ZQ L1 (0,[]) = some p0.flatten:=by
 have hlen : p0.flatten.length ≤ 140737488355328:=Nat.le_trans (Nat.le_mul_of_pos_right _ hby) hl
 have hstep : ∀ i (hi : i < p0.length),(p0.take (i + 1)).flatten = (p0.take i).flatten ++ p0[i]:=λi hi=>by
  rw [List.take_succ_eq_append_getElem hi,List.flatten_append]; simp
 have hle : ∀ i,(p0.take i).flatten.length ≤ p0.flatten.length:=λi=>by
  have : p0.flatten = (p0.take i).flatten ++ (p0.drop i).flatten:=by rw [← List.flatten_append,List.take_append_drop]
  rw [this,List.length_append]; omega
 constructor
 ·have:=YL (f:=L0) (λi : Nat=>((i : Int),((p0.take i).flatten.length : Int))) 0 p0.length (Nat.zero_le _) (t:=(p0.flatten.length : Int)) (λi _ hi=>by
   have hs:=congrArg List.length (hstep i hi)
   rw [List.length_append] at hs
   have h3:=hle (i + 1)
   have e1 : wr (((p0.take i).flatten.length : Int) + (p0[i].length : Int)) = ((p0.take (i + 1)).flatten.length : Int):=by rw [Y4 (by omega)]; omega
   have e2 : ¬ (((p0.take (i + 1)).flatten.length : Int) < 0):=by omega
   rw [h0]
   simp only [Int.ofNat_lt,hi,decide_true,if_true,YF,ge_ hi,ob_,e1,e2,decide_false,Bool.false_eq_true,if_false,Vd (show i < 9223372036854775807 by omega)]) (by
   rw [h0]; simp)
  exact this
 have:=YL (f:=L1) (λi : Nat=>((i : Int),(p0.take i).flatten)) 0 p0.length (Nat.zero_le _) (t:=p0.flatten) (λi _ hi=>by
  have hs:=congrArg List.length (hstep i hi)
  rw [List.length_append] at hs
  have h3:=hle (i + 1)
  have hap : app by_ (p0.take i).flatten p0[i] = some ((p0.take i).flatten ++ p0[i]):=YH (by
   have : ((p0.take i).flatten.length + p0[i].length) * by_ ≤ p0.flatten.length * by_:=Nat.mul_le_mul_right _ (by omega)
   omega)
  rw [h1]
  simp only [Int.ofNat_lt,hi,decide_true,if_true,YF,ge_ hi,ob_,hap,Vd (show i < 9223372036854775807 by omega),hstep i hi]) (by
  rw [h1]; simp)
 exact this
def BS (k : Nat) (b : UInt8) : UInt8:=shlB b (k : Int) ||| jJ b ((8 - k : Nat) : Int)
theorem v_rot1 (b : UInt8) : Y2 b 1 = some (BS 1 b):=by
 have e1 : wru (BitVec.ofInt 64 (IntKind.u64.wrap 1) &&& BitVec.ofInt 64 7).toNat = 1:=by decide +kernel
 have e2 : IntKind.u64.wrap (8 - 1) = 7:=by decide +kernel
 have e3 : Wo 1 = some ():=rfl
 have e4 : Wo 7 = some ():=rfl
 unfold Y2
 simp only [e1,e2,e3,e4,ob_]
 rfl
theorem v_rot4 (b : UInt8) : Y2 b 4 = some (BS 4 b):=by
 have e1 : wru (BitVec.ofInt 64 (IntKind.u64.wrap 4) &&& BitVec.ofInt 64 7).toNat = 4:=by decide +kernel
 have e2 : IntKind.u64.wrap (8 - 4) = 4:=by decide +kernel
 have e3 : Wo 4 = some ():=rfl
 unfold Y2
 simp only [e1,e2,e3,ob_]
 rfl
def jW (k : Nat) (b : UInt8) : UInt8:=Zv (Jh (orI (jY (bI b) (k : Int)) (WG (jY (bI b) (k : Int)) 8)) 255)
theorem jF {p : UInt8 → Bool} (h : ((List.range 256).all λn=>p (UInt8.ofNat n)) = true) (b : UInt8) : p b = true:=by
 have:=List.all_eq_true.1 h b.toNat (by simpa using UInt8.toNat_lt b)
 simpa using this
theorem turn0 (b : UInt8) : jW 0 b = b:=by
 have:=jF (p:=λb=>jW 0 b == b) (by decide +kernel) b
 simpa using this
theorem turn1 (b : UInt8) : jW 1 b = BS 1 b:=by
 have:=jF (p:=λb=>jW 1 b == BS 1 b) (by decide +kernel) b
 simpa using this
theorem turn4 (b : UInt8) : jW 4 b = BS 4 b:=by
 have:=jF (p:=λb=>jW 4 b == BS 4 b) (by decide +kernel) b
 simpa using this
theorem Zc4 (b : UInt8) (k : Nat) (h : k < 64) : WY b (k : Int) = some (jW k b):=by
 have e1 : IntKind.u64.wrap (k : Int) = (k : Int):=Zcb k (by omega)
 unfold WY
 rw [e1]
 have e2 : Wo (k : Int) = some ():=by unfold Wo; rw [if_pos (by omega)]
 rw [e2]; rfl
def jT (x : UInt8) : UInt8:=((Jy 285 x ^^^ BS 1 (Jy 285 x)) ^^^ BS 4 (Jy 285 x)) ^^^ 90
def YK (n : Int) : GCipher:=⟨285,vf 256 λx=>jT (UInt8.ofNat x),mf λi j=>Jy 285 (UInt8.ofNat (i ^^^ (4 + j))),vf 16 λi=>UInt8.ofNat ((13 * i + 4) % 16),n⟩
theorem qy {i : Nat} (h : i < 256) : decide ((i : Int) < 256) = true:=by simp; omega
theorem yC (L : V256 × Int → Option (Fl (V256 × Int) V256)) (h : Nat → UInt8) (hL : ∀ i : Nat,i < 256 → ∀ a : Nat → UInt8,L (vf 256 a,(i : Int)) = some (.nx ((vf 256 a).setIfInBounds i (h i),wr ((i : Int) + 1))))
  (he : ∀ v,L (v,256) = some (.ex v)) : ZQ L (Vector.replicate 256 0,0) = some (vf 256 h):=by
 rw [Q6]
 exact W1 L (λ_=>0) h (by omega) 0 (by omega) (λj hj=>by omega) (λi _ hi a _ _=>hL i hi a) he
theorem Zaq (E : UInt8 → Option UInt8) (hE : ∀ a,E a = some (Jy 285 a)) (L1 : Mat × Int → Mat × Int → Option (Fl (Mat × Int) Mat)) (L0 : Mat × Int → Option (Fl (Mat × Int) Mat))
  (h1 : ∀ s t,L1 s t = if (decide (t.2 < 4)) = true then ((E (Zv (zy s.2 (wr (4 + t.2))))).bind λr=>(ZZ t.1 s.2).bind λx=>(ZZ x t.2).bind λ_=>some (Fl.nx ((t.1.setIfInBounds (s.2).toNat (x.setIfInBounds (t.2).toNat r)),wr (t.2 + 1)))) else (some (Fl.ex t.1)))
  (h0 : ∀ s,L0 s = if (decide (s.2 < 4)) = true then ((ZQ (L1 s) (s.1,0) : Option Mat).bind λj=>some (Fl.nx (j,wr (s.2 + 1)))) else (some (Fl.ex s.1))) :
  ZQ L0 (Vector.replicate 4 (Vector.replicate 4 (0 : UInt8)),0) = some (mf λi j=>Jy 285 (UInt8.ofNat (i ^^^ (4 + j)))):=by
 have inner : ∀ (i : Nat) (hi : i < 4) (g : MF),ZQ (L1 (mf g,(i : Int))) (mf g,0) = some (mf λr c=>if r = i then Jy 285 (UInt8.ofNat (i ^^^ (4 + c))) else g r c):=by
  intro i hi g
  have:=YL (f:=L1 (mf g,(i : Int))) (λj : Nat=>(mf λr c=>if r = i ∧ c < j then Jy 285 (UInt8.ofNat (i ^^^ (4 + c))) else g r c,(j : Int))) 0 4 (by omega) (t:=mf λr c=>if r = i then Jy 285 (UInt8.ofNat (i ^^^ (4 + c))) else g r c) (λj _ hj=>by
   have e1 : wr (4 + (j : Int)) = ((4 + j : Nat) : Int):=by rw [Y4 (by omega)]; omega
   rw [h1]
   simp only [lt4 hj,if_true,e1,Bg i (4 + j) (by omega) (by omega),WC,hE,ob_,Qx _ hi,Yk _ hj,Int.toNat_natCast,Kh,BQ,wr4 (show j < 1000 by omega)]
   refine congrArg (λz=>some (Fl.nx (z,((j + 1 : Nat) : Int)))) (VN λr _ c _=>?_)
   by_cases hr : r = i
   ·subst hr
    by_cases hc : c = j
    ·subst hc; simp
    ·by_cases hc2 : c < j
     ·simp [hc,hc2,show c < j + 1 by omega]
     ·simp [hc,hc2,show ¬ c < j + 1 by omega]
   ·simp [hr]) (by
   rw [h1]
   simp only [show decide (((4 : Nat) : Int) < 4) = false from rfl,Bool.false_eq_true,if_false]
   refine congrArg (λz=>some (Fl.ex z)) (VN λr _ c hc=>?_)
   by_cases hr : r = i <;> simp [hr,hc])
  have e0 : (mf λr c=>if r = i ∧ c < 0 then Jy 285 (UInt8.ofNat (i ^^^ (4 + c))) else g r c) = mf g:=VN λr _ c _=>by simp
  simp only [e0] at this
  exact this
 have:=YL (f:=L0) (λi : Nat=>(mf λr c=>if r < i then Jy 285 (UInt8.ofNat (r ^^^ (4 + c))) else 0,(i : Int))) 0 4 (by omega) (t:=mf λi j=>Jy 285 (UInt8.ofNat (i ^^^ (4 + j)))) (λi _ hi=>by
  rw [h0]
  simp only [lt4 hi,if_true,inner i hi,ob_,wr4 (show i < 1000 by omega)]
  refine congrArg (λz=>some (Fl.nx (z,((i + 1 : Nat) : Int)))) (VN λr _ c _=>?_)
  by_cases hr : r = i
  ·subst hr; simp
  ·by_cases hc2 : r < i
   ·simp [hr,hc2,show r < i + 1 by omega]
   ·simp [hr,hc2,show ¬ r < i + 1 by omega]) (by
  rw [h0]
  simp only [show decide (((4 : Nat) : Int) < 4) = false from rfl,Bool.false_eq_true,if_false]
  exact congrArg (λz=>some (Fl.ex z)) (VN λr hr c hc=>by simp [hr]))
 have e0 : (mf λr c=>if r < 0 then Jy 285 (UInt8.ofNat (r ^^^ (4 + c))) else 0) = mf λ_ _=>0:=VN λr _ c _=>by simp
 simp only [e0] at this
 rw [qv]
 exact this
theorem jt (L : Blk × Int → Option (Fl (Blk × Int) Blk))
  (hL : ∀ s,L s = if (decide (s.2 < 16)) = true then ((ZZ s.1 s.2).bind λ_=>some (Fl.nx ((s.1.setIfInBounds (s.2).toNat (Zv (Int.tmod (wr ((wr (13 * s.2)) + 4)) 16))),wr (s.2 + 1)))) else (some (Fl.ex s.1))) :
  ZQ L (Vector.replicate 16 0,0) = some (vf 16 λi=>UInt8.ofNat ((13 * i + 4) % 16)):=by
 rw [Q6]
 exact W1 L (λ_=>0) (λi=>UInt8.ofNat ((13 * i + 4) % 16)) (by omega) 0 (by omega) (λj hj=>by omega) (λi _ hi a _ _=>by
  have e1 : wr (13 * (i : Int)) = 13 * (i : Int):=Y4 (by omega)
  have e2 : wr (13 * (i : Int) + 4) = ((13 * i + 4 : Nat) : Int):=by rw [Y4 (by omega)]; omega
  have e3 : Int.tmod ((13 * i + 4 : Nat) : Int) 16 = (((13 * i + 4) % 16 : Nat) : Int):=by rw [Int.tmod_eq_emod_of_nonneg (by omega)]; omega
  rw [hL]
  simp only [B3 hi,if_true,Yk _ hi,ob_,e1,e2,e3,WC,Int.toNat_natCast]) (λv=>by rw [hL]; simp)
theorem kg (n : Int) : VT n = some (YK n):=by
 have hinv : ∀ a,Y5 285 a = some (Jy 285 a):=λa=>HA 285 (by omega) a
 have h1:=yC Vm (λx=>jT (UInt8.ofNat x)) (λi hi a=>by
  unfold Vm
  simp only [qy hi,if_true,WC,hinv,v_rot1,v_rot4,ob_,Yk _ hi,Int.toNat_natCast]
  rfl) (λv=>by unfold Vm; simp)
 have h2:=Zaq (Y5 285) hinv UG UI (λs t=>by unfold UG; rfl) (λs=>by unfold UI; rfl)
 have h3:=jt UK (λs=>by unfold UK; rfl)
 unfold VT YK
 simp only [h1,h2,h3,ob_]
theorem Zhq (L : UInt8 × UInt8 × Int → Option (Fl (UInt8 × UInt8 × Int) UInt8)) (T : UInt8 → UInt8 → Option UInt8) (hT : ∀ a b,T a b = some (YC 285 a b))
  (hL : ∀ s,L s = if (decide (s.2.2 > 0)) = true then (((if ((Int.tmod s.2.2 2) == 1) = true then ((T s.1 s.2.1).bind λr=>some r) else (some s.1) : Option UInt8).bind λj24=>(T s.2.1 s.2.1).bind λr32=>some (j24,r32) : Option (UInt8 × UInt8)).bind λj21=>some (Fl.nx (j21.1,j21.2,wr (Int.tdiv s.2.2 2)))) else (some (Fl.ex s.1))) :
  ∀ (f k : Nat) (a o : UInt8),k < 2 ^ f → f ≤ 62 → ZQ L (o,a,(k : Int)) = some (yt 285 f a k o):=by
 intro f
 induction f with
 | zero =>
  intro k a o hk _
  have : k = 0:=by simpa using hk
  subst this
  exact UJ (by rw [hL]; simp [yt])
 | succ f ih =>
  intro k a o hk hf
  by_cases h0 : k = 0
  ·subst h0
   exact UJ (by rw [hL]; simp [yt])
  ·have hlt : k < 9223372036854775808:=Nat.lt_of_lt_of_le hk (Nat.pow_le_pow_right (by omega : 0 < 2) (by omega : f + 1 ≤ 63))
   have hst : L (o,a,(k : Int)) = some (.nx (if k % 2 = 1 then YC 285 o a else o,YC 285 a a,((k / 2 : Nat) : Int))):=by
    rw [hL]
    have c1 : (k : Int) > 0:=by omega
    have e3 : ((((k % 2 : Nat) : Int)) == 1) = decide (k % 2 = 1):=by
     rw [Bool.eq_iff_iff,beq_iff_eq,decide_eq_true_eq]; omega
    simp only [c1,decide_true,if_true,Zg6,Zf5,hT,e3,ob_,Zdg (k / 2) (by omega)]
    by_cases c2 : k % 2 = 1 <;> simp [c2]
   rw [UH hst,ih (k / 2) _ _ (by rw [Nat.pow_succ] at hk; omega) (by omega)]
   conv=>rhs; unfold yt
   rw [if_neg h0]
theorem Zc5 : Tz 285 254 = some (vf 256 λx=>Jy 285 (UInt8.ofNat x)):=by
 have hp:=Zhq (US 285) (XN 285) (B2 285 (by omega) (by omega)) (λs=>by unfold US; rfl)
 have hp2 : ∀ a,ZQ (US 285) (1,a,254) = some (Jy 285 a):=λa=>hp 8 254 a 1 (by omega) (by omega)
 have h1:=yC (U1 285 254) (λx=>Jy 285 (UInt8.ofNat x)) (λi hi a=>by
  unfold U1
  simp only [qy hi,if_true,WC,hp2,ob_,Yk _ hi,Int.toNat_natCast]) (λv=>by unfold U1; simp)
 unfold Tz
 simp only [h1,ob_]
def rots (x : UInt8) : UInt8:=((90 ^^^ x) ^^^ BS 1 x) ^^^ BS 4 x
theorem jd : Vl ([0,1,4] : List Int) 90 = some (vf 256 λx=>rots (UInt8.ofNat x)):=by
 have t0 : ∀ b,WY b 0 = some b:=λb=>by have:=Zc4 b 0 (by omega); rw [turn0] at this; exact this
 have t1 : ∀ b,WY b 1 = some (BS 1 b):=λb=>by have:=Zc4 b 1 (by omega); rw [turn1] at this; exact this
 have t4 : ∀ b,WY b 4 = some (BS 4 b):=λb=>by have:=Zc4 b 4 (by omega); rw [turn4] at this; exact this
 have w1 : wr 1 = 1:=by decide
 have w2 : wr 2 = 2:=by decide
 have w3 : wr 3 = 3:=by decide
 have hin : ∀ (s : V256 × Int),ZQ (YY [0,1,4] s) (90,0) = some (rots (Zv s.2)):=by
  intro s
  rw [UH (f:=YY [0,1,4] s) (s:=(90,0)) (s':=(90 ^^^ Zv s.2,1)) (by unfold YY; simp [t0,w1,idx])]
  rw [UH (f:=YY [0,1,4] s) (s':=((90 ^^^ Zv s.2) ^^^ BS 1 (Zv s.2),2)) (by unfold YY; simp [t1,w2,idx])]
  rw [UH (f:=YY [0,1,4] s) (s':=(((90 ^^^ Zv s.2) ^^^ BS 1 (Zv s.2)) ^^^ BS 4 (Zv s.2),3)) (by unfold YY; simp [t4,w3,idx])]
  exact UJ (by unfold YY; simp; rfl)
 have h1:=yC (WR [0,1,4] 90) (λx=>rots (UInt8.ofNat x)) (λi hi a=>by
  unfold WR
  simp only [qy hi,if_true,hin,WC,ob_,Yk _ hi,Int.toNat_natCast]) (λv=>by unfold WR; simp)
 unfold Vl
 simp only [h1,ob_]
theorem Ze9 (f g : Nat → UInt8) : T2 (vf 256 f) (vf 256 g) = some (vf 256 λx=>g (f x).toNat):=by
 have hv : ∀ x : UInt8,ZZ (vf 256 g) (bI x) = some (g x.toNat):=λx=>Yk g (UInt8.toNat_lt x)
 have h1:=yC (TG (vf 256 f) (vf 256 g)) (λx=>g (f x).toNat) (λi hi a=>by
  unfold TG
  simp only [qy hi,if_true,ob_,Yk _ hi,hv,Int.toNat_natCast]) (λv=>by unfold TG; simp)
 unfold T2
 simp only [h1,ob_]
theorem Zce (x : UInt8) : rots (UInt8.ofNat (Jy 285 x).toNat) = jT x:=by
 rw [UInt8.ofNat_toNat]
 unfold rots jT
 ac_rfl
theorem Zcz (n : Int) : Ts n = some (YK n):=by
 have hinv : ∀ a,Uz 285 a = some (Jy 285 a):=λa=>Zhl 285 (by omega) (by omega) a
 have h2:=Zaq (Uz 285) hinv Qt Qz (λs t=>by unfold Qt; rfl) (λs=>by unfold Qz; rfl)
 have h3:=jt Qr (λs=>by unfold Qr; rfl)
 unfold Ts YK
 simp only [Zc5,jd,Ze9,Zce,h2,h3,ob_]

theorem Bu {α : Type} (n : Nat) (f : Nat → α) : (vf n f).toList = (List.range n).map f:=by
 apply List.ext_getElem
 ·simp
 intro i h1 h2
 simp at h1
 rw [Vector.getElem_toList,Hq f h1]; simp
theorem Zes : Zgl ((List.range 256).map λx=>jT (UInt8.ofNat x)) = true:=by decide +kernel
theorem Zai : Jf (vf 16 λi=>UInt8.ofNat ((13 * i + 4) % 16)) = true:=by
 unfold Jf
 rw [Bu]
 decide +kernel
theorem Zbf : AM 285 = true:=by decide +kernel
theorem Ze4 : (detC 285 (mf λi j=>Jy 285 (UInt8.ofNat (i ^^^ (4 + j)))) != 0) = true:=by decide +kernel
theorem Zam (n : Int) (h : 1 ≤ n ∧ n ≤ 20) : Y7 (YK n) = true:=by
 unfold Y7 YK
 simp only [Bu,Zes,Zai,Zbf,Bool.true_and,h,decide_true,Bool.and_true,and_self]
 exact Ze4
theorem Hi (p0 : List (List UInt8)) (hl : p0.flatten.length ≤ 140737488355328) (hn : p0.length < 9223372036854775807) : Yy p0 = some p0.flatten:=by
 obtain ⟨a1,a2⟩:=qU 1 p0 (Wk p0) (Wl p0) (λs=>by unfold Wk; rfl) (λs=>by unfold Wl; rfl) (by omega) (by omega) hn
 have hg : Xt (p0.flatten.length : Int) = some []:=by
  unfold Xt
  exact Zha 1 _ _ (by omega) (by omega)
 unfold Yy
 simp only [a1,a2,hg,ob_]
theorem Q9 (l : List UInt8) (h : l.length ≤ 140737488355328) : Yi l = some l:=by
 unfold Yi
 rw [YH (by simp; omega)]; rfl
theorem JZ (l : List UInt8) (h : l.length ≤ 140737488355328) : XI l = some l:=by
 unfold XI
 rw [YH (by simp; omega)]; rfl
theorem jq {l : List UInt8} {n : Nat} (h : n ≤ l.length) : Ky n l = some (vf n λj=>l.getD j 0):=by
 unfold Ky
 rw [dif_pos h]
 refine congrArg some (Br λi hi=>?_)
 rw [Hq _ hi,List.getD_eq_getElem?_getD,ge_ (by omega)]
 simp
theorem Za7 {l : List UInt8} {i j : Nat} (h : i ≤ j) (h2 : j ≤ l.length) : ∃ r,slc l (i : Int) (j : Int) = some r ∧ r.length = j - i ∧ ∀ k,k < j - i → r.getD k 0 = l.getD (i + k) 0:=by
 refine ⟨_,Hj h h2,by simp; omega,λk hk=>?_⟩
 rw [List.getD_eq_getElem?_getD,List.getD_eq_getElem?_getD,List.getElem?_drop,List.getElem?_take,if_pos (by omega)]

def beL (n : Int) : Nat → List UInt8
 | 0=>[]
 | k + 1=>Zv (WG n ((8 * k : Nat) : Int)) :: beL n k
theorem TU (n : Int) : ∀ k,(beL n k).length = k
 | 0=>rfl
 | k + 1=>by rw [beL,List.length_cons,TU n k]
theorem Zdm (n : Int) (L : List UInt8 × Int → Option (Fl (List UInt8 × Int) (List UInt8))) (K : Nat)
  (hL : ∀ (k : Nat) (acc : List UInt8),k < K → acc.length ≤ 100000000 → L (acc,(k : Int)) = some (.nx (acc ++ [Zv (WG n ((8 * k : Nat) : Int))],(k : Int) - 1))) (he : ∀ acc,L (acc,-1) = some (.ex acc)) :
  ∀ (k : Nat) (acc : List UInt8),k ≤ K → acc.length + k ≤ 100000000 → ZQ L (acc,(k : Int) - 1) = some (acc ++ beL n k):=by
 intro k
 induction k with
 | zero=>intro acc _ _; rw [show ((0 : Nat) : Int) - 1 = -1 from rfl,UJ (he acc)]; simp [beL]
 | succ k ih =>
  intro acc hk hl
  have e : ((k + 1 : Nat) : Int) - 1 = (k : Int):=by omega
  rw [e,UH (hL k acc (by omega) (by omega)),ih _ (by omega) (by simp; omega)]
  simp [beL]
theorem HS (n : Int) (m : Nat) (hm : m ≤ 100) : Xp n (m : Int) = some (beL n m):=by
 have h:=Zdm n (Uj n) 100 (λk acc hk hl=>by
  unfold Uj
  have e1 : wr (8 * (k : Int)) = ((8 * k : Nat) : Int):=by rw [Y4 (by omega)]; omega
  have e2 : Wo ((8 * k : Nat) : Int) = some ():=by unfold Wo; rw [if_pos (by omega)]
  have e3 : wr ((k : Int) - 1) = (k : Int) - 1:=Y4 (by omega)
  have e4 : decide ((k : Int) ≥ 0) = true:=by simp
  simp only [e1,e2,e3,e4,if_true,ob_]
  rw [YH (by simp; omega)]; rfl) (λacc=>by unfold Uj; simp) m [] hm (by simp; omega)
 have e : wr ((m : Int) - 1) = (m : Int) - 1:=Y4 (by omega)
 unfold Xp
 rw [e,h]; rfl
theorem Zf3 (x : Int) : Zv (Jh x 255) = Zv x:=by
 have h1 : (BitVec.ofInt 64 255) = (255 : BitVec 64):=rfl
 have h2 : (BitVec.ofInt 64 x &&& BitVec.ofInt 64 255).toNat = (x % 256).toNat:=by
  rw [BitVec.toNat_and,h1,show (255 : BitVec 64).toNat = 2 ^ 8 - 1 from rfl,Nat.and_two_pow_sub_one_eq_mod,BitVec.toNat_ofInt]
  omega
 unfold Jh Zv
 rw [h2,Y4 (by omega)]
 congr 1
 omega
theorem qg (n : Int) : UN n = some (beL n 4):=by
 have e0 : WG n 0 = n:=by unfold WG; simp
 unfold UN
 simp only [Zf3]
 have : beL n 4 = [Zv (WG n 24),Zv (WG n 16),Zv (WG n 8),Zv (WG n 0)]:=rfl
 rw [this,e0]

def Ta (n : Nat) : Nat:=(24 - n % 16) % 16
def HO (d : List UInt8) : List UInt8:=((d ++ [128]) ++ List.replicate (Ta (d.length + 1)) 0) ++ beL (d.length : Int) 8
theorem Zan (d : List UInt8) : ∃ n,(HO d).length = 16 * n ∧ n ≤ d.length + 2:=by
 have : (HO d).length = d.length + 1 + Ta (d.length + 1) + 8:=by simp [HO,TU]; omega
 refine ⟨(d.length + 1 + Ta (d.length + 1) + 8) / 16,?_,?_⟩
 ·rw [this]; unfold Ta; omega
 unfold Ta; omega
theorem Zav (L : List UInt8 → Option (Fl (List UInt8) (List UInt8))) (hL : ∀ s,L s = if ((Int.tmod (s.length : Int) 16) != 8) = true then ((app 1 s ([0] : List UInt8)).bind λ(_ : List UInt8)=>some (Fl.nx (s ++ ([0] : List UInt8)))) else (some (Fl.ex s)))
  (l : List UInt8) (hl : l.length ≤ 100000000) : ZQ L l = some (l ++ List.replicate (Ta l.length) 0):=by
 have ht : ∀ n : Nat,Int.tmod (n : Int) 16 = ((n % 16 : Nat) : Int):=λn=>by rw [Int.tmod_eq_emod_of_nonneg (by omega)]; omega
 have:=YL (f:=L) (λi : Nat=>l ++ List.replicate i 0) 0 (Ta l.length) (Nat.zero_le _) (t:=l ++ List.replicate (Ta l.length) 0) (λi _ hi=>by
  rw [hL,ht]
  have hz : Ta l.length < 16:=by unfold Ta; omega
  have e : ((((l ++ List.replicate i 0).length % 16 : Nat) : Int) != 8) = true:=by
   simp only [List.length_append,List.length_replicate,bne_iff_ne,ne_eq]
   unfold Ta at hi; omega
  rw [e,if_pos rfl,YH (by simp; omega)]
  simp [List.replicate_succ']) (by
  rw [hL,ht]
  have e : ((((l ++ List.replicate (Ta l.length) 0).length % 16 : Nat) : Int) != 8) = false:=by
   simp only [List.length_append,List.length_replicate,bne_eq_false_iff_eq]
   unfold Ta; omega
  rw [e]; rfl)
 simpa using this
theorem qG (d : List UInt8) (h : d.length ≤ 10000000) : Uq d = some (HO d):=by
 have h1:=Zav Tn (λs=>by unfold Tn; rfl) (d ++ [128]) (by simp; omega)
 have h2:=HS (d.length : Int) 8 (by omega)
 have h3 : Xp (d.length : Int) 8 = some (beL (d.length : Int) 8):=h2
 have hz : Ta (d.length + 1) < 16:=by unfold Ta; omega
 have e : (d ++ [128]).length = d.length + 1:=by simp
 rw [e] at h1
 unfold Uq HO
 rw [Q9 d (by omega),ob_,YH (by simp; omega),ob_,h1,ob_,h3,ob_,YH (by simp [TU]; omega)]
 rfl
theorem Zg3 (d : List UInt8) (h : d.length ≤ 10000000) : QN d = some (HO d):=by
 have h1:=Zav Ke (λs=>by unfold Ke; rfl) (d ++ [128]) (by simp; omega)
 have hz : Ta (d.length + 1) < 16:=by unfold Ta; omega
 have e : (d ++ [128]).length = d.length + 1:=by simp
 rw [e] at h1
 have h2:=Zdm (d.length : Int) (UY d) 100 (λk acc hk hl=>by
  unfold UY
  have e1 : wr (8 * (k : Int)) = ((8 * k : Nat) : Int):=by rw [Y4 (by omega)]; omega
  have e5 : IntKind.u64.wrap ((8 * k : Nat) : Int) = ((8 * k : Nat) : Int):=Zcb _ (by omega)
  have e2 : Wo ((8 * k : Nat) : Int) = some ():=by unfold Wo; rw [if_pos (by omega)]
  have e3 : wr ((k : Int) - 1) = (k : Int) - 1:=Y4 (by omega)
  have e4 : decide ((k : Int) ≥ 0) = true:=by simp
  simp only [e1,e5,e2,e3,e4,if_true,ob_,Zf3]
  rw [YH (by simp; omega)]; rfl) (λacc=>by unfold UY; simp) 8 ((d ++ [128]) ++ List.replicate (Ta (d.length + 1)) 0) (by omega) (by simp; omega)
 have h3 : ZQ (UY d) ((d ++ [128]) ++ List.replicate (Ta (d.length + 1)) 0,7) = some (((d ++ [128]) ++ List.replicate (Ta (d.length + 1)) 0) ++ beL (d.length : Int) 8):=h2
 unfold QN HO
 rw [JZ d (by omega),ob_,YH (by simp; omega),ob_,h1,ob_,h3]
 rfl

def Zd5 (l : List UInt8) (i : Nat) : Blk:=vf 16 λj=>l.getD (16 * i + j) 0
def W2 (l : List UInt8) (n : Nat) : List Blk:=(List.range n).map (Zd5 l)
theorem JJ (l : List UInt8) (n : Nat) : (W2 l n).length = n:=by simp [W2]
theorem Au (l : List UInt8) (n : Nat) : W2 l (n + 1) = W2 l n ++ [Zd5 l n]:=by simp [W2,List.range_succ]
theorem Zcs (l : List UInt8) (n : Nat) (hl : l.length = 16 * n) (hn : n ≤ 100000000) : TF l = some (W2 l n):=by
 have:=YL (f:=VI l) (λi : Nat=>(W2 l i,((16 * i : Nat) : Int))) 0 n (Nat.zero_le _) (t:=W2 l n) (λi _ hi=>by
  unfold VI
  have e1 : wr (((16 * i : Nat) : Int) + 16) = ((16 * (i + 1) : Nat) : Int):=by rw [Y4 (by omega)]; omega
  have e2 : decide (((16 * i : Nat) : Int) < (l.length : Int)) = true:=by simp; omega
  obtain ⟨r,r1,r2,r3⟩:=Za7 (l:=l) (i:=16 * i) (j:=16 * (i + 1)) (by omega) (by omega)
  have e3 : Ky 16 r = some (Zd5 l i):=by
   rw [jq (by omega)]
   exact congrArg some (X6 λj hj=>r3 j (by omega))
  simp only [e1,e2,if_true,r1,e3,ob_]
  rw [YH (by rw [JJ]; simp; omega),Au]; rfl) (by
  unfold VI
  have e2 : decide (((16 * n : Nat) : Int) < (l.length : Int)) = false:=by simp; omega
  simp only [e2,Bool.false_eq_true,if_false])
 have h2 : ZQ (VI l) ([],0) = _:=this
 unfold TF
 rw [h2]; rfl
theorem Zac (l : List UInt8) (n : Nat) (hl : l.length = 16 * n) (hn : n ≤ 100000000) : UV l = some (W2 l n):=by
 have:=YL (f:=W7 l) (λi : Nat=>(W2 l i,((16 * i : Nat) : Int))) 0 n (Nat.zero_le _) (t:=W2 l n) (λi _ hi=>by
  unfold W7
  have e1 : wr (((16 * i : Nat) : Int) + 16) = ((16 * (i + 1) : Nat) : Int):=by rw [Y4 (by omega)]; omega
  have e2 : decide (((16 * (i + 1) : Nat) : Int) ≤ (l.length : Int)) = true:=by simp; omega
  have h3:=W1 (W3 l (W2 l i,((16 * i : Nat) : Int))) (λ_=>0) (λj=>l.getD (16 * i + j) 0) (by omega) 0 (by omega) (λj hj=>by omega) (λj _ hj a _ _=>by
   unfold W3
   have e4 : wr (((16 * i : Nat) : Int) + (j : Int)) = ((16 * i + j : Nat) : Int):=by rw [Y4 (by omega)]; omega
   have e5 : 16 * i + j < l.length:=by omega
   simp only [B3 hj,if_true,e4,YF,ge_ e5,Yk _ hj,ob_,Int.toNat_natCast,List.getD_eq_getElem?_getD,Option.getD_some]) (λv=>by unfold W3; simp)
  have h4 : ZQ (W3 l (W2 l i,((16 * i : Nat) : Int))) (Vector.replicate 16 0,0) = some (Zd5 l i):=by rw [Q6]; exact h3
  simp only [e1,e2,if_true,h4,ob_]
  rw [YH (by rw [JJ]; simp; omega),Au]; rfl) (by
  unfold W7
  have e1 : wr (((16 * n : Nat) : Int) + 16) = ((16 * (n + 1) : Nat) : Int):=by rw [Y4 (by omega)]; omega
  have e2 : decide (((16 * (n + 1) : Nat) : Int) ≤ (l.length : Int)) = false:=by simp; omega
  simp only [e1,e2,Bool.false_eq_true,if_false])
 have h2 : ZQ (W7 l) ([],0) = _:=this
 unfold UV
 rw [h2]; rfl

abbrev Dig:=V32
def df (v : Dig) (i : Nat) : UInt8:=v[i]?.getD default
theorem Zht (v : Dig) : v = vf 32 (df v):=Zed v
def Hf : Dig:=vf 32 λi=>UInt8.ofNat (17 * i)
theorem lt32 {i : Nat} (h : i < 32) : decide ((i : Int) < 32) = true:=by simp; omega
theorem Zir : WU = some Hf:=by
 have h:=W1 XX (λ_=>0) (λi=>UInt8.ofNat (17 * i)) (by omega) 0 (by omega) (λj hj=>by omega) (λi _ hi a _ _=>by
  unfold XX
  have e1 : wr (17 * (i : Int)) = ((17 * i : Nat) : Int):=by rw [Y4 (by omega)]; omega
  simp only [lt32 hi,if_true,Yk _ hi,ob_,e1,WC,Int.toNat_natCast]) (λv=>by unfold XX; simp)
 have h2 : ZQ XX (Vector.replicate 32 0,0) = some Hf:=by rw [Q6]; exact h
 unfold WU
 rw [h2]; rfl
theorem Zcv : Tq = some Hf:=by
 have h:=W1 VK (λ_=>0) (λi=>UInt8.ofNat (17 * i)) (by omega) 0 (by omega) (λj hj=>by omega) (λi _ hi a _ _=>by
  unfold VK
  have e1 : wr (17 * (i : Int)) = ((17 * i : Nat) : Int):=by rw [Y4 (by omega)]; omega
  have e2 : Int.tmod ((17 * i : Nat) : Int) 256 = ((17 * i % 256 : Nat) : Int):=by rw [Int.tmod_eq_emod_of_nonneg (by omega)]; omega
  simp only [lt32 hi,if_true,Yk _ hi,ob_,e1,e2,WC,kM,Int.toNat_natCast]) (λv=>by unfold VK; simp)
 have h2 : ZQ VK (Vector.replicate 32 0,0) = some Hf:=by rw [Q6]; exact h
 unfold Tq
 rw [h2]; rfl
def hiF (s : Nat → UInt8) : Nat → UInt8:=λi=>s (16 + i)
def kD (f g : Nat → UInt8) : Nat → UInt8:=λi=>if i < 16 then f i else g (i - 16)
def Zdv (c : GCipher) (k a : Nat → UInt8) : Nat → UInt8:=AB (qO c k a c.Rounds.toNat) a
def absC (c : GCipher) (s m : Nat → UInt8) : Nat → UInt8 :=
 kD (Zdv c (hiF s) (AB s m)) (Zdv c (Zdv c (hiF s) (AB s m)) (AB (hiF s) m))
theorem Za1 (s : Nat → UInt8) : Tc (vf 32 s) = some (vf 16 s,vf 16 (hiF s)):=by
 have:=YL (f:=Va (vf 32 s)) (λi : Nat=>(vf 16 (λj=>if j < i then hiF s j else 0),vf 16 (λj=>if j < i then s j else 0),(i : Int))) 0 16 (by omega) (t:=(vf 16 (hiF s),vf 16 s)) (λi _ hi=>by
  unfold Va
  have e1 : wr (16 + (i : Int)) = ((16 + i : Nat) : Int):=by rw [Y4 (by omega)]; omega
  simp only [B3 hi,if_true,e1,Yk _ (show i < 32 by omega),Yk _ (show 16 + i < 32 by omega),Yk _ hi,ob_,Int.toNat_natCast,Kh,Vd (show i < 9223372036854775807 by omega)]
  have e : ∀ f : Nat → UInt8,(vf 16 λj=>if j = i then f i else if j < i then f j else 0) = vf 16 λj=>if j < i + 1 then f j else 0:=λf=>X6 λj _=>by
   by_cases h1 : j = i
   ·subst h1; simp
   ·by_cases h2 : j < i
    ·rw [if_neg h1,if_pos h2,if_pos (by omega)]
    ·rw [if_neg h1,if_neg h2,if_neg (by omega)]
  have ea:=e (hiF s)
  have eb:=e s
  rw [eb]
  have ea' : (vf 16 λj=>if j = i then s (16 + i) else if j < i then hiF s j else 0) = vf 16 λj=>if j < i + 1 then hiF s j else 0:=ea
  rw [ea']) (by
  unfold Va
  simp only [show decide (((16 : Nat) : Int) < 16) = false from rfl,Bool.false_eq_true,if_false]
  refine congrArg (λz=>some (Fl.ex z)) (congr (congrArg Prod.mk (X6 λj hj=>by rw [if_pos hj])) (X6 λj hj=>by rw [if_pos hj])))
 have h2 : ZQ (Va (vf 32 s)) (vf 16 (λ_=>0),vf 16 (λ_=>0),0) = some (vf 16 (hiF s),vf 16 s):=by
  have e0 : ∀ f : Nat → UInt8,(vf 16 λj=>if j < 0 then f j else 0) = vf 16 λ_=>0:=λf=>X6 λj _=>by simp
  simp only [e0] at this
  exact this
 unfold Tc
 rw [Q6,h2]; rfl
theorem Zbc (c : GCipher) (h : Y7 c = true) (s m : Nat → UInt8) : VD c (vf 32 s) (vf 16 m) = some (vf 32 (absC c s m)):=by
 have hj : ∀ f g : Nat → UInt8,ZQ (W9 (vf 16 f) (vf 16 g)) (Vector.replicate 32 0,0) = some (vf 32 (kD f g)):=by
  intro f g
  have:=YL (f:=W9 (vf 16 f) (vf 16 g)) (λi : Nat=>(vf 32 (λj=>if j < i then f j else if 16 ≤ j ∧ j < 16 + i then g (j - 16) else 0),(i : Int))) 0 16 (by omega) (t:=vf 32 (kD f g)) (λi _ hi=>by
   unfold W9
   have e1 : wr (16 + (i : Int)) = ((16 + i : Nat) : Int):=by rw [Y4 (by omega)]; omega
   simp only [B3 hi,if_true,e1,Yk _ (show i < 32 by omega),Yk _ (show 16 + i < 32 by omega),Yk _ hi,ob_,Int.toNat_natCast,Kh,Vd (show i < 9223372036854775807 by omega)]
   refine congrArg (λz=>some (Fl.nx (z,((i + 1 : Nat) : Int)))) (X6 λj hj=>?_)
   by_cases h1 : j = 16 + i
   ·subst h1
    rw [if_pos rfl,if_neg (by omega),if_pos (by omega)]
    congr 1; omega
   ·rw [if_neg h1]
    by_cases h2 : j = i
    ·subst h2; rw [if_pos rfl,if_pos (by omega)]
    ·rw [if_neg h2]
     by_cases h3 : j < i
     ·rw [if_pos h3,if_pos (by omega)]
     ·rw [if_neg h3,if_neg (show ¬ j < i + 1 by omega)]
      by_cases h4 : 16 ≤ j ∧ j < 16 + i
      ·rw [if_pos h4,if_pos (by omega)]
      ·rw [if_neg h4,if_neg (by omega)]) (by
   unfold W9
   simp only [show decide (((16 : Nat) : Int) < 16) = false from rfl,Bool.false_eq_true,if_false]
   refine congrArg (λz=>some (Fl.ex z)) (X6 λj hj=>?_)
   unfold kD
   by_cases h3 : j < 16
   ·rw [if_pos h3,if_pos h3]
   ·rw [if_neg h3,if_neg h3,if_pos (by omega)])
  have e0 : (vf 32 λj=>if j < 0 then f j else if 16 ≤ j ∧ j < 16 + 0 then g (j - 16) else 0) = vf 32 λ_=>0:=X6 λj _=>by rw [if_neg (by omega),if_neg (by omega)]
  simp only [e0] at this
  rw [Q6]
  exact this
 unfold VD
 simp only [Za1,ob_,Am,A1 c h,hj]
 rfl
theorem Zhj (c : GCipher) (h : Y7 c = true) (s m : Nat → UInt8) : Wd ⟨YM c⟩ (vf 32 s) (vf 16 m) = some (vf 32 (absC c s m)):=by
 have g1 : ∀ {n : Nat} (f : Nat → UInt8) (k : Nat),k < n → (vf n f).toList.getD k 0 = f k:=λf k hk=>by
  rw [Bu,List.getD_eq_getElem?_getD,List.getElem?_map,List.getElem?_range hk]; rfl
 have hl : ∀ {n : Nat} (f : Nat → UInt8),(vf n f).toList.length = n:=λf=>by simp
 have cut : ∀ {n : Nat} (f : Nat → UInt8) (i j : Nat),i ≤ j → j ≤ n → ∃ r,slc (vf n f).toList (i : Int) (j : Int) = some r ∧ r.length = j - i ∧ Ky (j - i) r = some (vf (j - i) λk=>f (i + k)) ∧ ∀ k,k < j - i → r.getD k 0 = f (i + k):=by
  intro n f i j hij hjn
  obtain ⟨r,r1,r2,r3⟩:=Za7 (l:=(vf n f).toList) (i:=i) (j:=j) hij (by rw [hl]; exact hjn)
  have r4 : ∀ k,k < j - i → r.getD k 0 = f (i + k):=λk hk=>by rw [r3 k hk,g1 f (i + k) (by omega)]
  refine ⟨r,r1,r2,?_,r4⟩
  rw [jq (by omega)]
  exact congrArg some (X6 r4)
 obtain ⟨l,l1,l2,l3,l4⟩:=cut (n:=32) s 0 16 (by omega) (by omega)
 obtain ⟨l',l1',l2',l3',l4'⟩:=cut (n:=32) s 16 32 (by omega) (by omega)
 have a1 : slc (vf 32 s).toList (0 : Int) (16 : Int) = some l:=l1
 have a2 : slc (vf 32 s).toList (16 : Int) (32 : Int) = some l':=l1'
 have a3 : Ky 16 l = some (vf 16 s):=by
  have : Ky 16 l = some (vf 16 λk=>s (0 + k)):=l3
  rw [this]; exact congrArg some (X6 λk _=>by rw [Nat.zero_add])
 have a4 : Ky 16 l' = some (vf 16 (hiF s)):=l3'
 have join : ∀ f g : Nat → UInt8,((slc (vf 16 f).toList (0 : Int) (16 : Int)).bind λ(l56 : (List UInt8))=>(slc (vf 16 g).toList (0 : Int) (16 : Int)).bind λ(l59 : (List UInt8))=>(Yy ([l56,l59] : (List (List UInt8)))).bind λ(r64 : (List UInt8))=>(Ky 32 r64).bind λ(x67 : V32)=>some x67 : Option (V32)) = some (vf 32 (kD f g)):=by
  intro f g
  obtain ⟨p,p1,p2,_,p4⟩:=cut (n:=16) f 0 16 (by omega) (by omega)
  obtain ⟨q,q1,q2,_,q4⟩:=cut (n:=16) g 0 16 (by omega) (by omega)
  have b1 : slc (vf 16 f).toList (0 : Int) (16 : Int) = some p:=p1
  have b2 : slc (vf 16 g).toList (0 : Int) (16 : Int) = some q:=q1
  have b3 : Yy [p,q] = some (p ++ q):=by
   have:=Hi [p,q] (by simp; omega) (by simp)
   simpa using this
  rw [b1,ob_,b2,ob_,b3,ob_,jq (by simp; omega),ob_]
  refine congrArg some (X6 λk hk=>?_)
  unfold kD
  rw [List.getD_eq_getElem?_getD]
  by_cases h1 : k < 16
  ·rw [if_pos h1,List.getElem?_append_left (by omega),← List.getD_eq_getElem?_getD,p4 k (by omega),Nat.zero_add]
  ·rw [if_neg h1,List.getElem?_append_right (by omega),← List.getD_eq_getElem?_getD,q4 (k - p.length) (by omega),Nat.zero_add,show p.length = 16 from p2]
 have in1 : ∀ k a : Nat → UInt8,((Xk ⟨YM c⟩ (vf 16 k) (vf 16 a)).bind λ(r34 : V16)=>(Xc r34 (vf 16 a)).bind λ(r36 : V16)=>some r36 : Option V16) = some (vf 16 (Zdv c k a)):=λk a=>by
  rw [A5 c h,ob_,Ka,ob_]; rfl
 unfold Wd
 rw [a1,ob_,a3,ob_,a2,ob_,a4,ob_,Ka,ob_,in1,ob_,Ka,ob_,in1,ob_,join,ob_]
 rfl

def absV (c : GCipher) (s : Dig) (m : Blk) : Dig:=vf 32 (absC c (df s) (bf m))
theorem Zd9 (c : GCipher) (h : Y7 c = true) (s : Dig) (m : Blk) : Wd ⟨YM c⟩ s m = some (absV c s m) ∧ VD c s m = some (absV c s m):=by
 have h1:=Zhj c h (df s) (bf m)
 have h2:=Zbc c h (df s) (bf m)
 rw [← Zht,← Zgs] at h1 h2
 exact ⟨h1,h2⟩
def J7 (c : GCipher) (d : List UInt8) : Dig:=(W2 (HO d) ((HO d).length / 16)).foldl (absV c) Hf
theorem AV (c : GCipher) (h : Y7 c = true) (ps : List (List UInt8)) (hl : ps.flatten.length ≤ 10000000) (hn : ps.length < 9223372036854775807) : Xi ⟨YM c⟩ ps = some (J7 c ps.flatten):=by
 obtain ⟨n,n1,n2⟩:=Zan ps.flatten
 have e : (HO ps.flatten).length / 16 = n:=by omega
 have h1:=QB (f:=XW ⟨YM c⟩ (W2 (HO ps.flatten) n)) (W2 (HO ps.flatten) n) (λ(b : Dig) i=>(b,i)) (absV c) Hf (t:=J7 c ps.flatten) (by rw [JJ]; omega) (λi hi=>by
  unfold XW
  simp only [Int.ofNat_lt,hi,decide_true,if_true,YF,ge_ hi,ob_,(Zd9 c h _ _).1]) (by
  unfold XW J7
  rw [e]; simp)
 unfold Xi
 rw [Zir,ob_,Hi ps (by omega) hn,ob_,qG _ hl,ob_,Zcs _ n n1 (by omega),ob_]
 have h2 : ZQ (XW ⟨YM c⟩ (W2 (HO ps.flatten) n)) (Hf,0) = _:=h1
 rw [h2]; rfl
theorem yF (c : GCipher) (h : Y7 c = true) (d : List UInt8) (hl : d.length ≤ 10000000) : Vp c d = some (J7 c d):=by
 obtain ⟨n,n1,n2⟩:=Zan d
 have e : (HO d).length / 16 = n:=by omega
 have h1:=QB (f:=TO c (W2 (HO d) n)) (W2 (HO d) n) (λ(b : Dig) i=>(b,i)) (absV c) Hf (t:=J7 c d) (by rw [JJ]; omega) (λi hi=>by
  unfold TO
  simp only [Int.ofNat_lt,hi,decide_true,if_true,YF,ge_ hi,ob_,(Zd9 c h _ _).2]) (by
  unfold TO J7
  rw [e]; simp)
 unfold Vp
 rw [Zg3 _ hl,ob_,Zac _ n n1 (by omega),ob_,Zcv,ob_]
 have h2 : ZQ (TO c (W2 (HO d) n)) (Hf,0) = _:=h1
 rw [h2]; rfl
theorem Ha (d : Dig) : WB d = some d.toList:=by
 have h:=jf (f:=U3 d) (List.range 32) (λi=>df d i) (t:=d.toList) (by simp) (λi hi=>by
  have hi' : i < 32:=by simpa using hi
  unfold U3
  have hv : ZZ d (i : Int) = some (df d i):=by
   have:=Yk (df d) hi'
   rwa [← Zht] at this
  simp only [lt32 hi',if_true,hv,ob_]
  rw [YH (by simp; omega)]
  simp) (by
  unfold U3
  have e : (List.range 32).map (λi=>df d i) = d.toList:=by
   conv=>rhs; rw [Zht d]
   rw [Bu]
  simp only [List.length_range,show decide (((32 : Nat) : Int) < 32) = false from rfl,Bool.false_eq_true,if_false,e])
 unfold WB
 rw [h]; rfl
def Bm (d : Dig) (e : GEvent) : List UInt8:=((d.toList ++ [Zv e.Kind]) ++ beL e.Number 4) ++ e.Tag.toList
theorem Za8 (d : Dig) (e : GEvent) : (Bm d e).length = 69:=by simp [Bm,TU]
def zO (c : GCipher) (d : Dig) (e : GEvent) : Dig:=J7 c (Bm d e)
def J4 (c : GCipher) (l : List GEvent) : Dig:=l.foldl (zO c) (J7 c (List.replicate 32 0))
theorem Hm : Y7 (YK 4) = true:=Zam 4 (by omega)
theorem JL : Wa = some (YK 4):=by
 unfold Wa
 rw [Zcz]; rfl
theorem Zit (n : Int) (h : 1 ≤ n ∧ n ≤ 20) : Km n = some ⟨YM (YK n)⟩:=by
 unfold Km
 rw [kg,ob_,Za0 _ (Zam n h)]; rfl
theorem Vz : YP = some ⟨YM (YK 4)⟩:=by
 unfold YP
 rw [Zit 4 (by omega)]; rfl
theorem qN (d : Dig) : slc d.toList (0 : Int) (32 : Int) = some d.toList:=by
 have h1 : slc d.toList ((0 : Nat) : Int) ((32 : Nat) : Int) = _:=Hj (Nat.zero_le _) (by simp)
 have h2 : slc d.toList (0 : Int) (32 : Int) = _:=h1
 rw [h2,List.drop_zero,List.take_of_length_le (by simp)]
theorem JQ (c : GCipher) (h : Y7 c = true) (l : List GEvent) (hl : l.length < 9223372036854775807) : X9 ⟨YM c⟩ l = some (J4 c l):=by
 have hm : mkS 1 (0 : UInt8) 32 = some (List.replicate 32 0):=by unfold mkS; rw [if_pos (by omega)]; rfl
 have h0:=AV c h [List.replicate 32 0] (by simp) (by simp)
 have e0 : ([List.replicate 32 0] : List (List UInt8)).flatten = List.replicate 32 0:=by simp
 rw [e0] at h0
 have h1:=QB (f:=Wy ⟨YM c⟩ l) l (λ(b : Dig) i=>(b,i)) (zO c) (J7 c (List.replicate 32 0)) (t:=J4 c l) hl (λi hi=>by
  unfold Wy
  have hb : Xp l[i].Number 4 = some (beL l[i].Number 4):=HS _ 4 (by omega)
  have hd:=AV c h [((l.take i).foldl (zO c) (J7 c (List.replicate 32 0))).toList,[Zv l[i].Kind],beL l[i].Number 4,l[i].Tag.toList] (by simp [TU]) (by simp)
  have ed : ([((l.take i).foldl (zO c) (J7 c (List.replicate 32 0))).toList,[Zv l[i].Kind],beL l[i].Number 4,l[i].Tag.toList] : List (List UInt8)).flatten = Bm ((l.take i).foldl (zO c) (J7 c (List.replicate 32 0))) l[i]:=by simp [Bm]
  rw [ed] at hd
  simp only [Int.ofNat_lt,hi,decide_true,if_true,YF,ge_ hi,ob_,qN,hb,hd]
  rfl) (by unfold Wy J4; simp)
 unfold X9
 rw [hm,ob_,h0,ob_]
 have h2 : ZQ (Wy ⟨YM c⟩ l) (J7 c (List.replicate 32 0),0) = _:=h1
 rw [h2]; rfl
theorem Zev (d : Dig) (e : GEvent) : Qa d e = some (zO (YK 4) d e):=by
 have h1:=yF (YK 4) Hm (Bm d e) (by rw [Za8]; omega)
 unfold Qa
 rw [Ha,ob_,YH (by simp),ob_,ob_,qg,ob_,YH (by simp [TU]),ob_,JL,ob_,Ha,ob_,YH (by simp [TU]),ob_]
 have h2 : Vp (YK 4) (((d.toList ++ [Zv e.Kind]) ++ beL e.Number 4) ++ e.Tag.toList) = some (zO (YK 4) d e):=h1
 rw [h2]; rfl
theorem kI (l : List GEvent) (hl : l.length < 9223372036854775807) : Tb l = some (J4 (YK 4) l):=by
 have hm : mkS 1 (0 : UInt8) 32 = some (List.replicate 32 0):=by unfold mkS; rw [if_pos (by omega)]; rfl
 have h1:=QB (f:=V7 l) l (λ(b : Dig) i=>(b,i)) (zO (YK 4)) (J7 (YK 4) (List.replicate 32 0)) (t:=J4 (YK 4) l) hl (λi hi=>by
  unfold V7
  simp only [Int.ofNat_lt,hi,decide_true,if_true,YF,ge_ hi,ob_,Zev]) (by unfold V7 J4; simp)
 unfold Tb
 rw [JL,ob_,hm,ob_,yF _ Hm _ (by simp),ob_]
 have h2 : ZQ (V7 l) (J7 (YK 4) (List.replicate 32 0),0) = _:=h1
 rw [h2]; rfl
def Vc (key : Blk) : GVault:=⟨[key],1,[],[],J4 (YK 4) []⟩
theorem yo (key : Blk) : Tr key = some (Vc key):=by
 unfold Tr
 rw [Vz,ob_,JQ _ Hm [] (by simp)]; rfl
theorem HF (key : Blk) : Uc key = some (Vc key):=by
 unfold Uc
 rw [kI [] (by simp)]; rfl
def QQ (k : Blk) (b : UInt8) : Blk:=vf 16 λi=>bf k i ^^^ b
theorem ko (b : UInt8) (L : Blk × Int → Option (Fl (Blk × Int) Blk)) (hL : ∀ s,L s = if (decide (s.2 < 16)) = true then ((ZZ s.1 s.2).bind λx=>(ZZ s.1 s.2).bind λ_=>some (Fl.nx ((s.1.setIfInBounds (s.2).toNat (x ^^^ b)),wr (s.2 + 1)))) else (some (Fl.ex s.1))) (k : Blk) :
  ZQ L (k,0) = some (QQ k b):=by
 have h:=W1 L (bf k) (λi=>bf k i ^^^ b) (by omega) 0 (by omega) (λj hj=>by omega) (λi _ hi a _ ha=>by
  rw [hL]
  simp only [B3 hi,if_true,Yk _ hi,ob_,Int.toNat_natCast,ha i (Nat.le_refl _)]) (λv=>by rw [hL]; simp)
 rw [← Zgs] at h
 exact h
theorem Hg (k : Blk) (b : UInt8) : Wm k b = some (QQ k b).toList:=by
 have hs : ∀ v : Blk,slc v.toList (0 : Int) (16 : Int) = some v.toList:=λv=>by
  have h1 : slc v.toList ((0 : Nat) : Int) ((16 : Nat) : Int) = _:=Hj (Nat.zero_le _) (by simp)
  have h2 : slc v.toList (0 : Int) (16 : Int) = _:=h1
  rw [h2,List.drop_zero,List.take_of_length_le (by simp)]
 unfold Wm
 rw [ko b (To b) (λs=>by unfold To; rfl),ob_,hs]; rfl
theorem qK (k : Blk) (b : UInt8) : Ui k b = some (QQ k b):=by
 unfold Ui
 rw [ko b (Th b) (λs=>by unfold Th; rfl)]; rfl
theorem Zb0 {n : Nat} (v : Vector UInt8 n) (g : UInt8 → UInt8) (L : List UInt8 × Int → Option (Fl (List UInt8 × Int) (List UInt8))) (acc : List UInt8) (hn : n ≤ 1000) (ha : acc.length ≤ 100000000)
  (hL : ∀ s,L s = if (decide (s.2 < (n : Int))) = true then ((ZZ v s.2).bind λx=>(app 1 s.1 ([g x] : List UInt8)).bind λ_=>some (Fl.nx ((s.1 ++ ([g x] : List UInt8)),wr (s.2 + 1)))) else (some (Fl.ex s.1))) :
  ZQ L (acc,0) = some (acc ++ v.toList.map g):=by
 have hlen : v.toList.length = n:=by simp
 have:=YL (f:=L) (λi : Nat=>(acc ++ (v.toList.take i).map g,(i : Int))) 0 n (Nat.zero_le _) (t:=acc ++ v.toList.map g) (λi _ hi=>by
  have hi' : i < v.toList.length:=by omega
  rw [hL]
  simp only [Int.ofNat_lt,hi,decide_true,if_true,TK,Vector.getElem?_eq_getElem hi,ob_,Vd (show i < 9223372036854775807 by omega)]
  rw [YH (by simp; omega),List.take_succ_eq_append_getElem hi']
  simp) (by
  rw [hL]
  have e : v.toList.take n = v.toList:=List.take_of_length_le (by omega)
  simp only [Int.ofNat_lt,Nat.lt_irrefl,decide_false,Bool.false_eq_true,if_false,e])
 simpa using this
theorem Zfl (k : Blk) (b : UInt8) : (QQ k b).toList = k.toList.map λx=>x ^^^ b:=by
 conv=>rhs; rw [Zgs k]
 unfold QQ
 rw [Bu,Bu,List.map_map]; rfl
theorem zM (k : Blk) (b : UInt8) : VC k b = some (QQ k b).toList:=by
 unfold VC
 rw [Zb0 k (λx=>x ^^^ b) (TV k b) [] (by omega) (by simp) (λs=>by unfold TV; rfl),Zfl]; rfl
theorem Ze2 {n : Nat} (v : Vector UInt8 n) : Ky n v.toList = some v:=by
 unfold Ky
 rw [dif_pos (by simp)]
 refine congrArg some (Br λi hi=>?_)
 simp
def HC (l : List Blk) : List UInt8:=(l.map λb=>b.toList).flatten
theorem kU (l : List Blk) (h : l.length ≤ 1000000) : WV l = some (HC l):=by
 have hlen : ∀ i,i ≤ l.length → (HC (l.take i)).length = 16 * i:=by
  intro i
  induction i with
  | zero=>intro _; rfl
  | succ i ih =>
   intro hi
   have e : HC (l.take (i + 1)) = HC (l.take i) ++ (l[i]'(by omega)).toList:=by
    unfold HC
    rw [List.take_succ_eq_append_getElem (by omega),List.map_append,List.flatten_append]; simp
   rw [e,List.length_append,ih (by omega)]; simp; omega
 have:=YL (f:=Ub l) (λi : Nat=>(HC (l.take i),(i : Int))) 0 l.length (Nat.zero_le _) (t:=HC l) (λi _ hi=>by
  unfold Ub
  have h1:=Zb0 l[i] (λx=>x) (QT l (HC (l.take i),(i : Int))) (HC (l.take i)) (by omega) (by rw [hlen i (by omega)]; omega) (λs=>by
   unfold QT
   simp only [YF,ge_ hi,ob_]; rfl)
  simp only [Int.ofNat_lt,hi,decide_true,if_true,h1,ob_,Vd (show i < 9223372036854775807 by omega)]
  refine congrArg (λz=>some (Fl.nx (z,((i + 1 : Nat) : Int)))) ?_
  unfold HC
  rw [List.take_succ_eq_append_getElem hi,List.map_append,List.flatten_append]; simp) (by
  unfold Ub
  simp)
 have h2 : ZQ (Ub l) ([],0) = _:=this
 unfold WV
 rw [h2]; rfl

def tagC (c : GCipher) (key : Blk) (d : List UInt8) : Dig:=J7 c ((QQ key 165).toList ++ (J7 c ((QQ key 90).toList ++ d)).toList)
theorem v_tag (c : GCipher) (h : Y7 c = true) (key : Blk) (ps : List (List UInt8)) (hl : ps.flatten.length ≤ 1000000) (hn : ps.length < 9223372036854775807) : W8 ⟨YM c⟩ key ps = some (tagC c key ps.flatten):=by
 have e1 : ([(QQ key 90).toList,ps.flatten] : List (List UInt8)).flatten = (QQ key 90).toList ++ ps.flatten:=by simp
 have d1:=AV c h [(QQ key 90).toList,ps.flatten] (by rw [e1,List.length_append,Vector.length_toList]; omega) (by simp)
 rw [e1] at d1
 have d2:=AV c h [(QQ key 165).toList,(J7 c ((QQ key 90).toList ++ ps.flatten)).toList] (by simp) (by simp)
 have e2 : ([(QQ key 165).toList,(J7 c ((QQ key 90).toList ++ ps.flatten)).toList] : List (List UInt8)).flatten = (QQ key 165).toList ++ (J7 c ((QQ key 90).toList ++ ps.flatten)).toList:=by simp
 rw [e2] at d2
 unfold W8
 rw [Hg,ob_,Hi ps (by omega) hn,ob_,d1,ob_,Hg,ob_,qN,ob_,d2]
 rfl
theorem Zbw (c : GCipher) (h : Y7 c = true) (key : Blk) (d : List UInt8) (hl : d.length ≤ 1000000) : Ux c key d = some (tagC c key d):=by
 unfold Ux
 rw [zM,ob_,YH (by simp; omega),ob_,yF c h _ (by simp; omega),ob_,zM,ob_,Ha,ob_,YH (by simp),ob_,yF c h _ (by simp)]
 rfl

def Yr (v : GVault) (n : Int) : Int:=match v.Records.findIdx? (λr=>r.Number == n) with | some i=>(i : Int) | none=>-1
theorem Zh1 (v : GVault) (n : Int) (h : v.Records.length < 9223372036854775807) : VX v n = some (Yr v n):=by
 unfold VX Ym
 rw [AO v.Records _ (λr=>r.Number == n) _ (λs=>by unfold Yw; rfl) h (λx _=>rfl)]
 rfl
theorem BU (v : GVault) (n : Int) (h : v.Records.length < 9223372036854775807) : Ve v n = some (Yr v n):=by
 unfold Ve
 have:=AO v.Records (λr=>some (r.Number == n)) (λr=>r.Number == n) (Qw v n) (λs=>by
  unfold Qw
  simp only [ob_]) h (λx _=>rfl)
 exact this
theorem J3 {v : GVault} {n : Int} (h : ¬ Yr v n < 0) : ∃ i : Nat,Yr v n = i ∧ ∃ hi : i < v.Records.length,v.Records[i].Number = n:=by
 unfold Yr at h ⊢
 cases hf : v.Records.findIdx? (λr=>r.Number == n) with
 | none=>rw [hf] at h; simp at h
 | some i =>
  obtain ⟨hi,hq,_⟩:=List.findIdx?_eq_some_iff_getElem.1 hf
  exact ⟨i,rfl,hi,by simpa using hq⟩
def qc (v : GVault) (n : Int) : Int × Int:=if Z0 v then (if Yr v n < 0 then (0,4) else (Yr v n,0)) else (0,1)
theorem KM (v : GVault) (hb : Wt.ln v) (n : Int) : XM v n = some (qc v n):=by
 unfold XM qc
 rw [UP v hb,ob_]
 cases hv : Z0 v with
 | false=>rfl
 | true =>
  have hs:=XG hv
  simp only [Bool.not_true,Bool.false_eq_true,if_false,if_true]
  rw [Zh1 v n (by omega),ob_]
  by_cases h : Yr v n < 0 <;> simp [h]
theorem TN {v : GVault} (h : Z0 v = true) {r : GRecord} (hr : r ∈ v.Records) : 0 ≤ r.Version ∧ r.Version ≤ (v.Keys.length : Int) - 1 ∧ r.Label.length ≤ 32 ∧ r.Body.length ≤ 200:=by
 unfold Z0 at h
 simp only [Bool.and_eq_true,Bool.not_eq_true',List.any_eq_false,List.mem_range'_1] at h
 obtain ⟨i,hi,rfl⟩:=List.mem_iff_getElem.1 hr
 have:=h.1.2 i (by omega)
 unfold HL H9 at this
 rw [ge_ hi] at this
 simp only [Bool.or_eq_true,Bool.not_eq_true',decide_eq_true_eq,decide_eq_false_iff_not,not_or,Classical.not_not] at this
 omega

def UC (v : GVault) (n : Int) : Blk:=v.Keys.getD n.toNat default
theorem yG {v : GVault} {n : Int} (h0 : 0 ≤ n) (h1 : n ≤ (v.Keys.length : Int) - 1) : idx v.Keys n = some (UC v n):=by
 have e : n = ((n.toNat : Nat) : Int):=by omega
 have hl : n.toNat < v.Keys.length:=by omega
 rw [e,YF]
 unfold UC
 rw [Int.toNat_natCast,List.getD_eq_getElem?_getD,ge_ hl]; rfl
def H3 (r : GRecord) : List UInt8:=((((beL r.Number 4 ++ [Zv r.Version]) ++ r.Nonce.toList) ++ [Zv (r.Label.length : Int)]) ++ r.Label) ++ r.Body
def Xo (v : GVault) (r : GRecord) : Dig:=tagC (YK 4) (QQ (UC v r.Version) 129) (H3 r)
theorem Zee (v : Blk) : slc v.toList (0 : Int) (16 : Int) = some v.toList:=by
 have h1 : slc v.toList ((0 : Nat) : Int) ((16 : Nat) : Int) = _:=Hj (Nat.zero_le _) (by simp)
 have h2 : slc v.toList (0 : Int) (16 : Int) = _:=h1
 rw [h2,List.drop_zero,List.take_of_length_le (by simp)]
theorem Av (v : GVault) (r : GRecord) (h : 0 ≤ r.Version ∧ r.Version ≤ (v.Keys.length : Int) - 1) (hl : r.Label.length ≤ 1000) (hb : r.Body.length ≤ 1000) : YU ⟨YM (YK 4)⟩ v r = some (Xo v r):=by
 have hbe : Xp r.Number 4 = some (beL r.Number 4):=HS _ 4 (by omega)
 have ht:=v_tag (YK 4) Hm (QQ (UC v r.Version) 129) [beL r.Number 4,[Zv r.Version],r.Nonce.toList,[Zv (r.Label.length : Int)],r.Label,r.Body] (by simp [TU]; omega) (by simp)
 have e : ([beL r.Number 4,[Zv r.Version],r.Nonce.toList,[Zv (r.Label.length : Int)],r.Label,r.Body] : List (List UInt8)).flatten = H3 r:=by simp [H3]
 rw [e] at ht
 unfold YU
 rw [yG h.1 h.2,ob_,Hg,ob_,Ze2,ob_,hbe,ob_,Zee,ob_,ht]
 rfl
theorem yU (v : GVault) (r : GRecord) (h : 0 ≤ r.Version ∧ r.Version ≤ (v.Keys.length : Int) - 1) (hl : r.Label.length ≤ 1000) (hb : r.Body.length ≤ 1000) : WQ v r = some (Xo v r):=by
 have hd : WV [r.Nonce] = some r.Nonce.toList:=by
  have:=kU [r.Nonce] (by simp)
  simpa [HC] using this
 have ht:=Zbw (YK 4) Hm (QQ (UC v r.Version) 129) (H3 r) (by simp [H3,TU]; omega)
 unfold WQ
 rw [qg,ob_,YH (by simp [TU]),ob_,ob_,hd,ob_,YH (by simp [TU]),ob_,YH (by simp [TU]),ob_,YH (by simp [TU]; omega),ob_,YH (by simp [TU]; omega),ob_,JL,ob_,yG h.1 h.2,ob_,qK,ob_]
 have ht' : Ux (YK 4) (QQ (UC v r.Version) 129) (((((beL r.Number 4 ++ [Zv r.Version]) ++ r.Nonce.toList) ++ [Zv (r.Label.length : Int)]) ++ r.Label) ++ r.Body) = some (Xo v r):=ht
 rw [ht']; rfl
def YZ (v : GVault) (n : Int) : GRecord:=v.Records.getD (Yr v n).toNat ⟨0,0,default,[],[],default⟩
theorem Bw {v : GVault} {n : Int} (h : ¬ Yr v n < 0) : idx v.Records (Yr v n) = some (YZ v n) ∧ YZ v n ∈ v.Records:=by
 obtain ⟨i,e,hi,_⟩:=J3 h
 unfold YZ
 rw [e,YF,Int.toNat_natCast,List.getD_eq_getElem?_getD,ge_ hi]
 exact ⟨rfl,List.getElem_mem hi⟩
def yE (v : GVault) (n : Int) : Dig × Int:=if Z0 v then (if Yr v n < 0 then (Vector.replicate 32 0,4) else (Xo v (YZ v n),0)) else (Vector.replicate 32 0,1)
theorem B7 (v : GVault) (hb : Wt.ln v) (n : Int) : VW v n = some (yE v n):=by
 unfold VW yE
 rw [KM v hb,ob_]
 unfold qc
 cases hv : Z0 v with
 | false=>rfl
 | true =>
  simp only [if_true]
  by_cases h : Yr v n < 0
  ·simp [h]
  ·obtain ⟨h1,h2⟩:=Bw h
   obtain ⟨a1,a2,a3,a4⟩:=TN hv h2
   simp only [h,if_false,bne_self_eq_false,Bool.false_eq_true]
   rw [Vz,ob_,h1,ob_,Av v _ ⟨a1,a2⟩ (by omega) (by omega)]; rfl
def qR (c : GCipher) (key nonce : Blk) (j : Nat) : List UInt8:=(tagC c key (nonce.toList ++ [UInt8.ofNat (j / 256),UInt8.ofNat j])).toList
def jE (c : GCipher) (key nonce : Blk) (k : Nat) : List UInt8:=((List.range k).map (qR c key nonce)).flatten
theorem kJ (c : GCipher) (key nonce : Blk) (k : Nat) : jE c key nonce (k + 1) = jE c key nonce k ++ qR c key nonce k:=by
 unfold jE
 rw [List.range_succ,List.map_append,List.flatten_append]; simp
theorem HV (c : GCipher) (key nonce : Blk) : ∀ k,(jE c key nonce k).length = 32 * k
 | 0=>rfl
 | k + 1=>by rw [kJ,List.length_append,HV c key nonce k]; simp [qR]; omega
def QR (c : GCipher) (key nonce : Blk) (n : Nat) : List UInt8:=(jE c key nonce ((n + 31) / 32)).take n
theorem Qd (c : GCipher) (key nonce : Blk) (n : Nat) : (QR c key nonce n).length = n:=by
 unfold QR
 rw [List.length_take,HV]; omega
theorem zS (c : GCipher) (key nonce : Blk) (n : Nat) (hn : n ≤ 100000) (L : Int × List UInt8 → Option (Fl (Int × List UInt8) (List UInt8)))
  (hL : ∀ (j : Nat) (out : List UInt8),j ≤ 100000 → out.length ≤ 1000000 → L ((j : Int),out) = if (decide ((out.length : Int) < (n : Int))) = true then some (Fl.nx (((j + 1 : Nat) : Int),out ++ qR c key nonce j)) else some (Fl.ex out)) :
  ((ZQ L (0,[]) : Option (List UInt8)).bind λj=>slc j (0 : Int) (n : Int)) = some (QR c key nonce n):=by
 have:=YL (f:=L) (λj : Nat=>((j : Int),jE c key nonce j)) 0 ((n + 31) / 32) (Nat.zero_le _) (t:=jE c key nonce ((n + 31) / 32)) (λj _ hj=>by
  have hlen:=HV c key nonce j
  have e : decide (((jE c key nonce j).length : Int) < (n : Int)) = true:=by rw [hlen]; simp only [decide_eq_true_eq]; omega
  rw [hL j _ (by omega) (by omega),e,if_pos rfl,kJ]) (by
  have hlen:=HV c key nonce ((n + 31) / 32)
  have e : decide (((jE c key nonce ((n + 31) / 32)).length : Int) < (n : Int)) = false:=by rw [hlen]; simp only [decide_eq_false_iff_not]; omega
  rw [hL _ _ (by omega) (by omega),e]; rfl)
 have h2 : ZQ L (0,[]) = _:=this
 rw [h2,ob_]
 have h3 : slc (jE c key nonce ((n + 31) / 32)) ((0 : Nat) : Int) (n : Int) = _:=Hj (Nat.zero_le _) (by rw [HV]; omega)
 have h4 : slc (jE c key nonce ((n + 31) / 32)) (0 : Int) (n : Int) = _:=h3
 rw [h4,List.drop_zero]; rfl
theorem Zgq (c : GCipher) (h : Y7 c = true) (key nonce : Blk) (n : Nat) (hn : n ≤ 100000) : WT ⟨YM c⟩ key nonce (n : Int) = some (QR c key nonce n):=by
 have h1:=zS c key nonce n hn (X0 ⟨YM c⟩ key nonce (n : Int)) (λj out hj ho=>by
  have e1 : Zv (WG (j : Int) 8) = UInt8.ofNat (j / 256):=by
   have:=Zag j 8 (by omega)
   rw [Nat.shiftRight_eq_div_pow] at this
   have h2 : WG (j : Int) 8 = ((j / 2 ^ 8 : Nat) : Int):=this
   rw [h2,WC]
  have ht:=v_tag c h key [nonce.toList,[UInt8.ofNat (j / 256),UInt8.ofNat j]] (by simp) (by simp)
  have ef : ([nonce.toList,[UInt8.ofNat (j / 256),UInt8.ofNat j]] : List (List UInt8)).flatten = nonce.toList ++ [UInt8.ofNat (j / 256),UInt8.ofNat j]:=by simp
  rw [ef] at ht
  unfold X0
  simp only [Zee,ob_,e1,WC,ht,qN,Vd (show j < 9223372036854775807 by omega)]
  split
  ·rw [YH (by simp; omega)]; rfl
  ·rfl)
 unfold WT
 rw [show (ZQ (X0 ⟨YM c⟩ key nonce (n : Int)) (0,([] : List UInt8)) : Option (List UInt8)).bind (λj7=>(slc j7 (0 : Int) (n : Int)).bind λl46=>(Yi l46).bind λr48=>some r48) = ((ZQ (X0 ⟨YM c⟩ key nonce (n : Int)) (0,([] : List UInt8)) : Option (List UInt8)).bind (λj7=>slc j7 (0 : Int) (n : Int))).bind (λl46=>(Yi l46).bind λr48=>some r48) from (Option.bind_assoc _ _ _).symm,h1,ob_,Q9 _ (by rw [Qd]; omega)]
 rfl
theorem Za2 (c : GCipher) (h : Y7 c = true) (key nonce : Blk) (n : Nat) (hn : n ≤ 100000) : U6 c key nonce (n : Int) = some (QR c key nonce n):=by
 have hd : WV [nonce] = some nonce.toList:=by
  have:=kU [nonce] (by simp)
  simpa [HC] using this
 have h1:=zS c key nonce n hn (W0 c key nonce (n : Int)) (λj out hj ho=>by
  have e1 : Zv (wr (Int.tdiv (j : Int) 256)) = UInt8.ofNat (j / 256):=by
   have : Int.tdiv (j : Int) 256 = ((j / 256 : Nat) : Int):=by rw [Int.tdiv_eq_ediv_of_nonneg (by omega)]; omega
   rw [this,Y4 (by omega),WC]
  have e2 : Zv (Int.tmod (j : Int) 256) = UInt8.ofNat j:=by
   have : Int.tmod (j : Int) 256 = ((j % 256 : Nat) : Int):=by rw [Int.tmod_eq_emod_of_nonneg (by omega)]; omega
   rw [this,WC,kM]
  unfold W0
  split
  ·rw [hd,ob_,e1,e2,YH (by simp),ob_,Zbw c h key _ (by simp),ob_,Ha,ob_,YH (by simp; omega),ob_,Vd (by omega)]
   rfl
  ·rfl)
 unfold U6
 rw [show (ZQ (W0 c key nonce (n : Int)) (0,([] : List UInt8)) : Option (List UInt8)).bind (λj9=>(slc j9 (0 : Int) (n : Int)).bind λl44=>(XI l44).bind λr46=>some r46) = ((ZQ (W0 c key nonce (n : Int)) (0,([] : List UInt8)) : Option (List UInt8)).bind (λj7=>slc j7 (0 : Int) (n : Int))).bind (λl46=>(XI l46).bind λr48=>some r48) from (Option.bind_assoc _ _ _).symm,h1,ob_,JZ _ (by rw [Qd]; omega)]
 rfl

def UD (a b : List UInt8) : List UInt8:=List.zipWith (λx y=>x ^^^ y) a b
theorem KI {a b : List UInt8} (h : b.length = a.length) : (UD a b).length = a.length:=by simp [UD,h]
theorem Zbd {a b : List UInt8} {i : Nat} (ha : i < a.length) (hb : i < b.length) (h : i < (UD a b).length) : (UD a b)[i] = a[i] ^^^ b[i]:=by simp [UD]
theorem BT (v : GVault) (r : GRecord) (d : List UInt8) (h : 0 ≤ r.Version ∧ r.Version ≤ (v.Keys.length : Int) - 1) (hd : d.length ≤ 100000) :
  Y6 ⟨YM (YK 4)⟩ v r d = some (UD d (QR (YK 4) (UC v r.Version) r.Nonce d.length)):=by
 unfold Y6
 rw [Q9 d (by omega),ob_,yG h.1 h.2,ob_,Zgq (YK 4) Hm _ _ _ hd,ob_,ob_]
 generalize hs : QR (YK 4) (UC v r.Version) r.Nonce d.length = s
 have hsl : s.length = d.length:=by rw [← hs,Qd]
 have hxl:=KI hsl
 have:=YL (f:=Xw (s,(s.length : Int),0)) (λi : Nat=>((i : Int),(UD d s).take i ++ d.drop i)) 0 d.length (Nat.zero_le _) (t:=UD d s) (λi _ hi=>by
  have h1 : i < s.length:=by omega
  have h2 : i < (UD d s).length:=by omega
  have h3 : ((UD d s).take i ++ d.drop i)[i]? = some d[i]:=by
   rw [List.getElem?_append_right (by simp; omega),List.length_take,List.getElem?_drop]
   have e : i + (i - min i (UD d s).length) = i:=by omega
   rw [e,ge_ hi]
  have h4 : ((UD d s).take i ++ d.drop i).set i (d[i] ^^^ s[i]) = (UD d s).take (i + 1) ++ d.drop (i + 1):=by
   rw [List.set_append_right _ _ (by simp; omega),List.drop_eq_getElem_cons hi]
   have e : i - ((UD d s).take i).length = 0:=by simp; omega
   rw [e,List.set_cons_zero,List.take_succ_eq_append_getElem h2,Zbd hi h1 h2,List.append_assoc]; rfl
  unfold Xw
  simp only [Int.ofNat_lt,h1,decide_true,if_true,YF,ge_ h1,h3,ob_,Int.toNat_natCast,h4,Vd (show i < 9223372036854775807 by omega)]) (by
  have e : (UD d s).take d.length ++ d.drop d.length = UD d s:=by rw [List.take_of_length_le (by omega),List.drop_length,List.append_nil]
  unfold Xw
  simp only [hsl,Int.ofNat_lt,Nat.lt_irrefl,decide_false,Bool.false_eq_true,if_false,e])
 have h2 : ZQ (Xw (s,(s.length : Int),0)) (0,d) = _:=this
 rw [h2]; rfl
theorem Bb (v : GVault) (r : GRecord) (d : List UInt8) (h : 0 ≤ r.Version ∧ r.Version ≤ (v.Keys.length : Int) - 1) (hd : d.length ≤ 100000) :
  XQ v r d = some (UD d (QR (YK 4) (UC v r.Version) r.Nonce d.length)):=by
 unfold XQ
 rw [JL,ob_,yG h.1 h.2,ob_,Za2 (YK 4) Hm _ _ _ hd,ob_,ob_]
 generalize hs : QR (YK 4) (UC v r.Version) r.Nonce d.length = s
 have hsl : s.length = d.length:=by rw [← hs,Qd]
 have hxl:=KI hsl
 have:=YL (f:=Vb d (s,[])) (λi : Nat=>((UD d s).take i,(i : Int))) 0 d.length (Nat.zero_le _) (t:=UD d s) (λi _ hi=>by
  have h1 : i < s.length:=by omega
  have h2 : i < (UD d s).length:=by omega
  unfold Vb
  simp only [Int.ofNat_lt,hi,decide_true,if_true,YF,ge_ h1,ge_ hi,ob_,Vd (show i < 9223372036854775807 by omega)]
  rw [YH (by simp; omega),List.take_succ_eq_append_getElem h2,Zbd hi h1 h2]; rfl) (by
  have e : (UD d s).take d.length = UD d s:=List.take_of_length_le (by omega)
  unfold Vb
  simp only [Int.ofNat_lt,Nat.lt_irrefl,decide_false,Bool.false_eq_true,if_false,e])
 have h2 : ZQ (Vb d (s,[])) ([],0) = _:=this
 rw [h2]; rfl

def Q4 (v : GVault) (r : GRecord) : List UInt8:=UD r.Body (QR (YK 4) (UC v r.Version) r.Nonce r.Body.length)
def KY (v : GVault) (n : Int) : List UInt8 × Int:=if Z0 v then (if Yr v n < 0 then ([],4) else if Xo v (YZ v n) = (YZ v n).Tag then (Q4 v (YZ v n),0) else ([],5)) else ([],1)
theorem Kr (v : GVault) (hb : Wt.ln v) (n : Int) : Wp v n = some (KY v n):=by
 unfold Wp KY
 rw [KM v hb,ob_]
 unfold qc
 cases hv : Z0 v with
 | false=>rfl
 | true =>
  simp only [if_true]
  by_cases h : Yr v n < 0
  ·simp [h]
  ·obtain ⟨h1,h2⟩:=Bw h
   obtain ⟨a1,a2,a3,a4⟩:=TN hv h2
   simp only [h,if_false,bne_self_eq_false,Bool.false_eq_true]
   rw [Vz,ob_,h1,ob_,Av v _ ⟨a1,a2⟩ (by omega) (by omega),ob_,ob_]
   by_cases ht : Xo v (YZ v n) = (YZ v n).Tag
   ·simp only [ht,decide_true,Bool.not_true,Bool.false_eq_true,if_false,if_true]
    rw [BT v _ _ ⟨a1,a2⟩ (by omega)]; rfl
   ·simp [ht]
theorem Ab (v : GVault) (hb : Wt.ln v) (n : Int) : Un v n = some (KY v n):=by
 unfold Un KY
 rw [Ao v hb,ob_]
 cases hv : Z0 v with
 | false=>rfl
 | true =>
  have hs:=XG hv
  simp only [Bool.not_true,Bool.false_eq_true,if_false,if_true]
  rw [BU v n (by omega),ob_]
  by_cases h : Yr v n < 0
  ·simp [h]
  ·obtain ⟨h1,h2⟩:=Bw h
   obtain ⟨a1,a2,a3,a4⟩:=TN hv h2
   simp only [h,decide_false,Bool.false_eq_true,if_false,h1,ob_,yU v _ ⟨a1,a2⟩ (show (YZ v n).Label.length ≤ 1000 by omega) (show (YZ v n).Body.length ≤ 1000 by omega)]
   by_cases ht : Xo v (YZ v n) = (YZ v n).Tag
   ·simp only [ht,decide_true,Bool.not_true,Bool.false_eq_true,if_false,if_true]
    rw [Bb v _ _ ⟨a1,a2⟩ (by omega)]; rfl
   ·simp [ht]
theorem qM (l : List Blk) (h : l.length ≤ 1000000) : YT l = some l:=by
 unfold YT
 rw [YH (by simp; omega)]; rfl
theorem qI (l : List GEvent) (h : l.length ≤ 1000000) : YR l = some l:=by
 unfold YR
 rw [YH (by simp; omega)]; rfl
theorem Zas (l : List GRecord) : l.map (λr=>(⟨r.Number,r.Version,r.Nonce,r.Label,r.Body,r.Tag⟩ : GRecord)) = l:=by
 induction l with
 | nil=>rfl
 | cons r l ih=>rw [List.map_cons,ih]
def za (v : GVault) : Prop:=v.Keys.length ≤ 1000 ∧ v.Events.length ≤ 1000 ∧ v.Records.length ≤ 1000 ∧ ∀ r ∈ v.Records,r.Label.length ≤ 1000000 ∧ r.Body.length ≤ 1000000
theorem yD (v : GVault) (h : za v) : XE v = some v:=by
 obtain ⟨h1,h2,h3,h4⟩:=h
 have hl:=jf (f:=Vn v) v.Records (λr=>(⟨r.Number,r.Version,r.Nonce,r.Label,r.Body,r.Tag⟩ : GRecord)) (t:=v.Records) (by omega) (λi hi=>by
  obtain ⟨a1,a2⟩:=h4 _ (List.getElem_mem hi)
  unfold Vn
  simp only [Int.ofNat_lt,hi,decide_true,if_true,YF,ge_ hi,ob_,Q9 _ (show v.Records[i].Label.length ≤ 140737488355328 by omega),Q9 _ (show v.Records[i].Body.length ≤ 140737488355328 by omega)]
  rw [YH (by simp; omega)]; rfl) (by
  unfold Vn
  rw [Zas]; simp)
 unfold XE
 rw [qM _ (by omega),ob_,qI _ (by omega),ob_,hl]; rfl
theorem AD (v : GVault) (h : za v) : Vv v = some v:=by
 obtain ⟨h1,h2,h3,h4⟩:=h
 have hl:=jf (f:=T7 v) v.Records (λr=>(⟨r.Number,r.Version,r.Nonce,r.Label,r.Body,r.Tag⟩ : GRecord)) (t:=v.Records) (by omega) (λi hi=>by
  obtain ⟨a1,a2⟩:=h4 _ (List.getElem_mem hi)
  unfold T7
  simp only [Int.ofNat_lt,hi,decide_true,if_true,YF,ge_ hi,ob_,JZ _ (show v.Records[i].Label.length ≤ 140737488355328 by omega),JZ _ (show v.Records[i].Body.length ≤ 140737488355328 by omega)]
  rw [YH (by simp; omega)]; rfl) (by
  unfold T7
  rw [Zas]; simp)
 unfold Vv
 rw [YH (by simp; omega),ob_,YH (by simp; omega),ob_,hl]; rfl
theorem Hs {v : GVault} (h : Z0 v = true) (hb : ∀ r ∈ v.Records,r.Label.length ≤ 1000000 ∧ r.Body.length ≤ 1000000) : za v:=by
 obtain ⟨h1,h2,h3,h4,h5,h6⟩:=XG h
 exact ⟨by omega,by omega,by omega,hb⟩
def UQ (v : GVault) (e : GEvent) : GVault:=⟨v.Keys,v.Next,v.Records,v.Events ++ [e],J4 (YK 4) (v.Events ++ [e])⟩
theorem yw (v : GVault) (e : GEvent) (h : v.Events.length ≤ 1000) : YS ⟨YM (YK 4)⟩ v e = some (UQ v e):=by
 unfold YS
 rw [YH (by simp; omega),ob_,JQ _ Hm _ (by simp; omega)]; rfl
theorem Bk (v : GVault) (k n : Int) (t : Dig) (h : v.Events.length ≤ 1000) : XH v k n t = some (UQ v ⟨k,n,t⟩):=by
 unfold XH
 rw [YH (by simp; omega),ob_,kI _ (by simp; omega)]; rfl
theorem yu (l : List Blk) (h : l.length < 9223372036854775807) (b : Blk) : YB l b = some (l.any λx=>decide (b = x)):=by
 unfold YB Xb
 rw [AO l (λx=>some (decide (b = x))) (λx=>decide (b = x)) (Y9 l b) (λs=>by
  unfold Y9
  by_cases hs : (decide (s < (l.length : Int))) = true
  ·rw [if_pos hs,if_pos hs]
   cases idx l s <;> rfl
  ·rw [if_neg hs,if_neg hs]) h (λx _=>rfl)]
 simp only [ob_,Zdc]
def KT : GVault:=⟨[],0,[],[],Vector.replicate 32 0⟩
def AJ (v : GVault) : Bool:=v.Keys.length == 8 || v.Events.length == 60
def zx (v : GVault) (key : Blk) : GVault × Int :=
 if Z0 v then (if v.Keys.any (λx=>decide (key = x)) then (KT,5) else if AJ v then (KT,3) else
  (UQ ⟨v.Keys ++ [key],v.Next,v.Records,v.Events,v.Head⟩ ⟨3,(v.Keys.length : Int),Vector.replicate 32 0⟩,0)) else (KT,1)
theorem kZ (v : GVault) : (if ((v.Keys.length : Int) == 8) = true then (some true) else (some ((v.Events.length : Int) == 60)) : Option Bool) = some (AJ v):=by
 unfold AJ
 have e1 : ((v.Keys.length : Int) == 8) = (v.Keys.length == 8):=by rw [Bool.eq_iff_iff,beq_iff_eq,beq_iff_eq]; omega
 have e2 : ((v.Events.length : Int) == 60) = (v.Events.length == 60):=by rw [Bool.eq_iff_iff,beq_iff_eq,beq_iff_eq]; omega
 rw [e1,e2]
 cases v.Keys.length == 8 <;> rfl
theorem zg (v : GVault) (hb : Wt.ln v) (key : Blk) : UO v key = some (zx v key):=by
 unfold UO zx
 rw [UP v hb,ob_]
 cases hv : Z0 v with
 | false=>rfl
 | true =>
  obtain ⟨h1,h2,h3,h4,h5,h6⟩:=XG hv
  have hsm : za v:=Hs hv (λr hr=>by
   unfold Z0 at hv
   simp only [Bool.and_eq_true,Bool.not_eq_true',List.any_eq_false,List.mem_range'_1] at hv
   obtain ⟨i,hi,rfl⟩:=List.mem_iff_getElem.1 hr
   have:=hv.1.2 i (by omega)
   unfold HL H9 at this
   rw [ge_ hi] at this
   simp only [Bool.or_eq_true,Bool.not_eq_true',decide_eq_true_eq,decide_eq_false_iff_not,not_or,Classical.not_not] at this
   omega)
  simp only [Bool.not_true,Bool.false_eq_true,if_false,if_true]
  rw [yu v.Keys (by omega),ob_]
  cases v.Keys.any (λx=>decide (key = x)) with
  | true=>rfl
  | false =>
   simp only [Bool.false_eq_true,if_false]
   rw [kZ,ob_]
   cases AJ v with
   | true=>rfl
   | false =>
    simp only [Bool.false_eq_true,if_false]
    rw [yD v hsm,ob_,YH (by simp; omega),ob_,Vz,ob_]
    have hlen : Z6 v.Keys = some (v.Keys.length : Int):=rfl
    have hn : ∀ e,YS ⟨YM (YK 4)⟩ ⟨v.Keys ++ [key],v.Next,v.Records,v.Events,v.Head⟩ e = some (UQ ⟨v.Keys ++ [key],v.Next,v.Records,v.Events,v.Head⟩ e):=λe=>yw _ e (show v.Events.length ≤ 1000 by omega)
    rw [hlen,ob_,hn]
    rfl
theorem A7 (v : GVault) (hb : Wt.ln v) (key : Blk) : U7 v key = some (zx v key):=by
 unfold U7 zx
 rw [Ao v hb,ob_]
 cases hv : Z0 v with
 | false=>rfl
 | true =>
  obtain ⟨h1,h2,h3,h4,h5,h6⟩:=XG hv
  have hsm : za v:=Hs hv (λr hr=>by
   unfold Z0 at hv
   simp only [Bool.and_eq_true,Bool.not_eq_true',List.any_eq_false,List.mem_range'_1] at hv
   obtain ⟨i,hi,rfl⟩:=List.mem_iff_getElem.1 hr
   have:=hv.1.2 i (by omega)
   unfold HL H9 at this
   rw [ge_ hi] at this
   simp only [Bool.or_eq_true,Bool.not_eq_true',decide_eq_true_eq,decide_eq_false_iff_not,not_or,Classical.not_not] at this
   omega)
  simp only [Bool.not_true,Bool.false_eq_true,if_false,if_true]
  have hl:=KK (f:=Uv v key) v.Keys (λx=>decide (key = x)) (t:=(KT,(5 : Int))) (by omega) (λi hi=>by
   unfold Uv
   simp only [Int.ofNat_lt,hi,decide_true,if_true,YF,ge_ hi,ob_]
   by_cases hk : v.Keys[i] = key
   ·simp [hk]; rfl
   ·have hk2 : ¬ (key = v.Keys[i]):=λe=>hk e.symm
    simp [hk,hk2]) (by unfold Uv; simp)
  rw [hl,ob_]
  cases v.Keys.any (λx=>decide (key = x)) with
  | true=>rfl
  | false =>
   simp only [Bool.false_eq_true,if_false,Fl.el]
   rw [kZ,ob_]
   cases AJ v with
   | true=>rfl
   | false =>
    simp only [Bool.false_eq_true,if_false]
    rw [AD v hsm,ob_,YH (by simp; omega),ob_]
    have hn : ∀ k n t,XH ⟨v.Keys ++ [key],v.Next,v.Records,v.Events,v.Head⟩ k n t = some (UQ ⟨v.Keys ++ [key],v.Next,v.Records,v.Events,v.Head⟩ ⟨k,n,t⟩):=λk n t=>Bk _ k n t (show v.Events.length ≤ 1000 by omega)
    rw [hn]
    rfl
theorem ZA {α β : Type} {o : Option α} {f : α → Option β} {P : α → Prop} {Q : β → Prop} (h : ∃ r,o = some r ∧ P r) (k : ∀ r,P r → ∃ q,f r = some q ∧ Q q) : ∃ q,(o.bind f) = some q ∧ Q q:=by
 obtain ⟨r,e,hr⟩:=h
 rw [e,ob_]
 exact k r hr
theorem Ba {α β : Type} {x : α} {f : α → Option β} {Q : β → Prop} (k : ∃ q,f x = some q ∧ Q q) : ∃ q,((some x).bind f) = some q ∧ Q q:=k
theorem Xd {β : Type} {c : Prop} [Decidable c] {a b : Option β} {Q : β → Prop} (h1 : c → ∃ q,a = some q ∧ Q q) (h2 : ¬ c → ∃ q,b = some q ∧ Q q) : ∃ q,(if c then a else b) = some q ∧ Q q:=by
 by_cases h : c
 ·rw [if_pos h]; exact h1 h
 rw [if_neg h]; exact h2 h
theorem Jj {σ ρ : Type} {f : σ → Option (Fl σ ρ)} (I : Nat → σ → Prop) {R : ρ → Prop} (n : Nat) (h : ∀ i s,i < n → I i s → ∃ q,f s = some q ∧ ∃ s',q = .nx s' ∧ I (i + 1) s') (he : ∀ s,I n s → ∃ q,f s = some q ∧ ∃ r,q = .ex r ∧ R r) :
  ∀ (k i : Nat) (s : σ),i + k = n → I i s → ∃ r,ZQ f s = some r ∧ R r
 | 0,i,s,hk,hi=>by
  have : i = n:=by omega
  subst this
  obtain ⟨q,e,r,rfl,hr⟩:=he s hi
  exact ⟨r,UJ e,hr⟩
 | k + 1,i,s,hk,hi=>by
  obtain ⟨q,e,s',rfl,hs⟩:=h i s (by omega) hi
  rw [UH e]
  exact Jj I n h he k (i + 1) s' (by omega) hs
theorem KS {α : Type} {n : Nat} (v : Vector α n) {i : Int} (h : 0 ≤ i ∧ i < n) : ∃ x,ZZ v i = some x ∧ True:=by
 obtain ⟨k,rfl⟩:=Int.eq_ofNat_of_zero_le h.1
 exact ⟨v[k]'(by omega),by rw [TK,Vector.getElem?_eq_getElem (by omega)],trivial⟩
theorem Ku {α : Type} (l : List α) {i : Int} (h : 0 ≤ i ∧ i < l.length) : ∃ x,idx l i = some x ∧ x ∈ l:=by
 obtain ⟨k,rfl⟩:=Int.eq_ofNat_of_zero_le h.1
 have hk : k < l.length:=by omega
 exact ⟨l[k],by rw [YF,ge_ hk],List.getElem_mem hk⟩
def WD (s : Int × Int) : Prop:=0 ≤ s.1 ∧ s.1 ≤ 4096
section
variable {p : List UInt8} (hp : p.length ≤ 4096) {s : Int × Int} (hs : WD s)
theorem jn (a : BitVec 64) : ∃ m : Nat,m ≤ 16777215 ∧ IntKind.i64.wrap (wru (a &&& BitVec.ofInt 64 16777215).toNat) = (m : Int):=by
 have h : (a &&& BitVec.ofInt 64 16777215).toNat ≤ 16777215:=by
  rw [BitVec.toNat_and]
  exact Nat.le_trans Nat.and_le_right (by decide)
 refine ⟨_,h,?_⟩
 generalize (a &&& BitVec.ofInt 64 16777215).toNat = m at *
 have e : wru (m : Int) = (m : Int):=Zcb m (by omega)
 rw [e]
 exact Y4 (by omega)
include hp hs
theorem XD {n : Int} (hn : 1 ≤ n) : ∃ r,Z5 p s n = some r ∧ (WD r.1 ∧ 0 ≤ r.2 ∧ r.2 < n):=by
 unfold Z5
 obtain ⟨m,hm,em⟩:=jn (BitVec.ofInt 64 (WG (IntKind.u64.wrap ((IntKind.u64.wrap (s.2 * 6364136223846793005)) + 1442695040888963407)) 33))
 rw [em]
 have hz : JF n = some ():=by unfold JF; rw [if_pos (by omega)]
 obtain ⟨h1,h2⟩:=hs
 rw [if_neg (by simp only [decide_eq_true_eq]; omega)]
 refine ZA (P:=λj=>(0 ≤ j.1 ∧ j.1 ≤ 4096) ∧ 0 ≤ j.2) (Ba (Xd (λhc=>?_) (λ_=>⟨_,rfl,⟨h1,h2⟩,by omega⟩))) λj hj=>?_
 ·have hc : s.1 < (p.length : Int):=of_decide_eq_true hc
  refine ZA (P:=λx=>0 ≤ x) (ZA (Ku p ⟨h1,hc⟩) λx _=>⟨_,rfl,?_⟩) λx hx=>⟨_,rfl,?_,hx⟩
  ·have hb:=x.toNat_lt
   show 0 ≤ wr ((m : Int) + (x.toNat : Int))
   rw [Y4 (by omega)]; omega
  show 0 ≤ wr (s.1 + 1) ∧ wr (s.1 + 1) ≤ 4096
  rw [Y4 (by omega)]; omega
 rw [hz]
 refine ⟨_,rfl,hj.1,?_,?_⟩
 ·exact Int.tmod_nonneg _ hj.2
 exact Int.tmod_lt_of_pos _ (by omega)
theorem JA {l : List Int} (hl : 1 ≤ l.length) : ∃ r,XB p s l = some r ∧ (WD r.1 ∧ r.2 ∈ l):=by
 unfold XB
 exact ZA (XD hp hs (by omega)) λr hr=>ZA (Ku l hr.2) λx hx=>⟨_,rfl,hr.1,hx⟩
theorem Zar : ∃ r,WO p s = some r ∧ WD r.1:=by
 unfold WO
 exact ZA (XD hp hs (by omega)) λr hr=>ZA (XD hp hr.1 (by omega)) λr hr=>ZA (XD hp hr.1 (by omega)) λr hr=>ZA (JA hp hr.1 (by simp)) λr hr=>⟨_,rfl,hr.1⟩
theorem Jm : ∃ r,Y3 p s = some r ∧ WD r.1:=by
 unfold Y3
 refine ZA (XD hp hs (by omega)) λr hr=>Xd (λ_=>?_) (λ_=>?_)
 ·exact ZA (XD hp hr.1 (by omega)) λr hr=>ZA (Zar hp hr.1) λq hq=>ZA (KS _ hr.2) λx _=>⟨_,rfl,hq⟩
 refine ZA (P:=λj=>WD j.2) (Jj (λi t=>t.2.2.2 = (i : Int) ∧ WD (t.2.1,t.2.2.1)) 16 (λi t hi ht=>?_) (λt ht=>?_) 16 0 _ rfl ⟨rfl,hr.1⟩) λj hj=>⟨_,rfl,hj⟩
 ·unfold Uw
  obtain ⟨t1,t2⟩:=ht
  rw [if_pos (by simp only [decide_eq_true_eq]; omega)]
  exact ZA (XD hp t2 (by omega)) λr hr=>ZA (KS _ (by omega)) λx _=>⟨_,rfl,_,rfl,by show wr (t.2.2.2 + 1) = _; rw [t1,Y4 (by omega)]; omega,hr.1⟩
 unfold Uw
 obtain ⟨t1,t2⟩:=ht
 rw [if_neg (by simp only [decide_eq_true_eq]; omega)]
 exact ⟨_,rfl,_,rfl,t2⟩
end
theorem Zbq {p : List UInt8} (hp : p.length ≤ 4096) : ∃ r,UT p = some r ∧ WD r:=by
 unfold UT
 refine ZA (P:=λ_=>True) (Jj (λi t=>t.2 = (i : Int)) p.length (λi t hi ht=>?_) (λt ht=>?_) p.length 0 _ (by omega) rfl) λj _=>⟨_,rfl,by show (0 : Int) ≤ 0; omega,by show (0 : Int) ≤ 4096; omega⟩
 ·unfold QY
  rw [if_pos (by simp only [decide_eq_true_eq]; omega)]
  have h1 : decide (t.2 < 4096) = true:=by simp only [decide_eq_true_eq]; omega
  rw [h1]
  exact Ba (Xd (λ_=>ZA (Ku p (by omega)) λx _=>⟨_,rfl,_,rfl,by show wr (t.2 + 1) = _; rw [ht,Y4 (by omega)]; omega⟩) λh=>absurd rfl h)
 unfold QY
 rw [if_neg (by simp only [decide_eq_true_eq]; omega)]
 exact ⟨_,rfl,_,rfl,trivial⟩

def JV (v : GVault) (nonce : Blk) : Bool:=v.Records.any λr=>(r.Version == (v.Keys.length : Int) - 1) && decide (r.Nonce = nonce)
theorem Bx {v : GVault} (h : v.Keys.length ≤ 1000) : wr ((v.Keys.length : Int) - 1) = (v.Keys.length : Int) - 1:=Y4 (by omega)
theorem jL (v : GVault) (nonce : Blk) (hk : v.Keys.length ≤ 1000) (hr : v.Records.length ≤ 1000) : XY v nonce = some (JV v nonce):=by
 have h1 : ∀ z,Y1 z v nonce = some ((z.Version == (v.Keys.length : Int) - 1) && decide (z.Nonce = nonce)):=λz=>by
  have hlen : Z6 v.Keys = some (v.Keys.length : Int):=rfl
  unfold Y1
  rw [hlen,ob_,Bx hk]
  cases z.Version == (v.Keys.length : Int) - 1 <;> rfl
 unfold XY YI Ym
 rw [AO v.Records (λz=>Y1 z v nonce) (λz=>(z.Version == (v.Keys.length : Int) - 1) && decide (z.Nonce = nonce)) (Yw v.Records (λz0=>Y1 z0 v nonce)) (λs=>by
  unfold Yw
  rfl) (by omega) (λx _=>h1 x)]
 simp only [ob_,Zdc]
 rfl
theorem kG (v : GVault) (nonce : Blk) (hk : v.Keys.length ≤ 1000) (hr : v.Records.length ≤ 1000) : UR v nonce = some (JV v nonce):=by
 unfold UR
 rw [KK (f:=TD v nonce) v.Records (λz=>(z.Version == (v.Keys.length : Int) - 1) && decide (z.Nonce = nonce)) (t:=true) (by omega) (λi hi=>by
  unfold TD
  simp only [Int.ofNat_lt,hi,decide_true,if_true,YF,ge_ hi,ob_,Bx hk]
  cases v.Records[i].Version == (v.Keys.length : Int) - 1 with
  | true =>
   simp only [if_true,ob_,Bool.true_and]
   cases decide (v.Records[i].Nonce = nonce) <;> rfl
  | false=>rfl) (by unfold TD; simp)]
 rw [ob_]
 show Fl.el _ _ _ = some (List.any v.Records λz=>(z.Version == (v.Keys.length : Int) - 1) && decide (z.Nonce = nonce))
 cases List.any v.Records λz=>(z.Version == (v.Keys.length : Int) - 1) && decide (z.Nonce = nonce) <;> rfl
def U0 (v : GVault) (ver : Int) (nonce : Blk) (data : List UInt8) : List UInt8:=UD data (QR (YK 4) (UC v ver) nonce data.length)
theorem Q3 (v : GVault) (ver : Int) (nonce : Blk) (data : List UInt8) : (U0 v ver nonce data).length = data.length:=KI (Qd _ _ _ _)
def Wi (v : GVault) (n ver : Int) (nonce : Blk) (label data : List UInt8) : GRecord:=⟨n,ver,nonce,label,U0 v ver nonce data,Xo v ⟨n,ver,nonce,label,U0 v ver nonce data,Vector.replicate 32 0⟩⟩
theorem Zc1 (v : GVault) (r : GRecord) (t : Dig) : Xo v ⟨r.Number,r.Version,r.Nonce,r.Label,r.Body,t⟩ = Xo v r:=rfl
def yb (v : GVault) : Bool:=(v.Records.length == 12) || (v.Events.length == 60) || (v.Next == 1000000)
theorem Za4 (v : GVault) : (if ((v.Records.length : Int) == 12) = true then (some true) else (if ((v.Events.length : Int) == 60) = true then (some true) else (some (v.Next == 1000000))) : Option Bool) = some (yb v):=by
 unfold yb
 have e1 : ((v.Records.length : Int) == 12) = (v.Records.length == 12):=by rw [Bool.eq_iff_iff,beq_iff_eq,beq_iff_eq]; omega
 have e2 : ((v.Events.length : Int) == 60) = (v.Events.length == 60):=by rw [Bool.eq_iff_iff,beq_iff_eq,beq_iff_eq]; omega
 rw [e1,e2]
 cases v.Records.length == 12 <;> cases v.Events.length == 60 <;> rfl
def Ks (label data : List UInt8) : Bool:=decide (32 < label.length) || decide (200 < data.length)
theorem Zfe (label data : List UInt8) : (if (decide ((label.length : Int) > 32)) = true then (some true) else (some (decide ((data.length : Int) > 200))) : Option Bool) = some (Ks label data):=by
 unfold Ks
 have e1 : decide ((label.length : Int) > 32) = decide (32 < label.length):=by rw [Bool.eq_iff_iff]; simp only [decide_eq_true_eq]; omega
 have e2 : decide ((data.length : Int) > 200) = decide (200 < data.length):=by rw [Bool.eq_iff_iff]; simp only [decide_eq_true_eq]; omega
 rw [e1,e2]
 cases decide (32 < label.length) <;> rfl
theorem Zcm (label data : List UInt8) : (if (decide ((data.length : Int) > 200)) = true then (some true) else (some (decide ((label.length : Int) > 32))) : Option Bool) = some (Ks label data):=by
 unfold Ks
 have e1 : decide ((label.length : Int) > 32) = decide (32 < label.length):=by rw [Bool.eq_iff_iff]; simp only [decide_eq_true_eq]; omega
 have e2 : decide ((data.length : Int) > 200) = decide (200 < data.length):=by rw [Bool.eq_iff_iff]; simp only [decide_eq_true_eq]; omega
 rw [e1,e2]
 cases decide (32 < label.length) <;> cases decide (200 < data.length) <;> rfl
def KQ (v : GVault) (r : GRecord) : GVault:=⟨v.Keys,v.Next + 1,v.Records ++ [r],v.Events,v.Head⟩
def Jc (v : GVault) (label data : List UInt8) (nonce : Blk) : GVault × Int × Int :=
 if Z0 v then (if Ks label data then (KT,0,2) else if JV v nonce then (KT,0,5) else if yb v then (KT,0,3) else
  (UQ (KQ v (Wi v v.Next ((v.Keys.length : Int) - 1) nonce label data)) ⟨1,v.Next,(Wi v v.Next ((v.Keys.length : Int) - 1) nonce label data).Tag⟩,v.Next,0)) else (KT,0,1)
theorem Hn {label data : List UInt8} (h : Ks label data = false) : label.length ≤ 32 ∧ data.length ≤ 200:=by
 unfold Ks at h
 simp only [Bool.or_eq_false_iff,decide_eq_false_iff_not] at h
 omega
theorem J5 {v : GVault} (hv : Z0 v = true) : za v:=Hs hv λr hr=>by
 obtain ⟨_,_,h1,h2⟩:=TN hv hr
 omega
theorem Zap (v : GVault) (n ver : Int) (nonce : Blk) (label data : List UInt8) (t : Dig) (b : List UInt8) (h : 0 ≤ ver ∧ ver ≤ (v.Keys.length : Int) - 1) (hl : label.length ≤ 32) (hd : data.length ≤ 200) :
  Wb ⟨YM (YK 4)⟩ v ⟨n,ver,nonce,label,b,t⟩ data = some (Wi v n ver nonce label data):=by
 unfold Wb
 rw [BT v ⟨n,ver,nonce,label,b,t⟩ data h (by omega),ob_]
 have hb:=Q3 v ver nonce data
 have ht : YU ⟨YM (YK 4)⟩ v ⟨n,ver,nonce,label,U0 v ver nonce data,t⟩ = some (Xo v ⟨n,ver,nonce,label,U0 v ver nonce data,t⟩):=Av v _ h (show label.length ≤ 1000 by omega) (show (U0 v ver nonce data).length ≤ 1000 by omega)
 show (YU ⟨YM (YK 4)⟩ v ⟨n,ver,nonce,label,U0 v ver nonce data,t⟩).bind _ = _
 rw [ht]; rfl
theorem Ht (v : GVault) (hb : Wt.ln v) (label data : List UInt8) (nonce : Blk) : V6 v label data nonce = some (Jc v label data nonce):=by
 unfold V6 Jc
 rw [UP v hb,ob_]
 cases hv : Z0 v with
 | false=>rfl
 | true =>
  obtain ⟨h1,h2,h3,h4,h5,h6⟩:=XG hv
  simp only [Bool.not_true,Bool.false_eq_true,if_false,if_true]
  rw [Zcm,ob_]
  cases hlg : Ks label data with
  | true=>rfl
  | false =>
   obtain ⟨k1,k2⟩:=Hn hlg
   simp only [Bool.false_eq_true,if_false]
   rw [jL v nonce (by omega) (by omega),ob_]
   cases JV v nonce with
   | true=>rfl
   | false =>
    simp only [Bool.false_eq_true,if_false]
    rw [Za4,ob_]
    cases yb v with
    | true=>rfl
    | false =>
     have hlen : Z6 v.Keys = some (v.Keys.length : Int):=rfl
     simp only [Bool.false_eq_true,if_false]
     rw [Vz,ob_,yD v (J5 hv),ob_,hlen,ob_,Q9 label (by omega),ob_,Bx (by omega),
      Zap v _ _ _ _ _ _ _ ⟨by omega,by omega⟩ k1 k2,ob_,YH (by simp; omega),ob_,Y4 (by omega)]
     have hn : ∀ e,YS ⟨YM (YK 4)⟩ (KQ v (Wi v v.Next ((v.Keys.length : Int) - 1) nonce label data)) e = some (UQ (KQ v (Wi v v.Next ((v.Keys.length : Int) - 1) nonce label data)) e):=λe=>yw _ e (show v.Events.length ≤ 1000 by omega)
     have:=hn ⟨1,(Wi v v.Next ((v.Keys.length : Int) - 1) nonce label data).Number,(Wi v v.Next ((v.Keys.length : Int) - 1) nonce label data).Tag⟩
     unfold KQ at this
     rw [this]
     rfl
theorem HD (v : GVault) (hb : Wt.ln v) (label data : List UInt8) (nonce : Blk) : Uf v label data nonce = some (Jc v label data nonce):=by
 unfold Uf Jc
 rw [Ao v hb,ob_]
 cases hv : Z0 v with
 | false=>rfl
 | true =>
  obtain ⟨h1,h2,h3,h4,h5,h6⟩:=XG hv
  simp only [Bool.not_true,Bool.false_eq_true,if_false,if_true]
  rw [Zfe,ob_]
  cases hlg : Ks label data with
  | true=>rfl
  | false =>
   obtain ⟨k1,k2⟩:=Hn hlg
   simp only [Bool.false_eq_true,if_false]
   rw [kG v nonce (by omega) (by omega),ob_]
   cases JV v nonce with
   | true=>rfl
   | false =>
    simp only [Bool.false_eq_true,if_false]
    rw [Za4,ob_]
    cases yb v with
    | true=>rfl
    | false =>
     have hbl:=Q3 v ((v.Keys.length : Int) - 1) nonce data
     simp only [Bool.false_eq_true,if_false]
     have hm : ∀ t,XQ v ⟨v.Next,(v.Keys.length : Int) - 1,nonce,label,[],t⟩ data = some (U0 v ((v.Keys.length : Int) - 1) nonce data):=λt=>Bb v _ data ⟨by show (0 : Int) ≤ (v.Keys.length : Int) - 1; omega,Int.le_refl _⟩ (by omega)
     have ht : ∀ t,WQ v ⟨v.Next,(v.Keys.length : Int) - 1,nonce,label,U0 v ((v.Keys.length : Int) - 1) nonce data,t⟩ = some (Xo v ⟨v.Next,(v.Keys.length : Int) - 1,nonce,label,U0 v ((v.Keys.length : Int) - 1) nonce data,t⟩):=λt=>yU v _ ⟨by show (0 : Int) ≤ (v.Keys.length : Int) - 1; omega,Int.le_refl _⟩ (show label.length ≤ 1000 by omega) (show (U0 v ((v.Keys.length : Int) - 1) nonce data).length ≤ 1000 by omega)
     rw [AD v (J5 hv),ob_,JZ label (by omega),ob_,Bx (by omega),hm,ob_,ht,ob_,YH (by simp; omega),ob_,Y4 (by omega)]
     have hn : ∀ k n t,XH (KQ v (Wi v v.Next ((v.Keys.length : Int) - 1) nonce label data)) k n t = some (UQ (KQ v (Wi v v.Next ((v.Keys.length : Int) - 1) nonce label data)) ⟨k,n,t⟩):=λk n t=>Bk _ k n t (show v.Events.length ≤ 1000 by omega)
     have:=hn 1 v.Next (Wi v v.Next ((v.Keys.length : Int) - 1) nonce label data).Tag
     unfold KQ Wi at this
     rw [this]
     rfl
def K0 (v : GVault) (i : Nat) (r : GRecord) : GVault:=⟨v.Keys,v.Next,v.Records.set i r,v.Events,v.Head⟩
def XV (v : GVault) (n : Int) (nonce : Blk) : GRecord:=Wi v n ((v.Keys.length : Int) - 1) nonce (YZ v n).Label (Q4 v (YZ v n))
def HE (v : GVault) (n : Int) (nonce : Blk) : GVault × Int :=
 if Z0 v then (if Yr v n < 0 then (KT,4) else if Xo v (YZ v n) = (YZ v n).Tag then (if JV v nonce then (KT,5) else if v.Events.length == 60 then (KT,3) else
  (UQ (K0 v (Yr v n).toNat (XV v n nonce)) ⟨4,n,(XV v n nonce).Tag⟩,0)) else (KT,5)) else (KT,1)
theorem yz (v : GVault) : ((v.Events.length : Int) == 60) = (v.Events.length == 60):=by rw [Bool.eq_iff_iff,beq_iff_eq,beq_iff_eq]; omega
theorem zu (v : GVault) (r : GRecord) : (Q4 v r).length = r.Body.length:=KI (Qd _ _ _ _)
theorem KX {v : GVault} {n : Int} (h : ¬ Yr v n < 0) : ∃ i : Nat,Yr v n = i ∧ i < v.Records.length ∧ v.Records[i]? = some (YZ v n) ∧ (YZ v n).Number = n:=by
 obtain ⟨i,h1,h2,h3⟩:=J3 h
 refine ⟨i,h1,h2,?_,?_⟩
 ·unfold YZ
  rw [h1,Int.toNat_natCast,List.getD_eq_getElem?_getD,ge_ h2]; rfl
 unfold YZ
 rw [h1,Int.toNat_natCast,List.getD_eq_getElem?_getD,ge_ h2]; exact h3
theorem ya (v : GVault) (hb : Wt.ln v) (n : Int) (nonce : Blk) : TB v n nonce = some (HE v n nonce):=by
 unfold TB HE
 rw [KM v hb,ob_]
 unfold qc
 cases hv : Z0 v with
 | false=>rfl
 | true =>
  obtain ⟨h1,h2,h3,h4,h5,h6⟩:=XG hv
  simp only [if_true]
  by_cases hp : Yr v n < 0
  ·simp only [if_pos hp]; rfl
  ·simp only [if_neg hp]
   obtain ⟨i,p1,p2,p3,p4⟩:=KX hp
   have hmem : YZ v n ∈ v.Records:=List.mem_of_getElem? p3
   obtain ⟨q1,q2,q3,q4⟩:=TN hv hmem
   have hlen : Z6 v.Keys = some (v.Keys.length : Int):=rfl
   simp only [bne_self_eq_false,Bool.false_eq_true,if_false]
   rw [Vz,ob_,yD v (J5 hv),ob_,p1,YF,p3,ob_,Av v _ ⟨q1,q2⟩ (by omega) (by omega),ob_,jL v nonce (by omega) (by omega),ob_]
   by_cases ht : Xo v (YZ v n) = (YZ v n).Tag
   ·simp only [ht,decide_true,Bool.not_true,Bool.false_eq_true,if_false,if_true,ob_]
    cases JV v nonce with
    | true=>rfl
    | false =>
     simp only [Bool.false_eq_true,if_false,yz]
     cases (v.Events.length == 60) with
     | true=>rfl
     | false =>
      simp only [Bool.false_eq_true,if_false]
      have hs : Y6 ⟨YM (YK 4)⟩ v (YZ v n) (YZ v n).Body = some (Q4 v (YZ v n)):=BT v _ _ ⟨q1,q2⟩ (by omega)
      have hpl:=zu v (YZ v n)
      have hse:=Zap v (YZ v n).Number ((v.Keys.length : Int) - 1) nonce (YZ v n).Label (Q4 v (YZ v n)) (YZ v n).Tag (YZ v n).Body ⟨by omega,by omega⟩ q3 (by omega)
      rw [hs,ob_,hlen,ob_,Bx (by omega),ob_]
      simp only []
      rw [hse]
      simp only [ob_,Int.toNat_natCast,p4]
      have hset : (v.Records.set i (XV v n nonce))[i]? = some (XV v n nonce):=by rw [List.getElem?_set_self p2]
      have hn : ∀ e,YS ⟨YM (YK 4)⟩ (K0 v i (XV v n nonce)) e = some (UQ (K0 v i (XV v n nonce)) e):=λe=>yw _ e (show v.Events.length ≤ 1000 by omega)
      have:=hn ⟨4,n,(XV v n nonce).Tag⟩
      unfold K0 at this
      unfold XV at hset this
      rw [YF,hset,ob_,this]
      rfl
   ·simp only [ht,decide_false,Bool.not_false,if_true,if_false,ob_]; rfl
theorem z5 (v : GVault) (hb : Wt.ln v) (n : Int) (nonce : Blk) : Tx v n nonce = some (HE v n nonce):=by
 unfold Tx HE
 rw [Ab v hb,ob_]
 unfold KY
 cases hv : Z0 v with
 | false=>rfl
 | true =>
  obtain ⟨h1,h2,h3,h4,h5,h6⟩:=XG hv
  simp only [if_true]
  by_cases hp : Yr v n < 0
  ·simp only [if_pos hp]; rfl
  ·simp only [if_neg hp]
   obtain ⟨i,p1,p2,p3,p4⟩:=KX hp
   have hmem : YZ v n ∈ v.Records:=List.mem_of_getElem? p3
   obtain ⟨q1,q2,q3,q4⟩:=TN hv hmem
   by_cases ht : Xo v (YZ v n) = (YZ v n).Tag
   ·simp only [if_pos ht,bne_self_eq_false,Bool.false_eq_true,if_false]
    rw [kG v nonce (by omega) (by omega),ob_]
    cases JV v nonce with
    | true=>rfl
    | false =>
     simp only [Bool.false_eq_true,if_false,yz]
     cases (v.Events.length == 60) with
     | true=>rfl
     | false =>
      simp only [Bool.false_eq_true,if_false]
      have hpl:=zu v (YZ v n)
      have hbl:=Q3 v ((v.Keys.length : Int) - 1) nonce (Q4 v (YZ v n))
      have hm : ∀ t,XQ v ⟨n,(v.Keys.length : Int) - 1,nonce,(YZ v n).Label,[],t⟩ (Q4 v (YZ v n)) = some (U0 v ((v.Keys.length : Int) - 1) nonce (Q4 v (YZ v n))):=λt=>Bb v _ _ ⟨by show (0 : Int) ≤ (v.Keys.length : Int) - 1; omega,Int.le_refl _⟩ (by omega)
      have htg : ∀ t,WQ v ⟨n,(v.Keys.length : Int) - 1,nonce,(YZ v n).Label,U0 v ((v.Keys.length : Int) - 1) nonce (Q4 v (YZ v n)),t⟩ = some (Xo v ⟨n,(v.Keys.length : Int) - 1,nonce,(YZ v n).Label,U0 v ((v.Keys.length : Int) - 1) nonce (Q4 v (YZ v n)),t⟩):=λt=>yU v _ ⟨by show (0 : Int) ≤ (v.Keys.length : Int) - 1; omega,Int.le_refl _⟩ (show (YZ v n).Label.length ≤ 1000 by omega) (show (U0 v ((v.Keys.length : Int) - 1) nonce (Q4 v (YZ v n))).length ≤ 1000 by omega)
      rw [AD v (J5 hv),ob_,BU v n (by omega),ob_,p1]
      simp only [YF,p3,ob_,Bx (show v.Keys.length ≤ 1000 by omega),hm,htg,Int.toNat_natCast]
      have hn : ∀ k n' t,XH (K0 v i (XV v n nonce)) k n' t = some (UQ (K0 v i (XV v n nonce)) ⟨k,n',t⟩):=λk n' t=>Bk _ k n' t (show v.Events.length ≤ 1000 by omega)
      have:=hn 4 n (XV v n nonce).Tag
      unfold K0 XV Wi at this
      rw [this]
      rfl
   ·simp only [if_neg ht]; rfl
theorem zN {v : GVault} {n : Int} (nonce : Blk) (hv : Z0 v = true) (hp : ¬ Yr v n < 0) : (XV v n nonce).Label.length ≤ 32 ∧ (XV v n nonce).Body.length ≤ 200:=by
 obtain ⟨i,p1,p2,p3,p4⟩:=KX hp
 obtain ⟨q1,q2,q3,q4⟩:=TN hv (List.mem_of_getElem? p3)
 have hbl:=Q3 v ((v.Keys.length : Int) - 1) nonce (Q4 v (YZ v n))
 have hpl:=zu v (YZ v n)
 exact ⟨q3,by show (U0 v ((v.Keys.length : Int) - 1) nonce (Q4 v (YZ v n))).length ≤ 200; omega⟩
theorem AC {k : Int} (h : 0 ≤ k) (h' : k ≤ 100000) : wr (k + 1) = k + 1:=Y4 (by omega)
theorem yJ {k : Int} (h : 0 ≤ k) (h' : k ≤ 100000) : wr (k - 1) = k - 1:=Y4 (by omega)
theorem qD {k : Int} (h : 0 < k) : (decide (k > 0)) = true:=by simpa using h
theorem Zaa {k : Int} (h : ¬ 0 < k) : ¬ (decide (k > 0)) = true:=by simpa using h
theorem kQ {a b : Int} (h : a < b) : (decide (a < b)) = true:=by simpa using h
theorem lt_no {a b : Int} (h : ¬ a < b) : ¬ (decide (a < b)) = true:=by simpa using h
section
variable {p : List UInt8} (hp : p.length ≤ 4096) {s : Int × Int} (hs : WD s)
include hp hs
theorem kH {n : Nat} (hn : n ≤ 1000) : ∃ r,Wx p s (n : Int) = some r ∧ (WD r.1 ∧ r.2.length ≤ n):=by
 unfold Wx
 have a5 : 0 ≤ (if (5 : Int) < (n : Int) then 5 else (n : Int)) ∧ (if (5 : Int) < (n : Int) then 5 else (n : Int)) ≤ n:=by split <;> omega
 have a40 : 0 ≤ (if (40 : Int) < (n : Int) then 40 else (n : Int)) ∧ (if (40 : Int) < (n : Int) then 40 else (n : Int)) ≤ n:=by split <;> omega
 rw [AC a5.1 (by omega),AC a40.1 (by omega),AC (k:=(n : Int)) (by omega) (by omega)]
 refine ZA (XD hp hs (by omega)) λr3 q3=>ZA (XD hp q3.1 (by omega)) λr5 q5=>ZA (XD hp q5.1 (by omega)) λr7 q7=>ZA (JA hp q7.1 (by simp)) λr q=>?_
 obtain ⟨k,ek,hk⟩ : ∃ k : Nat,r.2 = k ∧ k ≤ n:=by
  have h0:=q3.2; have h1:=q5.2; have h2:=q7.2
  have h3:=q.2
  simp only [List.mem_cons,List.not_mem_nil,or_false] at h3
  exact ⟨r.2.toNat,by rcases h3 with e | e | e <;> omega,by rcases h3 with e | e | e <;> omega⟩
 refine ZA (P:=λj=>WD (j.1,j.2.1) ∧ j.2.2.length ≤ n) (Jj (λi t=>t.2.2.2 = ((k - i : Nat) : Int) ∧ t.2.2.1.length = i ∧ WD (t.1,t.2.1)) k (λi t hi ht=>?_) (λt ht=>?_) k 0 _ (by omega) ⟨ek,rfl,q.1⟩) λj hj=>⟨_,rfl,hj⟩
 ·obtain ⟨t1,t2,t3⟩:=ht
  unfold Uk
  rw [if_pos (qD (by omega))]
  refine ZA (Zar hp t3) λr hr=>?_
  have ha : app 1 t.2.2.1 ([r.2] : List UInt8) = _:=YH (by simp only [List.length_singleton]; omega)
  rw [ha]
  exact ⟨_,rfl,_,rfl,by show wr (t.2.2.2 - 1) = _; rw [t1,yJ (by omega) (by omega)]; omega,by simp; omega,hr⟩
 obtain ⟨t1,t2,t3⟩:=ht
 unfold Uk
 rw [if_neg (Zaa (by omega))]
 exact ⟨_,rfl,_,rfl,t3,by show t.2.2.1.length ≤ n; omega⟩
end
section
variable {p : List UInt8} (hp : p.length ≤ 4096)
include hp
theorem Zbo (n : Int) : ∃ r,Kb p n = some r ∧ WD r:=by
 unfold Kb
 refine ZA (P:=λ_=>True) (Jj (λi t=>t.2 = (i : Int)) p.length (λi t hi ht=>?_) (λt ht=>?_) p.length 0 _ (by omega) rfl) λj _=>⟨_,rfl,by show (0 : Int) ≤ 0; omega,by show (0 : Int) ≤ 4096; omega⟩
 ·unfold Ji
  rw [if_pos (kQ (by omega))]
  exact ZA (Ku p (by omega)) λx _=>⟨_,rfl,_,rfl,by show wr (t.2 + 1) = _; rw [ht,AC (by omega) (by omega)]; omega⟩
 unfold Ji
 rw [if_neg (lt_no (by omega))]
 exact ⟨_,rfl,_,rfl,trivial⟩
variable {s : Int × Int} (hs : WD s)
include hs
theorem JU {n : Int} (hn : 1 ≤ n) : ∃ r,Xu p s n = some r ∧ (WD r.1 ∧ 0 ≤ r.2 ∧ r.2 < n):=by
 unfold Xu
 obtain ⟨m,hm,em⟩:=jn (BitVec.ofInt 64 (WG (IntKind.u64.wrap ((IntKind.u64.wrap (s.2 * 6364136223846793005)) + 1442695040888963407)) 33))
 rw [em]
 have hz : JF n = some ():=by unfold JF; rw [if_pos (by omega)]
 obtain ⟨h1,h2⟩:=hs
 rw [if_neg (by simp only [decide_eq_true_eq]; omega)]
 refine ZA (P:=λj=>(0 ≤ j.1 ∧ j.1 ≤ 4096) ∧ 0 ≤ j.2) (Ba (Xd (λhc=>?_) (λ_=>⟨_,rfl,⟨h1,h2⟩,by omega⟩))) λj hj=>?_
 ·have hc : s.1 < (p.length : Int):=of_decide_eq_true hc
  refine ZA (P:=λx=>0 ≤ x) (ZA (Ku p ⟨h1,hc⟩) λx _=>⟨_,rfl,?_⟩) λx hx=>⟨_,rfl,?_,hx⟩
  ·have hb:=x.toNat_lt
   show 0 ≤ wr ((m : Int) + (x.toNat : Int))
   rw [Y4 (by omega)]; omega
  show 0 ≤ wr (s.1 + 1) ∧ wr (s.1 + 1) ≤ 4096
  rw [Y4 (by omega)]; omega
 rw [hz]
 refine ⟨_,rfl,hj.1,?_,?_⟩
 ·exact Int.tmod_nonneg _ hj.2
 exact Int.tmod_lt_of_pos _ (by omega)
theorem Zfh {n : Nat} (hn : n ≤ 1000) : ∃ r,Kt p s (n : Int) = some r ∧ (WD r.1 ∧ r.2.length = n):=by
 unfold Kt
 refine ZA (P:=λj=>WD (j.1,j.2.1) ∧ j.2.2.length = n) (Jj (λi t=>t.2.2.1 = ((n - i : Nat) : Int) ∧ t.2.2.2.length = i ∧ WD (t.1,t.2.1)) n (λi t hi ht=>?_) (λt ht=>?_) n 0 _ (by omega) ⟨rfl,rfl,hs⟩) λj hj=>⟨_,rfl,hj⟩
 ·obtain ⟨t1,t2,t3⟩:=ht
  unfold KO
  rw [if_pos (qD (by omega))]
  refine ZA (JU hp t3 (by omega)) λr hr=>?_
  have ha : app 1 t.2.2.2 ([Zv r.2] : List UInt8) = _:=YH (by simp only [List.length_singleton]; omega)
  rw [ha]
  exact ⟨_,rfl,_,rfl,by show wr (t.2.2.1 - 1) = _; rw [t1,yJ (by omega) (by omega)]; omega,by simp; omega,hr.1⟩
 obtain ⟨t1,t2,t3⟩:=ht
 unfold KO
 rw [if_neg (Zaa (by omega))]
 exact ⟨_,rfl,_,rfl,t3,t2⟩
end
theorem Vr {α β : Type} {o : Option α} {r : α} {f : α → Option β} {x : Option β} (h : o = some r) (k : f r = x) : o.bind f = x:=by rw [h]; exact k
theorem Zgf {β γ : Type} {o : Option (Fl Unit β)} {f : Unit → Option γ} {g : β → Option γ} {x : Option γ} (h : o = some (.nx ())) (k : f () = x) : (o.bind λj=>j.el f g) = x:=by rw [h]; exact k
theorem Zck {β : Type} {c : Prop} [Decidable c] {A x : Option β} (h : c → A = x) : (if c then A else x) = x:=by
 by_cases c' : c
 ·rw [if_pos c']; exact h c'
 rw [if_neg c']
theorem By {β : Type} {o : Option Bool} {A B x : Option β} (h : o = some false) (k : B = x) : (o.bind λj=>if j = true then A else B) = x:=by rw [h]; exact k
theorem JI (l : List UInt8) (h : l.length ≤ 1000) : Vy l l = some true:=by
 unfold Vy
 have:=KK (f:=Qk l l) l (λ_=>false) (t:=false) (by omega) (λi hi=>by
  unfold Qk
  rw [if_pos (kQ (by omega)),YF,ge_ hi]
  simp) (by unfold Qk; simp)
 rw [this]; simp [Fl.el]
def Hl (v : GVault) (i : Nat) : GVault:=⟨v.Keys,v.Next,v.Records.take i ++ v.Records.drop (i + 1),v.Events,v.Head⟩
def Ah (v : GVault) (n : Int) : GVault × Int :=
 if Z0 v then (if Yr v n < 0 then (KT,4) else if v.Events.length == 60 then (KT,3) else (UQ (Hl v (Yr v n).toNat) ⟨2,n,Vector.replicate 32 0⟩,0)) else (KT,1)
theorem Zg9 {α : Type} {l : List α} {i : Nat} (h : i < l.length) : delF l (i : Int) ((i : Int) + 1) = some (l.take i ++ l.drop (i + 1)):=by
 unfold delF
 rw [if_pos (by omega)]
 have : ((i : Int) + 1).toNat = i + 1:=by omega
 rw [this,Int.toNat_natCast]
theorem Zik {α : Type} {l : List α} {i : Nat} (h : i ≤ l.length) : slc l (0 : Int) (i : Int) = some (l.take i):=by
 unfold slc; rw [if_pos (by omega)]; simp
theorem Zii {α : Type} {l : List α} {i : Nat} (h : i ≤ l.length) : slc l (i : Int) (l.length : Int) = some (l.drop i):=by
 unfold slc; rw [if_pos (by omega)]; simp
theorem Zhr {α : Type} {l : List α} {i : Nat} (h : i < l.length) : slc l ((i : Int) + 1) (l.length : Int) = some (l.drop (i + 1)):=Zii (i:=i + 1) h
theorem AP (v : GVault) (hb : Wt.ln v) (n : Int) : Uu v n = some (Ah v n):=by
 unfold Uu Ah
 rw [KM v hb,ob_]
 unfold qc
 cases hv : Z0 v with
 | false=>rfl
 | true =>
  obtain ⟨h1,h2,h3,h4,h5,h6⟩:=XG hv
  simp only [if_true]
  by_cases hp : Yr v n < 0
  ·simp only [if_pos hp]; rfl
  ·simp only [if_neg hp]
   obtain ⟨i,p1,p2,p3,p4⟩:=KX hp
   simp only [bne_self_eq_false,Bool.false_eq_true,if_false,yz]
   cases (v.Events.length == 60) with
   | true=>rfl
   | false =>
    simp only [Bool.false_eq_true,if_false]
    rw [yD v (J5 hv),ob_,p1,Y4 (by omega),Vz]
    unfold Xv
    rw [Zg9 p2]
    simp only [ob_,Int.toNat_natCast]
    have hn:=yw (Hl v i) ⟨2,n,Vector.replicate 32 0⟩ (show v.Events.length ≤ 1000 by omega)
    unfold Hl at hn
    rw [hn]
    rfl
theorem Ac (v : GVault) (hb : Wt.ln v) (n : Int) : Ut v n = some (Ah v n):=by
 unfold Ut Ah
 rw [Ao v hb,ob_]
 cases hv : Z0 v with
 | false=>rfl
 | true =>
  obtain ⟨h1,h2,h3,h4,h5,h6⟩:=XG hv
  simp only [Bool.not_true,Bool.false_eq_true,if_false,if_true]
  rw [BU v n (by omega),ob_]
  by_cases hp : Yr v n < 0
  ·simp only [if_pos hp,hp,decide_true,if_true]; rfl
  ·simp only [if_neg hp,hp,decide_false,Bool.false_eq_true,if_false,yz]
   obtain ⟨i,p1,p2,p3,p4⟩:=KX hp
   cases (v.Events.length == 60) with
   | true=>rfl
   | false =>
    simp only [Bool.false_eq_true,if_false]
    have hnn : Wo ((i : Int) + 1 - i) = some ():=by unfold Wo; rw [if_pos (by omega)]
    rw [AD v (J5 hv),ob_,p1,Y4 (by omega),hnn,ob_,Zik (by omega),Zhr p2]
    have hl1 : (v.Records.take i).length ≤ 1000:=by simp; omega
    have hl2 : (v.Records.drop (i + 1)).length ≤ 1000:=by simp; omega
    simp only [ob_]
    rw [YH (by simp; omega),ob_,YH (by simp; omega)]
    simp only [ob_,Int.toNat_natCast,List.nil_append]
    have hn:=Bk (Hl v i) 2 n (Vector.replicate 32 0) (show v.Events.length ≤ 1000 by omega)
    unfold Hl at hn
    rw [hn]
    rfl
def hv (c : UInt8) : Option UInt8:=if 48 ≤ c.toNat ∧ c.toNat ≤ 57 then some (c - 48) else if 97 ≤ c.toNat ∧ c.toNat ≤ 102 then some (c - 97 + 10) else none
def byN (n : Int) (s : Dig × Bool) (e : GEvent) : Dig × Bool:=if e.Number = n then (if e.Kind = 1 ∨ (e.Kind = 4 ∧ s.2 = true) then (e.Tag,true) else if e.Kind = 2 then (s.1,false) else s) else s
def Ja (m : List (Int × Dig)) (e : GEvent) : List (Int × Dig):=if e.Kind = 1 ∨ (e.Kind = 4 ∧ (XJ m e.Number).isSome = true) then QG m e.Number e.Tag else if e.Kind = 2 then Jz m e.Number else m
def byC (l : List GEvent) (n : Int) : Dig × Bool:=l.foldl (byN n) (Vector.replicate 32 0,false)
def Vw (l : List GEvent) : List (Int × Dig):=l.foldl Ja []
theorem Zcp (l : List GEvent) (h : l.length < 9223372036854775807) : Tv l = some (Vw l):=by
 unfold Tv
 have:=QB (f:=U4 l) l (λb i=>(b,i)) Ja [] (t:=Vw l) h (λi hi=>by
  have hlt : ((i : Int) < (l.length : Int)):=by omega
  have hx : idx l ((i : Nat) : Int) = some l[i]:=by rw [YF,ge_ hi]
  generalize (l.take i).foldl Ja [] = m
  unfold U4 Ja
  simp only [hlt,decide_true,if_true,hx,ob_]
  by_cases h2 : l[i].Kind = 1
  ·simp [h2]
  ·by_cases h4 : l[i].Kind = 4
   ·cases hm : (XJ m l[i].Number).isSome <;> simp [h4,hm]
   ·by_cases h3 : l[i].Kind = 2 <;> simp [h2,h3,h4]) (by
  unfold U4 Vw
  simp)
 rw [this]; rfl
theorem JY (k k' : Int) (x : Dig) : ∀ m : List (Int × Dig),XJ (QG m k x) k' = if k = k' then some x else XJ m k'
 | []=>by by_cases h : k = k' <;> simp [QG,XJ,h]
 | p :: m=>by
  by_cases h : p.1 = k
  ·by_cases h2 : k = k'
   ·simp [QG,XJ,h,h2]
   ·have : ¬ p.1 = k':=λe=>h2 (h.symm.trans e)
    simp [QG,XJ,h,h2]
  ·have ih:=JY k k' x m
   by_cases h2 : p.1 = k'
   ·have h3 : ¬ k = k':=λe=>h (h2.trans e.symm)
    rw [QG,if_neg h,XJ,if_pos h2,if_neg h3,XJ,if_pos h2]
   ·simp only [QG,XJ,h,h2,if_false,ih]
theorem Ai (k : Int) : ∀ m : List (Int × Dig),(XJ m k).isSome = true ↔ k ∈ m.map (·.1)
 | []=>by simp [XJ]
 | p :: m=>by
  by_cases h : p.1 = k
  ·simp [XJ,h]
  ·have : ¬ k = p.1:=λe=>h e.symm
   simp only [XJ,h,if_false,Ai k m,List.map_cons,List.mem_cons,this,false_or]
theorem zp (k k' : Int) : ∀ m : List (Int × Dig),(m.map (·.1)).Nodup → XJ (Jz m k) k' = if k = k' then none else XJ m k'
 | [],_=>by simp [Jz,XJ]
 | p :: m,hn=>by
  obtain ⟨n1,n2⟩:=List.nodup_cons.1 hn
  by_cases h : p.1 = k
  ·by_cases h2 : k = k'
   ·have : XJ m k' = none:=by
     have h3 : ¬ (XJ m k').isSome = true:=λq=>n1 (by show p.1 ∈ _; rw [h,h2]; exact (Ai k' m).1 q)
     simpa using h3
    simp [Jz,h,h2,this]
   ·have : ¬ p.1 = k':=λe=>h2 (h.symm.trans e)
    simp [Jz,XJ,h,h2]
  ·have ih:=zp k k' m n2
   by_cases h2 : p.1 = k'
   ·have h3 : ¬ k = k':=λe=>h (h2.trans e.symm)
    rw [Jz,if_neg h,XJ,if_pos h2,if_neg h3,XJ,if_pos h2]
   ·simp only [Jz,XJ,h,h2,if_false,ih]
theorem AA (k : Int) (x : Dig) : ∀ m : List (Int × Dig),(QG m k x).map (·.1) = if k ∈ m.map (·.1) then m.map (·.1) else m.map (·.1) ++ [k]
 | []=>by simp [QG]
 | p :: m=>by
  by_cases h : p.1 = k
  ·simp [QG,h]
  ·have h' : ¬ k = p.1:=λe=>h e.symm
   simp only [QG,h,if_false,List.map_cons,AA k x m,List.mem_cons,h',false_or]
   split <;> simp
theorem A4 (k : Int) : ∀ m : List (Int × Dig),((Jz m k).map (·.1)).Sublist (m.map (·.1))
 | []=>by simp [Jz]
 | p :: m=>by
  by_cases h : p.1 = k
  ·simp [Jz,h]
  ·simp only [Jz,h,if_false,List.map_cons]
   exact (A4 k m).cons_cons _
theorem Zbl {m : List (Int × Dig)} (h : (m.map (·.1)).Nodup) (e : GEvent) : ((Ja m e).map (·.1)).Nodup:=by
 unfold Ja
 split
 ·rw [AA]
  split
  ·exact h
  rename_i hk
  exact List.nodup_append.2 ⟨h,by simp,λa ha b hb=>by simp at hb; subst hb; exact λe=>hk (e ▸ ha)⟩
 split
 ·exact h.sublist (A4 _ _)
 exact h
theorem Zfd (m : List (Int × Dig)) (e : GEvent) : (Ja m e).length ≤ m.length + 1:=by
 have h1 : ∀ k x,(QG m k x).length ≤ m.length + 1:=λk x=>by
  have:=congrArg List.length (AA k x m)
  rw [List.length_map] at this
  rw [this]; split <;> simp
 have h2 : ∀ k,(Jz m k).length ≤ m.length:=λk=>by
  have:=(A4 k m).length_le
  simpa using this
 unfold Ja
 split
 ·exact h1 _ _
 split
 ·exact Nat.le_succ_of_le (h2 _)
 omega
theorem Zhw (l : List GEvent) : (Vw l).length ≤ l.length:=by
 unfold Vw
 suffices H : ∀ (l : List GEvent) (m : List (Int × Dig)),(l.foldl Ja m).length ≤ m.length + l.length by simpa using H l []
 intro l
 induction l with
 | nil=>intro m; simp
 | cons e l ih =>
  intro m
  have:=ih (Ja m e)
  have h2:=Zfd m e
  simp only [List.foldl_cons,List.length_cons]; omega
theorem Ze1 (l : List GEvent) : ∀ n ∈ (Vw l).map (·.1),∃ e ∈ l,e.Number = n:=by
 unfold Vw
 suffices H : ∀ (l : List GEvent) (m : List (Int × Dig)),∀ n ∈ (l.foldl Ja m).map (·.1),n ∈ m.map (·.1) ∨ ∃ e ∈ l,e.Number = n by
  intro n hn
  rcases H l [] n hn with h | h
  ·simp at h
  ·exact h
 intro l
 induction l with
 | nil=>intro m n hn; exact .inl hn
 | cons e l ih =>
  intro m n hn
  rcases ih (Ja m e) n hn with h | ⟨x,hx,h⟩
  ·unfold Ja at h
   split at h
   ·rw [AA] at h
    split at h
    ·exact .inl h
    ·rcases List.mem_append.1 h with h | h
     ·exact .inl h
     ·simp at h; exact .inr ⟨e,by simp,h.symm⟩
   ·split at h
    ·exact .inl ((A4 _ _).subset h)
    ·exact .inl h
  ·exact .inr ⟨x,by simp [hx],h⟩
theorem Zdf (l : List GEvent) (n : Int) : (byC l n).2 = (XJ (Vw l) n).isSome ∧ ((byC l n).2 = true → XJ (Vw l) n = some (byC l n).1):=by
 unfold byC Vw
 suffices H : ∀ (l : List GEvent) (s : Dig × Bool) (m : List (Int × Dig)),(m.map (·.1)).Nodup → (s.2 = (XJ m n).isSome ∧ (s.2 = true → XJ m n = some s.1)) →
   ((l.foldl (byN n) s).2 = (XJ (l.foldl Ja m) n).isSome ∧ ((l.foldl (byN n) s).2 = true → XJ (l.foldl Ja m) n = some (l.foldl (byN n) s).1)) from H l _ _ (by simp) ⟨rfl,λh=>by cases h⟩
 intro l
 induction l with
 | nil=>intro s m _ h; exact h
 | cons e l ih =>
  intro s m hm h
  refine ih _ _ (Zbl hm e) ?_
  unfold byN Ja
  by_cases h1 : e.Number = n
  ·rw [if_pos h1,h1,← h.1]
   by_cases h2 : e.Kind = 1 ∨ (e.Kind = 4 ∧ s.2 = true)
   ·rw [if_pos h2,if_pos h2,JY]; simp
   ·rw [if_neg h2,if_neg h2]
    by_cases h3 : e.Kind = 2
    ·rw [if_pos h3,if_pos h3,zp _ _ _ hm]; simp
    ·rw [if_neg h3,if_neg h3]; exact h
  ·rw [if_neg h1]
   split
   ·rw [JY,if_neg h1]; exact h
   ·split
    ·rw [zp _ _ _ hm,if_neg h1]; exact h
    ·exact h
def BE (n : Int) : List Int → List Int
 | []=>[n]
 | x :: r=>if x < n then x :: BE n r else if x = n then x :: r else n :: x :: r
theorem jH (n k : Int) : ∀ l : List Int,k ∈ BE n l ↔ k = n ∨ k ∈ l
 | []=>by simp [BE]
 | x :: r=>by
  unfold BE
  split
  ·simp only [List.mem_cons,jH n k r]; exact ⟨λh=>by rcases h with h | h | h <;> simp [h],λh=>by rcases h with h | h | h <;> simp [h]⟩
  ·split
   ·rename_i h; subst h; simp
   ·simp
theorem Zdj {n : Int} : ∀ {l : List Int},l.Pairwise (· < ·) → (BE n l).Pairwise (· < ·)
 | [],_=>by simp [BE]
 | x :: r,h=>by
  obtain ⟨h1,h2⟩:=List.pairwise_cons.1 h
  unfold BE
  split
  ·rename_i hx
   refine List.pairwise_cons.2 ⟨λk hk=>?_,Zdj h2⟩
   rcases (jH n k r).1 hk with rfl | hk
   ·exact hx
   ·exact h1 k hk
  ·split
   ·exact h
   ·rename_i hx hn
    refine List.pairwise_cons.2 ⟨λk hk=>?_,h⟩
    rcases List.mem_cons.1 hk with rfl | hk
    ·omega
    ·have:=h1 k hk; omega
theorem Zax (n : Int) : ∀ l : List Int,(BE n l).length ≤ l.length + 1
 | []=>by simp [BE]
 | x :: r=>by
  unfold BE
  have:=Zax n r
  split
  ·simp only [List.length_cons]; omega
  ·split <;> simp
def Ar (v : GVault) : List Int:=v.Events.foldl (λl e=>BE e.Number l) (v.Records.map (·.Number))
theorem jp (l : List Int) (hs : l.Pairwise (· ≤ ·)) : ∀ m,m ≤ l.length → (Lib.compactUpTo l.toArray m).Pairwise (· < ·) ∧ ∀ x,x ∈ Lib.compactUpTo l.toArray m ↔ ∃ j,j < m ∧ l[j]? = some x
 | 0,_=>⟨by simp [Lib.compactUpTo],λx=>by simp [Lib.compactUpTo]⟩
 | m + 1,hm=>by
  obtain ⟨h1,h2⟩:=jp l hs m (by omega)
  have hml : m < l.length:=by omega
  have hg : l.toArray[m]! = l[m]:=by simp [getElem!_pos,hml]
  have hle : ∀ i j (hi : i < l.length) (hj : j < l.length),i < j → l[i] ≤ l[j]:=λi j hi hj hij=>List.pairwise_iff_getElem.1 hs i j hi hj hij
  have e : Lib.compactUpTo l.toArray (m + 1) = Lib.compactUpTo l.toArray m ++ (if Lib.keeps l.toArray m then [l[m]] else []):=by
   unfold Lib.compactUpTo
   rw [List.range_succ,List.filter_append,List.map_append]
   congr 1
   by_cases hk : Lib.keeps l.toArray m = true
   ·simp [hk,hml]
   ·simp [hk]
  rw [e]
  by_cases hk : Lib.keeps l.toArray m = true
  ·rw [if_pos hk]
   refine ⟨List.pairwise_append.2 ⟨h1,by simp,λa ha b hb=>?_⟩,λx=>?_⟩
   ·simp at hb; subst hb
    obtain ⟨j,hj,hx⟩:=(h2 a).1 ha
    obtain ⟨hjl,rfl⟩:=List.getElem?_eq_some_iff.1 hx
    unfold Lib.keeps at hk
    simp only [decide_eq_true_eq] at hk
    rcases hk with h0 | hk
    ·omega
    ·have hg1 : l.toArray[m - 1]! = l[m - 1]:=by
      have : m - 1 < l.length:=by omega
      simp [getElem!_pos,this]
     rw [hg,hg1] at hk
     have a1:=hle (m - 1) m (by omega) hml (by omega)
     have a2 : l[j] ≤ l[m - 1]:=by
      rcases Nat.lt_or_ge j (m - 1) with h | h
      ·exact hle j (m - 1) hjl (by omega) h
      ·have : j = m - 1:=by omega
       subst this; exact Int.le_refl _
     omega
   ·rw [List.mem_append,h2]
    constructor
    ·rintro (⟨j,hj,hx⟩ | hx)
     ·exact ⟨j,by omega,hx⟩
     ·simp at hx; exact ⟨m,by omega,by rw [ge_ hml,hx]⟩
    ·rintro ⟨j,hj,hx⟩
     rcases Nat.lt_or_ge j m with h | h
     ·exact .inl ⟨j,h,hx⟩
     ·have : j = m:=by omega
      subst this
      rw [ge_ hml] at hx
      exact .inr (by simpa using (Option.some.inj hx).symm)
  ·rw [if_neg hk,List.append_nil]
   refine ⟨h1,λx=>?_⟩
   rw [h2]
   constructor
   ·rintro ⟨j,hj,hx⟩; exact ⟨j,by omega,hx⟩
   ·rintro ⟨j,hj,hx⟩
    rcases Nat.lt_or_ge j m with h | h
    ·exact ⟨j,h,hx⟩
    ·have : j = m:=by omega
     subst this
     unfold Lib.keeps at hk
     simp only [decide_eq_true_eq,not_or,Classical.not_not] at hk
     have hg1 : l.toArray[j - 1]! = l[j - 1]:=by
      have : j - 1 < l.length:=by omega
      simp [getElem!_pos,this]
     rw [hg,hg1] at hk
     refine ⟨j - 1,by omega,?_⟩
     rw [ge_ hml] at hx
     rw [ge_ (by omega),← hk.2,← hx]
theorem kl (l : List Int) (hs : l.Pairwise (· ≤ ·)) : (Lib.compact l).Pairwise (· < ·) ∧ ∀ x,x ∈ Lib.compact l ↔ x ∈ l:=by
 obtain ⟨h1,h2⟩:=jp l hs l.length (Nat.le_refl _)
 refine ⟨h1,λx=>(h2 x).trans ?_⟩
 rw [List.mem_iff_getElem?]
 constructor
 ·rintro ⟨j,_,h⟩; exact ⟨j,h⟩
 rintro ⟨j,h⟩; exact ⟨j,(List.getElem?_eq_some_iff.1 h).1,h⟩
theorem Zay (l : List Int) : (Vx l).Pairwise (· ≤ ·) ∧ ∀ x,x ∈ Vx l ↔ x ∈ l:=by
 have t : ∀ a b c : Int,decide (a ≤ b) = true → decide (b ≤ c) = true → decide (a ≤ c) = true:=λa b c h1 h2=>by simp at *; omega
 have tot : ∀ a b : Int,(decide (a ≤ b) || decide (b ≤ a)) = true:=λa b=>by simp; omega
 have s1:=List.pairwise_mergeSort t tot l
 exact ⟨s1.imp λh=>by simpa using h,λx=>(List.mergeSort_perm l _).mem_iff⟩
theorem Zgi {l m : List Int} (h1 : l.Pairwise (· < ·)) (h2 : m.Pairwise (· < ·)) (h : ∀ x,x ∈ l ↔ x ∈ m) : l = m:=by
 have n1 : l.Nodup:=h1.imp λh=>Int.ne_of_lt h
 have n2 : m.Nodup:=h2.imp λh=>Int.ne_of_lt h
 exact ((List.perm_ext_iff_of_nodup n1 n2).2 h).eq_of_pairwise (λa b _ _ h3 h4=>by omega) h1 h2
theorem yx {v : GVault} (h : Z0 v = true) : (v.Records.map (·.Number)).Pairwise (· < ·):=by
 unfold Z0 at h
 simp only [Bool.and_eq_true,Bool.not_eq_true',List.any_eq_false,List.mem_range'_1] at h
 have hb:=h.1.2
 have step : ∀ i (h1 : i + 1 < v.Records.length),v.Records[i].Number < v.Records[i + 1].Number:=λi h1=>by
  have:=hb (i + 1) (by omega)
  unfold HL at this
  rw [ge_ h1] at this
  simp only [Bool.or_eq_true,decide_eq_true_eq,not_or] at this
  have h2:=this.1.1
  simp only [QP,ge_ (show i < v.Records.length by omega),Option.map_some,Option.getD_some] at h2
  omega
 have all : ∀ j i (hj : j < v.Records.length) (hi : i < v.Records.length),i < j → v.Records[i].Number < v.Records[j].Number:=by
  intro j
  induction j with
  | zero=>intro i _ _ h; omega
  | succ j ih =>
   intro i hj hi hij
   have h1:=step j hj
   rcases Nat.lt_or_ge i j with h2 | h2
   ·have:=ih i (by omega) hi h2; omega
   ·have : i = j:=by omega
    subst this; exact h1
 rw [List.pairwise_iff_getElem]
 intro i j hi hj hij
 rw [List.length_map] at hi hj
 rw [List.getElem_map,List.getElem_map]
 exact all j i hj hi hij
theorem Zcj {v : GVault} (h : Z0 v = true) : (Ar v).Pairwise (· < ·) ∧ ∀ x,x ∈ Ar v ↔ x ∈ v.Records.map (·.Number) ∨ ∃ e ∈ v.Events,e.Number = x:=by
 unfold Ar
 suffices H : ∀ (l : List GEvent) (a : List Int),a.Pairwise (· < ·) → (l.foldl (λl e=>BE e.Number l) a).Pairwise (· < ·) ∧ ∀ x,x ∈ l.foldl (λl e=>BE e.Number l) a ↔ x ∈ a ∨ ∃ e ∈ l,e.Number = x from H _ _ (yx h)
 intro l
 induction l with
 | nil=>intro a ha; exact ⟨ha,λx=>by simp⟩
 | cons e l ih =>
  intro a ha
  obtain ⟨h1,h2⟩:=ih (BE e.Number a) (Zdj ha)
  refine ⟨h1,λx=>(h2 x).trans ?_⟩
  rw [jH]
  constructor
  ·rintro ((rfl | hx) | ⟨q,hq,hx⟩)
   ·exact .inr ⟨e,by simp,rfl⟩
   ·exact .inl hx
   ·exact .inr ⟨q,by simp [hq],hx⟩
  ·rintro (hx | ⟨q,hq,hx⟩)
   ·exact .inl (.inr hx)
   ·rcases List.mem_cons.1 hq with rfl | hq
    ·exact .inl (.inl hx.symm)
    ·exact .inr ⟨q,hq,hx⟩
theorem Zgm {v : GVault} (hr : v.Records.length ≤ 12) (he : v.Events.length ≤ 60) : (Ar v).length ≤ 72:=by
 unfold Ar
 have H : ∀ (l : List GEvent) (a : List Int),(l.foldl (λl e=>BE e.Number l) a).length ≤ a.length + l.length:=by
  intro l
  induction l with
  | nil=>intro a; simp
  | cons e l ih =>
   intro a
   have h1:=ih (BE e.Number a)
   have h2:=Zax e.Number a
   simp only [List.foldl_cons,List.length_cons]; omega
 have:=H v.Events (v.Records.map (·.Number))
 rw [List.length_map] at this; omega
def K8 (l : List GRecord) : List (Int × Dig):=l.foldl (λm r=>QG m r.Number r.Tag) []
theorem jh (n : Int) : ∀ (l : List GRecord) (m : List (Int × Dig)),(∀ r ∈ l,r.Number ≠ n) → XJ (l.foldl (λm r=>QG m r.Number r.Tag) m) n = XJ m n
 | [],_,_=>rfl
 | r :: l,m,h=>by
  rw [List.foldl_cons,jh n l _ (λq hq=>h q (by simp [hq])),JY,if_neg (h r (by simp))]
theorem qX : ∀ (l : List GRecord) (m : List (Int × Dig)) (r : GRecord),(l.map (·.Number)).Nodup → r ∈ l → XJ (l.foldl (λm r=>QG m r.Number r.Tag) m) r.Number = some r.Tag
 | q :: l,m,r,hn,hr=>by
  obtain ⟨n1,n2⟩:=List.nodup_cons.1 hn
  rw [List.foldl_cons]
  rcases List.mem_cons.1 hr with rfl | hr
  ·rw [jh _ l _ (λx hx e=>n1 (List.mem_map.2 ⟨x,hx,e⟩)),JY,if_pos rfl]
  ·exact qX l _ r n2 hr
def H6 (v : GVault) (n : Int) : Bool:=((byC v.Events n).2 != decide (Yr v n ≥ 0)) || ((byC v.Events n).2 && !decide ((YZ v n).Tag = (byC v.Events n).1))
def A8 (told held : List (Int × Dig)) (n : Int) : Bool:=!(XJ told n).isSome || (!(XJ held n).isSome || !decide ((XJ told n).getD (Vector.replicate 32 0) = (XJ held n).getD (Vector.replicate 32 0)))
theorem Zcr {v : GVault} (h : Z0 v = true) (n : Int) : (XJ (K8 v.Records) n).isSome = decide (Yr v n ≥ 0) ∧ (Yr v n ≥ 0 → XJ (K8 v.Records) n = some (YZ v n).Tag):=by
 have hnd : (v.Records.map (·.Number)).Nodup:=(yx h).imp λh=>Int.ne_of_lt h
 by_cases hp : Yr v n < 0
 ·have hno : ∀ r ∈ v.Records,r.Number ≠ n:=by
   intro r hr he
   unfold Yr at hp
   cases hf : v.Records.findIdx? (λr=>r.Number == n) with
   | none =>
    have:=List.findIdx?_eq_none_iff.1 hf r hr
    simp [he] at this
   | some i=>rw [hf] at hp; simp at hp; omega
  have e : XJ (K8 v.Records) n = none:=by unfold K8; rw [jh n _ _ hno]; rfl
  have hp' : ¬ Yr v n ≥ 0:=by omega
  exact ⟨by rw [e]; simp [hp'],λq=>absurd q hp'⟩
 obtain ⟨i,e1,hi,e2⟩:=J3 hp
 have h1:=(Bw hp).2
 have h2 : (YZ v n).Number = n:=by
  unfold YZ
  rw [e1,Int.toNat_natCast,List.getD_eq_getElem?_getD,ge_ hi]; exact e2
 have h3:=qX v.Records [] (YZ v n) hnd h1
 rw [h2] at h3
 have hp' : Yr v n ≥ 0:=by omega
 have h4 : XJ (K8 v.Records) n = some (YZ v n).Tag:=h3
 exact ⟨by rw [h4]; simp [hp'],λ_=>h4⟩
theorem yP {v : GVault} (h : Z0 v = true) (n : Int) (hn : n ∈ v.Records.map (·.Number) ∨ n ∈ (Vw v.Events).map (·.1)) : A8 (Vw v.Events) (K8 v.Records) n = H6 v n:=by
 obtain ⟨a1,a2⟩:=Zdf v.Events n
 obtain ⟨b1,b2⟩:=Zcr h n
 unfold A8 H6
 rw [← a1,b1]
 cases hb : (byC v.Events n).2 with
 | false =>
  cases hk : decide (Yr v n ≥ 0) with
  | true=>rfl
  | false =>
   exfalso
   rcases hn with hn | hn
   ·obtain ⟨r,hr,rfl⟩:=List.mem_map.1 hn
    have hnd : (v.Records.map (·.Number)).Nodup:=(yx h).imp λh=>Int.ne_of_lt h
    have:=qX v.Records [] r hnd hr
    rw [show XJ (K8 v.Records) r.Number = some r.Tag from this,hk] at b1
    cases b1
   ·have:=(Ai n _).2 hn
    rw [← a1,hb] at this
    cases this
 | true =>
  cases hk : decide (Yr v n ≥ 0) with
  | false=>rfl
  | true =>
   rw [a2 hb,b2 (by simpa using hk)]
   simp only [Option.getD_some,Bool.not_true,Bool.false_or,bne_self_eq_false,Bool.true_and]
   congr 1
   rw [decide_eq_decide]
   exact ⟨λh=>h.symm,λh=>h.symm⟩
theorem Zb5 {v : GVault} (h : Z0 v = true) : (Ar v).filter (H6 v) = (Lib.compact (Vx (v.Records.map (·.Number) ++ (Vw v.Events).map (·.1)))).filter (A8 (Vw v.Events) (K8 v.Records)):=by
 obtain ⟨n1,n2⟩:=Zcj h
 obtain ⟨s1,s2⟩:=Zay (v.Records.map (·.Number) ++ (Vw v.Events).map (·.1))
 obtain ⟨c1,c2⟩:=kl _ s1
 have hm : ∀ x,x ∈ Lib.compact (Vx (v.Records.map (·.Number) ++ (Vw v.Events).map (·.1))) ↔ x ∈ v.Records.map (·.Number) ∨ x ∈ (Vw v.Events).map (·.1):=λx=>by
  rw [c2,s2,List.mem_append]
 refine Zgi (n1.sublist List.filter_sublist) (c1.sublist List.filter_sublist) λx=>?_
 rw [List.mem_filter,List.mem_filter,n2,hm]
 constructor
 ·rintro ⟨hx,hf⟩
  have hx' : x ∈ v.Records.map (·.Number) ∨ x ∈ (Vw v.Events).map (·.1):=by
   rcases hx with hx | _
   ·exact .inl hx
   ·obtain ⟨a1,_⟩:=Zdf v.Events x
    unfold H6 at hf
    cases hb : (byC v.Events x).2 with
    | true=>exact .inr ((Ai x _).1 (by rw [← a1,hb]))
    | false =>
     rw [hb] at hf
     have hp : Yr v x ≥ 0:=by simpa using hf
     have hp' : ¬ Yr v x < 0:=by omega
     obtain ⟨i,_,hi,e2⟩:=J3 hp'
     exact .inl (List.mem_map.2 ⟨_,List.getElem_mem hi,e2⟩)
  exact ⟨hx',by rw [yP h x hx']; exact hf⟩
 rintro ⟨hx,hf⟩
 refine ⟨?_,by rw [← yP h x hx]; exact hf⟩
 rcases hx with hx | hx
 ·exact .inl hx
 exact .inr (Ze1 _ x hx)
def qj (k : Int) (p : Int → Bool) (l : List Int) : List (List Int):=(l.filter p).map λn=>[k,n]
theorem Zem (k : Int) (p : Int → Bool) (l : List Int) (acc : List (List Int)) : l.foldl (λa n=>if p n then a ++ [[k,n]] else a) acc = acc ++ qj k p l:=by
 induction l generalizing acc with
 | nil=>simp [qj]
 | cons n l ih =>
  rw [List.foldl_cons,ih]
  unfold qj
  by_cases h : p n = true
  ·simp [h]
  ·simp [h]
theorem Zhh (k : Int) (p : Int → Bool) (l : List Int) : (qj k p l).length ≤ l.length:=by
 unfold qj; rw [List.length_map]; exact List.length_filter_le _ _
def AH (v : GVault) : List (List Int):=(v.Records.filter λr=>!decide (Xo v r = r.Tag)).map λr=>[3,r.Number]
theorem Zc7 (v : GVault) (l : List GRecord) (acc : List (List Int)) : l.foldl (λa r=>if !decide (Xo v r = r.Tag) then a ++ [[3,r.Number]] else a) acc = acc ++ (l.filter λr=>!decide (Xo v r = r.Tag)).map λr=>[3,r.Number]:=by
 induction l generalizing acc with
 | nil=>simp
 | cons r l ih =>
  rw [List.foldl_cons,ih]
  by_cases h : Xo v r = r.Tag
  ·simp [h]
  ·simp [h]
def BO (v : GVault) : List (List Int):=if J4 (YK 4) v.Events = v.Head then [] else [[1]]
def yI (v : GVault) : List (List Int) × Int:=if Z0 v then ((BO v ++ qj 2 (H6 v) (Ar v)) ++ AH v,0) else ([],1)
theorem Zgp (v : GVault) : (((some (J4 (YK 4) v.Events)).bind λ(r18 : V32)=>some (!decide (r18 = v.Head)) : Option Bool).bind λ(j14 : Bool)=>if j14 = true then ((app 24 ([] : List (List Int)) ([([1] : List Int)] : List (List Int))).bind λ(_ : List (List Int))=>some (([] : List (List Int)) ++ ([([1] : List Int)] : List (List Int)))) else (some ([] : List (List Int))) : Option (List (List Int))) = some (BO v):=by
 unfold BO
 by_cases h : J4 (YK 4) v.Events = v.Head
 ·simp [h]
 simp only [ob_,h,decide_false,Bool.not_false,if_true,if_false]
 rw [YH (by simp)]; rfl
theorem Zba {α : Type} (p : α → Bool) (g : α → List Int) (l : List α) (acc : List (List Int)) : (l.foldl (λa x=>if p x then a ++ [g x] else a) acc).length ≤ acc.length + l.length:=by
 induction l generalizing acc with
 | nil=>simp
 | cons x l ih =>
  rw [List.foldl_cons]
  have h1 : (if p x then acc ++ [g x] else acc).length ≤ acc.length + 1:=by split <;> simp
  have h2:=ih (if p x then acc ++ [g x] else acc)
  rw [List.length_cons]; omega
theorem Zcq (v : GVault) (hv : Z0 v = true) (acc : List (List Int)) (ha : acc.length ≤ 1000) : ZQ (VH v ⟨YM (YK 4)⟩) (0,acc) = some (acc ++ AH v):=by
 have hs:=XG hv
 have:=QB (f:=VH v ⟨YM (YK 4)⟩) v.Records (λb i=>(i,b)) (λa r=>if !decide (Xo v r = r.Tag) then a ++ [[3,r.Number]] else a) acc (t:=acc ++ AH v) (by omega) (λi hi=>by
  have hlt : ((i : Int) < (v.Records.length : Int)):=by omega
  have hx : idx v.Records ((i : Nat) : Int) = some v.Records[i]:=by rw [YF,ge_ hi]
  have hl:=Zba (λr : GRecord=>!decide (Xo v r = r.Tag)) (λr=>[3,r.Number]) (v.Records.take i) acc
  rw [List.length_take] at hl
  generalize (v.Records.take i).foldl _ acc = s at hl
  obtain ⟨a1,a2,a3,a4⟩:=TN hv (List.getElem_mem hi)
  unfold VH
  simp only [hlt,decide_true,if_true,hx,ob_,Av v _ ⟨a1,a2⟩ (by omega) (by omega)]
  by_cases h : Xo v v.Records[i] = v.Records[i].Tag
  ·simp [h]
  ·simp only [h,decide_false,Bool.not_false,if_true]
   rw [YH (by simp only [List.length_cons,List.length_nil]; omega)]; rfl) (by
  rw [Zc7]
  unfold VH AH
  simp)
 exact this
theorem Ze0 (v : GVault) : (BO v).length ≤ 1:=by unfold BO; split <;> simp
theorem Hu (v : GVault) (hb : Wt.ln v) : Vg v = some (yI v):=by
 unfold Vg yI
 rw [UP v hb,ob_]
 cases hv : Z0 v with
 | false=>rfl
 | true =>
  have hs:=XG hv
  have hh:=Ze0 v
  have ht:=Zhw v.Events
  simp only [Bool.not_true,Bool.false_eq_true,if_false,if_true]
  rw [Vz,ob_,JQ (YK 4) Hm v.Events (by omega),Zgp,ob_,Zcp v.Events (by omega),ob_]
  have h0:=QB (f:=VG v) v.Records (λb i=>(b.1,i,b.2)) (λs r=>(QG s.1 r.Number r.Tag,s.2 ++ [r.Number])) (([],[]) : List (Int × Dig) × List Int) (t:=(K8 v.Records,v.Records.map (·.Number))) (by omega) (λi hi=>by
   have hlt : ((i : Int) < (v.Records.length : Int)):=by omega
   have hx : idx v.Records ((i : Nat) : Int) = some v.Records[i]:=by rw [YF,ge_ hi]
   have hl : ((v.Records.take i).foldl (λs r=>(QG s.1 r.Number r.Tag,s.2 ++ [r.Number])) (([],[]) : List (Int × Dig) × List Int)).2.length ≤ 12:=by
    have H : ∀ (l : List GRecord) (s : List (Int × Dig) × List Int),(l.foldl (λs r=>(QG s.1 r.Number r.Tag,s.2 ++ [r.Number])) s).2.length = s.2.length + l.length:=by
     intro l
     induction l with
     | nil=>intro s; simp
     | cons r l ih=>intro s; rw [List.foldl_cons,ih]; simp; omega
    rw [H,List.length_take]; simp; omega
   generalize (v.Records.take i).foldl _ (([],[]) : List (Int × Dig) × List Int) = s at hl
   unfold VG
   simp only [hlt,decide_true,if_true,hx,ob_]
   rw [YH (by simp only [List.length_cons,List.length_nil]; omega)]; rfl) (by
   have H : ∀ (l : List GRecord) (s : List (Int × Dig) × List Int),l.foldl (λs r=>(QG s.1 r.Number r.Tag,s.2 ++ [r.Number])) s = (l.foldl (λm r=>QG m r.Number r.Tag) s.1,s.2 ++ l.map (·.Number)):=by
    intro l
    induction l with
    | nil=>intro s; simp
    | cons r l ih=>intro s; rw [List.foldl_cons,ih]; simp
   rw [H]
   unfold VG K8
   simp)
  have h0' : ZQ (VG v) (([] : List (Int × Dig)),0,([] : List Int)) = some (K8 v.Records,v.Records.map (·.Number)):=h0
  rw [h0',ob_]
  simp only
  rw [YH (by simp; omega),ob_]
  have hcl : (Lib.compact (Vx (v.Records.map (·.Number) ++ (Vw v.Events).map (·.1)))).length ≤ 72:=by
   have h1:=yS (Vx (v.Records.map (·.Number) ++ (Vw v.Events).map (·.1)))
   rw [Bz,List.length_append,List.length_map,List.length_map] at h1; omega
  have h2:=QB (f:=UW (Vw v.Events) (K8 v.Records,v.Records.map (·.Number))) (Lib.compact (Vx (v.Records.map (·.Number) ++ (Vw v.Events).map (·.1)))) (λb i=>(b,i)) (λa n=>if A8 (Vw v.Events) (K8 v.Records) n then a ++ [[2,n]] else a) (BO v) (t:=BO v ++ qj 2 (H6 v) (Ar v)) (by omega) (λi hi=>by
   have hlt : ((i : Int) < ((Lib.compact (Vx (v.Records.map (·.Number) ++ (Vw v.Events).map (·.1)))).length : Int)):=by omega
   have hx : idx (Lib.compact (Vx (v.Records.map (·.Number) ++ (Vw v.Events).map (·.1)))) ((i : Nat) : Int) = some (Lib.compact (Vx (v.Records.map (·.Number) ++ (Vw v.Events).map (·.1))))[i]:=by rw [YF,ge_ hi]
   have hl:=Zba (A8 (Vw v.Events) (K8 v.Records)) (λn=>[2,n]) ((Lib.compact (Vx (v.Records.map (·.Number) ++ (Vw v.Events).map (·.1)))).take i) (BO v)
   rw [List.length_take] at hl
   generalize ((Lib.compact (Vx (v.Records.map (·.Number) ++ (Vw v.Events).map (·.1)))).take i).foldl _ (BO v) = s at hl
   unfold UW
   simp only [hlt,decide_true,if_true,hx,ob_]
   generalize (Lib.compact (Vx (v.Records.map (·.Number) ++ (Vw v.Events).map (·.1))))[i] = n
   have hput : ((app 24 s ([([2,n] : List Int)] : List (List Int))).bind λ(_ : List (List Int))=>some (s ++ ([([2,n] : List Int)] : List (List Int)))) = some (s ++ [[2,n]]):=by rw [YH (by simp only [List.length_cons,List.length_nil]; omega)]; rfl
   unfold A8
   cases (XJ (Vw v.Events) n).isSome with
   | false=>simp [hput]
   | true =>
    cases (XJ (K8 v.Records) n).isSome with
    | false=>simp [hput]
    | true =>
     by_cases hq : (XJ (Vw v.Events) n).getD (Vector.replicate 32 0) = (XJ (K8 v.Records) n).getD (Vector.replicate 32 0)
     ·simp [hq]
     ·simp [hq,hput]) (by
   rw [Zem]
   unfold qj
   rw [Zb5 hv]
   unfold UW
   simp)
  rw [h2,ob_,Zcq v hv _ (by
   have:=Zhh 2 (H6 v) (Ar v)
   have hn:=Zgm (v:=v) (by omega) (by omega)
   rw [List.length_append]; omega)]; rfl
structure SV (n : Nat) (v : GVault) : Prop where
 k : v.Keys.length ≤ 9
 r : v.Records.length ≤ 13
 e : v.Events.length ≤ n
 x : ∀ r ∈ v.Records,r.Label.length ≤ 32 ∧ r.Body.length ≤ 200
theorem SV.ln {n : Nat} {v : GVault} (h : SV n v) (hn : n ≤ 100:=by decide) : Wt.ln v:=by
 have h1:=h.k
 have h2:=h.r
 have h3:=h.e
 exact ⟨⟨by omega,λ_ _=>trivial⟩,⟨by omega,λx hx=>by have:=h.x x hx; exact ⟨⟨by omega,λ_ _=>trivial⟩,⟨by omega,λ_ _=>trivial⟩⟩⟩,⟨by omega,λ_ _=>trivial⟩⟩
theorem Zdz {v : GVault} (h : Z0 v = true) : v.Keys.length ≤ 8 ∧ v.Records.length ≤ 12 ∧ v.Events.length ≤ 60 ∧ ∀ r ∈ v.Records,r.Label.length ≤ 32 ∧ r.Body.length ≤ 200:=by
 obtain ⟨_,h2,_,_,h5,h6⟩:=XG h
 exact ⟨h2,h5,h6,λr hr=>(TN h hr).2.2⟩
theorem Tk : SV 61 KT:=⟨by decide,by decide,by decide,λr hr=>by cases hr⟩
theorem AU {v : GVault} (e : GEvent) (h1 : v.Keys.length ≤ 9) (h2 : v.Records.length ≤ 13) (h3 : v.Events.length ≤ 60) (h4 : ∀ r ∈ v.Records,r.Label.length ≤ 32 ∧ r.Body.length ≤ 200) : SV 61 (UQ v e) :=
 ⟨h1,h2,by unfold UQ; simp; omega,h4⟩
theorem Zf0 (key : Blk) : SV 61 (Vc key):=⟨by simp [Vc],by simp [Vc],by simp [Vc],λr hr=>by cases hr⟩
theorem rot_sv (v : GVault) (key : Blk) : SV 61 (zx v key).1:=by
 unfold zx
 split
 ·rename_i hv
  obtain ⟨h1,h2,h3,h4⟩:=Zdz hv
  split
  ·exact Tk
  split
  ·exact Tk
  exact AU _ (by simp; omega) (by show v.Records.length ≤ 13; omega) h3 h4
 exact Tk
theorem Zh7 (v : GVault) (n : Int) : SV 61 (Ah v n).1:=by
 unfold Ah
 split
 ·rename_i hv
  obtain ⟨h1,h2,h3,h4⟩:=Zdz hv
  split
  ·exact Tk
  split
  ·exact Tk
  refine AU _ (show v.Keys.length ≤ 9 by omega) (by unfold Hl; simp; omega) h3 λr hr=>h4 r ?_
  unfold Hl at hr
  rcases List.mem_append.1 hr with h | h
  ·exact List.mem_of_mem_take h
  exact List.mem_of_mem_drop h
 exact Tk
theorem Zi6 (v : GVault) (n : Int) (nonce : Blk) : SV 61 (HE v n nonce).1:=by
 unfold HE
 split
 ·rename_i hv
  obtain ⟨h1,h2,h3,h4⟩:=Zdz hv
  split
  ·exact Tk
  rename_i hp
  split
  ·split
   ·exact Tk
   split
   ·exact Tk
   refine AU _ (show v.Keys.length ≤ 9 by omega) (by unfold K0; simp; omega) h3 λr hr=>?_
   unfold K0 at hr
   rcases List.mem_or_eq_of_mem_set hr with h | rfl
   ·exact h4 r h
   exact zN nonce hv hp
  exact Tk
 exact Tk
theorem Zdp (v : GVault) (label data : List UInt8) (nonce : Blk) : SV 61 (Jc v label data nonce).1:=by
 unfold Jc
 split
 ·rename_i hv
  obtain ⟨h1,h2,h3,h4⟩:=Zdz hv
  cases hlg : Ks label data with
  | true=>exact Tk
  | false =>
   obtain ⟨k1,k2⟩:=Hn hlg
   simp only [Bool.false_eq_true,if_false]
   split
   ·exact Tk
   ·split
    ·exact Tk
    ·refine AU _ (show v.Keys.length ≤ 9 by omega) (by unfold KQ; simp; omega) h3 λr hr=>?_
     unfold KQ at hr
     rcases List.mem_append.1 hr with h | h
     ·exact h4 r h
     ·obtain rfl:=List.mem_singleton.1 h
      exact ⟨k1,by rw [show (Wi v v.Next ((v.Keys.length : Int) - 1) nonce label data).Body = U0 v ((v.Keys.length : Int) - 1) nonce data from rfl,Q3]; exact k2⟩
 exact Tk
section
variable {p : List UInt8} (hp : p.length ≤ 4096) {s : Int × Int} (hs : WD s)
include hp hs
theorem kT : ∃ r,Ud p s = some r ∧ (WD r.1 ∧ r.2.length ≤ 3):=by
 unfold Ud
 refine ZA (XD hp hs (by omega)) λr hr=>Xd (λ_=>⟨_,rfl,hr.1,by simp⟩) λh0=>Xd (λ_=>⟨_,rfl,hr.1,by simp⟩) λh1=>Xd (λ_=>⟨_,rfl,hr.1,by simp⟩) λh2=>Xd (λ_=>⟨_,rfl,hr.1,by simp⟩) λh3=>?_
 exfalso
 have:=hr.2
 simp only [beq_iff_eq] at h0 h1 h2 h3
 omega
theorem Zen : ∃ r,Qo p s = some r ∧ (WD r.1 ∧ SV 61 r.2):=by
 unfold Qo
 refine ZA (Jm hp hs) λr3 q3=>ZA (P:=λv=>SV 61 v) ⟨_,HF r3.2,Zf0 _⟩ λr5 q5=>ZA (XD hp q3 (by omega)) λr12 q12=>ZA (XD hp q12.1 (by omega)) λr14 q14=>ZA (JA hp q14.1 (by simp)) λr18 q18=>?_
 obtain ⟨k,ek,hk⟩ : ∃ k : Nat,r18.2 = k ∧ k ≤ 7:=by
  have h1:=q12.2; have h2:=q14.2
  have h3:=q18.2
  simp only [List.mem_cons,List.not_mem_nil,or_false] at h3
  exact ⟨r18.2.toNat,by rcases h3 with e | e <;> omega,by rcases h3 with e | e <;> omega⟩
 refine ZA (P:=λj=>SV 61 ⟨j.1,j.2.1,j.2.2.1,j.2.2.2.1,j.2.2.2.2.1⟩ ∧ WD (j.2.2.2.2.2.1,j.2.2.2.2.2.2)) (Jj (λi t=>t.2.2.2.2.2.2.2 = ((k - i : Nat) : Int) ∧ SV 61 ⟨t.1,t.2.1,t.2.2.1,t.2.2.2.1,t.2.2.2.2.1⟩ ∧ WD (t.2.2.2.2.2.1,t.2.2.2.2.2.2.1)) k (λi t hi ht=>?_) (λt ht=>?_) k 0 _ (by omega) ⟨ek,q5,q18.1⟩) λj hj=>⟨_,rfl,hj.2,hj.1⟩
 ·obtain ⟨t1,t2,t3⟩:=ht
  unfold QW
  rw [if_pos (qD (by omega))]
  refine ZA (P:=λj=>SV 61 ⟨j.1,j.2.1,j.2.2.1,j.2.2.2.1,j.2.2.2.2.1⟩ ∧ WD (j.2.2.2.2.2.1,j.2.2.2.2.2.2)) ?_ λj hj=>⟨_,rfl,_,rfl,by show wr (t.2.2.2.2.2.2.2 - 1) = _; rw [t1,yJ (by omega) (by omega)]; omega,hj.1,hj.2⟩
  refine ZA (P:=λj=>SV 61 ⟨j.1,j.2.1,j.2.2.1,j.2.2.2.1,j.2.2.2.2.1⟩ ∧ WD (j.2.2.2.2.2.1,j.2.2.2.2.2.2.1)) ?_ λj51 h51=>ZA (P:=λj=>SV 61 ⟨j.1,j.2.1,j.2.2.1,j.2.2.2.1,j.2.2.2.2⟩) (Xd (λ_=>⟨_,rfl,h51.1⟩) (λ_=>⟨_,rfl,t2⟩)) λj h=>⟨_,rfl,h,h51.2⟩
  have hn : ∀ x : Int,1 ≤ (if 1 > x then 1 else x):=λx=>by split <;> omega
  refine ZA (XD hp t3 (by omega)) λr60 q60=>ZA (P:=λj=>SV 61 ⟨j.1,j.2.1,j.2.2.1,j.2.2.2.1,j.2.2.2.2.1⟩ ∧ WD (j.2.2.2.2.2.1,j.2.2.2.2.2.2.1)) ?_ λj h=>⟨_,rfl,h⟩
  refine Xd (λ_=>?_) λ_=>Xd (λ_=>?_) λ_=>Xd (λ_=>?_) λ_=>?_
  ·exact ZA (Jm hp q60.1) λr q=>ZA (P:=λx=>SV 61 x.1) ⟨_,A7 _ t2.ln _,rot_sv _ _⟩ λr' q'=>⟨_,rfl,q',q⟩
  ·exact ZA (XD hp q60.1 (hn _)) λr q=>ZA (P:=λx=>SV 61 x.1) ⟨_,Ac _ t2.ln _,Zh7 _ _⟩ λr' q'=>⟨_,rfl,q',q.1⟩
  ·exact ZA (XD hp q60.1 (hn _)) λr q=>ZA (Jm hp q.1) λr1 q1=>ZA (P:=λx=>SV 61 x.1) ⟨_,z5 _ t2.ln _ _,Zi6 _ _ _⟩ λr' q'=>⟨_,rfl,q',q1⟩
  exact ZA (kT hp q60.1) λr q=>ZA (kH hp q.1 (n:=12) (by omega)) λr0 q0=>ZA (Jm hp q0.1) λr1 q1=>ZA (P:=λx=>SV 61 x.1) ⟨_,HD _ t2.ln _ _ _,Zdp _ _ _ _⟩ λr' q'=>⟨_,rfl,q',q1⟩
 obtain ⟨t1,t2,t3⟩:=ht
 unfold QW
 rw [if_neg (Zaa (by omega))]
 exact ⟨_,rfl,_,rfl,t2,t3⟩
theorem Zcc : ∃ r,TH p s = some r ∧ (WD r.1 ∧ SV 62 r.2):=by
 unfold TH
 refine ZA (Zen hp hs) λr3 q3=>Ba ?_
 obtain ⟨q3,v1,v2,v3,v4⟩:=q3
 have v3' : r3.2.Events.length ≤ 62:=by omega
 refine ZA (P:=λj=>SV 62 ⟨j.1,j.2.1,j.2.2.1,j.2.2.2.1,j.2.2.2.2.1⟩ ∧ WD (j.2.2.2.2.2.1,j.2.2.2.2.2.2)) ?_ λj hj=>⟨_,rfl,hj.2,hj.1⟩
 refine ZA (XD hp q3 (by omega)) λr q=>ZA (P:=λj=>SV 62 ⟨j.1,j.2.1,j.2.2.1,j.2.2.2.1,j.2.2.2.2.1⟩ ∧ WD (j.2.2.2.2.2.1,j.2.2.2.2.2.2)) ?_ λj hj=>⟨_,rfl,hj⟩
 have same : SV 62 ⟨r3.2.Keys,r3.2.Next,r3.2.Records,r3.2.Events,r3.2.Head⟩:=⟨v1,v2,v3',v4⟩
 refine Xd (λ_=>?_) λ_=>Xd (λ_=>?_) λ_=>Xd (λ_=>?_) λ_=>Xd (λ_=>?_) λ_=>Xd (λ_=>?_) λ_=>Xd (λ_=>?_) λ_=>Xd (λ_=>?_) λ_=>Xd (λ_=>?_) λ_=>Xd (λ_=>?_) λ_=>⟨_,rfl,same,q.1⟩
 ·exact ZA (XD hp q.1 (by omega)) λr' q'=>ZA (KS _ q'.2) λ_ _=>ZA (KS _ q'.2) λ_ _=>⟨_,rfl,⟨v1,v2,v3',v4⟩,q'.1⟩
 ·refine Xd (λh=>?_) λ_=>⟨_,rfl,same,q.1⟩
  have h : 0 < (r3.2.Records.length : Int):=of_decide_eq_true h
  refine ZA (XD hp q.1 (show 1 ≤ (r3.2.Records.length : Int) by omega)) λr' q'=>ZA (Ku _ q'.2) λx hx=>Xd (λhb=>?_) λ_=>⟨_,rfl,same,q'.1⟩
  have hb : 0 < (x.Body.length : Int):=of_decide_eq_true hb
  refine ZA (Ku x.Body (i:=0) ⟨Int.le_refl _,hb⟩) λ_ _=>ZA (Ku x.Body (i:=0) ⟨Int.le_refl _,hb⟩) λ_ _=>⟨_,rfl,⟨v1,by simpa using v2,v3',λz hz=>?_⟩,q'.1⟩
  rcases List.mem_or_eq_of_mem_set hz with hz | rfl
  ·exact v4 z hz
  have:=v4 x hx
  exact ⟨this.1,by simpa using this.2⟩
 ·refine Xd (λh=>?_) λ_=>⟨_,rfl,same,q.1⟩
  have h : 0 < (r3.2.Records.length : Int):=of_decide_eq_true h
  refine ZA (XD hp q.1 (show 1 ≤ (r3.2.Records.length : Int) by omega)) λr' q'=>ZA (Ku _ q'.2) λx hx=>ZA (XD hp q'.1 (by omega)) λr2 q2=>ZA (KS _ q2.2) λ_ _=>ZA (KS _ q2.2) λ_ _=>ZA (Ku _ q'.2) λ_ _=>⟨_,rfl,⟨v1,by simpa using v2,v3',λz hz=>?_⟩,q2.1⟩
  rcases List.mem_or_eq_of_mem_set hz with hz | rfl
  ·exact v4 z hz
  exact v4 x hx
 ·refine Xd (λh=>?_) λ_=>⟨_,rfl,same,q.1⟩
  have h : 0 < (r3.2.Events.length : Int):=of_decide_eq_true h
  have e : wr ((r3.2.Events.length : Int) - 1) = ((r3.2.Events.length - 1 : Nat) : Int):=by rw [Y4 (by omega)]; omega
  refine ZA (P:=λl=>l.length ≤ 62) ⟨r3.2.Events.take (r3.2.Events.length - 1),?_,by simp; omega⟩ λl hl=>⟨_,rfl,⟨v1,v2,hl,v4⟩,q.1⟩
  show slc r3.2.Events ((0 : Nat) : Int) (wr ((r3.2.Events.length : Int) - 1)) = _
  rw [e,Hj (Nat.zero_le _) (by omega),List.drop_zero]
 ·refine Xd (λh=>?_) λ_=>⟨_,rfl,same,q.1⟩
  have h : 0 < (r3.2.Records.length : Int):=of_decide_eq_true h
  refine ZA (P:=λl=>l = r3.2.Records.drop 1) ⟨_,?_,rfl⟩ λl hl=>⟨_,rfl,⟨v1,by subst hl; simp; omega,v3',λz hz=>v4 z (by subst hl; exact List.mem_of_mem_drop hz)⟩,q.1⟩
  show slc r3.2.Records ((1 : Nat) : Int) ((r3.2.Records.length : Nat) : Int) = _
  rw [Hj (by omega) (Nat.le_refl _),List.take_length]
 ·exact ZA (JA hp q.1 (by simp)) λr' q'=>⟨_,rfl,⟨v1,v2,v3',v4⟩,q'.1⟩
 ·exact ⟨_,rfl,⟨by simp,v2,v3',v4⟩,q.1⟩
 ·refine Xd (λh=>?_) λ_=>⟨_,rfl,same,q.1⟩
  have h : 1 < (r3.2.Records.length : Int):=of_decide_eq_true h
  refine ZA (P:=λl=>l.length ≤ 13 ∧ ∀ z ∈ l,z ∈ r3.2.Records) ?_ λl hl=>⟨_,rfl,⟨v1,hl.1,v3',λz hz=>v4 z (hl.2 z hz)⟩,q.1⟩
  generalize r3.2.Records = l at *
  match l,h with
  | a :: b :: l,_=>exact ⟨_,rfl,by simpa using v2,λz hz=>by simp at hz ⊢; grind⟩
  | [],h=>simp at h
  | [_],h=>simp at h
 refine ZA (JA hp q.1 (by simp)) λr1 q1=>ZA (JA hp q1.1 (by simp)) λr2 q2=>?_
 rw [YH (by simp; omega),ob_]
 exact ⟨_,rfl,⟨v1,v2,by simp; omega,v4⟩,q2.1⟩
end
structure VOk (v : GVault) : Prop where
 h : 1 ≤ v.Keys.length ∧ v.Keys.length ≤ 8 ∧ 1 ≤ v.Next ∧ v.Next ≤ 1000000 ∧ v.Records.length ≤ 12 ∧ v.Events.length ≤ 60
 n : (v.Records.map (·.Number)).Pairwise (· < ·)
 b : ∀ r ∈ v.Records,0 < r.Number ∧ r.Number < v.Next ∧ 0 ≤ r.Version ∧ r.Version ≤ (v.Keys.length : Int) - 1 ∧ r.Label.length ≤ 32 ∧ r.Body.length ≤ 200
 e : ∀ e ∈ v.Events,Vj e = true
theorem vok_of {v : GVault} (h : Z0 v = true) : VOk v:=by
 have hn:=yx h
 have hs:=XG h
 have h':=h
 unfold Z0 at h'
 simp only [Bool.and_eq_true,Bool.not_eq_true',List.any_eq_false,List.mem_range'_1,List.all_eq_true] at h'
 obtain ⟨⟨_,hb⟩,he⟩:=h'
 have step : ∀ i (hi : i < v.Records.length),QP v.Records i < v.Records[i].Number ∧ v.Records[i].Number < v.Next:=λi hi=>by
  have:=hb i (by omega)
  unfold HL at this
  rw [ge_ hi] at this
  simp only [Bool.or_eq_true,decide_eq_true_eq,not_or] at this
  omega
 have pos : ∀ i (hi : i < v.Records.length),0 < v.Records[i].Number:=by
  intro i
  induction i with
  | zero=>intro hi; exact (step 0 hi).1
  | succ i ih =>
   intro hi
   have h1:=(step (i + 1) hi).1
   have h2:=ih (by omega)
   simp only [QP,ge_ (show i < v.Records.length by omega),Option.map_some,Option.getD_some] at h1
   omega
 refine ⟨hs,hn,λr hr=>?_,he⟩
 obtain ⟨i,hi,rfl⟩:=List.mem_iff_getElem.1 hr
 exact ⟨pos i hi,(step i hi).2,TN h hr⟩
theorem VOk.is {v : GVault} (h : VOk v) : Z0 v = true:=by
 obtain ⟨h1,h2,h3,h4⟩:=h
 unfold Z0 Bd
 simp only [Bool.and_eq_true,Bool.not_eq_true',List.any_eq_false,List.mem_range'_1,List.all_eq_true,decide_eq_true_eq]
 refine ⟨⟨h1,λi hi=>?_⟩,h4⟩
 have hi : i < v.Records.length:=by omega
 unfold HL H9
 rw [ge_ hi]
 obtain ⟨b1,b2,b3,b4,b5,b6⟩:=h3 _ (List.getElem_mem hi)
 have hp : QP v.Records i < v.Records[i].Number:=by
  cases i with
  | zero=>exact b1
  | succ i =>
   simp only [QP,ge_ (show i < v.Records.length by omega),Option.map_some,Option.getD_some]
   have:=List.pairwise_iff_getElem.1 h2 i (i + 1) (by rw [List.length_map]; omega) (by rw [List.length_map]; omega) (by omega)
   rwa [List.getElem_map,List.getElem_map] at this
 simp only [Bool.or_eq_true,Bool.not_eq_true',decide_eq_true_eq,decide_eq_false_iff_not,not_or,Classical.not_not]
 omega
theorem rot_ok {v : GVault} (h : VOk v) (hf : AJ v = false) (key : Blk) : VOk (UQ ⟨v.Keys ++ [key],v.Next,v.Records,v.Events,v.Head⟩ ⟨3,(v.Keys.length : Int),Vector.replicate 32 0⟩):=by
 obtain ⟨h1,h2,h3,h4⟩:=h
 unfold AJ at hf
 simp only [Bool.or_eq_false_iff,beq_eq_false_iff_ne,ne_eq] at hf
 refine ⟨?_,h2,λr hr=>?_,λe he=>?_⟩
 ·show 1 ≤ (v.Keys ++ [key]).length ∧ (v.Keys ++ [key]).length ≤ 8 ∧ 1 ≤ v.Next ∧ v.Next ≤ 1000000 ∧ v.Records.length ≤ 12 ∧ (v.Events ++ [_]).length ≤ 60
  simp only [List.length_append,List.length_singleton]; omega
 ·have:=h3 r hr
  show 0 < r.Number ∧ r.Number < v.Next ∧ 0 ≤ r.Version ∧ r.Version ≤ ((v.Keys ++ [key]).length : Int) - 1 ∧ r.Label.length ≤ 32 ∧ r.Body.length ≤ 200
  simp only [List.length_append,List.length_singleton]; omega
 rcases List.mem_append.1 he with he | he
 ·exact h4 e he
 obtain rfl:=List.mem_singleton.1 he
 unfold Vj
 simp only [decide_eq_true_eq]; omega
theorem Zin {v : GVault} {key : Blk} (h : (zx v key).2 = 0) : Z0 v = true ∧ AJ v = false ∧ (zx v key).1 = UQ ⟨v.Keys ++ [key],v.Next,v.Records,v.Events,v.Head⟩ ⟨3,(v.Keys.length : Int),Vector.replicate 32 0⟩:=by
 unfold zx at h ⊢
 cases hv : Z0 v with
 | false=>rw [hv] at h; simp at h
 | true =>
  rw [hv] at h
  simp only [if_true] at h ⊢
  by_cases hk : v.Keys.any (λx=>decide (key = x)) = true
  ·rw [if_pos hk] at h; cases h
  ·rw [if_neg hk] at h ⊢
   cases hf : AJ v with
   | true=>rw [hf] at h; simp at h
   | false=>simp
theorem qh (l : List Blk) (h : l.length ≤ 1000) : Qg l l = some true:=by
 unfold Qg
 have:=KK (f:=Tt l l) l (λ_=>false) (t:=false) (by omega) (λi hi=>by
  unfold Tt
  rw [if_pos (kQ (by omega)),YF,ge_ hi]
  simp) (by unfold Tt; simp)
 rw [this]; simp [Fl.el]
theorem qY (r : GRecord) (h : r.Label.length ≤ 32 ∧ r.Body.length ≤ 200) : Qb r r = some true:=by
 unfold Qb
 simp [JI r.Label (by omega),JI r.Body (by omega)]
theorem zW {n : Nat} {v : GVault} (h : SV n v) (hn : n ≤ 100:=by decide) : TJ v v = some true:=by
 have h1:=h.k
 have h2:=h.r
 have h3:=h.e
 unfold TJ
 rw [qh _ (by omega)]
 have i0:=KK (f:=T5 v v) v.Records (λ_=>false) (t:=false) (by omega) (λi hi=>by
  unfold T5
  rw [if_pos (kQ (by omega)),YF,ge_ hi]
  simp [qY _ (h.x _ (List.getElem_mem hi))]) (by unfold T5; simp)
 have i1:=KK (f:=Qp v v) v.Events (λ_=>false) (t:=false) (by omega) (λi hi=>by
  unfold Qp
  rw [if_pos (kQ (by omega)),YF,ge_ hi]
  simp) (by unfold Qp; simp)
 simp [i0,i1,Fl.el]
theorem JH {u v : GVault} {r : GRecord} (h : UC u r.Version = UC v r.Version) : Xo u r = Xo v r:=by unfold Xo; rw [h]
theorem Zg7 {a b : List UInt8} (h : b.length = a.length) : UD (UD a b) b = a:=by
 apply List.ext_getElem
 ·rw [KI (by rw [KI h]; exact h),KI h]
 intro i h1 h2
 simp [UD,UInt8.xor_assoc]
theorem jG {v : GVault} (hv : VOk v) {r : GRecord} (hr : r ∈ v.Records) : ¬ Yr v r.Number < 0 ∧ YZ v r.Number = r:=by
 have hp : ¬ Yr v r.Number < 0:=by
  intro hp
  unfold Yr at hp
  cases hf : v.Records.findIdx? (λq=>q.Number == r.Number) with
  | none=>have:=List.findIdx?_eq_none_iff.1 hf r hr; simp at this
  | some i=>rw [hf] at hp; simp at hp; omega
 obtain ⟨i,e1,hi,e2⟩:=J3 hp
 obtain ⟨j,hj,e3⟩:=List.mem_iff_getElem.1 hr
 have pw:=hv.n
 have ij : i = j:=by
  rcases Nat.lt_trichotomy i j with h | h | h
  ·have:=List.pairwise_iff_getElem.1 pw i j (by simpa using hi) (by simpa using hj) h
   rw [List.getElem_map,List.getElem_map,e2,e3] at this; omega
  ·exact h
  ·have:=List.pairwise_iff_getElem.1 pw j i (by simpa using hj) (by simpa using hi) h
   rw [List.getElem_map,List.getElem_map,e2,e3] at this; omega
 subst ij
 refine ⟨hp,?_⟩
 unfold YZ
 rw [e1,Int.toNat_natCast,List.getD_eq_getElem?_getD,ge_ hi,← e3]; rfl
theorem Zge {v : GVault} {n : Int} (h : ∀ r ∈ v.Records,r.Number ≠ n) : Yr v n < 0:=by
 refine Classical.byContradiction λhp=>?_
 obtain ⟨i,_,hi,e⟩:=J3 hp
 exact h _ (List.getElem_mem hi) e
theorem Zdn {v : GVault} (hv : VOk v) {r : GRecord} (hr : r ∈ v.Records) : KY v r.Number = if Xo v r = r.Tag then (Q4 v r,0) else ([],5):=by
 obtain ⟨h1,h2⟩:=jG hv hr
 unfold KY
 rw [hv.is,if_pos rfl,if_neg h1,h2]
theorem tag_of {v : GVault} (hv : VOk v) {r : GRecord} (hr : r ∈ v.Records) : yE v r.Number = (Xo v r,0):=by
 obtain ⟨h1,h2⟩:=jG hv hr
 unfold yE
 rw [hv.is,if_pos rfl,if_neg h1,h2]
theorem yT {u v : GVault} {n ver : Int} {nonce : Blk} {label data : List UInt8} (h : UC u ver = UC v ver) : Xo v (Wi u n ver nonce label data) = (Wi u n ver nonce label data).Tag:=by
 rw [← JH (u:=u) (r:=Wi u n ver nonce label data) h]
 exact Zc1 u (Wi u n ver nonce label data) (Vector.replicate 32 0) ▸ rfl
theorem AZ {u v : GVault} {n ver : Int} {nonce : Blk} {label data : List UInt8} (h : UC u ver = UC v ver) : Q4 v (Wi u n ver nonce label data) = data:=by
 have hb:=Q3 u ver nonce data
 show UD (U0 u ver nonce data) (QR (YK 4) (UC v ver) nonce (U0 u ver nonce data).length) = data
 rw [hb,← h]
 exact Zg7 (Qd _ _ _ _)
theorem zT {u v : GVault} (hv : VOk v) {n ver : Int} {nonce : Blk} {label data : List UInt8} (hr : Wi u n ver nonce label data ∈ v.Records) (h : UC u ver = UC v ver) : KY v n = (data,0):=by
 have:=Zdn hv hr
 rw [if_pos (yT h),AZ h] at this
 exact this
abbrev newRec (v : GVault) (label data : List UInt8) (nonce : Blk) : GRecord:=Wi v v.Next ((v.Keys.length : Int) - 1) nonce label data
abbrev sealedV (v : GVault) (label data : List UInt8) (nonce : Blk) : GVault:=UQ (KQ v (newRec v label data nonce)) ⟨1,v.Next,(newRec v label data nonce).Tag⟩
theorem Zds {v : GVault} {label data : List UInt8} {nonce : Blk} (h1 : Z0 v = true) (h2 : Ks label data = false) (h3 : JV v nonce = false) (h4 : yb v = false) : Jc v label data nonce = (sealedV v label data nonce,v.Next,0):=by
 unfold Jc
 simp only [h1,h2,h3,h4,if_true,Bool.false_eq_true,if_false]
theorem Zgb {v : GVault} {label data : List UInt8} {nonce : Blk} (h : (Jc v label data nonce).2.2 = 0) : Z0 v = true ∧ Ks label data = false ∧ yb v = false ∧ Jc v label data nonce = (sealedV v label data nonce,v.Next,0):=by
 cases h1 : Z0 v with
 | false=>unfold Jc at h; simp [h1] at h
 | true =>
  cases h2 : Ks label data with
  | true=>unfold Jc at h; simp [h1,h2] at h
  | false =>
   cases h3 : JV v nonce with
   | true=>unfold Jc at h; simp [h1,h2,h3] at h
   | false =>
    cases h4 : yb v with
    | true=>unfold Jc at h; simp [h1,h2,h3,h4] at h
    | false=>exact ⟨rfl,rfl,rfl,Zds h1 h2 h3 h4⟩
theorem Zg0 {l : List GEvent} {e : GEvent} (h : ∀ e ∈ l,Vj e = true) (h1 : 1 ≤ e.Kind ∧ e.Kind ≤ 4) (h2 : 0 ≤ e.Number ∧ e.Number ≤ 1000000) : ∀ x ∈ l ++ [e],Vj x = true:=by
 intro x hx
 rcases List.mem_append.1 hx with hx | hx
 ·exact h x hx
 obtain rfl:=List.mem_singleton.1 hx
 unfold Vj
 simp only [decide_eq_true_eq]; exact ⟨h1,h2⟩
theorem Zd4 {v : GVault} (hv : VOk v) {label data : List UInt8} (nonce : Blk) (hl : Ks label data = false) (hm : yb v = false) : VOk (sealedV v label data nonce):=by
 obtain ⟨h1,h2,h3,h4⟩:=hv
 obtain ⟨k1,k2⟩:=Hn hl
 unfold yb at hm
 simp only [Bool.or_eq_false_iff,beq_eq_false_iff_ne,ne_eq] at hm
 refine ⟨?_,?_,λr hr=>?_,Zg0 h4 ⟨by simp,by simp⟩ (by show 0 ≤ v.Next ∧ v.Next ≤ 1000000; omega)⟩
 ·show 1 ≤ v.Keys.length ∧ v.Keys.length ≤ 8 ∧ 1 ≤ v.Next + 1 ∧ v.Next + 1 ≤ 1000000 ∧ (v.Records ++ [_]).length ≤ 12 ∧ (v.Events ++ [_]).length ≤ 60
  simp only [List.length_append,List.length_singleton]; omega
 ·show ((v.Records ++ [newRec v label data nonce]).map (·.Number)).Pairwise (· < ·)
  rw [List.map_append,List.pairwise_append]
  refine ⟨h2,by simp,λa ha b hb=>?_⟩
  obtain ⟨r,hr,rfl⟩:=List.mem_map.1 ha
  simp only [List.map_cons,List.map_nil,List.mem_singleton] at hb
  subst hb
  exact (h3 r hr).2.1
 show 0 < r.Number ∧ r.Number < v.Next + 1 ∧ 0 ≤ r.Version ∧ r.Version ≤ (v.Keys.length : Int) - 1 ∧ r.Label.length ≤ 32 ∧ r.Body.length ≤ 200
 rcases List.mem_append.1 hr with hr | hr
 ·have:=h3 r hr; omega
 obtain rfl:=List.mem_singleton.1 hr
 have hb:=Q3 v ((v.Keys.length : Int) - 1) nonce data
 show 0 < v.Next ∧ v.Next < v.Next + 1 ∧ 0 ≤ (v.Keys.length : Int) - 1 ∧ (v.Keys.length : Int) - 1 ≤ (v.Keys.length : Int) - 1 ∧ label.length ≤ 32 ∧ (U0 v ((v.Keys.length : Int) - 1) nonce data).length ≤ 200
 omega
theorem Zf4 {v : GVault} {n : Int} {nonce : Blk} (h : (HE v n nonce).2 = 0) : Z0 v = true ∧ ¬ Yr v n < 0 ∧ v.Events.length ≠ 60 ∧ (HE v n nonce).1 = UQ (K0 v (Yr v n).toNat (XV v n nonce)) ⟨4,n,(XV v n nonce).Tag⟩:=by
 unfold HE at h ⊢
 cases h1 : Z0 v with
 | false=>simp [h1] at h
 | true =>
  simp only [h1,if_true] at h ⊢
  by_cases h2 : Yr v n < 0
  ·simp [h2] at h
  ·simp only [if_neg h2] at h ⊢
   by_cases h3 : Xo v (YZ v n) = (YZ v n).Tag
   ·simp only [if_pos h3] at h ⊢
    cases h4 : JV v nonce with
    | true=>simp [h4] at h
    | false =>
     simp only [h4,Bool.false_eq_true,if_false] at h ⊢
     cases h5 : v.Events.length == 60 with
     | true=>simp [h5] at h
     | false=>refine ⟨trivial,h2,by simpa using h5,by simp⟩
   ·simp [if_neg h3] at h
theorem Zh5 {v : GVault} (hv : VOk v) {n : Int} {nonce : Blk} (hp : ¬ Yr v n < 0) (he : v.Events.length ≠ 60) :
  VOk (UQ (K0 v (Yr v n).toNat (XV v n nonce)) ⟨4,n,(XV v n nonce).Tag⟩) ∧ XV v n nonce ∈ (K0 v (Yr v n).toNat (XV v n nonce)).Records:=by
 obtain ⟨i,p1,p2,p3,p4⟩:=KX hp
 have hal:=zN nonce hv.is hp
 have hin:=List.mem_of_getElem? p3
 obtain ⟨h1,h2,h3,h4⟩:=hv
 have hn:=h3 _ hin
 rw [p4] at hn
 rw [p1,Int.toNat_natCast]
 have hel : v.Records[i] = YZ v n:=by rw [ge_ p2] at p3; exact Option.some.inj p3
 refine ⟨⟨?_,?_,λr hr=>?_,Zg0 h4 ⟨by simp,by simp⟩ (by show 0 ≤ n ∧ n ≤ 1000000; omega)⟩,List.mem_set p2 _⟩
 ·show 1 ≤ v.Keys.length ∧ v.Keys.length ≤ 8 ∧ 1 ≤ v.Next ∧ v.Next ≤ 1000000 ∧ (v.Records.set i _).length ≤ 12 ∧ (v.Events ++ [_]).length ≤ 60
  simp only [List.length_append,List.length_singleton,List.length_set]; omega
 ·show ((v.Records.set i (XV v n nonce)).map (·.Number)).Pairwise (· < ·)
  rw [List.map_set]
  have : (XV v n nonce).Number = (v.Records.map (·.Number))[i]'(by simpa using p2):=by rw [List.getElem_map,hel,p4]; rfl
  rw [this,List.set_getElem_self]; exact h2
 show 0 < r.Number ∧ r.Number < v.Next ∧ 0 ≤ r.Version ∧ r.Version ≤ (v.Keys.length : Int) - 1 ∧ r.Label.length ≤ 32 ∧ r.Body.length ≤ 200
 rcases List.mem_or_eq_of_mem_set hr with hr | rfl
 ·exact h3 r hr
 show 0 < n ∧ n < v.Next ∧ 0 ≤ (v.Keys.length : Int) - 1 ∧ (v.Keys.length : Int) - 1 ≤ (v.Keys.length : Int) - 1 ∧ (XV v n nonce).Label.length ≤ 32 ∧ (XV v n nonce).Body.length ≤ 200
 omega
abbrev droppedV (v : GVault) (n : Int) : GVault:=UQ (Hl v (Yr v n).toNat) ⟨2,n,Vector.replicate 32 0⟩
theorem Zib {v : GVault} {n : Int} (h1 : Z0 v = true) (hp : ¬ Yr v n < 0) (he : v.Events.length ≠ 60) : Ah v n = (droppedV v n,0):=by
 have e : (v.Events.length == 60) = false:=by simpa using he
 unfold Ah
 simp only [h1,if_true,if_neg hp,e,Bool.false_eq_true,if_false]
theorem Zef {v : GVault} (hv : VOk v) {n : Int} (hp : ¬ Yr v n < 0) {r : GRecord} : r ∈ (Hl v (Yr v n).toNat).Records ↔ r ∈ v.Records ∧ r.Number ≠ n:=by
 obtain ⟨i,p1,p2,p3,p4⟩:=KX hp
 rw [p1,Int.toNat_natCast]
 show r ∈ v.Records.take i ++ v.Records.drop (i + 1) ↔ _
 have hel : v.Records[i] = YZ v n:=by rw [ge_ p2] at p3; exact Option.some.inj p3
 have pw:=List.pairwise_iff_getElem.1 hv.n
 have hne : ∀ j (hj : j < v.Records.length),j ≠ i → v.Records[j].Number ≠ n:=λj hj hji e=>by
  rcases Nat.lt_or_ge j i with h | h
  ·have:=pw j i (by simpa using hj) (by simpa using p2) h
   rw [List.getElem_map,List.getElem_map,hel,p4,e] at this; omega
  ·have:=pw i j (by simpa using p2) (by simpa using hj) (by omega)
   rw [List.getElem_map,List.getElem_map,hel,p4,e] at this; omega
 constructor
 ·intro h
  rcases List.mem_append.1 h with h | h
  ·obtain ⟨j,hj,rfl⟩:=List.mem_iff_getElem.1 h
   rw [List.length_take] at hj
   rw [List.getElem_take]
   exact ⟨List.getElem_mem _,hne j (by omega) (by omega)⟩
  obtain ⟨j,hj,rfl⟩:=List.mem_iff_getElem.1 h
  rw [List.length_drop] at hj
  rw [List.getElem_drop]
  exact ⟨List.getElem_mem _,hne _ (by omega) (by omega)⟩
 rintro ⟨h,hn⟩
 obtain ⟨j,hj,rfl⟩:=List.mem_iff_getElem.1 h
 rcases Nat.lt_trichotomy j i with h' | h' | h'
 ·refine List.mem_append_left _ (List.mem_iff_getElem.2 ⟨j,by rw [List.length_take]; omega,by rw [List.getElem_take]⟩)
 ·subst h'; rw [hel,p4] at hn; exact absurd rfl hn
 refine List.mem_append_right _ (List.mem_iff_getElem.2 ⟨j - (i + 1),by rw [List.length_drop]; omega,?_⟩)
 rw [List.getElem_drop]
 congr 1; omega
theorem Ziy {v : GVault} (hv : VOk v) {n : Int} (hp : ¬ Yr v n < 0) (he : v.Events.length ≠ 60) : VOk (droppedV v n):=by
 have hm:=λr=>(Zef hv hp (r:=r)).1
 obtain ⟨i,p1,p2,p3,p4⟩:=KX hp
 have hin:=List.mem_of_getElem? p3
 obtain ⟨h1,h2,h3,h4⟩:=hv
 have hn:=h3 _ hin
 rw [p4] at hn
 refine ⟨?_,?_,λr hr=>h3 r (hm r hr).1,Zg0 h4 ⟨by simp,by simp⟩ (by show 0 ≤ n ∧ n ≤ 1000000; omega)⟩
 ·show 1 ≤ v.Keys.length ∧ v.Keys.length ≤ 8 ∧ 1 ≤ v.Next ∧ v.Next ≤ 1000000 ∧ (v.Records.take (Yr v n).toNat ++ v.Records.drop ((Yr v n).toNat + 1)).length ≤ 12 ∧ (v.Events ++ [_]).length ≤ 60
  simp only [List.length_append,List.length_singleton,List.length_take,List.length_drop]; omega
 show ((v.Records.take (Yr v n).toNat ++ v.Records.drop ((Yr v n).toNat + 1)).map (·.Number)).Pairwise (· < ·)
 refine h2.sublist (List.Sublist.map _ ?_)
 have : v.Records = v.Records.take (Yr v n).toNat ++ v.Records.drop (Yr v n).toNat:=(List.take_append_drop _ _).symm
 conv=>rhs; rw [this]
 refine List.Sublist.append_left ?_ _
 rw [← List.drop_drop]
 exact List.drop_sublist _ _
theorem Ze6 {v w : GVault} {ks : List Blk} (h : w.Keys = v.Keys ++ ks) {n : Int} (h0 : 0 ≤ n) (h1 : n ≤ (v.Keys.length : Int) - 1) : UC v n = UC w n:=by
 unfold UC
 rw [h,List.getD_eq_getElem?_getD,List.getD_eq_getElem?_getD,List.getElem?_append_left (by omega)]
theorem Zbj (l : List GEvent) (e : GEvent) (n : Int) : byC (l ++ [e]) n = byN n (byC l n) e:=by unfold byC; rw [List.foldl_append]; rfl
structure Fresh (k : Nat) (v : GVault) : Prop where
 ok : VOk v
 key : v.Keys.length = 1
 cnt : v.Records.length + k ≤ 4 ∧ v.Events.length + 2 * k ≤ 8 ∧ v.Next + k ≤ 5
 non : ∀ r ∈ v.Records,∃ j : Nat,k < j ∧ j ≤ 4 ∧ r.Nonce[0] = Zv (j : Int)
 head : J4 (YK 4) v.Events = v.Head
 tag : ∀ r ∈ v.Records,Xo v r = r.Tag
 told : ∀ r ∈ v.Records,byC v.Events r.Number = (r.Tag,true)
 gone : ∀ n,(∀ r ∈ v.Records,r.Number ≠ n) → (byC v.Events n).2 = false
theorem Ze3 (u : Blk) {k : Nat} (hk : k ≤ 4) : Fresh k (Vc u):=by
 refine ⟨⟨by simp [Vc],by simp [Vc],λr hr=>(by cases hr),λe he=>(by cases he)⟩,rfl,?_,λr hr=>(by cases hr),rfl,λr hr=>(by cases hr),λr hr=>(by cases hr),λn _=>rfl⟩
 show 0 + k ≤ 4 ∧ 0 + 2 * k ≤ 8 ∧ (1 : Int) + k ≤ 5
 omega
theorem Zi4 {j k : Nat} (h : k < j) (h4 : j ≤ 4) : Zv (j : Int) ≠ Zv (k : Int):=by
 have : ∀ j : Fin 5,∀ k : Fin 5,k.1 < j.1 → Zv ((j.1 : Nat) : Int) ≠ Zv ((k.1 : Nat) : Int):=by decide
 exact this ⟨j,by omega⟩ ⟨k,by omega⟩ h
theorem B6 {k : Nat} {v : GVault} (h : Fresh (k + 1) v) (hk : k + 1 ≤ 4) (label data : List UInt8) (nonce : Blk) (hl : Ks label data = false) (hn : nonce[0] = Zv ((k + 1 : Nat) : Int)) :
  Jc v label data nonce = (sealedV v label data nonce,v.Next,0) ∧ VOk (sealedV v label data nonce) ∧ newRec v label data nonce ∈ (sealedV v label data nonce).Records ∧
  ((sealedV v label data nonce).Keys.length = 1) ∧ ((sealedV v label data nonce).Records.length + k ≤ 4 ∧ (sealedV v label data nonce).Events.length + 2 * k + 1 ≤ 8 ∧ (sealedV v label data nonce).Next + k ≤ 5) ∧
  (∀ r ∈ (sealedV v label data nonce).Records,∃ j : Nat,k < j ∧ j ≤ 4 ∧ r.Nonce[0] = Zv (j : Int)) ∧ (∀ r ∈ (sealedV v label data nonce).Records,Xo (sealedV v label data nonce) r = r.Tag) ∧
  (∀ r ∈ (sealedV v label data nonce).Records,byC (sealedV v label data nonce).Events r.Number = (r.Tag,true)) ∧ (∀ n,(∀ r ∈ (sealedV v label data nonce).Records,r.Number ≠ n) → (byC (sealedV v label data nonce).Events n).2 = false):=by
 obtain ⟨c1,c2,c3⟩:=h.cnt
 have hm : yb v = false:=by
  unfold yb
  simp only [Bool.or_eq_false_iff,beq_eq_false_iff_ne,ne_eq]
  omega
 have hu : JV v nonce = false:=by
  unfold JV
  rw [List.any_eq_false]
  intro r hr
  obtain ⟨j,j1,j2,j3⟩:=h.non r hr
  simp only [Bool.and_eq_true,decide_eq_true_eq,not_and]
  intro _ e
  rw [e,hn] at j3
  exact Zi4 j1 j2 j3.symm
 have hlt : ∀ r ∈ v.Records,r.Number ≠ v.Next:=λr hr=>by have:=(h.ok.b r hr).2.1; omega
 have hmem : ∀ {r},r ∈ (sealedV v label data nonce).Records ↔ r ∈ v.Records ∨ r = newRec v label data nonce:=fun {r}=>by
  show r ∈ v.Records ++ [_] ↔ _
  rw [List.mem_append,List.mem_singleton]
 have hby : ∀ n,byC (sealedV v label data nonce).Events n = byN n (byC v.Events n) ⟨1,v.Next,(newRec v label data nonce).Tag⟩:=λn=>Zbj _ _ _
 refine ⟨Zds h.ok.is hl hu hm,Zd4 h.ok nonce hl hm,hmem.2 (.inr rfl),h.key,?_,λr hr=>?_,λr hr=>?_,λr hr=>?_,λn hn'=>?_⟩
 ·show (v.Records ++ [_]).length + k ≤ 4 ∧ (v.Events ++ [_]).length + 2 * k + 1 ≤ 8 ∧ v.Next + 1 + k ≤ 5
  simp only [List.length_append,List.length_singleton]; omega
 ·rcases hmem.1 hr with hr | rfl
  ·obtain ⟨j,j1,j2,j3⟩:=h.non r hr
   exact ⟨j,by omega,j2,j3⟩
  exact ⟨k + 1,by omega,hk,hn⟩
 ·rcases hmem.1 hr with hr | rfl
  ·rw [← h.tag r hr]; exact JH rfl
  exact yT rfl
 ·rw [hby]
  rcases hmem.1 hr with hr | rfl
  ·unfold byN
   rw [if_neg (λe=>hlt r hr e.symm),h.told r hr]
  exact (if_pos rfl).trans (if_pos (.inl rfl))
 rw [hby]
 have h1 : v.Next ≠ n:=hn' _ (hmem.2 (.inr rfl))
 unfold byN
 rw [if_neg h1]
 exact h.gone n λr hr=>hn' r (hmem.2 (.inl hr))
theorem Zcd {k : Nat} {v : GVault} (h : Fresh (k + 1) v) (hk : k + 1 ≤ 4) (label data : List UInt8) (nonce : Blk) (hl : Ks label data = false) (hn : nonce[0] = Zv ((k + 1 : Nat) : Int)) : Fresh k (sealedV v label data nonce):=by
 obtain ⟨_,a1,_,a2,⟨c1,c2,c3⟩,a3,a4,a5,a6⟩:=B6 h hk label data nonce hl hn
 exact ⟨a1,a2,⟨c1,by omega,c3⟩,a3,rfl,a4,a5,a6⟩
theorem Zcn {k : Nat} {v : GVault} (h : Fresh (k + 1) v) (hk : k + 1 ≤ 4) (label data : List UInt8) (nonce : Blk) (hl : Ks label data = false) (hn : nonce[0] = Zv ((k + 1 : Nat) : Int)) :
  Ah (sealedV v label data nonce) v.Next = (droppedV (sealedV v label data nonce) v.Next,0) ∧ Fresh k (droppedV (sealedV v label data nonce) v.Next):=by
 obtain ⟨_,a1,a0,a2,⟨c1,c2,c3⟩,a3,a4,a5,a6⟩:=B6 h hk label data nonce hl hn
 generalize hw : sealedV v label data nonce = w at *
 have hp : ¬ Yr w v.Next < 0:=(jG a1 a0).1
 have he : w.Events.length ≠ 60:=by omega
 have hm:=λr=>Zef a1 hp (r:=r)
 have hby : ∀ n,byC (droppedV w v.Next).Events n = byN n (byC w.Events n) ⟨2,v.Next,Vector.replicate 32 0⟩:=λn=>Zbj _ _ _
 refine ⟨Zib a1.is hp he,Ziy a1 hp he,a2,?_,λr hr=>a3 r ((hm r).1 hr).1,rfl,λr hr=>?_,λr hr=>?_,λn hn'=>?_⟩
 ·show (w.Records.take (Yr w v.Next).toNat ++ w.Records.drop ((Yr w v.Next).toNat + 1)).length + k ≤ 4 ∧ (w.Events ++ [_]).length + 2 * k ≤ 8 ∧ w.Next + k ≤ 5
  simp only [List.length_append,List.length_singleton,List.length_take,List.length_drop]; omega
 ·rw [← a4 r ((hm r).1 hr).1]; exact JH rfl
 ·obtain ⟨h1,h2⟩:=(hm r).1 hr
  rw [hby]
  unfold byN
  rw [if_neg (λe=>h2 e.symm),a5 r h1]
 rw [hby]
 unfold byN
 by_cases e : v.Next = n
 ·rw [if_pos e,if_neg (by simp),if_pos rfl]
 rw [if_neg e]
 refine a6 n λr hr hrn=>hn' r ((hm r).2 ⟨hr,λe2=>e (e2.symm.trans hrn)⟩) hrn
theorem zX {v : GVault} (hv : VOk v) (hh : J4 (YK 4) v.Events = v.Head) (told : ∀ r ∈ v.Records,byC v.Events r.Number = (r.Tag,true)) (gone : ∀ n,(∀ r ∈ v.Records,r.Number ≠ n) → (byC v.Events n).2 = false) : yI v = (AH v,0):=by
 unfold yI BO qj
 rw [hv.is,if_pos rfl,if_pos hh,List.filter_eq_nil_iff.2,List.map_nil]
 ·rfl
 intro n _
 unfold H6
 by_cases hx : ∃ r ∈ v.Records,r.Number = n
 ·obtain ⟨r,hr,rfl⟩:=hx
  obtain ⟨h1,h2⟩:=jG hv hr
  have hp : Yr v r.Number ≥ 0:=by omega
  rw [told r hr,h2]
  simp [hp]
 have hx' : ∀ r ∈ v.Records,r.Number ≠ n:=λr hr e=>hx ⟨r,hr,e⟩
 have hp:=Zge hx'
 have hp' : ¬ Yr v n ≥ 0:=by omega
 rw [gone n hx']
 simp [hp']
theorem Zfp {v : GVault} (h : ∀ r ∈ v.Records,Xo v r = r.Tag) : AH v = []:=by
 unfold AH
 rw [List.filter_eq_nil_iff.2,List.map_nil]
 intro r hr
 simp [h r hr]
section
variable {p : List UInt8} (hp : p.length ≤ 4096)
include hp
theorem jo {s : Int × Int} (hs : WD s) : ∃ r,TL p s = some r ∧ WD r.1:=by
 unfold TL
 refine ZA (P:=λj=>WD (j.2.1,j.2.2)) (Jj (λi t=>t.2.2.2 = (i : Int) ∧ WD (t.2.1,t.2.2.1)) 16 (λi t hi ht=>?_) (λt ht=>?_) 16 0 _ rfl ⟨rfl,hs⟩) λj hj=>⟨_,rfl,hj⟩
 ·obtain ⟨t1,t2⟩:=ht
  unfold Kk
  rw [if_pos (kQ (by omega))]
  exact ZA (JU hp t2 (by omega)) λr hr=>ZA (KS _ (by omega)) λx _=>⟨_,rfl,_,rfl,by show wr (t.2.2.2 + 1) = _; rw [t1,AC (by omega) (by omega)]; omega,hr.1⟩
 obtain ⟨t1,t2⟩:=ht
 unfold Kk
 rw [if_neg (lt_no (by omega))]
 exact ⟨_,rfl,_,rfl,t2⟩
theorem ke : ∃ r,Vi p = some r ∧ True:=by
 unfold Vi
 exact ZA (Zbq hp) λr3 q3=>ZA (Jm hp q3) λr7 q7=>⟨_,rfl,trivial⟩
theorem j0 : ∃ r,Vk p = some r ∧ (SV 62 r.1 ∧ r.2.2.1.length ≤ 201):=by
 unfold Vk
 refine ZA (Zbq hp) λr5 q5=>ZA (Zcc hp q5) λr9 q9=>ZA (Jm hp q9.1) λr14 q14=>?_
 obtain ⟨q9,hv⟩:=q9
 refine ZA (P:=λj=>WD (j.2.1,j.2.2)) ?_ λj20 h20=>?_
 ·refine ZA (P:=λj=>WD (j.1,j.2.1) ∧ (j.2.2 = true → 0 < (r9.2.Records.length : Int))) (Xd (λh=>ZA (XD hp q14 (by omega)) λr q=>⟨_,rfl,q.1,λ_=>of_decide_eq_true h⟩) λ_=>⟨_,rfl,q14,λh=>by cases h⟩) λj hj=>Xd (λhc=>?_) λ_=>⟨_,rfl,hj.1⟩
  have h:=hj.2 hc
  have hr:=hv.r
  have e : wr ((r9.2.Records.length : Int) - 1) = (r9.2.Records.length : Int) - 1:=Y4 (by omega)
  exact ZA (Ku _ (by rw [e]; omega)) λx _=>⟨_,rfl,hj.1⟩
 refine ZA (kT hp h20) λr42 q42=>ZA (kH hp q42.1 (n:=20) (by omega)) λr45 q45=>?_
 have hz : ∀ n : Nat,n ≤ 1000 → ∃ l,mkS 1 (0 : UInt8) (n : Int) = some l ∧ l.length = n:=λn hn=>by
  unfold mkS
  rw [if_pos (by omega)]
  exact ⟨_,rfl,by simp⟩
 refine ZA (P:=λj=>j.1.length ≤ 201) (ZA (XD hp q45.1 (by omega)) λr q=>ZA (P:=λj=>j.1.length ≤ 201) (Xd (λ_=>ZA (hz 33 (by omega)) λl _=>⟨_,rfl,by show r45.2.length ≤ 201; omega⟩) λ_=>Xd (λ_=>?_) λ_=>⟨_,rfl,by show r45.2.length ≤ 201; omega⟩) λj hj=>⟨_,rfl,hj⟩) λj hj=>Ba ⟨_,rfl,hv,hj⟩
 refine ZA (JA hp q.1 (by simp)) λr' q'=>?_
 obtain ⟨n,en,hn⟩ : ∃ n : Nat,r'.2 = n ∧ n ≤ 201:=by
  have h3:=q'.2
  simp only [List.mem_cons,List.not_mem_nil,or_false] at h3
  exact ⟨r'.2.toNat,by rcases h3 with e | e <;> omega,by rcases h3 with e | e <;> omega⟩
 rw [en]
 exact ZA (hz n (by omega)) λl hl=>⟨_,rfl,by show l.length ≤ 201; omega⟩
theorem Zel {s : Int × Int} (hs : WD s) (u : Blk) {k : Nat} (hk : k ≤ 4) : ∃ r,ZQ (U2 p) ((Vc u).Keys,(Vc u).Next,(Vc u).Records,(Vc u).Events,(Vc u).Head,s.1,s.2,(k : Int)) = some r ∧ ∃ x,r = .nx x ∧ Fresh 0 ⟨x.1,x.2.1,x.2.2.1,x.2.2.2.1,x.2.2.2.2⟩:=by
 refine Jj (λi t=>t.2.2.2.2.2.2.2 = ((k - i : Nat) : Int) ∧ Fresh (k - i) ⟨t.1,t.2.1,t.2.2.1,t.2.2.2.1,t.2.2.2.2.1⟩ ∧ WD (t.2.2.2.2.2.1,t.2.2.2.2.2.2.1)) k (λi t hi ht=>?_) (λt ht=>?_) k 0 _ (by omega) ⟨rfl,Ze3 u (by omega),hs⟩
 ·obtain ⟨t1,t2,t3⟩:=ht
  unfold U2
  rw [if_pos (qD (by omega))]
  obtain ⟨m,hm⟩ : ∃ m,k - i = m + 1:=⟨k - i - 1,by omega⟩
  have hki : k - (i + 1) = m:=by omega
  rw [hm] at t1 t2
  rw [hki]
  generalize hv : (⟨t.1,t.2.1,t.2.2.1,t.2.2.2.1,t.2.2.2.2.1⟩ : GVault) = v at *
  refine ZA (P:=λj=>∃ x,j = .nx x ∧ Fresh m ⟨x.1,x.2.1,x.2.2.1,x.2.2.2.1,x.2.2.2.2.1⟩ ∧ WD (x.2.2.2.2.2.1,x.2.2.2.2.2.2)) ?_ λj hj=>?_
  ·refine ZA (jo hp t3) λr q=>ZA (KS _ (by omega)) λ_ _=>ZA (JU hp q (by omega)) λr1 q1=>?_
   obtain ⟨n,en,hn⟩ : ∃ n : Nat,r1.2 = n ∧ n < 20:=⟨r1.2.toNat,by omega,by omega⟩
   rw [en,t1]
   refine ZA (Zfh hp q1.1 (n:=n) (by omega)) λr2 q2=>?_
   have hl : Ks [Zv ((m + 1 : Nat) : Int)] r2.2 = false:=by
    unfold Ks
    simp only [List.length_singleton,Bool.or_eq_false_iff,decide_eq_false_iff_not]
    omega
   have hn0 : (r.2.setIfInBounds ((0 : Int)).toNat (Zv ((m + 1 : Nat) : Int)))[0] = Zv ((m + 1 : Nat) : Int):=by
    show (r.2.setIfInBounds 0 (Zv ((m + 1 : Nat) : Int)))[0] = _
    rw [Vector.getElem_setIfInBounds]; simp
   have hs1:=(B6 t2 (by omega) _ r2.2 _ hl hn0).1
   have hln : Wt.ln v:=by
    have h:=t2.ok.h
    exact SV.ln (n:=60) ⟨by omega,by omega,by omega,λr hr=>(t2.ok.b r hr).2.2.2.2⟩
   refine ZA (P:=λx=>x = (sealedV v [Zv ((m + 1 : Nat) : Int)] r2.2 (r.2.setIfInBounds ((0 : Int)).toNat (Zv ((m + 1 : Nat) : Int))),v.Next,0)) ⟨_,Ht v hln _ _ _,hs1⟩ λr3 q3=>?_
   subst q3
   rw [if_neg (by simp)]
   have f1:=Zcd t2 (by omega) _ r2.2 _ hl hn0
   have f2:=Zcn t2 (by omega) _ r2.2 _ hl hn0
   generalize sealedV v [Zv ((m + 1 : Nat) : Int)] r2.2 (r.2.setIfInBounds ((0 : Int)).toNat (Zv ((m + 1 : Nat) : Int))) = w at *
   have hlw : Wt.ln w:=by
    have h:=f1.ok.h
    exact SV.ln (n:=60) ⟨by omega,by omega,by omega,λr hr=>(f1.ok.b r hr).2.2.2.2⟩
   refine ZA (JU hp q2.1 (by omega)) λr4 q4=>ZA (P:=λj=>∃ x,j = .nx x ∧ Fresh m ⟨x.1,x.2.1,x.2.2.1,x.2.2.2.1,x.2.2.2.2⟩) (Xd (λ_=>?_) λ_=>⟨_,rfl,_,rfl,f1⟩) λj hj=>?_
   ·refine ZA (P:=λx=>x = (droppedV w v.Next,0)) ⟨_,AP w hlw v.Next,f2.1⟩ λx hx=>?_
    subst hx
    rw [if_neg (by simp)]
    exact ⟨_,rfl,_,rfl,f2.2⟩
   obtain ⟨x,rfl,hx⟩:=hj
   exact ⟨_,rfl,_,rfl,hx,q4.1⟩
  obtain ⟨x,rfl,hx1,hx2⟩:=hj
  exact ⟨_,rfl,_,rfl,by show wr (t.2.2.2.2.2.2.2 - 1) = _; rw [t1,yJ (by omega) (by omega)]; omega,hx1,hx2⟩
 obtain ⟨t1,t2,t3⟩:=ht
 unfold U2
 rw [if_neg (Zaa (by omega))]
 have e : k - k = 0:=by omega
 rw [e] at t2
 exact ⟨_,rfl,_,rfl,_,rfl,t2⟩
end
theorem Zbe {v : GVault} (h : VOk v) : Wt.ln v:=by
 have h':=h.h
 exact SV.ln (n:=60) ⟨by omega,by omega,by omega,λr hr=>(h.b r hr).2.2.2.2⟩
theorem qi (p : List UInt8) (_ : Dat.bd p) : QV p = some true:=by
 unfold QV
 refine Vr (r:=decide ((p.length : Int) > 4096)) rfl ?_
 by_cases hbig : (p.length : Int) > 4096
 ·rw [if_pos (by simpa using hbig)]
 rw [if_neg (by simpa using hbig)]
 have hp : p.length ≤ 4096:=by omega
 obtain ⟨⟨v,label,data,nonce⟩,e1,hv,hd⟩:=j0 hp
 have hv : SV 62 v:=hv
 have hd : data.length ≤ 201:=hd
 have lv:=hv.ln
 refine Vr e1 (Vr (Ht v lv label data nonce) (Vr (HD v lv label data nonce) (By ?_ (Zgf (Zck λhc=>?_) ?_))))
 ·rw [if_neg (by simp),if_neg (by simp),zW (Zdp v label data nonce),ob_,if_neg (by decide),UP v lv,ob_,jD v lv,ob_]
  simp
 ·have hc : (Jc v label data nonce).2.2 = 0:=by simpa using hc
  obtain ⟨i1,i2,i3,i4⟩:=Zgb hc
  have vk:=vok_of i1
  have wk:=Zd4 vk nonce i2 i3
  have hk0 : 0 ≤ (v.Keys.length : Int) - 1:=by have:=vk.h; omega
  have hin : newRec v label data nonce ∈ (sealedV v label data nonce).Records:=by
   show _ ∈ v.Records ++ [_]
   exact List.mem_append_right _ (List.mem_singleton.2 rfl)
  have lw:=Zbe wk
  have ho:=zT wk hin rfl
  rw [i4]
  refine Vr (Kr _ lw v.Next) ?_
  rw [ho]
  refine By ?_ ?_
  ·rw [if_neg (by simp),JI _ (show data.length ≤ 1000 by omega),ob_,if_neg (by decide),UP _ lw,ob_,wk.is]
   rfl
  obtain ⟨s,e2,hs⟩:=Zbo hp 907
  obtain ⟨⟨s2,key⟩,e3,hs2⟩:=jo hp hs
  refine Vr e2 (Vr e3 (Vr (zg _ lw key) (Zck λhc2=>?_)))
  have hc2 : (zx (sealedV v label data nonce) key).2 = 0:=by simpa using hc2
  obtain ⟨r1,r2,r3⟩:=Zin hc2
  have nk:=rot_ok wk r2 key
  rw [← r3] at nk
  have hin2 : newRec v label data nonce ∈ (zx (sealedV v label data nonce) key).1.Records:=by rw [r3]; exact hin
  have hk2 : UC v ((v.Keys.length : Int) - 1) = UC (zx (sealedV v label data nonce) key).1 ((v.Keys.length : Int) - 1):=Ze6 (ks:=[key]) (by rw [r3]; rfl) hk0 (Int.le_refl _)
  generalize (zx (sealedV v label data nonce) key).1 = w at *
  refine Vr (ya _ (Zbe nk) v.Next nonce) (Zck λhc3=>?_)
  have hc3 : (HE w v.Next nonce).2 = 0:=by simpa using hc3
  obtain ⟨a1,a2,a3,a4⟩:=Zf4 hc3
  obtain ⟨xk,hx⟩:=Zh5 nk a2 a3 (nonce:=nonce)
  rw [← a4] at xk
  have hat : YZ w v.Next = newRec v label data nonce:=(jG nk hin2).2
  have hx' : Wi w v.Next ((w.Keys.length : Int) - 1) nonce label data ∈ (HE w v.Next nonce).1.Records:=by
   rw [a4]
   have e : XV w v.Next nonce = Wi w v.Next ((w.Keys.length : Int) - 1) nonce label data:=by
    unfold XV
    rw [hat,AZ hk2]; rfl
   rw [← e]; exact hx
  have hkx : UC w ((w.Keys.length : Int) - 1) = UC (HE w v.Next nonce).1 ((w.Keys.length : Int) - 1):=by rw [a4]; rfl
  have ho2:=zT xk hx' hkx
  refine Vr (Kr _ (Zbe xk) v.Next) (By ?_ rfl)
  rw [ho2,if_neg (by simp),JI _ (show data.length ≤ 1000 by omega)]
  rfl
 obtain ⟨u,e4,_⟩:=ke hp
 refine Vr e4 (Vr (yo u) (By ?_ ?_))
 ·rw [HF,ob_,zW (Zf0 u)]; rfl
 obtain ⟨s,e5,hs⟩:=Zbo hp 908
 obtain ⟨⟨s3,k0⟩,e6,hs3,hk1,hk2⟩:=JU hp hs (n:=4) (by omega)
 obtain ⟨k,ek,hk⟩ : ∃ k : Nat,k0 = k ∧ k < 4:=⟨k0.toNat,by show k0 = _; have : 0 ≤ k0:=hk1; omega,by have : 0 ≤ k0:=hk1; have : k0 < 4:=hk2; omega⟩
 subst ek
 have ew : wr (1 + (k : Int)) = ((k + 1 : Nat) : Int):=by rw [Y4 (by omega)]; omega
 obtain ⟨r,e7,⟨x,rfl,hx⟩⟩:=Zel hp (s:=s3) hs3 u (k:=k + 1) (by omega)
 refine Vr e5 (Vr e6 ?_)
 dsimp only
 rw [ew]
 refine Vr e7 ?_
 show ((Vg ⟨x.1,x.2.1,x.2.2.1,x.2.2.2.1,x.2.2.2.2⟩).bind _) = some true
 obtain ⟨x1,x2,x3,x4,x5⟩:=x
 have hx : Fresh 0 ⟨x1,x2,x3,x4,x5⟩:=hx
 have lx:=Zbe hx.ok
 have hf:=zX hx.ok hx.head hx.told hx.gone
 rw [Zfp hx.tag] at hf
 refine Vr (Hu _ lx) ?_
 rw [hf]
 refine By (by simp) (Zgf ?_ rfl)
 by_cases h0 : ¬ 0 < x3.length
 ·rw [if_neg (show ¬ decide ((x3.length : Int) > 0) = true by simp only [decide_eq_true_eq]; omega)]; rfl
 have h0 : 0 < x3.length:=by omega
 obtain ⟨y,t,rfl⟩ : ∃ y t,x3 = y :: t:=by
  cases x3 with
  | nil=>simp at h0
  | cons y t=>exact ⟨y,t,rfl⟩
 have hi0 : idx (y :: t) (0 : Int) = some y:=rfl
 simp only [if_pos (show decide ((((y :: t).length : Nat) : Int) > 0) = true by simp),hi0,ob_]
 by_cases hb : ¬ 0 < y.Body.length
 ·rw [if_neg (show ¬ decide ((y.Body.length : Int) > 0) = true by simp only [decide_eq_true_eq]; omega)]
 have hb : 0 < y.Body.length:=by omega
 rw [if_pos (show decide ((y.Body.length : Int) > 0) = true by simp only [decide_eq_true_eq]; omega)]
 have hyb:=hx.ok.b y (List.mem_cons_self ..)
 rw [YH (by simp; omega),ob_,List.nil_append]
 have hib : idx y.Body (0 : Int) = some y.Body[0]:=by
  have:=YF y.Body 0
  rw [ge_ hb] at this
  exact this
 simp only [hib,ob_]
 have hlen:=hx.ok.h
 have hfr : ∀ y' : GRecord,qo 112 (y :: t) y' = some (y' :: t):=λy'=>by
  have h5 : (y :: t).length ≤ 12:=hlen.2.2.2.2.1
  unfold qo
  simp only
  rw [YH (by simp at h5 ⊢; omega)]; rfl
 simp only [hfr,ob_]
 generalize hy' : (⟨y.Number,y.Version,y.Nonce,y.Label,y.Body.set ((0 : Int)).toNat (y.Body[0] ^^^ 1),y.Tag⟩ : GRecord) = y'
 have n1 : y'.Number = y.Number:=by rw [← hy']
 have n2 : y'.Version = y.Version:=by rw [← hy']
 have n3 : y'.Label = y.Label:=by rw [← hy']
 have n4 : y'.Body.length = y.Body.length:=by rw [← hy']; simp
 have n5 : y'.Tag = y.Tag:=by rw [← hy']
 have hmem : y' ∈ (⟨x1,x2,y' :: t,x4,x5⟩ : GVault).Records:=List.mem_cons_self ..
 have ck : VOk ⟨x1,x2,y' :: t,x4,x5⟩:=by
  refine ⟨hx.ok.h,?_,λr hr=>?_,hx.ok.e⟩
  ·have:=hx.ok.n
   simpa [n1] using this
  ·rcases List.mem_cons.1 hr with rfl | hr
   ·rw [n1,n2,n3,n4]; exact hyb
   ·exact hx.ok.b r (List.mem_cons_of_mem _ hr)
 have ctold : ∀ r ∈ y' :: t,byC x4 r.Number = (r.Tag,true):=λr hr=>by
  rcases List.mem_cons.1 hr with rfl | hr
  ·rw [n1,n5]; exact hx.told y (List.mem_cons_self ..)
  ·exact hx.told r (List.mem_cons_of_mem _ hr)
 have cgone : ∀ n,(∀ r ∈ y' :: t,r.Number ≠ n) → (byC x4 n).2 = false:=λn h=>hx.gone n λr hr=>by
  rcases List.mem_cons.1 hr with rfl | hr
  ·rw [← n1]; exact h y' (List.mem_cons_self ..)
  ·exact h r (List.mem_cons_of_mem _ hr)
 have cf:=zX ck hx.head ctold cgone
 have ctag : ∀ r ∈ t,Xo ⟨x1,x2,y' :: t,x4,x5⟩ r = r.Tag:=λr hr=>by
  rw [← hx.tag r (List.mem_cons_of_mem _ hr)]; exact JH rfl
 have co:=Zdn ck hmem
 have cg:=tag_of ck hmem
 rw [n1] at co cg
 have lc:=Zbe ck
 have Kx : (AH ⟨x1,x2,y' :: t,x4,x5⟩).length = if Xo ⟨x1,x2,y' :: t,x4,x5⟩ y' = y.Tag then 0 else 1:=by
  unfold AH
  rw [List.length_map,List.filter_cons,n5]
  have : (t.filter λr=>!decide (Xo ⟨x1,x2,y' :: t,x4,x5⟩ r = r.Tag)) = []:=List.filter_eq_nil_iff.2 λr hr=>by simp [ctag r hr]
  rw [this]
  by_cases h : Xo ⟨x1,x2,y' :: t,x4,x5⟩ y' = y.Tag <;> simp [h]
 rw [n5] at co
 refine Vr (Hu _ lc) ?_
 refine Vr (Kr _ lc y.Number) ?_
 refine Vr (B7 _ lc y.Number) (By ?_ rfl)
 rw [cf,co,cg,if_neg (by simp),if_neg (by simp)]
 by_cases h : Xo ⟨x1,x2,y' :: t,x4,x5⟩ y' = y.Tag
 ·simp [h,Kx]
 simp [h,Kx]
end Go.Proofs.YtfhhlkkhcoaapaaGreat
