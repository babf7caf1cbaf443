/- Plain laws, no program in sight. -/
import Derived.Test.YtfhhlkkhcoaapaaGreatC4
set_option linter.unusedVariables false
set_option linter.unusedSimpArgs false
set_option maxRecDepth 20000
set_option maxHeartbeats 400000
namespace Go.Proofs.YtfhhlkkhcoaapaaGreat
open Go
open Flat (enc)
theorem ob_ {α β : Type} {a : α} {f : α → Option β} : (Option.some a).bind f = f a:=rfl
abbrev ge_:=@List.getElem?_eq_getElem
theorem om_ {p : Prop} (h : p := by omega) : p:=h
theorem Wn {i : Nat} (h : i < 9223372036854775807) : wr ((i : Int) + 1) = ((i + 1 : Nat) : Int):=by
 rw [Xi om_]; rfl

section
variable {S T : Type} {f : S → Option (Fl S T)}
theorem Zju (g : Nat → S) (m n : Nat) (hmn : m ≤ n) (h : ∀ i, m ≤ i → i < n → f (g i) = some (.nx (g (i + 1)))) : ZQ f (g m) = ZQ f (g n) := by
  induction n with
  | zero => have : m = 0 := by omega
            subst this; rfl
  | succ n ih =>
    rcases Nat.lt_or_ge m (n + 1) with h1 | h1
    · rw [ih om_ (λi h2 h3 => h i h2 om_), U8 (h n om_ om_)]
    · have : m = n + 1 := by omega
      subst this; rfl
theorem YC (g : Nat → S) (m n : Nat) (hmn : m ≤ n) {t : T} (h : ∀ i,m ≤ i → i < n → f (g i) = some (.nx (g (i + 1)))) (he : f (g n) = some (.ex t)) : ZQ f (g m) = some t:=by
 rw [Zju g m n hmn h,U7 he]
theorem HM (g : Nat → S) (p : Nat → Bool) (t : Nat → T) {e : T} (n : Nat) : ∀ (k m : Nat),m + k = n → (∀ i,m ≤ i → i < n → f (g i) = some (if p i then .ex (t i) else .nx (g (i + 1)))) → f (g n) = some (.ex e) →
  ZQ f (g m) = some (((List.range' m k).find? p).elim e t)
 | 0,m,hk,_,he=>by
  have : m = n:=by omega
  subst this
  rw [U7 he]; rfl
 | k + 1,m,hk,h,he=>by
  have h1:=h m (Nat.le_refl _) om_
  rw [List.range'_succ,List.find?_cons]
  cases hp : p m with
  | true=>rw [hp] at h1; rw [U7 h1]; rfl
  | false =>
   rw [hp] at h1
   rw [U8 h1,HM g p t n k (m + 1) om_ (λi h2 h3=>h i om_ h3) he]
end

theorem kO {T : Type} {f : Int → Option (Fl Int (Fl Unit T))} (p : Nat → Bool) {t : T} {n m : Nat} (hm : m ≤ n)
  (h : ∀ i,m ≤ i → i < n → f (i : Int) = some (if p i then .ex (.ex t) else .nx ((i + 1 : Nat) : Int))) (he : f (n : Int) = some (.ex (.nx ()))) :
  ZQ f (m : Int) = some (if (List.range' m (n - m)).any p then .ex t else .nx ()):=by
 rw [HM (λi : Nat=>(i : Int)) p (λ_=>.ex t) n (n - m) m om_ h he]
 cases hf : (List.range' m (n - m)).find? p with
 | none =>
  have : (List.range' m (n - m)).any p = false:=by
   rw [List.any_eq_false]
   rw [List.find?_eq_none] at hf
   exact hf
  rw [this]; rfl
 | some i =>
  have : (List.range' m (n - m)).any p = true:=by
   rw [List.any_eq_true]
   exact ⟨i,List.mem_of_find?_eq_some hf,List.find?_some hf⟩
  rw [this]; rfl
theorem qR {p : Nat → Bool} {m n : Nat} : (List.range' m (n - m)).any p = true ↔ ∃ i,m ≤ i ∧ i < n ∧ p i = true:=by
 rw [List.any_eq_true]
 simp only [List.mem_range'_1]
 constructor
 ·rintro ⟨i,⟨h1,h2⟩,h3⟩; exact ⟨i,h1,by omega,h3⟩
 rintro ⟨i,h1,h2,h3⟩; exact ⟨i,⟨h1,by omega⟩,h3⟩
theorem Zil {α : Type} {q : α → Bool} {l : List α} {p : Nat → Bool} (hp : ∀ i (h : i < l.length),p i = q l[i]) : (List.range' 0 (l.length - 0)).any p = l.any q:=by
 rw [Bool.eq_iff_iff,qR,List.any_eq_true]
 constructor
 ·rintro ⟨i,_,h,h3⟩; exact ⟨l[i],List.getElem_mem h,by rw [← hp i h]; exact h3⟩
 rintro ⟨x,hx,h⟩
 obtain ⟨i,hi,rfl⟩:=List.mem_iff_getElem.1 hx
 exact ⟨i,Nat.zero_le _,hi,by rw [hp i hi]; exact h⟩

theorem T9 {T α : Type} {f : Int → Option (Fl Int (Fl Unit T))} (l : List α) (q : α → Bool) {t : T} (hl : l.length < 9223372036854775807)
  (h : ∀ i (hi : i < l.length),f (i : Int) = some (if q l[i] then .ex (.ex t) else .nx (wr ((i : Int) + 1)))) (he : f (l.length : Int) = some (.ex (.nx ()))) :
  ZQ f 0 = some (if l.any q then .ex t else .nx ()):=by
 have:=kO (f:=f) (λi=>if hi : i < l.length then q l[i] else false) (t:=t) (n:=l.length) (m:=0) (Nat.zero_le _) (λi _ hi=>by
  rw [h i hi,Wn om_]; simp [hi]) he
 rw [Zil (q:=q) (λi hi=>by simp [hi])] at this
 exact this

class Wt (α : Type) [Dat α] where
 wt : α → Nat
 ln : α → Prop
 bdln : ∀ x,Dat.bd x → ln x
 wtln : ∀ x,wt x ≤ 1048576 → ln x
instance : Wt Int:=⟨λ_=>0,λ_=>True,λ_ _=>trivial,λ_ _=>trivial⟩
instance : Wt UInt8:=⟨λ_=>0,λ_=>True,λ_ _=>trivial,λ_ _=>trivial⟩
instance : Wt Bool:=⟨λ_=>0,λ_=>True,λ_ _=>trivial,λ_ _=>trivial⟩
instance : Wt Str:=⟨λs=>s.l.length,λs=>s.l.length ≤ 9223372036854775807,λ_ h=>h,λ_ h=>by omega⟩
instance {n : Nat} : Wt (Vector UInt8 n):=⟨λ_=>0,λ_=>True,λ_ _=>trivial,λ_ _=>trivial⟩
instance {n m : Nat} : Wt (Vector (Vector UInt8 m) n):=⟨λ_=>0,λ_=>True,λ_ _=>trivial,λ_ _=>trivial⟩
theorem Zj8 {α : Type} {f : α → Nat} {l : List α} {x : α} (h : x ∈ l) : f x ≤ (l.map f).sum:=by
 induction l with
 | nil=>cases h
 | cons y l ih =>
  rw [List.map_cons,List.sum_cons]
  rcases List.mem_cons.1 h with rfl | h
  ·omega
  ·have:=ih h; omega
instance {α : Type} [Dat α] [Wt α] : Wt (List α):=⟨λl=>l.length + (l.map Wt.wt).sum,λl=>l.length ≤ 9223372036854775807 ∧ ∀ x ∈ l,Wt.ln x,λ_ h=>⟨h.1,λx hx=>Wt.bdln x (h.2 x hx)⟩,
 λl h=>⟨by omega,λx hx=>Wt.wtln x (by have:=Zj8 (f:=Wt.wt) hx; omega)⟩⟩
instance {α β : Type} [Dat α] [Dat β] [Wt α] [Wt β] : Wt (α × β):=⟨λx=>Wt.wt x.1 + Wt.wt x.2,λx=>Wt.ln x.1 ∧ Wt.ln x.2,λx h=>⟨Wt.bdln x.1 h.1,Wt.bdln x.2 h.2⟩,λx h=>⟨Wt.wtln x.1 (by omega),Wt.wtln x.2 (by omega)⟩⟩
theorem AW {α : Type} [Dat α] [Wt α] {l : List α} (h : Wt.ln l) : l.length ≤ 9223372036854775807:=h.1
theorem ln_mem {α : Type} [Dat α] [Wt α] {l : List α} {x : α} (h : Wt.ln l) (hx : x ∈ l) : Wt.ln x:=h.2 x hx

@[simp] theorem Yh {α : Type} (l : List α) (i : Nat) : idx l (i : Int) = l[i]?:=by unfold idx; simp
@[simp] theorem idx_zero {α : Type} (l : List α) : idx l (0 : Int) = l[0]?:=Yh l 0
theorem Zce {T : Type} {f : Int → Option (Fl Int (Fl Unit T))} (n : Nat) (p : Nat → Bool) (t : Nat → T) (hn : n < 9223372036854775807)
  (h : ∀ i,i < n → f (i : Int) = some (if p i then .ex (.ex (t i)) else .nx (wr ((i : Int) + 1)))) (he : f (n : Int) = some (.ex (.nx ()))) (m : Nat) (hm : m ≤ n) :
  ZQ f (m : Int) = some (match (List.range' m (n - m)).find? p with | some i=>.ex (t i) | none=>.nx ()):=by
 rw [HM (λi : Nat=>(i : Int)) p (λi=>.ex (t i)) n (n - m) m om_ (λi _ hi=>by rw [h i hi,Wn om_]) he]
 cases (List.range' m (n - m)).find? p <;> rfl
theorem Ziy {T : Type} {f : Int → Option (Fl Int (Fl Unit T))} (n : Nat) (p : Nat → Bool) (t : T) (hn : n < 9223372036854775807)
  (h : ∀ i,i < n → f (i : Int) = some (if p i then .ex (.ex t) else .nx (wr ((i : Int) + 1)))) (he : f (n : Int) = some (.ex (.nx ()))) (m : Nat) (hm : m ≤ n) :
  ZQ f (m : Int) = some (if (List.range' m (n - m)).any p then .ex t else .nx ()) :=
 kO p hm (λi _ hi=>by rw [h i hi,Wn om_]) he
theorem V3 {α β S T : Type} {f : S → Option (Fl S T)} (l : List α) (pack : β → Int → S) (g : β → α → β) (b0 : β) {t : T} (hn : l.length < 9223372036854775807)
  (h : ∀ i (hi : i < l.length),f (pack ((l.take i).foldl g b0) (i : Int)) = some (.nx (pack (g ((l.take i).foldl g b0) l[i]) (wr ((i : Int) + 1))))) (he : f (pack (l.foldl g b0) (l.length : Int)) = some (.ex t)) :
  ZQ f (pack b0 0) = some t:=by
 have:=YC (f:=f) (λi : Nat=>pack ((l.take i).foldl g b0) (i : Int)) 0 l.length (Nat.zero_le _) (t:=t) (λi _ hi=>by
  rw [h i hi,Wn om_]
  congr 3
  rw [List.take_succ_eq_append_getElem hi,List.foldl_append]; rfl) (by rw [List.take_length]; exact he)
 simpa using this
theorem qy {α β : Type} (g : α → β) (l : List α) (acc : List β) : l.foldl (λb x=>b ++ [g x]) acc = acc ++ l.map g:=by
 induction l generalizing acc with
 | nil=>simp
 | cons x l ih=>simp [ih]
theorem zG {α β T : Type} {f : List β × Int → Option (Fl (List β × Int) T)} (l : List α) (g : α → β) {t : T} (hn : l.length < 9223372036854775807)
  (h : ∀ i (hi : i < l.length),f ((l.take i).map g,(i : Int)) = some (.nx ((l.take i).map g ++ [g l[i]],wr ((i : Int) + 1)))) (he : f (l.map g,(l.length : Int)) = some (.ex t)) :
  ZQ f ([],0) = some t:=by
 have e : ∀ m : List α,m.foldl (λb x=>b ++ [g x]) [] = m.map g:=λm=>by rw [qy]; rfl
 exact V3 (f:=f) l (λb i=>(b,i)) (λb x=>b ++ [g x]) [] hn (λi hi=>by simp only [e]; exact h i hi) (by simp only [e]; exact he)
theorem YA {α : Type} {by_ : Nat} {l m : List α} (h : (l.length + m.length) * by_ ≤ 140737488355328) : app by_ l m = some (l ++ m):=by unfold app; rw [if_pos h]
theorem J2 {α : Type} {l : List α} {i j : Nat} (h : i ≤ j) (h2 : j ≤ l.length) : slc l (i : Int) (j : Int) = some ((l.take j).drop i):=by
 unfold slc; rw [if_pos om_]; simp

theorem Ab {α : Type} {n : Nat} {v w : Vector α n} (h : ∀ i (hi : i < n),v[i] = w[i]) : v = w:=Vector.ext h
@[simp] theorem Qc {α : Type} {n : Nat} (v : Vector α n) (i : Nat) : Z4 v (i : Int) = v[i]?:=by unfold Z4; simp
instance : Wt GRecord:=⟨λx=>Wt.wt x.Label + Wt.wt x.Body,λx=>Wt.ln x.Label ∧ Wt.ln x.Body,λx h=>⟨Wt.bdln x.Label h.2.2.2.1,Wt.bdln x.Body h.2.2.2.2.1⟩,λx h=>⟨Wt.wtln x.Label (by omega),Wt.wtln x.Body (by omega)⟩⟩
instance : Wt GEvent:=⟨λ_=>0,λ_=>True,λ_ _=>trivial,λ_ _=>trivial⟩
instance : Wt GVault:=⟨λx=>Wt.wt x.Keys + (Wt.wt x.Records + Wt.wt x.Events),λx=>Wt.ln x.Keys ∧ Wt.ln x.Records ∧ Wt.ln x.Events,λx h=>⟨Wt.bdln x.Keys h.1,Wt.bdln x.Records h.2.2.1,Wt.bdln x.Events h.2.2.2.1⟩,
 λx h=>⟨Wt.wtln x.Keys (by omega),Wt.wtln x.Records (by omega),Wt.wtln x.Events (by omega)⟩⟩
theorem yw (n a b : Int) : X7 n a b = some (decide (a ≤ n ∧ n ≤ b)):=by
 unfold X7
 by_cases h1 : a ≤ n <;> by_cases h2 : n ≤ b <;> simp [h1,h2]
theorem Za1 (n a b : Int) : UW n a b = some (decide (a ≤ n ∧ n ≤ b)):=by
 unfold UW
 by_cases h1 : a ≤ n <;> by_cases h2 : n ≤ b <;> simp [h1,h2]
theorem z7 {α : Type} (l : List α) (p : α → Option Bool) (q : α → Bool) (L : Int → Option (Fl Int (Fl Unit Int)))
  (hL : ∀ s,L s = if (decide (s < (l.length : Int))) = true then ((idx l s).bind λx=>((p x)).bind λr=>if r = true then (some (Fl.ex (Fl.ex s))) else (some (Fl.nx (wr (s + 1))))) else (some (Fl.ex (Fl.nx ()))))
  (hl : l.length < 9223372036854775807) (hp : ∀ x ∈ l,p x = some (q x)) :
  ((ZQ L 0 : Option (Fl Unit Int)).bind λj1=>j1.el (λ_=>some (-1)) (λr=>some r)) = some (match l.findIdx? q with | some i=>(i : Int) | none=>-1):=by
 have h:=Zce (f:=L) l.length (λi=>(l[i]?.map q).getD false) (λi=>(i : Int)) hl (λi hi=>by
  rw [hL]
  simp only [Int.ofNat_lt,hi,decide_true,if_true,Yh,ge_ hi,ob_,Option.map_some,Option.getD_some,hp _ (List.getElem_mem hi)]
  split <;> rfl) (by rw [hL]; simp) 0 (Nat.zero_le _)
 have h3 : ZQ L 0 = _:=h
 rw [h3]
 have key : (List.range' 0 (l.length - 0)).find? (λi=>(l[i]?.map q).getD false) = l.findIdx? q:=by
  rw [Nat.sub_zero,← List.range_eq_range']
  clear h h3 hL hp hl
  induction l with
  | nil=>rfl
  | cons x l ih =>
   rw [List.length_cons,List.range_succ_eq_map,List.find?_cons,List.findIdx?_cons]
   simp only [List.getElem?_cons_zero,Option.map_some,Option.getD_some]
   cases q x with
   | true=>rfl
   | false =>
    simp only [Bool.false_eq_true,if_false]
    rw [List.find?_map,← ih]
    congr 1
 rw [key]
 cases l.findIdx? q <;> rfl
theorem Zeb {α : Type} (l : List α) (q : α → Bool) : decide ((match l.findIdx? q with | some i=>(i : Int) | none=>-1) ≥ 0) = l.any q:=by
 rw [Bool.eq_iff_iff,decide_eq_true_eq]
 cases h : l.findIdx? q with
 | none =>
  have:=List.findIdx?_eq_none_iff.1 h
  simp
  exact this
 | some i =>
  have h2:=List.findIdx?_eq_some_iff_getElem.1 h
  obtain ⟨hi,hq,_⟩:=h2
  simp
  exact ⟨_,List.getElem_mem hi,hq⟩
def Ww (e : GEvent) : Bool:=decide ((1 ≤ e.Kind ∧ e.Kind ≤ 4) ∧ (0 ≤ e.Number ∧ e.Number ≤ 1000000))
theorem kg (e : GEvent) : Ux e = some (Ww e):=by
 unfold Ux Ww
 simp only [Za1,ob_]
 by_cases h1 : (1 ≤ e.Kind ∧ e.Kind ≤ 4) <;> by_cases h2 : (0 ≤ e.Number ∧ e.Number ≤ 1000000) <;> simp [h1,h2]
theorem qH (e : GEvent) : Ti e = some (Ww e):=by
 unfold Ti Ww Kv
 simp only [yw,ob_]
 by_cases h1 : (1 ≤ e.Kind ∧ e.Kind ≤ 4) <;> by_cases h2 : (0 ≤ e.Number ∧ e.Number ≤ 1000000) <;> simp [h1,h2]
theorem H8 (l : List GEvent) (p : GEvent → Option Bool) (q : GEvent → Bool) (hl : l.length < 9223372036854775807) (hp : ∀ x ∈ l,p x = some (q x)) : Yn l p = some (l.any q):=by
 unfold Yn Y1
 rw [z7 l p q _ (λs=>by unfold Xt; rfl) hl hp]
 simp only [ob_,Zeb]
def Kn (l : List GRecord) : Nat → Int
 | 0=>0
 | i + 1=>(l[i]?.map (·.Number)).getD 0
def Bz (v : GVault) (r : GRecord) : Bool:=!decide ((0 : Int) ≤ r.Version ∧ r.Version ≤ (v.Keys.length : Int) - 1) || decide (32 < r.Label.length) || decide (200 < r.Body.length)
def Bg (v : GVault) (i : Nat) : Bool:=match v.Records[i]? with
 | some r=>decide (r.Number ≤ Kn v.Records i) || decide (r.Number ≥ v.Next) || Bz v r
 | none=>false
def badI (v : GVault) (i : Nat) : Bool:=match v.Records[i]? with
 | some r=>!decide (1 ≤ r.Number ∧ r.Number ≤ v.Next - 1) || (decide (0 < i) && decide (Kn v.Records i ≥ r.Number)) || Bz v r
 | none=>false
def BH (v : GVault) : Bool:=decide (1 ≤ v.Keys.length ∧ v.Keys.length ≤ 8 ∧ 1 ≤ v.Next ∧ v.Next ≤ 1000000 ∧ v.Records.length ≤ 12 ∧ v.Events.length ≤ 60)
def Z3 (v : GVault) : Bool:=BH v && !((List.range' 0 (v.Records.length - 0)).any (Bg v)) && v.Events.all Ww
theorem Zg7 (v : GVault) : (List.range' 0 (v.Records.length - 0)).any (badI v) = (List.range' 0 (v.Records.length - 0)).any (Bg v):=by
 have h : ∀ b c : Bool,(b = false ↔ c = false) → b = c:=by intro b c; cases b <;> cases c <;> simp
 apply h
 rw [List.any_eq_false,List.any_eq_false]
 simp only [List.mem_range'_1,Nat.zero_le,true_and,Nat.sub_zero,Nat.zero_add,Bool.not_eq_true]
 constructor
 ·intro hI i hi
  have h1:=hI i hi
  unfold badI Bg at *
  rw [ge_ hi] at h1 ⊢
  simp only [Bool.or_eq_false_iff,Bool.not_eq_false',decide_eq_true_eq,Bool.and_eq_false_iff,decide_eq_false_iff_not] at h1 ⊢
  refine ⟨⟨?_,by omega⟩,h1.2⟩
  cases i with
  | zero=>simp only [Kn]; omega
  | succ i =>
   rcases h1.1.2 with h2 | h2
   ·omega
   ·omega
 intro hS
 have pos : ∀ i,i < v.Records.length → 0 ≤ Kn v.Records i ∧ Kn v.Records i < (v.Records[i]?.map (·.Number)).getD 0:=by
  intro i
  induction i with
  | zero =>
   intro hi
   have h1:=hS 0 hi
   unfold Bg at h1
   rw [ge_ hi] at h1 ⊢
   simp only [Bool.or_eq_false_iff,decide_eq_false_iff_not,Option.map_some,Option.getD_some] at h1 ⊢
   have e : Kn v.Records 0 = 0:=rfl
   have h2:=h1.1.1
   rw [e] at h2 ⊢
   omega
  | succ i ih =>
   intro hi
   have h0:=ih om_
   have h1:=hS (i + 1) hi
   unfold Bg at h1
   have e : Kn v.Records (i + 1) = (v.Records[i]?.map (·.Number)).getD 0:=rfl
   rw [ge_ hi] at h1 ⊢
   simp only [Bool.or_eq_false_iff,decide_eq_false_iff_not,Option.map_some,Option.getD_some] at h1 ⊢
   rw [e] at h1 ⊢
   omega
 intro i hi
 have h1:=hS i hi
 have h2:=pos i hi
 unfold badI Bg at *
 rw [ge_ hi] at h1 h2 ⊢
 simp only [Bool.or_eq_false_iff,Bool.not_eq_false',decide_eq_true_eq,Bool.and_eq_false_iff,decide_eq_false_iff_not,Option.map_some,Option.getD_some] at h1 h2 ⊢
 exact ⟨⟨by omega,.inr om_⟩,h1.2⟩
theorem He (v : GVault) (hb : Wt.ln v) : X9 v = some (Z3 v):=by
 have hb1:=AW hb.1; have hb2:=AW hb.2.1; have hb3:=AW hb.2.2
 unfold X9
 simp only [Za1,ob_]
 by_cases hh : BH v = true
 ·have hh' : 1 ≤ v.Keys.length ∧ v.Keys.length ≤ 8 ∧ 1 ≤ v.Next ∧ v.Next ≤ 1000000 ∧ v.Records.length ≤ 12 ∧ v.Events.length ≤ 60:=by simpa [BH] using hh
  have c1 : ¬ ((v.Keys.length : Int) < 1):=by omega
  have c2 : ¬ ((v.Keys.length : Int) > 8):=by omega
  have c3 : 1 ≤ v.Next ∧ v.Next ≤ 1000000:=by omega
  have c4 : ¬ ((v.Records.length : Int) > 12):=by omega
  have c5 : ¬ ((v.Events.length : Int) > 60):=by omega
  simp only [c1,c2,c3,c4,c5,decide_false,decide_true,and_self,Bool.not_true,Bool.false_eq_true,if_false,ob_]
  have hw : wr ((v.Keys.length : Int) - 1) = (v.Keys.length : Int) - 1:=Xi om_
  have h1:=HM (f:=Qd v) (λi : Nat=>(Kn v.Records i,(i : Int))) (Bg v) (λ_=>(.ex false : Fl Unit Bool)) (e:=.nx ()) v.Records.length v.Records.length 0 om_ (λi _ hi=>by
   unfold Qd Bg
   simp only [Int.ofNat_lt,hi,decide_true,if_true,Yh,ge_ hi,ob_,Za1,hw,Wn (show i < 9223372036854775807 by omega)]
   have e : Kn v.Records (i + 1) = v.Records[i].Number:=by simp [Kn,ge_ hi]
   rw [e]
   unfold Bz
   by_cases d1 : v.Records[i].Number ≤ Kn v.Records i
   ·simp [d1]
   ·by_cases d2 : v.Records[i].Number ≥ v.Next
    ·simp [d1,d2]
    ·by_cases d3 : (0 : Int) ≤ v.Records[i].Version ∧ v.Records[i].Version ≤ (v.Keys.length : Int) - 1
     ·by_cases d4 : 32 < v.Records[i].Label.length
      ·have d4' : (v.Records[i].Label.length : Int) > 32:=by omega
       simp [d1,d2,d3,d4,d4']
      ·have d4' : ¬ ((v.Records[i].Label.length : Int) > 32):=by omega
       by_cases d5 : 200 < v.Records[i].Body.length
       ·have d5' : (v.Records[i].Body.length : Int) > 200:=by omega
        simp [d1,d2,d3,d4,d4',d5,d5']
       ·have d5' : ¬ ((v.Records[i].Body.length : Int) > 200):=by omega
        simp [d1,d2,d3,d4,d4',d5,d5']
     ·simp [d1,d2,d3]) (by unfold Qd; simp)
  have h2 : ZQ (Qd v) (0,0) = _:=h1
  rw [h2]
  have h3:=T9 (f:=Ko v) v.Events (λe=>!Ww e) (t:=false) om_ (λi hi=>by
   unfold Ko
   simp only [Int.ofNat_lt,hi,decide_true,if_true,Yh,ge_ hi,ob_,kg]
   cases Ww v.Events[i] <;> simp) (by unfold Ko; simp)
  rw [h3]
  unfold Z3
  rw [hh,Nat.sub_zero]
  cases hf : (List.range' 0 v.Records.length).find? (Bg v) with
  | none =>
   have : (List.range' 0 v.Records.length).any (Bg v) = false:=by
    rw [List.any_eq_false]; exact List.find?_eq_none.1 hf
   rw [this,List.any_eq_not_all_not]
   simp only [Bool.not_not]
   cases v.Events.all Ww <;> rfl
  | some i =>
   have : (List.range' 0 v.Records.length).any (Bg v) = true:=by
    rw [List.any_eq_true]; exact ⟨i,List.mem_of_find?_eq_some hf,List.find?_some hf⟩
   rw [this]; rfl
 have hf : BH v = false:=by simpa using hh
 unfold Z3
 rw [hf]
 have hh' : ¬ (1 ≤ v.Keys.length ∧ v.Keys.length ≤ 8 ∧ 1 ≤ v.Next ∧ v.Next ≤ 1000000 ∧ v.Records.length ≤ 12 ∧ v.Events.length ≤ 60):=by simpa [BH] using hf
 by_cases c1 : ((v.Keys.length : Int) < 1)
 ·simp [c1]
 by_cases c2 : ((v.Keys.length : Int) > 8)
 ·simp [c1,c2]
 by_cases c3 : 1 ≤ v.Next ∧ v.Next ≤ 1000000
 ·by_cases c4 : ((v.Records.length : Int) > 12)
  ·simp [c1,c2,c3,c4]
  have c5 : ((v.Events.length : Int) > 60):=by omega
  simp [c1,c2,c3,c4,c5]
 simp [c1,c2,c3]
theorem QN (v : GVault) (hb : Wt.ln v) : Wx v = some (Z3 v):=by
 have hb1:=AW hb.1; have hb2:=AW hb.2.1; have hb3:=AW hb.2.2
 unfold Wx Yb
 simp only [yw,ob_]
 by_cases hh : BH v = true
 ·have hh' : 1 ≤ v.Keys.length ∧ v.Keys.length ≤ 8 ∧ 1 ≤ v.Next ∧ v.Next ≤ 1000000 ∧ v.Records.length ≤ 12 ∧ v.Events.length ≤ 60:=by simpa [BH] using hh
  have c1 : (1 : Int) ≤ v.Keys.length ∧ (v.Keys.length : Int) ≤ 8:=by omega
  have c3 : 1 ≤ v.Next ∧ v.Next ≤ 1000000:=by omega
  have c4 : ¬ ((v.Records.length : Int) > 12):=by omega
  have c5 : ¬ ((v.Events.length : Int) > 60):=by omega
  simp only [c1,c3,c4,c5,decide_false,decide_true,and_self,Bool.not_true,Bool.false_eq_true,if_false,ob_]
  have hw : wr ((v.Keys.length : Int) - 1) = (v.Keys.length : Int) - 1:=Xi om_
  have hw2 : wr (v.Next - 1) = v.Next - 1:=Xi om_
  have h1:=Ziy (f:=UE v) v.Records.length (badI v) false om_ (λi hi=>by
   unfold UE badI Yb
   simp only [Int.ofNat_lt,hi,decide_true,if_true,Yh,ge_ hi,ob_,yw,hw,hw2]
   unfold Bz
   by_cases d1 : 1 ≤ v.Records[i].Number ∧ v.Records[i].Number ≤ v.Next - 1
   ·have key : (if decide ((i : Int) > 0) = true then (idx v.Records (wr ((i : Int) - 1))).bind λx=>some (decide (x.Number ≥ v.Records[i].Number)) else some false) = some (decide (0 < i) && decide (Kn v.Records i ≥ v.Records[i].Number)):=by
     cases i with
     | zero=>simp
     | succ i =>
      have e1 : wr (((i + 1 : Nat) : Int) - 1) = (i : Int):=by rw [Xi om_]; omega
      have hi' : i < v.Records.length:=by omega
      have e2 : Kn v.Records (i + 1) = v.Records[i].Number:=by simp [Kn,ge_ hi']
      have e3 : ((i + 1 : Nat) : Int) > 0:=by omega
      simp only [e1,e2,e3,decide_true,if_true,Yh,ge_ hi',ob_]
      simp
    simp only [d1,decide_true,and_self,Bool.not_true,Bool.false_eq_true,if_false,key,ob_,Bool.false_or]
    by_cases d2 : (decide (0 < i) && decide (Kn v.Records i ≥ v.Records[i].Number)) = true
    ·simp [d2]
    ·have d2 : (decide (0 < i) && decide (Kn v.Records i ≥ v.Records[i].Number)) = false:=by simpa using d2
     rw [d2]
     by_cases d3 : (0 : Int) ≤ v.Records[i].Version ∧ v.Records[i].Version ≤ (v.Keys.length : Int) - 1
     ·by_cases d4 : 32 < v.Records[i].Label.length
      ·have d4' : (v.Records[i].Label.length : Int) > 32:=by omega
       simp [d3,d4,d4']
      ·have d4' : ¬ ((v.Records[i].Label.length : Int) > 32):=by omega
       by_cases d5 : 200 < v.Records[i].Body.length
       ·have d5' : (v.Records[i].Body.length : Int) > 200:=by omega
        simp [d3,d4,d4',d5,d5']
       ·have d5' : ¬ ((v.Records[i].Body.length : Int) > 200):=by omega
        simp [d3,d4,d4',d5,d5']
     ·simp [d3]
   ·simp [d1]) (by unfold UE; simp) 0 (Nat.zero_le _)
  have h2 : ZQ (UE v) 0 = _:=h1
  rw [h2,Zg7,H8 v.Events _ (λe=>!Ww e) om_ (λx _=>by unfold Tl; rw [qH]; rfl)]
  have ha : (v.Events.any λe=>!Ww e) = !(v.Events.all Ww):=by rw [List.any_eq_not_all_not]; simp
  unfold Z3
  rw [hh,ha]
  generalize (List.range' 0 (v.Records.length - 0)).any (Bg v) = z
  cases z <;> simp [Fl.el]
 have hf : BH v = false:=by simpa using hh
 unfold Z3
 rw [hf]
 have hh' : ¬ (1 ≤ v.Keys.length ∧ v.Keys.length ≤ 8 ∧ 1 ≤ v.Next ∧ v.Next ≤ 1000000 ∧ v.Records.length ≤ 12 ∧ v.Events.length ≤ 60):=by simpa [BH] using hf
 by_cases c1 : (1 : Int) ≤ v.Keys.length ∧ (v.Keys.length : Int) ≤ 8
 ·by_cases c3 : 1 ≤ v.Next ∧ v.Next ≤ 1000000
  ·by_cases c4 : ((v.Records.length : Int) > 12)
   ·simp [c1,c3,c4]
   have c5 : ((v.Events.length : Int) > 60):=by omega
   simp [c1,c3,c4,c5]
  simp [c1,c3]
 simp [c1]
def QP (q : GRecord → Bool) (l : List GRecord) : List Int:=(l.filter q).map (·.Number)
theorem Bx (q : GRecord → Bool) (l : List GRecord) (i : Nat) (hi : i < l.length) : QP q (l.take (i + 1)) = QP q (l.take i) ++ (if q l[i] then [l[i].Number] else []):=by
 unfold QP
 rw [List.take_succ_eq_append_getElem hi,List.filter_append,List.map_append]
 cases h : q l[i] <;> simp [List.filter,h]
theorem AP (q : GRecord → Bool) (l : List GRecord) : (QP q l).length ≤ l.length:=by
 unfold QP; rw [List.length_map]; exact List.length_filter_le _ _
theorem yP (v : GVault) (p : GRecord → Option Bool) (q : GRecord → Bool) (hl : v.Records.length ≤ 12) (hp : ∀ x ∈ v.Records,p x = some (q x)) : XW v p = some (QP q v.Records):=by
 unfold XW
 have h:=YC (f:=XG v p) (λi : Nat=>((i : Int),QP q (v.Records.take i))) 0 v.Records.length (Nat.zero_le _) (t:=QP q v.Records) (λi _ hi=>by
  unfold XG
  have hn:=AP q (v.Records.take i)
  rw [List.length_take] at hn
  simp only [Int.ofNat_lt,hi,decide_true,if_true,Yh,ge_ hi,ob_,hp _ (List.getElem_mem hi),Wn (show i < 9223372036854775807 by omega),Bx q v.Records i hi]
  cases q v.Records[i] with
  | true =>
   simp only [if_true]
   rw [YA (by simp; omega)]
   rfl
  | false=>simp) (by unfold XG; simp)
 have h2 : ZQ (XG v p) (0,[]) = _:=h
 rw [h2]; rfl
theorem YQ {v : GVault} (h : Z3 v = true) : 1 ≤ v.Keys.length ∧ v.Keys.length ≤ 8 ∧ 1 ≤ v.Next ∧ v.Next ≤ 1000000 ∧ v.Records.length ≤ 12 ∧ v.Events.length ≤ 60:=by
 unfold Z3 BH at h
 simp only [Bool.and_eq_true,decide_eq_true_eq] at h
 exact h.1.1
def Hu (v : GVault) (r : GRecord) : Bool:=r.Version != (v.Keys.length : Int) - 1
def Zc3 (v : GVault) : List Int × Int:=if Z3 v then (QP (Hu v) v.Records,0) else ([],1)
theorem Hc (v : GVault) (hb : Wt.ln v) : Vz v = some (Zc3 v):=by
 unfold Vz Zc3
 rw [QN v hb]
 cases hv : Z3 v with
 | false=>simp
 | true =>
  obtain ⟨h1,h2,h3,h4,h5,h6⟩:=YQ hv
  simp only [ob_,Bool.not_true,Bool.false_eq_true,if_false]
  rw [yP v _ (Hu v) h5 (λx _=>by
   unfold VI Yb Hu
   simp [Xi (x:=(v.Keys.length : Int) - 1) om_])]
  rfl
theorem zT (v : GVault) (hb : Wt.ln v) : UF v = some (Zc3 v):=by
 unfold UF Zc3
 rw [He v hb]
 cases hv : Z3 v with
 | false=>simp
 | true =>
  obtain ⟨h1,h2,h3,h4,h5,h6⟩:=YQ hv
  have hw : wr ((v.Keys.length : Int) - 1) = (v.Keys.length : Int) - 1:=Xi om_
  simp only [ob_,Bool.not_true,Bool.false_eq_true,if_false]
  have h:=YC (f:=WY v) (λi : Nat=>(QP (Hu v) (v.Records.take i),(i : Int))) 0 v.Records.length (Nat.zero_le _) (t:=QP (Hu v) v.Records) (λi _ hi=>by
   unfold WY
   have hn:=AP (Hu v) (v.Records.take i)
   rw [List.length_take] at hn
   simp only [Int.ofNat_lt,hi,decide_true,if_true,Yh,ge_ hi,ob_,hw,Wn (show i < 9223372036854775807 by omega),Bx (Hu v) v.Records i hi]
   have e : (v.Records[i].Version != (v.Keys.length : Int) - 1) = Hu v v.Records[i]:=rfl
   rw [e]
   cases Hu v v.Records[i] with
   | true =>
    simp only [if_true]
    rw [YA (by simp; omega)]
    rfl
   | false=>simp) (by unfold WY; simp)
  have h2 : ZQ (WY v) ([],0) = _:=h
  rw [h2]; rfl
theorem Zht (a b : List UInt8) : decide (a = b) = (a == b):=by rw [Bool.eq_iff_iff]; simp
theorem Zbh (a b : List UInt8) : Kk a b = some (a == b):=by
 unfold Kk
 rw [← Zht]
 congr 1
 rw [decide_eq_decide]
 constructor
 ·intro h; exact Str.mk.inj h
 intro h; rw [h]
theorem Zdq (a b : List UInt8) (h : a.length ≤ 9223372036854775807) : TR a b = some (a == b):=by
 unfold TR
 by_cases hl : a.length = b.length
 ·have hne : ((a.length : Int) != (b.length : Int)) = false:=by simp [hl]
  have h1:=kO (f:=V8 a b) (λi=>(a[i]? != b[i]?)) (t:=false) (n:=a.length) (m:=0) (Nat.zero_le _) (λi _ hi=>by
   unfold V8
   have hi' : i < b.length:=by omega
   simp only [Int.ofNat_lt,hi,decide_true,if_true,Yh,ge_ hi,ge_ hi',ob_,Wn (show i < 9223372036854775807 by omega)]
   have e : (some a[i] != some b[i]) = (a[i] != b[i]):=by
    rw [Bool.eq_iff_iff]; simp
   rw [e]
   split <;> rfl) (by unfold V8; simp)
  have h2 : ZQ (V8 a b) 0 = _:=h1
  rw [hne,h2]
  simp only [Bool.false_eq_true,if_false,ob_]
  by_cases hab : a = b
  ·subst hab
   have : ((List.range' 0 (a.length - 0)).any λi=>a[i]? != a[i]?) = false:=by rw [List.any_eq_false]; intro i _; simp
   rw [this]; simp [Fl.el]
  have : ((List.range' 0 (a.length - 0)).any λi=>a[i]? != b[i]?) = true:=by
   rw [qR]
   apply Classical.byContradiction
   intro hn
   apply hab
   apply List.ext_getElem?
   intro i
   by_cases hi : i < a.length
   ·apply Classical.byContradiction
    intro hne2
    exact hn ⟨i,Nat.zero_le _,hi,by simpa using hne2⟩
   ·rw [List.getElem?_eq_none om_,List.getElem?_eq_none om_]
  rw [this]
  have : (a == b) = false:=by simpa using hab
  rw [this]; simp [Fl.el]
 have hne : ((a.length : Int) != (b.length : Int)) = true:=by simp; omega
 rw [hne]
 have : (a == b) = false:=by simp; intro h; exact hl (by rw [h])
 rw [this]; rfl
def yG (v : GVault) (lab : List UInt8) : List Int × Int:=if !Z3 v then ([],1) else if 32 < lab.length then ([],2) else (QP (λr=>r.Label == lab) v.Records,0)
theorem Bi (v : GVault) (hb : Wt.ln v) (lab : List UInt8) : WV v lab = some (yG v lab):=by
 unfold WV yG
 rw [QN v hb]
 cases hv : Z3 v with
 | false=>simp
 | true =>
  obtain ⟨h1,h2,h3,h4,h5,h6⟩:=YQ hv
  simp only [ob_,Bool.not_true,Bool.false_eq_true,if_false]
  by_cases hl : 32 < lab.length
  ·have hl' : (lab.length : Int) > 32:=by omega
   simp [hl,hl']
  ·have hl' : ¬ ((lab.length : Int) > 32):=by omega
   simp only [hl',decide_false,Bool.false_eq_true,if_false,hl]
   rw [yP v _ (λr=>r.Label == lab) h5 (λx _=>by unfold Wj; rw [Zbh]; rfl)]
   rfl
theorem Bj (v : GVault) (hb : Wt.ln v) (lab : List UInt8) : WQ v lab = some (yG v lab):=by
 unfold WQ yG
 rw [He v hb]
 cases hv : Z3 v with
 | false=>simp
 | true =>
  obtain ⟨h1,h2,h3,h4,h5,h6⟩:=YQ hv
  simp only [ob_,Bool.not_true,Bool.false_eq_true,if_false]
  by_cases hl : 32 < lab.length
  ·have hl' : (lab.length : Int) > 32:=by omega
   simp [hl,hl']
  ·have hl' : ¬ ((lab.length : Int) > 32):=by omega
   simp only [hl',decide_false,Bool.false_eq_true,if_false,hl]
   have h:=YC (f:=XR v lab) (λi : Nat=>(QP (λr=>r.Label == lab) (v.Records.take i),(i : Int))) 0 v.Records.length (Nat.zero_le _) (t:=QP (λr=>r.Label == lab) v.Records) (λi _ hi=>by
    unfold XR
    have hn:=AP (λr=>r.Label == lab) (v.Records.take i)
    rw [List.length_take] at hn
    have hr : Wt.ln v.Records[i]:=ln_mem hb.2.1 (List.getElem_mem hi)
    simp only [Int.ofNat_lt,hi,decide_true,if_true,Yh,ge_ hi,ob_,Zdq _ _ (AW hr.1),Wn (show i < 9223372036854775807 by omega),Bx _ v.Records i hi]
    cases v.Records[i].Label == lab with
    | true =>
     simp only [if_true]
     rw [YA (by simp; omega)]
     rfl
    | false=>simp) (by unfold XR; simp)
   have h2 : ZQ (XR v lab) ([],0) = _:=h
   rw [h2]; rfl
theorem yI (a : Nat) (h : a < 9223372036854775808) : (BitVec.ofInt 64 (a : Int)).toNat = a:=by
 rw [BitVec.toNat_ofInt]
 omega
theorem BE (a b : Nat) (ha : a < 9223372036854775808) (hb : b < 9223372036854775808) : yx (a : Int) (b : Int) = ((a ^^^ b : Nat) : Int):=by
 unfold yx
 rw [BitVec.toNat_xor,yI a ha,yI b hb]
 have : a ^^^ b < 2 ^ 63:=Nat.xor_lt_two_pow ha hb
 exact Xi om_
theorem Zi3 (a b : Nat) (ha : a < 9223372036854775808) (hb : b < 9223372036854775808) : JG (a : Int) (b : Int) = ((a &&& b : Nat) : Int):=by
 unfold JG
 rw [BitVec.toNat_and,yI a ha,yI b hb]
 have : a &&& b < 2 ^ 63:=Nat.and_lt_two_pow _ hb
 exact Xi om_
theorem Zde (a i : Nat) (hi : i ≤ 63) (h : a <<< i < 9223372036854775808) : qq (a : Int) (i : Int) = ((a <<< i : Nat) : Int):=by
 unfold qq
 rw [show min ((i : Int)).toNat 64 = i by omega]
 have : ((a : Int) * 2 ^ i) = ((a <<< i : Nat) : Int):=by rw [Nat.shiftLeft_eq]; simp
 rw [this]
 generalize a <<< i = x at h ⊢
 exact Xi om_
theorem Zcj (a i : Nat) (hi : i ≤ 63) : Vj (a : Int) (i : Int) = ((a >>> i : Nat) : Int):=by
 unfold Vj
 rw [show min ((i : Int)).toNat 64 = i by omega,Nat.shiftRight_eq_div_pow,Int.fdiv_eq_ediv_of_nonneg _ (by exact_mod_cast Nat.zero_le _)]
 simp
theorem Za3 (a i : Nat) : ((a >>> i) &&& 1 = 1) ↔ a.testBit i = true:=by
 rw [Nat.testBit,Nat.and_comm]
 have h:=Nat.and_one_is_mod (a >>> i)
 rw [Nat.and_comm] at h
 rw [h]
 rcases Nat.mod_two_eq_zero_or_one (a >>> i) with h | h <;> simp [h]
theorem Zib (a : Nat) : Int.tmod (a : Int) 2 = ((a % 2 : Nat) : Int):=by
 rw [Int.tmod_eq_emod_of_nonneg om_]; simp
theorem Zhj (a : Nat) : Int.tdiv (a : Int) 2 = ((a / 2 : Nat) : Int):=by
 rw [Int.tdiv_eq_ediv_of_nonneg om_]; simp
theorem Zfj (a : Nat) (h : a < 9223372036854775808) : wr (a : Int) = (a : Int):=Xi om_
theorem Zei (a : Nat) (h : a < 9223372036854775808) : IntKind.u64.wrap (a : Int) = (a : Int):=by
 simp only [IntKind.wrap,IntKind.bits,IntKind.signed]
 simp
 omega

def XH (m deg : Nat) : Nat → Nat → Nat
 | 0,a=>a
 | k + 1,a=>XH m deg k (if a.testBit (deg + k) then a ^^^ (m <<< k) else a)
theorem BB {m k n : Nat} (h : m < 2 ^ n) : m <<< k < 2 ^ (n + k):=by
 rw [Nat.shiftLeft_eq,Nat.pow_add]
 exact Nat.mul_lt_mul_of_pos_right h (Nat.two_pow_pos _)
theorem Zao {a n : Nat} (h : a < 2 ^ (n + 1)) (hb : a.testBit n = false) : a < 2 ^ n:=by
 apply Nat.lt_pow_two_of_testBit
 intro i hi
 rcases Nat.eq_or_lt_of_le hi with rfl | hi
 ·exact hb
 exact Nat.testBit_lt_two_pow (Nat.lt_of_lt_of_le h (Nat.pow_le_pow_right om_ hi))
theorem Zf2 {m d : Nat} (h1 : 2 ^ d ≤ m) (h2 : m < 2 ^ (d + 1)) : m.testBit d = true:=by
 rw [Nat.testBit,Nat.shiftRight_eq_div_pow]
 have : m / 2 ^ d = 1:=by
  apply Nat.div_eq_of_lt_le
  ·simpa using h1
  ·rw [Nat.pow_succ] at h2; omega
 rw [this]; rfl
theorem Zjh {m d k a : Nat} (h1 : 2 ^ d ≤ m) (h2 : m < 2 ^ (d + 1)) (ha : a < 2 ^ (d + (k + 1))) (hb : a.testBit (d + k) = true) : a ^^^ (m <<< k) < 2 ^ (d + k):=by
 have hm : m <<< k < 2 ^ (d + (k + 1)):=by have:=BB (k:=k) h2; rwa [show d + 1 + k = d + (k + 1) by omega] at this
 refine Zao (Nat.xor_lt_two_pow (by rwa [show d + k + 1 = d + (k + 1) by omega]) (by rwa [show d + k + 1 = d + (k + 1) by omega])) ?_
 rw [Nat.testBit_xor,hb,Nat.testBit_shiftLeft]
 simp [Zf2 h1 h2]
theorem zl {m d : Nat} (h1 : 2 ^ d ≤ m) (h2 : m < 2 ^ (d + 1)) : ∀ (k a : Nat),a < 2 ^ (d + k) → XH m d k a < 2 ^ d
 | 0,a,h=>by simpa [XH] using h
 | k + 1,a,h=>by
  unfold XH
  cases hb : a.testBit (d + k) with
  | true=>simp only [if_true]; exact zl h1 h2 k _ (Zjh h1 h2 h hb)
  | false=>simp only [Bool.false_eq_true,if_false]; exact zl h1 h2 k a (Zao h hb)
theorem JL (m d : Nat) : ∀ (k a b : Nat),XH m d k (a ^^^ b) = XH m d k a ^^^ XH m d k b
 | 0,_,_=>rfl
 | k + 1,a,b=>by
  simp only [XH]
  rw [Nat.testBit_xor]
  cases a.testBit (d + k) <;> cases b.testBit (d + k) <;> simp only [Bool.xor_false,Bool.false_xor,Bool.xor_self,Bool.xor_true,Bool.not_false,Bool.not_true,Bool.false_eq_true,if_true,if_false]
  ·exact JL m d k a b
  ·rw [Nat.xor_assoc]; exact JL m d k a _
  ·rw [← JL m d k]; congr 1; rw [Nat.xor_assoc,Nat.xor_comm b,← Nat.xor_assoc]
  ·rw [← JL m d k]; congr 1
   rw [Nat.xor_assoc,← Nat.xor_assoc (m <<< k),Nat.xor_comm (m <<< k) b,Nat.xor_assoc,Nat.xor_self,Nat.xor_zero]
theorem Q6 {m d : Nat} : ∀ (k a : Nat),a < 2 ^ d → XH m d k a = a
 | 0,_,_=>rfl
 | k + 1,a,h=>by
  unfold XH
  rw [Nat.testBit_lt_two_pow (Nat.lt_of_lt_of_le h (Nat.pow_le_pow_right (by omega) (by omega)))]
  simp only [Bool.false_eq_true,if_false]
  exact Q6 k a h
theorem Zae {m d k a : Nat} (h : a < 2 ^ (d + k)) : XH m d (k + 1) a = XH m d k a:=by
 conv=>lhs; unfold XH
 rw [Nat.testBit_lt_two_pow h]; rfl
theorem Hh (m d : Nat) : ∀ (k x : Nat),XH m d (k + 1) (x <<< 1) = (if ((XH m d k x) <<< 1).testBit d then ((XH m d k x) <<< 1) ^^^ m else (XH m d k x) <<< 1)
 | 0,x=>by simp [XH]
 | k + 1,x=>by
  conv=>lhs; unfold XH
  conv=>rhs; unfold XH
  have e : (x <<< 1).testBit (d + (k + 1)) = x.testBit (d + k):=by
   rw [Nat.testBit_shiftLeft]
   have : d + (k + 1) ≥ 1:=by omega
   simp only [this,decide_true,Bool.true_and]
   congr 1
  rw [e]
  cases x.testBit (d + k) with
  | false=>simp only [Bool.false_eq_true,if_false]; exact Hh m d k x
  | true =>
   simp only [if_true]
   have e2 : x <<< 1 ^^^ m <<< (k + 1) = (x ^^^ m <<< k) <<< 1:=by
    rw [Nat.shiftLeft_xor_distrib,← Nat.shiftLeft_add]
   rw [e2]
   exact Hh m d k _

def lenN (n : Nat) : Nat:=if n = 0 then 0 else n.log2 + 1
theorem v_rest (a m d : Nat) (hd : d ≤ 15) (ha : a < 2 ^ 16) (hm : m < 2 ^ 20) : KH (a : Int) (m : Int) (d : Int) = some ((XH m d (16 - d) a : Nat) : Int):=by
 have key : ∀ (k a : Nat),d + k ≤ 16 → a < 2 ^ 40 → ZQ (Q7 (m : Int) (d : Int)) ((a : Int),((d + k : Nat) : Int) - 1) = some ((XH m d k a : Nat) : Int):=by
  intro k
  induction k with
  | zero =>
   intro a _ _
   rw [U7 (t:=(a : Int))]
   ·rfl
   ·unfold Q7
    have : ¬ (((d + 0 : Nat) : Int) - 1 ≥ (d : Int)):=by omega
    simp only [this,decide_false,Bool.false_eq_true,if_false]
  | succ k ih =>
   intro a hk ha
   have e0 : ((d + (k + 1) : Nat) : Int) - 1 = ((d + k : Nat) : Int):=by omega
   have hsh : m <<< k < 2 ^ (20 + k):=BB hm
   have hsh2 : m <<< k < 2 ^ 40:=Nat.lt_of_lt_of_le hsh (Nat.pow_le_pow_right om_ om_)
   have hst : Q7 (m : Int) (d : Int) ((a : Int),((d + (k + 1) : Nat) : Int) - 1) = some (.nx (((if a.testBit (d + k) then a ^^^ (m <<< k) else a : Nat) : Int),((d + k : Nat) : Int) - 1)):=by
    rw [e0]
    unfold Q7
    have c1 : ((d + k : Nat) : Int) ≥ (d : Int):=by omega
    have c2 : Wy ((d + k : Nat) : Int) = some ():=by unfold Wy; rw [if_pos om_]
    have c3 : wr (((d + k : Nat) : Int) - (d : Int)) = ((k : Nat) : Int):=by rw [show ((d + k : Nat) : Int) - (d : Int) = ((k : Nat) : Int) by omega,Zfj _ om_]
    have c4 : Wy ((k : Nat) : Int) = some ():=by unfold Wy; rw [if_pos om_]
    have c5 : wr (((d + k : Nat) : Int) - 1) = ((d + k : Nat) : Int) - 1:=Xi om_
    simp only [c1,decide_true,if_true,c2,c3,c4,c5,ob_]
    have c6 : JG (Vj (a : Int) ((d + k : Nat) : Int)) 1 = (((a >>> (d + k)) &&& 1 : Nat) : Int):=by
     rw [Zcj a (d + k) om_]
     exact Zi3 _ 1 (Nat.lt_of_le_of_lt (Nat.shiftRight_le _ _) om_) om_
    rw [c6,Zde m k om_ om_,BE a _ om_ om_]
    cases hb : a.testBit (d + k) with
    | true =>
     have:=(Za3 a (d + k)).2 hb
     rw [this]; rfl
    | false =>
     have : ¬ ((a >>> (d + k)) &&& 1 = 1):=λh=>by rw [(Za3 a (d + k)).1 h] at hb; cases hb
     have h2 : (((((a >>> (d + k)) &&& 1 : Nat) : Int)) == 1) = false:=by
      rw [beq_eq_false_iff_ne]; omega
     rw [h2]; rfl
   rw [U8 hst,ih _ om_ ?_]
   ·conv=>rhs; unfold XH
   ·split
    ·exact Nat.xor_lt_two_pow ha hsh2
    ·exact ha
 unfold KH
 have:=key (16 - d) a om_ om_
 rw [show ((d + (16 - d) : Nat) : Int) - 1 = 15 by omega] at this
 rw [this]; rfl

def yd : Nat → Nat → Nat → Nat
 | 0,_,_=>0
 | n + 1,a,b=>(if b % 2 = 1 then a else 0) ^^^ yd n (a <<< 1) (b / 2)
theorem yF : ∀ (n a : Nat),yd n a 0 = 0
 | 0,_=>rfl
 | n + 1,a=>by simp [yd,yF n]
theorem Zfd : ∀ (n a b p : Nat),a < 2 ^ p → yd n a b < 2 ^ (p + n)
 | 0,_,_,_,_=>by simp [yd]; exact Nat.two_pow_pos _
 | n + 1,a,b,p,h=>by
  unfold yd
  have h1 : a <<< 1 < 2 ^ (p + 1):=BB h
  have h2:=Zfd n (a <<< 1) (b / 2) (p + 1) h1
  rw [show p + 1 + n = p + (n + 1) by omega] at h2
  refine Nat.xor_lt_two_pow ?_ h2
  have h3 : 2 ^ p ≤ 2 ^ (p + (n + 1)):=Nat.pow_le_pow_right om_ om_
  have h4:=Nat.two_pow_pos (p + (n + 1))
  split <;> omega
def prC : Nat → Nat → Nat → Nat
 | 0,_,_=>0
 | i + 1,a,b=>prC i a b ^^^ (if b.testBit i then a <<< i else 0)
theorem Zdk : ∀ (n a b : Nat),prC (n + 1) a b = (if b % 2 = 1 then a else 0) ^^^ prC n (a <<< 1) (b / 2)
 | 0,a,b=>by
  simp only [prC,Nat.zero_xor,Nat.xor_zero,Nat.shiftLeft_zero]
  have : b.testBit 0 = decide (b % 2 = 1):=by simp [Nat.testBit_zero]
  rw [this]; simp
 | n + 1,a,b=>by
  conv=>lhs; unfold prC
  rw [Zdk n a b]
  conv=>rhs; unfold prC
  rw [← Nat.xor_assoc]
  congr 1
  rw [Nat.testBit_succ,← Nat.shiftLeft_add,Nat.add_comm 1 n]
theorem Zhw : ∀ (n a b : Nat),prC n a b = yd n a b
 | 0,_,_=>rfl
 | n + 1,a,b=>by rw [Zdk,Zhw n]; rfl
theorem Zea (a b : Nat) (h : a < 256) : ∀ i,i ≤ 8 → prC i a b < 2 ^ 16
 | 0,_=>by simp [prC]
 | i + 1,hi=>by
  unfold prC
  have h1 : a <<< i < 2 ^ (8 + i):=BB h
  have h2 : 2 ^ (8 + i) ≤ 2 ^ 16:=Nat.pow_le_pow_right om_ om_
  refine Nat.xor_lt_two_pow (Zea a b h i om_) ?_
  split
  ·omega
  ·omega
def YK (m : Nat) (a b : UInt8) : UInt8:=ZC ((XH m 8 8 (yd 8 a.toNat b.toNat) : Nat) : Int)
theorem Ki (m : Nat) (hm : m < 512) (a b : UInt8) : YP (m : Int) a b = some (YK m a b):=by
 have ha : a.toNat < 256:=a.toNat_lt
 have hb : b.toNat < 256:=b.toNat_lt
 have h:=YC (f:=WC a b) (λi : Nat=>(((prC i a.toNat b.toNat : Nat) : Int),(i : Int))) 0 8 (Nat.zero_le _) (t:=((prC 8 a.toNat b.toNat : Nat) : Int)) (λi _ hi=>by
  unfold WC
  have c1 : ((i : Int) < 8):=by omega
  have c2 : Wy (i : Int) = some ():=by unfold Wy; rw [if_pos om_]
  have c3 : prC i a.toNat b.toNat < 2 ^ 16:=Zea _ _ ha i om_
  have c4 : a.toNat <<< i < 2 ^ (8 + i):=BB ha
  have c5 : 2 ^ (8 + i) ≤ 2 ^ 16:=Nat.pow_le_pow_right om_ om_
  have c6 : (((kW b (i : Int)) &&& 1) == 1) = b.toNat.testBit i:=by
   have e1 : (kW b (i : Int)).toNat = b.toNat >>> i:=by
    unfold kW ZC
    rw [show min ((i : Int)).toNat 8 = i by omega,Int.fdiv_eq_ediv_of_nonneg _ (by exact_mod_cast Nat.zero_le _)]
    have : ((b.toNat : Int) / 2 ^ i) = ((b.toNat >>> i : Nat) : Int):=by rw [Nat.shiftRight_eq_div_pow]; simp
    rw [this]
    have h3 : b.toNat >>> i ≤ b.toNat:=Nat.shiftRight_le _ _
    generalize b.toNat >>> i = q at h3 ⊢
    have h4 : (((q : Nat) : Int) % 256).toNat = q:=by omega
    rw [h4]
    simp
    omega
   rw [Bool.eq_iff_iff,beq_iff_eq,← Za3,← UInt8.toNat_inj,UInt8.toNat_and,e1]
   simp
  simp only [c1,decide_true,if_true,c2,ob_,c6,Wn (show i < 9223372036854775807 by omega)]
  rw [Zde _ i om_ om_,BE _ _ om_ om_]
  cases hbit : b.toNat.testBit i with
  | true=>simp [prC,hbit]
  | false=>simp [prC,hbit]) (by unfold WC; simp)
 have h2 : ZQ (WC a b) (0,0) = _:=h
 unfold YP
 rw [h2]
 simp only [ob_]
 have h3:=v_rest (prC 8 a.toNat b.toNat) m 8 om_ (Zea _ _ ha 8 om_) om_
 have h4 : KH ((prC 8 a.toNat b.toNat : Nat) : Int) (m : Int) 8 = _:=h3
 rw [h4,Zhw]
 rfl
theorem A0 (m : Nat) (hm : m < 512) (hm2 : 256 ≤ m) (a b : UInt8) : XQ (m : Int) a b = some (YK m a b):=by
 have ha : a.toNat < 256:=a.toNat_lt
 have hb : b.toNat < 256:=b.toNat_lt
 have h1 : 2 ^ 8 ≤ m:=hm2
 have h2 : m < 2 ^ (8 + 1):=hm
 have hR : ∀ i,i ≤ 8 → XH m 8 8 (a.toNat <<< i) < 256:=λi hi=>zl h1 h2 8 _ (by
  have:=BB (k:=i) (show a.toNat < 2 ^ 8 from ha)
  exact Nat.lt_of_lt_of_le this (Nat.pow_le_pow_right om_ om_))
 have hdbl : ∀ i,i ≤ 7 → XH m 8 8 (a.toNat <<< (i + 1)) = if 256 ≤ (XH m 8 8 (a.toNat <<< i)) * 2 then (XH m 8 8 (a.toNat <<< i)) * 2 ^^^ m else (XH m 8 8 (a.toNat <<< i)) * 2:=by
  intro i hi
  have hx : a.toNat <<< i < 2 ^ (8 + 7):=Nat.lt_of_lt_of_le (BB (show a.toNat < 2 ^ 8 from ha)) (Nat.pow_le_pow_right om_ om_)
  have e : a.toNat <<< (i + 1) = (a.toNat <<< i) <<< 1:=by rw [← Nat.shiftLeft_add]
  rw [e,Hh m 8 7,← Zae hx]
  have hlt:=hR i om_
  generalize XH m 8 8 (a.toNat <<< i) = y at hlt ⊢
  have e2 : y <<< 1 = y * 2:=by rw [Nat.shiftLeft_eq]
  rw [e2]
  have e3 : (y * 2).testBit 8 = decide (256 ≤ y * 2):=by
   by_cases hy : 256 ≤ y * 2
   ·rw [Zf2 (d:=8) hy om_]; simp [hy]
   ·rw [Nat.testBit_lt_two_pow (by omega : y * 2 < 2 ^ 8)]; simp [hy]
  rw [e3]
  by_cases hy : 256 ≤ y * 2 <;> simp [hy]
 have key : ∀ (n i o r : Nat),i + n ≤ 8 → r < 2 ^ n → o < 256 → ZQ (Wl (m : Int)) ((o : Int),((XH m 8 8 (a.toNat <<< i) : Nat) : Int),(r : Int)) = some ((o ^^^ XH m 8 8 (yd n (a.toNat <<< i) r) : Nat) : Int):=by
  intro n
  induction n with
  | zero =>
   intro i o r _ hr ho
   have : r = 0:=by simpa using hr
   subst this
   rw [U7 (t:=(o : Int))]
   ·rw [yF,Q6 8 0 om_,Nat.xor_zero]
   ·unfold Wl; simp
  | succ n ih =>
   intro i o r hi hr ho
   by_cases h0 : r = 0
   ·subst h0
    rw [U7 (t:=(o : Int))]
    ·rw [yF,Q6 8 0 om_,Nat.xor_zero]
    ·unfold Wl; simp
   ·have hy:=hR i om_
    have hst : Wl (m : Int) ((o : Int),((XH m 8 8 (a.toNat <<< i) : Nat) : Int),(r : Int)) = some (.nx (((o ^^^ XH m 8 8 (if r % 2 = 1 then a.toNat <<< i else 0) : Nat) : Int),((XH m 8 8 (a.toNat <<< (i + 1)) : Nat) : Int),((r / 2 : Nat) : Int))):=by
     rw [hdbl i om_]
     unfold Wl
     have c1 : (r : Int) > 0:=by omega
     have hr2 : r < 512:=Nat.lt_of_lt_of_le hr (Nat.le_trans (Nat.pow_le_pow_right om_ (by omega : n + 1 ≤ 9)) om_)
     simp only [c1,decide_true,if_true,Zib,Zhj]
     have e1 : wr (((XH m 8 8 (a.toNat <<< i) : Nat) : Int) * 2) = (((XH m 8 8 (a.toNat <<< i)) * 2 : Nat) : Int):=by rw [Xi om_]; omega
     have e2 : wr ((r / 2 : Nat) : Int) = ((r / 2 : Nat) : Int):=Zfj _ om_
     rw [e1,e2,BE _ _ om_ om_,BE _ _ om_ om_]
     have e3 : ((((r % 2 : Nat) : Int)) == 1) = decide (r % 2 = 1):=by
      rw [Bool.eq_iff_iff,beq_iff_eq,decide_eq_true_eq]; omega
     rw [e3]
     have e4 : decide ((((XH m 8 8 (a.toNat <<< i)) * 2 : Nat) : Int) ≥ 256) = decide (256 ≤ (XH m 8 8 (a.toNat <<< i)) * 2):=by rw [decide_eq_decide]; omega
     rw [e4]
     have e5 : XH m 8 8 0 = 0:=Q6 8 0 om_
     by_cases c2 : r % 2 = 1 <;> by_cases c3 : 256 ≤ (XH m 8 8 (a.toNat <<< i)) * 2 <;> simp only [c2,c3,decide_true,decide_false,Bool.false_eq_true,if_true,if_false,ob_,e5,Nat.xor_zero]
    rw [U8 hst,ih (i + 1) _ (r / 2) om_ (by rw [Nat.pow_succ] at hr; omega) ?_]
    ·conv=>rhs; unfold yd
     rw [JL,Nat.xor_assoc,Nat.shiftLeft_add]
    ·refine Nat.xor_lt_two_pow (n:=8) ho ?_
     split
     ·exact hR i om_
     ·rw [Q6 8 0 om_]; omega
 have:=key 8 0 0 b.toNat om_ hb om_
 rw [Nat.shiftLeft_zero,Q6 8 a.toNat ha,Nat.zero_xor] at this
 have h3 : ZQ (Wl (m : Int)) (0,bI a,bI b) = _:=this
 unfold XQ
 rw [h3]
 rfl

def jr (m : Nat) : Nat → UInt8 → Nat → UInt8 → UInt8
 | 0,_,_,o=>o
 | f + 1,a,k,o=>if k = 0 then o else jr m f (YK m a a) (k / 2) (if k % 2 = 1 then YK m o a else o)
theorem Zbz (m : Nat) (L : UInt8 × Int × UInt8 → Option (Fl (UInt8 × Int × UInt8) UInt8)) (T : UInt8 → UInt8 → Option UInt8) (hT : ∀ a b,T a b = some (YK m a b))
  (hL : ∀ s,L s = if (decide (s.2.1 > 0)) = true then (((if ((Int.tmod s.2.1 2) == 1) = true then ((T s.2.2 s.1).bind λr=>some r) else (some s.2.2) : Option UInt8).bind λj12=>(T s.1 s.1).bind λr20=>some (r20,j12) : Option (UInt8 × UInt8)).bind λj9=>some (Fl.nx (j9.1,wr (Int.tdiv s.2.1 2),j9.2))) else (some (Fl.ex s.2.2))) :
  ∀ (f k : Nat) (a o : UInt8),k < 2 ^ f → f ≤ 62 → ZQ L (a,(k : Int),o) = some (jr m f a k o):=by
 intro f
 induction f with
 | zero =>
  intro k a o hk _
  have : k = 0:=by simpa using hk
  subst this
  exact U7 (by rw [hL]; simp [jr])
 | succ f ih =>
  intro k a o hk hf
  by_cases h0 : k = 0
  ·subst h0
   exact U7 (by rw [hL]; simp [jr])
  ·have hlt : k < 9223372036854775808:=Nat.lt_of_lt_of_le hk (Nat.pow_le_pow_right (by omega : 0 < 2) (by omega : f + 1 ≤ 63))
   have hst : L (a,(k : Int),o) = some (.nx (YK m a a,((k / 2 : Nat) : Int),if k % 2 = 1 then YK m o a else o)):=by
    rw [hL]
    have c1 : (k : Int) > 0:=by omega
    have e3 : ((((k % 2 : Nat) : Int)) == 1) = decide (k % 2 = 1):=by
     rw [Bool.eq_iff_iff,beq_iff_eq,decide_eq_true_eq]; omega
    simp only [c1,decide_true,if_true,Zib,Zhj,hT,e3,ob_,Zfj (k / 2) om_]
    by_cases c2 : k % 2 = 1 <;> simp [c2]
   rw [U8 hst,ih (k / 2) _ _ (by rw [Nat.pow_succ] at hk; omega) om_]
   conv=>rhs; unfold jr
   rw [if_neg h0]
theorem qw (m : Nat) (hm : m < 512) (a : UInt8) (k f : Nat) (hk : k < 2 ^ f) (hf : f ≤ 62) : WZ (m : Int) a (k : Int) = some (jr m f a k 1):=by
 unfold WZ
 rw [Zbz m (U6 (m : Int)) _ (Ki m hm) (λs=>by unfold U6; rfl) f k a 1 hk hf]; rfl
theorem Zej (m : Nat) (hm : m < 512) (hm2 : 256 ≤ m) (a : UInt8) (k f : Nat) (hk : k < 2 ^ f) (hf : f ≤ 62) : Ut (m : Int) a (k : Int) = some (jr m f a k 1):=by
 unfold Ut
 rw [Zbz m (QX (m : Int)) _ (A0 m hm hm2) (λs=>by unfold QX; rfl) f k a 1 hk hf]; rfl
def J4 (m : Nat) (a : UInt8) : UInt8:=jr m 8 a 254 1
theorem H6 (m : Nat) (hm : m < 512) (a : UInt8) : Y8 (m : Int) a = some (J4 m a):=by
 unfold Y8
 have:=qw m hm a 254 8 om_ om_
 have h2 : WZ (m : Int) a 254 = _:=this
 rw [h2]; rfl
theorem Zhk (m : Nat) (hm : m < 512) (hm2 : 256 ≤ m) (a : UInt8) : U3 (m : Int) a = some (J4 m a):=by
 unfold U3
 have:=Zej m hm hm2 a 254 8 om_ om_
 have h2 : Ut (m : Int) a 254 = _:=this
 rw [h2]; rfl

def redB (m d : Nat) : Bool:=XH d (lenN d - 1) (16 - (lenN d - 1)) m == 0
def zQ (m : Int) : Bool:=decide (256 ≤ m ∧ m ≤ 511) && !((List.range' 2 30).any (redB m.toNat))
theorem Zb0 {m : Int} (h : zQ m = true) : ∃ n : Nat,m = n ∧ 256 ≤ n ∧ n < 512:=by
 unfold zQ at h
 simp only [Bool.and_eq_true,decide_eq_true_eq] at h
 exact ⟨m.toNat,by omega,by omega,by omega⟩
def Zg8 (l : List UInt8) : Bool:=decide l.Nodup
def dbl (m y : Nat) : Nat:=if (y <<< 1).testBit 8 then (y <<< 1) ^^^ m else y <<< 1
theorem Zc5 (a b c d : Nat) : (a ^^^ b) ^^^ (c ^^^ d) = (a ^^^ c) ^^^ (b ^^^ d):=by
 rw [Nat.xor_assoc,Nat.xor_assoc,← Nat.xor_assoc b,← Nat.xor_assoc c,Nat.xor_comm b c]
theorem Zf0 (m x y : Nat) : dbl m (x ^^^ y) = dbl m x ^^^ dbl m y:=by
 unfold dbl
 rw [Nat.shiftLeft_xor_distrib,Nat.testBit_xor]
 cases (x <<< 1).testBit 8 <;> cases (y <<< 1).testBit 8 <;> simp only [Bool.xor_false,Bool.false_xor,Bool.xor_self,Bool.xor_true,Bool.not_false,Bool.not_true,Bool.false_eq_true,if_true,if_false]
 ·rw [Nat.xor_assoc]
 ·rw [Nat.xor_assoc,Nat.xor_assoc,Nat.xor_comm m]
 rw [Zc5,Nat.xor_self,Nat.xor_zero]
theorem kI (m : Nat) : dbl m 0 = 0:=by simp [dbl]
def opP (m : Nat) : Nat → Nat → Nat → Nat
 | 0,_,_=>0
 | n + 1,b,x=>(if b % 2 = 1 then x else 0) ^^^ opP m n (b / 2) (dbl m x)
theorem Zdf (m n b x : Nat) : opP m (n + 1) b x = (if b % 2 = 1 then x else 0) ^^^ opP m n (b / 2) (dbl m x):=rfl
theorem Zbw (m : Nat) : ∀ (n b x y : Nat),opP m n b (x ^^^ y) = opP m n b x ^^^ opP m n b y
 | 0,_,_,_=>by simp [opP]
 | n + 1,b,x,y=>by
  unfold opP
  rw [Zf0,Zbw m n,Zc5]
  congr 1
  split <;> simp
theorem zk (m : Nat) : ∀ (n b : Nat),opP m n b 0 = 0
 | 0,_=>rfl
 | n + 1,b=>by unfold opP; rw [kI,zk m n]; simp
theorem Zfi (m : Nat) : ∀ (n b x : Nat),opP m n b (dbl m x) = dbl m (opP m n b x)
 | 0,_,_=>(kI m).symm
 | n + 1,b,x=>by
  unfold opP
  rw [Zfi m n,Zf0]
  congr 1
  split
  ·rfl
  ·exact (kI m).symm
theorem Zcv (m : Nat) : ∀ (n b k c x : Nat),opP m n b (opP m k c x) = opP m k c (opP m n b x)
 | 0,_,k,c,_=>(zk m k c).symm
 | n + 1,b,k,c,x=>by
  rw [Zdf,Zdf,← Zfi,Zcv m n,Zbw]
  congr 1
  split
  ·rfl
  ·exact (zk m k c).symm
theorem Zg0 (a : Nat) : (if a % 2 = 1 then 1 else 0) ^^^ (a / 2) <<< 1 = a:=by
 rw [Nat.shiftLeft_eq]
 have h : (if a % 2 = 1 then 1 else 0) = a % 2:=by split <;> omega
 rw [h]
 apply Nat.eq_of_testBit_eq
 intro i
 rw [Nat.testBit_xor]
 cases i with
 | zero =>
  simp [Nat.testBit_zero]
 | succ i =>
  rw [Nat.testBit_succ,Nat.testBit_succ,Nat.testBit_succ]
  have h1 : a % 2 / 2 = 0:=by omega
  have h2 : a / 2 * 2 ^ 1 / 2 = a / 2:=by omega
  rw [h1,h2]; simp
theorem Zjn (m i : Nat) (hi : i < 7) : dbl m (1 <<< i) = 1 <<< (i + 1):=by
 unfold dbl
 rw [← Nat.shiftLeft_add]
 have : (1 <<< (i + 1)).testBit 8 = false:=by
  apply Nat.testBit_lt_two_pow
  rw [Nat.shiftLeft_eq,Nat.one_mul]
  exact Nat.pow_lt_pow_right om_ om_
 rw [this]; rfl
theorem Zbe (m : Nat) : ∀ (n i a : Nat), n + i ≤ 8 → a < 2 ^ n → opP m n a (1 <<< i) = a <<< i
  | 0, i, a, _, ha => by
    have : a = 0 := by simpa using ha
    subst this; simp [opP]
  | n + 1, i, a, hn, ha => by
    have e : a <<< i = (if a % 2 = 1 then 1 <<< i else 0) ^^^ (a / 2) <<< (i + 1) := by
      conv => lhs; rw [← Zg0 a]
      rw [Nat.shiftLeft_xor_distrib, ← Nat.shiftLeft_add, Nat.add_comm 1 i]
      congr 1
      split <;> simp
    unfold opP
    rw [e]
    congr 1
    rcases Nat.eq_zero_or_pos n with rfl | hp
    · have : a / 2 = 0 := by have : a < 2 := by simpa using ha
                             omega
      rw [this]; simp [opP]
    · rw [Zjn m i om_]
      exact Zbe m n (i + 1) (a / 2) om_ (by rw [Nat.pow_succ] at ha; omega)

theorem Zf8 (m x : Nat) (hx : x < 2 ^ 15) : XH m 8 8 (x <<< 1) = dbl m (XH m 8 8 x):=by
 rw [Hh m 8 7,← Zae (d:=8) (k:=7) hx]; rfl
theorem Zia (m : Nat) : ∀ (n i a b : Nat),i + n ≤ 8 → a < 2 ^ 8 → XH m 8 8 (yd n (a <<< i) b) = opP m n b (XH m 8 8 (a <<< i))
 | 0,_,_,_,_,_=>by simp [yd,opP,Q6 8 0]
 | n + 1,i,a,b,hn,ha=>by
  unfold yd opP
  rw [JL]
  have hx : a <<< i < 2 ^ 15:=Nat.lt_of_lt_of_le (BB ha) (Nat.pow_le_pow_right om_ om_)
  rw [← Zf8 m _ hx,← Nat.shiftLeft_add,Zia m n (i + 1) a (b / 2) om_ ha]
  congr 1
  split
  ·rfl
  ·exact Q6 8 0 om_
theorem JN (m : Nat) (h1 : 256 ≤ m) (h2 : m < 512) (a b : UInt8) : (YK m a b).toNat = opP m 8 b.toNat a.toNat:=by
 have ha : a.toNat < 2 ^ 8:=a.toNat_lt
 have hr : XH m 8 8 (yd 8 a.toNat b.toNat) < 256:=zl (d:=8) h1 h2 8 _ (Zfd 8 a.toNat b.toNat 8 ha)
 have e:=Zia m 8 0 a.toNat b.toNat om_ ha
 rw [Nat.shiftLeft_zero,Q6 8 _ ha] at e
 unfold YK ZC
 rw [e] at hr ⊢
 generalize opP m 8 b.toNat a.toNat = q at hr ⊢
 have : (((q : Nat) : Int) % 256).toNat = q:=by omega
 rw [this]
 simp
 omega
section
variable {m : Nat} (h1 : 256 ≤ m) (h2 : m < 512)
include h1 h2
theorem H0 (a b : UInt8) : YK m a b = YK m b a:=by
 apply UInt8.toNat_inj.1
 rw [JN m h1 h2,JN m h1 h2]
 have ea:=Zbe m 8 0 a.toNat om_ a.toNat_lt
 have eb:=Zbe m 8 0 b.toNat om_ b.toNat_lt
 simp only [Nat.shiftLeft_zero] at ea eb
 rw [← ea,Zcv,eb,ea]
theorem Zf3 (a b c : UInt8) : YK m (a ^^^ b) c = YK m a c ^^^ YK m b c:=by
 apply UInt8.toNat_inj.1
 rw [UInt8.toNat_xor,JN m h1 h2,JN m h1 h2,JN m h1 h2,UInt8.toNat_xor,Zbw]
theorem Zd4 (a b c : UInt8) : YK m a (b ^^^ c) = YK m a b ^^^ YK m a c:=by
 rw [H0 h1 h2,Zf3 h1 h2,H0 h1 h2 b,H0 h1 h2 c]
theorem AV (a : UInt8) : YK m 0 a = 0:=by
 apply UInt8.toNat_inj.1
 rw [JN m h1 h2]
 exact zk m 8 _
end
def vf {α : Type} (n : Nat) (f : Nat → α) : Vector α n:=Vector.ofFn λi=>f i.1
theorem HY {α : Type} {n i : Nat} (f : Nat → α) (h : i < n) : (vf n f)[i] = f i:=by simp [vf]
theorem zK {α : Type} {n i : Nat} (f : Nat → α) (h : i < n) : (vf n f)[i]? = some (f i):=by rw [Vector.getElem?_eq_getElem h,HY f h]
theorem Yt {α : Type} {n i : Nat} (f : Nat → α) (h : i < n) : Z4 (vf n f) (i : Int) = some (f i):=by rw [Qc,zK f h]
theorem Wf {α : Type} {n : Nat} {f g : Nat → α} (h : ∀ i,i < n → f i = g i) : vf n f = vf n g:=by
 apply Ab
 intro i hi
 rw [HY f hi,HY g hi,h i hi]
theorem KW {α : Type} {n : Nat} (f : Nat → α) (k : Nat) (x : α) : (vf n f).setIfInBounds k x = vf n (λi=>if i = k then x else f i):=by
 apply Ab
 intro i hi
 rw [Vector.getElem_setIfInBounds,HY _ hi,HY _ hi]
 by_cases h : k = i
 ·subst h; simp
 rw [if_neg h,if_neg (λe=>h e.symm)]
theorem KB {α : Type} (n : Nat) (x : α) : Vector.replicate n x = vf n (λ_=>x):=by
 apply Ab
 intro i hi
 rw [HY _ hi]; simp
theorem Zfc {α : Type} [Inhabited α] {n : Nat} (v : Vector α n) : v = vf n (λi=>v[i]?.getD default):=by
 apply Ab
 intro i hi
 rw [HY _ hi,Vector.getElem?_eq_getElem hi]; rfl
abbrev Mat:=Vector (Vector UInt8 4) 4
def mf (f : Nat → Nat → UInt8) : Mat:=vf 4 λi=>vf 4 (f i)
theorem Uf {f g : Nat → Nat → UInt8} (h : ∀ i,i < 4 → ∀ j,j < 4 → f i j = g i j) : mf f = mf g:=Wf λi hi=>Wf λj hj=>h i hi j hj
theorem QZ {i : Nat} (f : Nat → Nat → UInt8) (h : i < 4) : Z4 (mf f) (i : Int) = some (vf 4 (f i)):=Yt _ h
theorem AR (f : Nat → Nat → UInt8) (k : Nat) (g : Nat → UInt8) : (mf f).setIfInBounds k (vf 4 g) = mf (λi j=>if i = k then g j else f i j):=by
 unfold mf
 rw [KW]
 apply Wf
 intro i hi
 by_cases h : i = k
 ·simp [h]
 simp [h]
theorem Zbn : Vector.replicate 4 (Vector.replicate 4 (0 : UInt8)) = mf (λ_ _=>0):=by rw [KB 4 (0 : UInt8),KB]; rfl
theorem lt4 {i : Nat} (h : i < 4) : decide ((i : Int) < 4) = true:=by simp; omega
theorem lt4' {i : Nat} (h : ¬ i < 4) : decide ((i : Int) < 4) = false:=by simp; omega
theorem wr4 {i : Nat} (h : i < 1000) : wr ((i : Int) + 1) = ((i + 1 : Nat) : Int):=Wn om_

def z8 (i j : Nat) : UInt8:=if i = j then 1 else 0
theorem Zgn (L : Mat × Int → Option (Fl (Mat × Int) Mat))
  (hL : ∀ s8,L s8 = if (decide (s8.2 < 4)) = true then ((Z4 s8.1 s8.2).bind λ(x14 : (Vector UInt8 4))=>(Z4 x14 s8.2).bind λ(x17 : UInt8)=>some (Fl.nx ((s8.1.setIfInBounds (s8.2).toNat (x14.setIfInBounds (s8.2).toNat 1)),wr (s8.2 + 1)))) else (some (Fl.ex s8.1))) :
  ZQ L (Vector.replicate 4 (Vector.replicate 4 (0 : UInt8)),0) = some (mf z8):=by
 have:=YC (f:=L) (λi : Nat=>(mf λr c=>if r < i then z8 r c else 0,(i : Int))) 0 4 om_ (t:=mf z8) (λi _ hi=>by
  rw [hL]
  simp only [lt4 hi,if_true,QZ _ hi,Yt _ hi,ob_,Int.toNat_natCast,KW,AR,wr4 (show i < 1000 by omega)]
  congr 3
  apply Uf
  intro r hr c hc
  by_cases h1 : r = i
  ·subst h1; simp [z8,eq_comm]
  ·simp only [h1,if_false]
   by_cases h2 : r < i
   ·rw [if_pos h2,if_pos om_]
   ·rw [if_neg h2,if_neg om_]) (by
  rw [hL]
  simp only [lt4' (show ¬ 4 < 4 by omega),Bool.false_eq_true,if_false]
  exact congrArg (λz=>some (Fl.ex z)) (Uf λr hr c hc=>by rw [if_pos hr]))
 rw [Zbn]
 simpa using this
theorem zo : UK = some (mf z8):=by
 unfold UK
 rw [Zgn KA λs=>rfl]; rfl

abbrev MF:=Nat → Nat → UInt8
def AC (f : MF) (k : Nat) : Nat:=((List.range' k (4 - k)).find? λi=>!(f i k == 0)).getD 4
def Zh5 (f : MF) (i k : Nat) : MF:=λr c=>if r = k then f i c else if r = i then f k c else f r c
def Zbj (m : Nat) (f : MF) (k : Nat) (by_ : UInt8) : MF:=λr c=>if r = k then YK m (f k c) by_ else f r c
def Qj (m : Nat) (f g : MF) (k : Nat) : MF:=λr c=>if r = k then g r c else g r c ^^^ YK m (f r k) (g k c)
structure Red where
 a : MF
 b : MF
 det : UInt8
def zj (m : Nat) (s : Red) (k : Nat) : Option Red :=
 let i:=AC s.a k
 if i = 4 then none else
  let f:=Zh5 s.a i k
  let g:=Zh5 s.b i k
  let q:=J4 m (f k k)
  let f2:=Zbj m f k q
  let g2:=Zbj m g k q
  some ⟨Qj m f2 f2 k,Qj m f2 g2 k,YK m s.det (f k k)⟩
def ya (m : Nat) : Nat → Nat → Red → Option Red
 | 0,_,s=>some s
 | n + 1,k,s=>(zj m s k).bind (ya m n (k + 1))
def jI (m : Nat) (a : MF) : UInt8 × Mat:=match ya m 4 0 ⟨a,z8,1⟩ with
 | some s=>(s.det,mf s.b)
 | none=>(0,mf λ_ _=>0)
theorem Zd5 (L : Int → Option (Fl Int Int)) (f : MF) (k : Nat) (hk : k < 4)
  (hL : ∀ s,L s = (if (decide (s < 4)) = true then ((Z4 (mf f) s).bind λ(x30 : (Vector UInt8 4))=>(Z4 x30 (k : Int)).bind λ(x33 : UInt8)=>some (x33 == 0)) else (some false) : Option (Bool)).bind λ(j25 : Bool)=>if j25 = true then (some (Fl.nx (wr (s + 1)))) else (some (Fl.ex s))) :
  ZQ L (k : Int) = some ((AC f k : Nat) : Int):=by
 have:=HM (f:=L) (λi : Nat=>(i : Int)) (λi=>!(f i k == 0)) (λi=>(i : Int)) (e:=(4 : Int)) 4 (4 - k) k om_ (λi _ hi=>by
  rw [hL]
  simp only [lt4 hi,if_true,QZ _ hi,Yt _ hk,ob_]
  cases h : (f i k == 0)
  ·simp
  ·simp [wr4 (show i < 1000 by omega)]) (by rw [hL]; simp)
 rw [this]
 unfold AC
 cases (List.range' k (4 - k)).find? λi=>!(f i k == 0) <;> rfl
theorem Zhd {f : MF} {k : Nat} (h : AC f k ≠ 4) : AC f k < 4:=by
 unfold AC at h ⊢
 cases hf : (List.range' k (4 - k)).find? λi=>!(f i k == 0) with
 | none=>rw [hf] at h; exact absurd rfl h
 | some i =>
  have:=List.mem_range'_1.1 (List.mem_of_find?_eq_some hf)
  simp only [Option.getD_some]
  omega
theorem Zat (L : Mat × Mat × Int → Option (Fl (Mat × Mat × Int) (Mat × Mat))) (f g : MF) (k : Nat) (hk : k < 4) (p q : Nat → UInt8)
  (hL : ∀ c,c < 4 → ∀ a b : MF,(∀ r,r ≠ k → a r = f r) → (∀ r,r ≠ k → b r = g r) → a k c = f k c → b k c = g k c → L (mf a,mf b,(c : Int)) = some (Fl.nx ((mf a).setIfInBounds k ((vf 4 (a k)).setIfInBounds c (p c)),(mf b).setIfInBounds k ((vf 4 (b k)).setIfInBounds c (q c)),wr ((c : Int) + 1))))
  (he : ∀ a b : Mat,L (a,b,4) = some (Fl.ex (a,b))) :
  ZQ L (mf f,mf g,0) = some (mf (λr c=>if r = k then p c else f r c),mf (λr c=>if r = k then q c else g r c)):=by
 have k1 : (mf λr c=>if r = k then (if c < 4 then p c else f k c) else f r c) = mf λr c=>if r = k then p c else f r c:=Uf λr _ c hc=>by rw [if_pos hc]
 have k2 : (mf λr c=>if r = k then (if c < 4 then q c else g k c) else g r c) = mf λr c=>if r = k then q c else g r c:=Uf λr _ c hc=>by rw [if_pos hc]
 have:=YC (f:=L) (λi : Nat=>(mf λr c=>if r = k then (if c < i then p c else f k c) else f r c,mf λr c=>if r = k then (if c < i then q c else g k c) else g r c,(i : Int))) 0 4 om_
  (t:=(mf (λr c=>if r = k then p c else f r c),mf (λr c=>if r = k then q c else g r c))) (λi _ hi=>by
  rw [hL i hi _ _ (λr hr=>by funext c; rw [if_neg hr]) (λr hr=>by funext c; rw [if_neg hr]) (by simp) (by simp)]
  simp only [KW,AR,wr4 (show i < 1000 by omega)]
  congr 3
  ·apply Uf
   intro r hr c hc
   by_cases h : r = k
   ·simp only [h,if_true]
    by_cases h2 : c = i
    ·subst h2; simp
    ·by_cases h3 : c < i
     ·rw [if_neg h2,if_pos h3,if_pos om_]
     ·rw [if_neg h2,if_neg h3,if_neg om_]
   ·simp only [h,if_false]
  ·congr 1
   apply Uf
   intro r hr c hc
   by_cases h : r = k
   ·simp only [h,if_true]
    by_cases h2 : c = i
    ·subst h2; simp
    ·by_cases h3 : c < i
     ·rw [if_neg h2,if_pos h3,if_pos om_]
     ·rw [if_neg h2,if_neg h3,if_neg om_]
   ·simp only [h,if_false]) (by
  simp only [k1,k2]
  exact he _ _)
 have e1 : mf (λr c=>if r = k then (if c < 0 then p c else f k c) else f r c) = mf f:=Uf λr hr c hc=>by
  by_cases h : r = k
  ·subst h; simp
  ·simp [h]
 have e2 : mf (λr c=>if r = k then (if c < 0 then q c else g k c) else g r c) = mf g:=Uf λr hr c hc=>by
  by_cases h : r = k
  ·subst h; simp
  ·simp [h]
 simp only [e1,e2] at this
 exact this
theorem Zb5 {S : Type} (m : Nat) (L : S → Option (Fl S (Fl (Mat × UInt8) (UInt8 × Mat)))) (pk : Red → Nat → S)
  (hstep : ∀ k,k < 4 → ∀ s,L (pk s k) = some (match zj m s k with | none=>.ex (.ex (0,mf λ_ _=>0)) | some s'=>.nx (pk s' (k + 1))))
  (hend : ∀ s,L (pk s 4) = some (.ex (.nx (mf s.b,s.det)))) : ∀ (n k : Nat) (s : Red),k + n = 4 → ZQ L (pk s k) = some (match ya m n k s with | some s'=>.nx (mf s'.b,s'.det) | none=>.ex (0,mf λ_ _=>0))
 | 0,k,s,h=>by
  have : k = 4:=by omega
  subst this
  rw [U7 (hend s)]; rfl
 | n + 1,k,s,h=>by
  have h1:=hstep k om_ s
  unfold ya
  cases hr : zj m s k with
  | none=>rw [hr] at h1; rw [U7 h1]; rfl
  | some s'=>rw [hr] at h1; rw [U8 h1]; exact Zb5 m L pk hstep hend n (k + 1) s' om_
theorem Zkc {i k : Nat} : (((i : Int)) != ((k : Nat) : Int)) = decide (i ≠ k):=by
 by_cases h : i = k
 ·subst h; simp
 have : (i : Int) ≠ (k : Int):=by omega
 simp [h,this]
theorem Zgu (m : Nat) (L : Mat × Mat × Int → Option (Fl (Mat × Mat × Int) (Mat × Mat))) (f g : MF) (k : Nat)
  (hL : ∀ i,i < 4 → ∀ a b : MF,(a i = f i) → (b i = g i) → (a k = f k) → (b k = g k) → L (mf a,mf b,(i : Int)) = some (Fl.nx (mf (λr c=>if r = i then Qj m f f k r c else a r c),mf (λr c=>if r = i then Qj m f g k r c else b r c),wr ((i : Int) + 1))))
  (he : ∀ a b : Mat,L (a,b,4) = some (Fl.ex (a,b))) : ZQ L (mf f,mf g,0) = some (mf (Qj m f f k),mf (Qj m f g k)):=by
 have ek : ∀ h : MF,Qj m f h k k = h k:=λh=>by funext c; simp [Qj]
 have k1 : (mf λr c=>if r < 4 then Qj m f f k r c else f r c) = mf (Qj m f f k):=Uf λr hr c _=>by rw [if_pos hr]
 have k2 : (mf λr c=>if r < 4 then Qj m f g k r c else g r c) = mf (Qj m f g k):=Uf λr hr c _=>by rw [if_pos hr]
 have:=YC (f:=L) (λi : Nat=>(mf λr c=>if r < i then Qj m f f k r c else f r c,mf λr c=>if r < i then Qj m f g k r c else g r c,(i : Int))) 0 4 om_
  (t:=(mf (Qj m f f k),mf (Qj m f g k))) (λi _ hi=>by
  rw [hL i hi _ _ (by funext c; simp) (by funext c; simp) (by funext c; by_cases h : k < i <;> simp [h,ek]) (by funext c; by_cases h : k < i <;> simp [h,ek])]
  rw [wr4 (show i < 1000 by omega)]
  have e : ∀ (x y : MF),(mf λr c=>if r = i then x r c else if r < i then x r c else y r c) = mf λr c=>if r < i + 1 then x r c else y r c:=λx y=>Uf λr _ c _=>by
   by_cases h1 : r = i
   ·subst h1; simp
   ·by_cases h2 : r < i
    ·rw [if_neg h1,if_pos h2,if_pos om_]
    ·rw [if_neg h1,if_neg h2,if_neg om_]
  rw [e,e]) (by
  simp only [k1,k2]
  exact he _ _)
 simpa using this

theorem Zhr (f : MF) {i k : Nat} : ((mf f).setIfInBounds i (vf 4 (f k))).setIfInBounds k (vf 4 (f i)) = mf (Zh5 f i k):=by
 rw [AR,AR]; rfl
section
variable (m : Nat) (hm : m < 512) (hm2 : 256 ≤ m)
include hm
theorem Zdy (A B : Mat) (det : UInt8) (q : UInt8) (f g : MF) (k : Nat) (hk : k < 4) : ZQ (Vc (m : Int) (A,B,(k : Int),det) q) (mf f,mf g,0) = some (mf (Zbj m f k q),mf (Zbj m g k q)):=by
 refine Zat _ f g k hk (λc=>YK m (f k c) q) (λc=>YK m (g k c) q) (λc hc a b _ _ ha hb=>?_) (λa b=>?_)
 ·unfold Vc
  simp only [lt4 hc,if_true,QZ _ hk,Yt _ hc,ob_,Ki m hm,ha,hb,Int.toNat_natCast]
 unfold Vc; simp
theorem Zh8 (A B : Mat) (det : UInt8) (s1 : Mat × Mat × Int) (x : UInt8) (f g : MF) (k i : Nat) (hk : k < 4) (hi : i < 4) (hik : i ≠ k) (hs : s1.2.2 = (i : Int)) :
  ZQ (W5 (m : Int) (A,B,(k : Int),det) s1 x) (mf f,mf g,0) = some (mf (λr c=>if r = i then f i c ^^^ YK m x (f k c) else f r c),mf (λr c=>if r = i then g i c ^^^ YK m x (g k c) else g r c)):=by
 refine Zat _ f g i hi (λc=>f i c ^^^ YK m x (f k c)) (λc=>g i c ^^^ YK m x (g k c)) (λc hc a b ha' hb' ha hb=>?_) (λa b=>?_)
 ·unfold W5
  have e1:=ha' k (Ne.symm hik)
  have e2:=hb' k (Ne.symm hik)
  simp only [hs,lt4 hc,if_true,QZ _ hk,QZ _ hi,Yt _ hc,ob_,Ki m hm,ha,hb,e1,e2,Int.toNat_natCast]
 unfold W5; simp
include hm2
theorem Zf4 (A B : Mat) (det : UInt8) (f g : MF) (k : Nat) (hk : k < 4) : ZQ (Ve (m : Int) (A,B,(k : Int),det)) (mf f,mf g,0) = some (mf (Qj m f f k),mf (Qj m f g k)):=by
 refine Zgu m _ f g k (λi hi a b hai hbi hak hbk=>?_) (λa b=>by unfold Ve; simp)
 unfold Ve
 have hfi : a i k = f i k:=by rw [hai]
 simp only [lt4 hi,if_true,QZ _ hi,Yt _ hk,ob_,Zkc,hfi]
 by_cases h : i = k
 ·subst h
  simp only [ne_eq,not_true_eq_false,decide_false,Bool.false_eq_true,if_false,ob_]
  congr 3
  ·exact Uf λr _ c _=>by
    by_cases h : r = i
    ·subst h; simp [Qj,hai]
    ·simp [h]
  congr 1
  exact Uf λr _ c _=>by
   by_cases h : r = i
   ·subst h; simp [Qj,hbi]
   ·simp [h]
 have hd : decide (i ≠ k) = true:=by simpa using h
 simp only [hd,if_true,ob_]
 by_cases h0 : f i k = 0
 ·simp only [h0,bne_self_eq_false,Bool.false_eq_true,if_false,ob_]
  congr 3
  ·exact Uf λr _ c _=>by
    by_cases h2 : r = i
    ·subst h2; simp [Qj,hai,h,h0,AV hm2 hm]
    ·simp [h2]
  congr 1
  exact Uf λr _ c _=>by
   by_cases h2 : r = i
   ·subst h2; simp [Qj,hbi,h,h0,AV hm2 hm]
   ·simp [h2]
 have hb0 : (f i k != 0) = true:=by simpa using h0
 simp only [hb0,if_true,ob_]
 rw [Zh8 m hm A B det _ _ a b k i hk hi h rfl]
 simp only [ob_]
 congr 3
 ·exact Uf λr _ c _=>by
   by_cases h2 : r = i
   ·subst h2; simp [Qj,hai,hak,h]
   ·simp [h2]
 congr 1
 exact Uf λr _ c _=>by
  by_cases h2 : r = i
  ·subst h2; simp [Qj,hbi,hbk,h]
  ·simp [h2]
theorem Zf6 (k : Nat) (hk : k < 4) (s : Red) : XK (m : Int) (mf s.a,mf s.b,(k : Int),s.det) = some (match zj m s k with | none=>.ex (.ex (0,mf λ_ _=>0)) | some s'=>.nx (mf s'.a,mf s'.b,((k + 1 : Nat) : Int),s'.det)):=by
 unfold XK
 have hp:=Zd5 (QO (mf s.a,mf s.b,(k : Int),s.det)) s.a k hk (λx=>rfl)
 simp only [lt4 hk,if_true,hp,ob_]
 unfold zj
 by_cases h4 : AC s.a k = 4
 ·have : ((4 : Nat) : Int) = 4:=rfl
  simp only [h4,this,beq_self_eq_true,if_true,Zbn]
 have hi:=Zhd h4
 have h5 : (((AC s.a k : Nat) : Int) == 4) = false:=by
  have : ((AC s.a k : Nat) : Int) ≠ 4:=by omega
  simpa using this
 generalize hpi : AC s.a k = i at *
 simp only [h4,h5,Bool.false_eq_true,if_false]
 have x1 : Z4 ((mf s.a).setIfInBounds i (vf 4 (s.a k))) (k : Int) = some (vf 4 (λc=>if k = i then s.a k c else s.a k c)):=by rw [AR]; exact QZ _ hk
 have x2 : Z4 ((mf s.b).setIfInBounds i (vf 4 (s.b k))) (k : Int) = some (vf 4 (λc=>if k = i then s.b k c else s.b k c)):=by rw [AR]; exact QZ _ hk
 simp only [QZ _ hk,QZ _ hi,ob_,Int.toNat_natCast,x1,x2,Zhr,Yt _ hk,Ki m hm,H6 m hm,Zdy m hm _ _ _ _ _ _ k hk,Zf4 m hm hm2 _ _ _ _ _ k hk,wr4 (show k < 1000 by omega)]
theorem jP (f : MF) : WK (m : Int) (mf f) = some (jI m f):=by
 unfold WK
 have h:=Zb5 m (XK (m : Int)) (λs k=>(mf s.a,mf s.b,(k : Int),s.det)) (Zf6 m hm hm2) (λs=>by unfold XK; simp) 4 0 ⟨f,z8,1⟩ rfl
 have h2 : ZQ (XK (m : Int)) (mf f,mf z8,0,1) = _:=h
 rw [zo,ob_,h2]
 unfold jI
 cases ya m 4 0 ⟨f,z8,1⟩ <;> rfl
end
theorem qO {n i : Nat} (v : Vector UInt8 n) (h : i < n) : Z4 v (i : Int) = some (v.toList.getD i 0):=by
 rw [Qc,Vector.getElem?_eq_getElem h]
 simp [List.getD_eq_getElem?_getD,h]
theorem Zcr (x : UInt8) : (bI x).toNat = x.toNat:=rfl
def JH (p : V16) : Bool:=p.toList.all (λx=>decide (x < 16)) && Zg8 p.toList
def jl (a : Mat) : MF:=λi j=>(a[i]?.getD default)[j]?.getD default
theorem jE (a : Mat) : a = mf (jl a):=calc a = vf 4 (λi=>a[i]?.getD default):=Zfc a
  _ = _:=Wf λi _=>Zfc _
def detC (m : Nat) (a : Mat) : UInt8:=(jI m (jl a)).1
def invM (m : Nat) (a : Mat) : Mat:=(jI m (jl a)).2
def Xe (c : GCipher) : Bool:=zQ c.Field && Zg8 c.Box.toList && JH c.Places && decide (1 ≤ c.Rounds ∧ c.Rounds ≤ 20) && (detC c.Field.toNat c.Mix != 0)
theorem Zhg (m : Nat) (hm : m < 512) (hm2 : 256 ≤ m) (a : Mat) : WK (m : Int) a = some (detC m a,invM m a):=by
 have:=jP m hm hm2 (jl a)
 rw [← jE] at this
 exact this
theorem zZ {c : GCipher} (h : Xe c = true) : ∃ m : Nat,c.Field = m ∧ 256 ≤ m ∧ m < 512:=by
 unfold Xe at h
 simp only [Bool.and_eq_true] at h
 exact Zb0 h.1.1.1.1
theorem Vl {n : Nat} (L : Vector UInt8 n × Int → Option (Fl (Vector UInt8 n × Int) (Vector UInt8 n))) (f h : Nat → UInt8) (hn : n < 9223372036854775807) (m : Nat) (hm : m ≤ n) (h0 : ∀ j,j < m → h j = f j)
  (hL : ∀ i,m ≤ i → i < n → ∀ a : Nat → UInt8,(∀ j,j < i → a j = h j) → (∀ j,i ≤ j → a j = f j) → L (vf n a,(i : Int)) = some (.nx ((vf n a).setIfInBounds i (h i),wr ((i : Int) + 1))))
  (he : ∀ v,L (v,(n : Int)) = some (.ex v)) : ZQ L (vf n f,(m : Int)) = some (vf n h):=by
 have k1 : (vf n λj=>if j < n then h j else f j) = vf n h:=Wf λj hj=>by rw [if_pos hj]
 have k0 : (vf n λj=>if j < m then h j else f j) = vf n f:=Wf λj hj=>by
  by_cases h1 : j < m
  ·rw [if_pos h1,h0 j h1]
  ·rw [if_neg h1]
 have:=YC (f:=L) (λi : Nat=>(vf n λj=>if j < i then h j else f j,(i : Int))) m n hm (t:=vf n h) (λi hmi hi=>by
  rw [hL i hmi hi _ (λj hj=>by rw [if_pos hj]) (λj hj=>by rw [if_neg om_]),KW,Wn (show i < 9223372036854775807 by omega)]
  refine congrArg (λz=>some (Fl.nx (z,((i + 1 : Nat) : Int)))) (Wf λj hj=>?_)
  by_cases h1 : j = i
  ·subst h1; simp
  ·by_cases h2 : j < i
   ·rw [if_neg h1,if_pos h2,if_pos om_]
   ·rw [if_neg h1,if_neg h2,if_neg om_]) (by
  simp only [k1]
  exact he _)
 simp only [k0] at this
 exact this
def Zac (b : V256) (x : UInt8) : UInt8:=b[x.toNat]'(UInt8.toNat_lt x)
theorem HV (b : V256) (x : UInt8) : Z4 b (bI x) = some (Zac b x):=by
 have : Z4 b ((x.toNat : Nat) : Int) = _:=Qc b x.toNat
 rw [Vector.getElem?_eq_getElem (UInt8.toNat_lt x)] at this
 exact this
abbrev Blk:=V16
def bf (v : Blk) (i : Nat) : UInt8:=v[i]?.getD default
theorem Zie (v : Blk) : v = vf 16 (bf v):=Zfc v
theorem AI {i : Nat} (h : i < 16) : decide ((i : Int) < 16) = true:=by simp; omega
def zV (f g : Nat → UInt8) : Nat → UInt8:=λi=>f i ^^^ g i
theorem z9 (f g : Nat → UInt8) : Wr (vf 16 f) (vf 16 g) = some (vf 16 (zV f g)):=by
 unfold Wr
 have:=Vl (Tm (vf 16 g)) f (zV f g) om_ 0 om_ (λj hj=>by omega) (λi _ hi a _ ha=>by
  unfold Tm
  simp only [AI hi,if_true,Yt _ hi,ob_,Int.toNat_natCast,ha i (Nat.le_refl _),zV]) (λv=>by unfold Tm; simp)
 have h2 : ZQ (Tm (vf 16 g)) (vf 16 f,0) = _:=this
 rw [h2]; rfl
theorem KL (f g : Nat → UInt8) : Xm (vf 16 f) (vf 16 g) = some (vf 16 (zV f g)):=by
 unfold Xm
 have:=Vl (Vn (vf 16 g)) f (zV f g) om_ 0 om_ (λj hj=>by omega) (λi _ hi a _ ha=>by
  unfold Vn
  simp only [AI hi,if_true,Yt _ hi,ob_,Int.toNat_natCast,ha i (Nat.le_refl _),zV]) (λv=>by unfold Vn; simp)
 have h2 : ZQ (Vn (vf 16 g)) (vf 16 f,0) = _:=this
 rw [h2]; rfl
def jR (b : V256) (f : Nat → UInt8) : Nat → UInt8:=λi=>Zac b (f i)
theorem Zd6 (b : V256) (f : Nat → UInt8) : TO b (vf 16 f) = some (vf 16 (jR b f)):=by
 unfold TO
 have:=Vl (VV b) f (jR b f) om_ 0 om_ (λj hj=>by omega) (λi _ hi a _ ha=>by
  unfold VV
  simp only [AI hi,if_true,Yt _ hi,ob_,Int.toNat_natCast,ha i (Nat.le_refl _),HV,jR]) (λv=>by unfold VV; simp)
 have h2 : ZQ (VV b) (vf 16 f,0) = _:=this
 rw [h2]; rfl
def AB (p : Blk) (f : Nat → UInt8) : Nat → UInt8:=λi=>f (bf p i).toNat
theorem yh {p : Blk} (h : JH p = true) {i : Nat} (hi : i < 16) : (bf p i).toNat < 16:=by
 unfold JH at h
 simp only [Bool.and_eq_true,List.all_eq_true,decide_eq_true_eq] at h
 have e : bf p i = p[i]:=by unfold bf; rw [Vector.getElem?_eq_getElem hi]; rfl
 have:=h.1 p[i] (by simp)
 rw [UInt8.lt_iff_toNat_lt] at this
 rw [e]; exact this
theorem zM (p : Blk) {i : Nat} (h : i < 16) : Z4 p (i : Int) = some (bf p i):=by
 rw [Qc]; unfold bf; rw [Vector.getElem?_eq_getElem h]; rfl
theorem Zb8 (f : Nat → UInt8) {x : UInt8} (h : x.toNat < 16) : Z4 (vf 16 f) (bI x) = some (f x.toNat):=Yt f h
theorem Zf9 (p : Blk) (hp : JH p = true) (f : Nat → UInt8) : QF p (vf 16 f) = some (vf 16 (AB p f)):=by
 unfold QF
 have:=Vl (Uv p (vf 16 f)) (λ_=>0) (AB p f) om_ 0 om_ (λj hj=>by omega) (λi _ hi a _ ha=>by
  unfold Uv
  simp only [AI hi,if_true,Yt _ hi,zM _ hi,ob_,Int.toNat_natCast,Zb8 f (yh hp hi),AB]) (λv=>by unfold Uv; simp)
 have h2 : ZQ (Uv p (vf 16 f)) (vf 16 (λ_=>0),0) = _:=this
 rw [KB 16 (0 : UInt8),h2]; rfl
theorem v_move (p : Blk) (hp : JH p = true) (f : Nat → UInt8) : Ug p (vf 16 f) = some (vf 16 (AB p f)):=by
 unfold Ug
 have:=Vl (WH p (vf 16 f)) (λ_=>0) (AB p f) om_ 0 om_ (λj hj=>by omega) (λi _ hi a _ ha=>by
  unfold WH
  simp only [AI hi,if_true,Yt _ hi,zM _ hi,ob_,Int.toNat_natCast,Zb8 f (yh hp hi),AB]) (λv=>by unfold WH; simp)
 have h2 : ZQ (WH p (vf 16 f)) (vf 16 (λ_=>0),0) = _:=this
 rw [KB 16 (0 : UInt8),h2]; rfl

def HE (b : V256) (f : Nat → UInt8) (r : Int) : Nat → UInt8
 | 0=>f 0 ^^^ Zac b (f 15 ^^^ ZC r)
 | i + 1=>f (i + 1) ^^^ Zac b (HE b f r i)
theorem Zg1 (b : V256) (f : Nat → UInt8) (r : Int) : QD b (vf 16 f) r = some (vf 16 (HE b f r)) := by
  unfold QD
  have := Vl (Uz b r) f (HE b f r) om_ 0 om_ (λj hj => by omega) (λi _ hi a hb ha => by
    unfold Uz
    cases i with
    | zero =>
      have e1 : Int.tmod (wr (((0 : Nat) : Int) + 15)) 16 = ((15 : Nat) : Int) := by decide
      simp only [e1, AI hi, if_true, Yt a (show 15 < 16 by omega), ob_]
      have e2 : (((0 : Nat) : Int) == 0) = true := rfl
      simp only [e2, if_true, ob_, HV, Yt a hi, Int.toNat_natCast, ha 0 om_, ha 15 om_, HE]
    | succ i =>
      have e1 : Int.tmod (wr (((i + 1 : Nat) : Int) + 15)) 16 = ((i : Nat) : Int) := by
        rw [Xi om_]
        have : (((i + 1 : Nat) : Int) + 15) = ((i + 16 : Nat) : Int) := by omega
        rw [this]
        have : Int.tmod ((i + 16 : Nat) : Int) 16 = (((i + 16) % 16 : Nat) : Int) := rfl
        rw [this]
        omega
      have e2 : (((i + 1 : Nat) : Int) == 0) = false := by have : ((i + 1 : Nat) : Int) ≠ 0 := by omega
                                                           simpa using this
      simp only [e1, e2, AI hi, if_true, Yt a (show i < 16 by omega), ob_, Bool.false_eq_true, if_false, HV, Yt a hi, Int.toNat_natCast, ha (i + 1) (Nat.le_refl _), hb i om_, HE]) (λv => by unfold Uz; simp)
  have h2 : ZQ (Uz b r) (vf 16 f, 0) = _ := this
  rw [h2]; rfl
theorem Zgm (e : Ref Gengine) (f : Nat → UInt8) (r : Int) : WP e (vf 16 f) r = some (vf 16 (HE e.v.box f r)):=by
 unfold WP
 have x0 : Z4 (vf 16 f) (0 : Int) = some (f 0):=Yt f (show 0 < 16 by omega)
 have x15 : Z4 (vf 16 f) (15 : Int) = some (f 15):=Yt f (show 15 < 16 by omega)
 have z : (0 : Int).toNat = 0:=rfl
 simp only [x0,x15,ob_,HV,z,KW]
 have:=Vl (XU e) (λi=>if i = 0 then f 0 ^^^ Zac e.v.box (f 15 ^^^ ZC r) else f i) (HE e.v.box f r) om_ 1 om_ (λj hj=>by
  have : j = 0:=by omega
  subst this; simp [HE]) (λi h1 hi a hb ha=>by
  unfold XU
  obtain ⟨i,rfl⟩ : ∃ k,i = k + 1:=⟨i - 1,by omega⟩
  have e1 : wr (((i + 1 : Nat) : Int) - 1) = ((i : Nat) : Int):=by rw [Xi om_]; omega
  simp only [e1,AI hi,if_true,Yt a (show i < 16 by omega),Yt a hi,ob_,HV,Int.toNat_natCast,ha (i + 1) (Nat.le_refl _),hb i om_,HE]
  simp) (λv=>by unfold XU; simp)
 have h2 : ZQ (XU e) (vf 16 (λi=>if i = 0 then f 0 ^^^ Zac e.v.box (f 15 ^^^ ZC r) else f i),1) = _:=this
 rw [h2]; rfl
def Zbi (b : V256) (k : Nat → UInt8) : Nat → Nat → UInt8
 | 0=>k
 | r + 1=>HE b (Zbi b k r) ((r + 1 : Nat) : Int)
def T1 (b : V256) (k : Nat → UInt8) (n : Nat) : List Blk:=(List.range (n + 1)).map λr=>vf 16 (Zbi b k r)
theorem Zan (b : V256) (k : Nat → UInt8) (n : Nat) : T1 b k (n + 1) = T1 b k n ++ [vf 16 (HE b (Zbi b k n) ((n + 1 : Nat) : Int))]:=by
 unfold T1
 rw [List.range_succ,List.map_append]; rfl
theorem BT (b : V256) (k : Nat → UInt8) (n : Nat) : (T1 b k n).length = n + 1:=by simp [T1]
theorem zx (b : V256) (k : Nat → UInt8) {n r : Nat} (h : r ≤ n) : idx (T1 b k n) (r : Int) = some (vf 16 (Zbi b k r)):=by
 rw [Yh]; unfold T1; rw [List.getElem?_map,List.getElem?_range om_]; rfl
theorem Zgb (c : GCipher) (k : Nat → UInt8) (n : Nat) (hn : n ≤ 1000) : Qz c (vf 16 k) (n : Int) = some (T1 c.Box k n):=by
 unfold Qz
 have:=YC (f:=Uw c (n : Int)) (λi : Nat=>(vf 16 (Zbi c.Box k (i - 1)),T1 c.Box k (i - 1),(i : Int))) 1 (n + 1) om_ (t:=T1 c.Box k n) (λi h1 hi=>by
  unfold Uw
  obtain ⟨i,rfl⟩ : ∃ q,i = q + 1:=⟨i - 1,by omega⟩
  have e1 : decide (((i + 1 : Nat) : Int) ≤ (n : Int)) = true:=by simp; omega
  have e2 : app 16 (T1 c.Box k i) [vf 16 (HE c.Box (Zbi c.Box k i) ((i + 1 : Nat) : Int))] = _:=YA (by rw [BT]; simp; omega)
  simp only [Nat.add_sub_cancel,e1,if_true,Zg1,ob_,e2,Wn (show i + 1 < 9223372036854775807 by omega),Zan]
  rfl) (by
  unfold Uw
  have e1 : decide (((n + 1 : Nat) : Int) ≤ (n : Int)) = false:=by simp; omega
  simp only [e1,Bool.false_eq_true,if_false,Nat.add_sub_cancel])
 have h2 : ZQ (Uw c (n : Int)) (vf 16 k,[vf 16 k],1) = _:=this
 rw [h2]; rfl
theorem v_keys (e : Ref Gengine) (k : Nat → UInt8) (n : Nat) (hn : n ≤ 1000) : Ul e (vf 16 k) (n : Int) = some (T1 e.v.box k n):=by
 unfold Ul
 have:=YC (f:=WD e (n : Int)) (λi : Nat=>(vf 16 (Zbi e.v.box k (i - 1)),T1 e.v.box k (i - 1),(i : Int))) 1 (n + 1) om_ (t:=T1 e.v.box k n) (λi h1 hi=>by
  unfold WD
  obtain ⟨i,rfl⟩ : ∃ q,i = q + 1:=⟨i - 1,by omega⟩
  have e1 : decide (((i + 1 : Nat) : Int) ≤ (n : Int)) = true:=by simp; omega
  have e2 : app 16 (T1 e.v.box k i) [vf 16 (HE e.v.box (Zbi e.v.box k i) ((i + 1 : Nat) : Int))] = _:=YA (by rw [BT]; simp; omega)
  simp only [Nat.add_sub_cancel,e1,if_true,Zgm,ob_,e2,Wn (show i + 1 < 9223372036854775807 by omega),Zan]
  rfl) (by
  unfold WD
  have e1 : decide (((n + 1 : Nat) : Int) ≤ (n : Int)) = false:=by simp; omega
  simp only [e1,Bool.false_eq_true,if_false,Nat.add_sub_cancel])
 have h2 : ZQ (WD e (n : Int)) (vf 16 k,[vf 16 k],1) = _:=this
 rw [h2]; rfl

def rowF (m : Nat) (a : MF) (f : Nat → UInt8) (c r : Nat) : UInt8:=((YK m (a r 0) (f c) ^^^ YK m (a r 1) (f (c + 1))) ^^^ YK m (a r 2) (f (c + 2))) ^^^ YK m (a r 3) (f (c + 3))
def Qq (m : Nat) (a : MF) (f : Nat → UInt8) : Nat → UInt8:=λi=>rowF m a f (i / 4 * 4) (i % 4)
theorem Zi9 (f : Nat → UInt8) (k : Nat) (x y : UInt8) : (λi=>if i = k then y else if i = k then x else f i) = λi=>if i = k then y else f i:=by
 funext i; by_cases h : i = k <;> simp [h]
theorem wr_at {c r : Nat} (hc : c < 4) (hr : r < 4) : wr (wr (4 * (c : Int)) + (r : Int)) = ((c * 4 + r : Nat) : Int):=by
 rw [Xi (x:=4 * (c : Int)) om_,Xi om_]; omega
theorem Zjj (m : Nat) (hm : m < 512) (hm2 : 256 ≤ m) (a : MF) (f g : Nat → UInt8) (c r : Nat) (hc : c < 4) (hr : r < 4) (s1 s2 : Blk × Int) (h1 : s1.2 = (c : Int)) (h2 : s2.2 = (r : Int)) (hg : g (c * 4 + r) = 0) :
  ZQ (W9 (m : Int) (mf a) (vf 16 f) s1 s2) (vf 16 g,0) = some (vf 16 λi=>if i = c * 4 + r then rowF m a f (c * 4) r else g i):=by
 have hcr : c * 4 + r < 16:=by omega
 have step : ∀ (j : Nat) (h : Nat → UInt8),j < 4 → W9 (m : Int) (mf a) (vf 16 f) s1 s2 (vf 16 h,(j : Int)) = some (.nx (vf 16 (λi=>if i = c * 4 + r then h (c * 4 + r) ^^^ YK m (a r j) (f (c * 4 + j)) else h i),((j + 1 : Nat) : Int))):=λj h hj=>by
  unfold W9
  simp only [h1,h2,lt4 hj,if_true,wr_at hc hr,wr_at hc hj,Yt _ hcr,QZ _ hr,Yt _ hj,Yt f (show c * 4 + j < 16 by omega),ob_,A0 m hm hm2,Int.toNat_natCast,KW,wr4 (show j < 1000 by omega)]
 have e0:=step 0 g om_
 have e1:=step 1 (λi=>if i = c * 4 + r then g (c * 4 + r) ^^^ YK m (a r 0) (f (c * 4 + 0)) else g i) om_
 have e2:=step 2 (λi=>if i = c * 4 + r then (g (c * 4 + r) ^^^ YK m (a r 0) (f (c * 4 + 0))) ^^^ YK m (a r 1) (f (c * 4 + 1)) else g i) om_
 have e3:=step 3 (λi=>if i = c * 4 + r then ((g (c * 4 + r) ^^^ YK m (a r 0) (f (c * 4 + 0))) ^^^ YK m (a r 1) (f (c * 4 + 1))) ^^^ YK m (a r 2) (f (c * 4 + 2)) else g i) om_
 have e4 : ∀ v : Blk,W9 (m : Int) (mf a) (vf 16 f) s1 s2 (v,((4 : Nat) : Int)) = some (.ex v):=λv=>by unfold W9; simp
 simp only [if_true,Zi9] at e1 e2 e3
 have e0' : W9 (m : Int) (mf a) (vf 16 f) s1 s2 (vf 16 g,0) = _:=e0
 rw [U8 e0',U8 e1,U8 e2,U8 e3,U7 (e4 _)]
 refine congrArg some (Wf λi _=>?_)
 by_cases h : i = c * 4 + r
 ·simp [h,hg,rowF]
 simp [h]
theorem Zh1 (m : Nat) (hm : m < 512) (hm2 : 256 ≤ m) (a : MF) (f : Nat → UInt8) : Kr (m : Int) (mf a) (vf 16 f) = some (vf 16 (Qq m a f)):=by
 unfold Kr
 -- after c columns and r rows of the next
 have inner : ∀ c : Nat,c < 4 → ∀ s1 : Blk × Int,s1.2 = (c : Int) → ZQ (Tx (m : Int) (mf a) (vf 16 f) s1) (vf 16 (λi=>if i < c * 4 then Qq m a f i else 0),0) = some (vf 16 λi=>if i < (c + 1) * 4 then Qq m a f i else 0):=λc hc s1 h1=>by
  have k1 : (vf 16 λi=>if i < c * 4 + 4 then Qq m a f i else 0) = vf 16 λi=>if i < (c + 1) * 4 then Qq m a f i else 0:=by rw [show c * 4 + 4 = (c + 1) * 4 by omega]
  have:=YC (f:=Tx (m : Int) (mf a) (vf 16 f) s1) (λr : Nat=>(vf 16 λi=>if i < c * 4 + r then Qq m a f i else 0,(r : Int))) 0 4 om_ (t:=vf 16 λi=>if i < (c + 1) * 4 then Qq m a f i else 0) (λr _ hr=>by
   unfold Tx
   have h2:=Zjj m hm hm2 a f (λi=>if i < c * 4 + r then Qq m a f i else 0) c r hc hr s1 (vf 16 λi=>if i < c * 4 + r then Qq m a f i else 0,(r : Int)) h1 rfl (by simp)
   simp only [lt4 hr,if_true,h2,ob_,wr4 (show r < 1000 by omega)]
   refine congrArg (λz=>some (Fl.nx (z,((r + 1 : Nat) : Int)))) (Wf λi _=>?_)
   by_cases h : i = c * 4 + r
   ·subst h
    have q1 : (c * 4 + r) / 4 = c:=by omega
    have q2 : (c * 4 + r) % 4 = r:=by omega
    rw [if_pos rfl,if_pos om_]
    unfold Qq; rw [q1,q2]
   ·by_cases h3 : i < c * 4 + r
    ·rw [if_neg h,if_pos h3,if_pos om_]
    ·rw [if_neg h,if_neg h3,if_neg om_]) (by
   unfold Tx
   simp only [k1]
   simp)
  exact this
 have:=YC (f:=Ts (m : Int) (mf a) (vf 16 f)) (λc : Nat=>(vf 16 λi=>if i < c * 4 then Qq m a f i else 0,(c : Int))) 0 4 om_ (t:=vf 16 (Qq m a f)) (λc _ hc=>by
  unfold Ts
  have h2:=inner c hc (vf 16 λi=>if i < c * 4 then Qq m a f i else 0,(c : Int)) rfl
  simp only [lt4 hc,if_true,h2,ob_,wr4 (show c < 1000 by omega)]) (by
  unfold Ts
  have : (vf 16 λi=>if i < 4 * 4 then Qq m a f i else 0) = vf 16 (Qq m a f):=Wf λi hi=>by rw [if_pos om_]
  simp only [this]
  simp)
 have e0 : (vf 16 λi=>if i < 0 * 4 then Qq m a f i else 0) = vf 16 λ_=>(0 : UInt8):=Wf λi _=>by rw [if_neg om_]
 simp only [e0] at this
 have h2 : ZQ (Ts (m : Int) (mf a) (vf 16 f)) (vf 16 λ_=>(0 : UInt8),0) = _:=this
 rw [KB 16 (0 : UInt8),h2]; rfl

abbrev Tab:=Vector (Vector V256 4) 4
def jq (m : Nat) (a : MF) : Tab:=vf 4 λi=>vf 4 λj=>vf 256 λx=>YK m (a i j) (UInt8.ofNat x)
theorem Ziz (m : Nat) (a : MF) (i j : Nat) (x : UInt8) : Z4 (vf 256 λx=>YK m (a i j) (UInt8.ofNat x)) (bI x) = some (YK m (a i j) x):=by
 rw [show bI x = ((x.toNat : Nat) : Int) from rfl,Yt _ (UInt8.toNat_lt x)]
 simp
theorem v_mix (m : Nat) (a : MF) (f : Nat → UInt8) : Tj ⟨jq m a⟩ (vf 16 f) = some (vf 16 (Qq m a f)):=by
 unfold Tj
 have i0 : ∀ (v : Vector V256 4),Z4 v (0 : Int) = v[0]?:=λv=>Qc v 0
 have i1 : ∀ (v : Vector V256 4),Z4 v (1 : Int) = v[1]?:=λv=>Qc v 1
 have i2 : ∀ (v : Vector V256 4),Z4 v (2 : Int) = v[2]?:=λv=>Qc v 2
 have i3 : ∀ (v : Vector V256 4),Z4 v (3 : Int) = v[3]?:=λv=>Qc v 3
 have inner : ∀ c : Nat,c < 4 → ∀ s1 : Blk × Int,s1.2 = ((c * 4 : Nat) : Int) → ZQ (Vo ⟨jq m a⟩ s1 (f (c * 4),f (c * 4 + 1),f (c * 4 + 2),f (c * 4 + 3))) (vf 16 (λi=>if i < c * 4 then Qq m a f i else f i),0) = some (vf 16 λi=>if i < (c + 1) * 4 then Qq m a f i else f i):=λc hc s1 h1=>by
  have k1 : (vf 16 λi=>if i < c * 4 + 4 then Qq m a f i else f i) = vf 16 λi=>if i < (c + 1) * 4 then Qq m a f i else f i:=by rw [show c * 4 + 4 = (c + 1) * 4 by omega]
  have:=YC (f:=Vo ⟨jq m a⟩ s1 (f (c * 4),f (c * 4 + 1),f (c * 4 + 2),f (c * 4 + 3))) (λr : Nat=>(vf 16 λi=>if i < c * 4 + r then Qq m a f i else f i,(r : Int))) 0 4 om_ (t:=vf 16 λi=>if i < (c + 1) * 4 then Qq m a f i else f i) (λr _ hr=>by
   unfold Vo
   have e1 : wr (s1.2 + (r : Int)) = ((c * 4 + r : Nat) : Int):=by rw [h1,Xi om_]; omega
   have et : Z4 (jq m a) (r : Int) = some (vf 4 λj=>vf 256 λx=>YK m (a r j) (UInt8.ofNat x)):=Yt _ hr
   simp only [lt4 hr,if_true,et,i0,i1,i2,i3,zK _ (show 0 < 4 by omega),zK _ (show 1 < 4 by omega),zK _ (show 2 < 4 by omega),zK _ (show 3 < 4 by omega),Ziz,e1,Yt _ (show c * 4 + r < 16 by omega),ob_,Int.toNat_natCast,KW,wr4 (show r < 1000 by omega)]
   refine congrArg (λz=>some (Fl.nx (z,((r + 1 : Nat) : Int)))) (Wf λi _=>?_)
   by_cases h : i = c * 4 + r
   ·subst h
    have q1 : (c * 4 + r) / 4 = c:=by omega
    have q2 : (c * 4 + r) % 4 = r:=by omega
    rw [if_pos rfl,if_pos om_]
    unfold Qq; rw [q1,q2]; rfl
   ·by_cases h3 : i < c * 4 + r
    ·rw [if_neg h,if_pos h3,if_pos om_]
    ·rw [if_neg h,if_neg h3,if_neg om_]) (by
   unfold Vo
   simp only [k1]
   simp)
  exact this
 have:=YC (f:=Vt ⟨jq m a⟩) (λc : Nat=>(vf 16 λi=>if i < c * 4 then Qq m a f i else f i,((c * 4 : Nat) : Int))) 0 4 om_ (t:=vf 16 (Qq m a f)) (λc _ hc=>by
  unfold Vt
  have hd : decide (((c * 4 : Nat) : Int) < ((vf 16 λi=>if i < c * 4 then Qq m a f i else f i).toList.length : Int)) = true:=by rw [Vector.length_toList]; simp; omega
  have x0:=Yt (n:=16) (λi=>if i < c * 4 then Qq m a f i else f i) (show c * 4 < 16 by omega)
  have x1:=Yt (n:=16) (λi=>if i < c * 4 then Qq m a f i else f i) (show c * 4 + 1 < 16 by omega)
  have x2:=Yt (n:=16) (λi=>if i < c * 4 then Qq m a f i else f i) (show c * 4 + 2 < 16 by omega)
  have x3:=Yt (n:=16) (λi=>if i < c * 4 then Qq m a f i else f i) (show c * 4 + 3 < 16 by omega)
  have w1 : wr (((c * 4 : Nat) : Int) + 1) = ((c * 4 + 1 : Nat) : Int):=by rw [Xi om_]; omega
  have w2 : wr (((c * 4 : Nat) : Int) + 2) = ((c * 4 + 2 : Nat) : Int):=by rw [Xi om_]; omega
  have w3 : wr (((c * 4 : Nat) : Int) + 3) = ((c * 4 + 3 : Nat) : Int):=by rw [Xi om_]; omega
  have w4 : wr (((c * 4 : Nat) : Int) + 4) = (((c + 1) * 4 : Nat) : Int):=by rw [Xi om_]; omega
  rw [if_neg om_] at x0 x1 x2 x3
  have h2:=inner c hc (vf 16 λi=>if i < c * 4 then Qq m a f i else f i,((c * 4 : Nat) : Int)) rfl
  simp only [hd,if_true,x0,w1,x1,w2,x2,w3,x3,ob_,h2,w4]) (by
  unfold Vt
  have : (vf 16 λi=>if i < 4 * 4 then Qq m a f i else f i) = vf 16 (Qq m a f):=Wf λi hi=>by rw [if_pos om_]
  simp only [this]
  simp)
 have e0 : (vf 16 λi=>if i < 0 * 4 then Qq m a f i else f i) = vf 16 f:=Wf λi _=>by rw [if_neg om_]
 simp only [e0] at this
 have h2 : ZQ (Vt ⟨jq m a⟩) (vf 16 f,0) = _:=this
 rw [h2]; rfl

def tb (g : Nat → Nat → Nat → UInt8) : Tab:=vf 4 λi=>vf 4 λj=>vf 256 (g i j)
theorem yp {g h : Nat → Nat → Nat → UInt8} (e : ∀ i,i < 4 → ∀ j,j < 4 → ∀ x,x < 256 → g i j x = h i j x) : tb g = tb h :=
 Wf λi hi=>Wf λj hj=>Wf λx hx=>e i hi j hj x hx
theorem Zj4 (g : Nat → Nat → Nat → UInt8) {i : Nat} (hi : i < 4) : Z4 (tb g) (i : Int) = some (vf 4 λj=>vf 256 (g i j)):=Yt _ hi
theorem Zho (g : Nat → Nat → Nat → UInt8) (i : Nat) {j : Nat} (hj : j < 4) : Z4 (vf 4 λj=>vf 256 (g i j)) (j : Int) = some (vf 256 (g i j)):=Yt _ hj
theorem tb_set (g : Nat → Nat → Nat → UInt8) (i j : Nat) (h : Nat → UInt8) : (tb g).setIfInBounds i ((vf 4 λj=>vf 256 (g i j)).setIfInBounds j (vf 256 h)) = tb (λi' j'=>if i' = i ∧ j' = j then h else g i' j'):=by
 unfold tb
 rw [KW,KW]
 refine Wf λi' _=>?_
 by_cases h1 : i' = i
 ·subst h1
  rw [if_pos rfl]
  refine Wf λj' _=>?_
  by_cases h2 : j' = j
  ·subst h2; simp
  simp [h2]
 rw [if_neg h1]
 refine Wf λj' _=>?_
 simp [h1]
theorem Zka (a b : Nat) (ha : a < 9223372036854775808) (hb : b < 9223372036854775808) : orI (a : Int) (b : Int) = ((a ||| b : Nat) : Int):=by
 unfold orI
 rw [BitVec.toNat_or,yI a ha,yI b hb]
 have : a ||| b < 2 ^ 63:=Nat.or_lt_two_pow ha hb
 exact Xi om_
theorem WM (n : Nat) : ZC (n : Int) = UInt8.ofNat n:=by
 unfold ZC
 have : ((n : Int) % 256).toNat = n % 256:=by omega
 rw [this]
 apply UInt8.toNat_inj.1
 simp
theorem Zj3 (g : Nat → Nat → Nat → UInt8) (i j : Nat) (h : Nat → UInt8) : (tb g).setIfInBounds i (vf 4 λj'=>if j' = j then vf 256 h else vf 256 (g i j')) = tb (λi' j'=>if i' = i ∧ j' = j then h else g i' j'):=by
 have:=tb_set g i j h
 rw [KW] at this
 exact this
theorem Zi2 {p low : Nat} (h : low < 2 ^ p) : 2 ^ p ||| low = 2 ^ p + low:=by
 have:=Nat.two_pow_add_eq_or_of_lt h 1
 simpa using this.symm
theorem Zhe {p low : Nat} (hp : p < 8) (h : low < 2 ^ p) : UInt8.ofNat (2 ^ p + low) = UInt8.ofNat (2 ^ p) ^^^ UInt8.ofNat low:=by
 apply UInt8.toNat_inj.1
 have h7 : 2 ^ p ≤ 2 ^ 7:=Nat.pow_le_pow_right om_ om_
 rw [UInt8.toNat_xor]
 simp only [UInt8.toNat_ofNat']
 rw [Nat.mod_eq_of_lt om_,Nat.mod_eq_of_lt om_,Nat.mod_eq_of_lt om_]
 rw [← Zi2 h]
 apply Nat.eq_of_testBit_eq
 intro i
 rw [Nat.testBit_or,Nat.testBit_xor,Nat.testBit_two_pow]
 by_cases hi : p = i
 ·subst hi
  rw [Nat.testBit_lt_two_pow h]; simp
 simp [hi]
section
variable (m : Nat) (hm : m < 512) (hm2 : 256 ≤ m) (a : MF)
include hm hm2
def B2 (m : Nat) (a : MF) (i j n : Nat) (g : Nat → Nat → Nat → UInt8) : Nat → Nat → Nat → UInt8:=λi' j'=>if i' = i ∧ j' = j then (λx=>if x < n then YK m (a i j) (UInt8.ofNat x) else 0) else g i' j'
theorem Zhs (i j p : Nat) (hi : i < 4) (hj : j < 4) (hp : p < 8) (g : Nat → Nat → Nat → UInt8) (s0 s1 s2 : Tab × Int) (h0 : s0.2 = (i : Int)) (h1 : s1.2 = (j : Int)) (h2 : s2.2 = ((2 ^ p : Nat) : Int)) :
  ZQ (V0 s0 s1 s2 (YK m (a i j) (UInt8.ofNat (2 ^ p)))) (tb (B2 m a i j (2 ^ p) g),0) = some (tb (B2 m a i j (2 ^ (p + 1)) g)):=by
 have h7 : 2 ^ p ≤ 2 ^ 7:=Nat.pow_le_pow_right om_ om_
 have k1 : 2 ^ p + 2 ^ p = 2 ^ (p + 1):=by rw [Nat.pow_succ]; omega
 have:=YC (f:=V0 s0 s1 s2 (YK m (a i j) (UInt8.ofNat (2 ^ p)))) (λlow : Nat=>(tb (B2 m a i j (2 ^ p + low) g),(low : Int))) 0 (2 ^ p) (Nat.zero_le _) (t:=tb (B2 m a i j (2 ^ (p + 1)) g)) (λlow _ hl=>by
  unfold V0
  have hd : decide ((low : Int) < ((2 ^ p : Nat) : Int)) = true:=by simp only [decide_eq_true_eq]; omega
  have ho : orI ((2 ^ p : Nat) : Int) (low : Int) = ((2 ^ p + low : Nat) : Int):=by rw [Zka _ _ om_ om_,Zi2 hl]
  have eg : B2 m a i j (2 ^ p + low) g i j = λx=>if x < 2 ^ p + low then YK m (a i j) (UInt8.ofNat x) else 0:=by simp [B2]
  simp only [h0,h1,h2,hd,if_true,Zj4 _ hi,Zho _ i hj,eg,Yt _ (show low < 256 by omega),ho,Yt _ (show 2 ^ p + low < 256 by omega),ob_,Int.toNat_natCast,KW,Wn (show low < 9223372036854775807 by omega)]
  rw [if_pos (show low < 2 ^ p + low from Nat.lt_add_of_pos_left (Nat.two_pow_pos p)),← Zd4 hm2 hm,← Zhe hp hl]
  have:=Zj3 (B2 m a i j (2 ^ p + low) g) i j (λx=>if x = 2 ^ p + low then YK m (a i j) (UInt8.ofNat (2 ^ p + low)) else if x < 2 ^ p + low then YK m (a i j) (UInt8.ofNat x) else 0)
  rw [this]
  refine congrArg (λz=>some (Fl.nx (z,((low + 1 : Nat) : Int)))) (yp λi' _ j' _ x _=>?_)
  unfold B2
  by_cases h : i' = i ∧ j' = j
  ·simp only [h,and_self,if_true]
   by_cases hx : x = 2 ^ p + low
   ·subst hx; simp
   ·by_cases hx2 : x < 2 ^ p + low
    ·rw [if_neg hx,if_pos hx2,if_pos om_]
    ·rw [if_neg hx,if_neg hx2,if_neg om_]
  ·simp only [h,if_false]) (by
  unfold V0
  simp only [h2,k1]
  simp)
 exact this
theorem Zh4 (i j : Nat) (hi : i < 4) (hj : j < 4) (g : Nat → Nat → Nat → UInt8) (s0 s1 : Tab × Int) (h0 : s0.2 = (i : Int)) (h1 : s1.2 = (j : Int)) :
  ZQ (VX (m : Int) s0 s1 (a i j)) (tb (B2 m a i j 1 g),1) = some (tb (B2 m a i j 256 g)):=by
 have:=YC (f:=VX (m : Int) s0 s1 (a i j)) (λp : Nat=>(tb (B2 m a i j (2 ^ p) g),((2 ^ p : Nat) : Int))) 0 8 om_ (t:=tb (B2 m a i j 256 g)) (λp _ hp=>by
  unfold VX
  have h7 : 2 ^ p ≤ 2 ^ 7:=Nat.pow_le_pow_right om_ om_
  have hd : decide (((2 ^ p : Nat) : Int) < 256) = true:=by simp only [decide_eq_true_eq]; omega
  have hb : ZC ((2 ^ p : Nat) : Int) = UInt8.ofNat (2 ^ p):=by rw [WM]
  have hw : wr (((2 ^ p : Nat) : Int) * 2) = ((2 ^ (p + 1) : Nat) : Int):=by
   rw [Nat.pow_succ]
   generalize 2 ^ p = q at h7 ⊢
   rw [Xi om_]; omega
  have h3:=Zhs m hm hm2 a i j p hi hj hp g s0 s1 (tb (B2 m a i j (2 ^ p) g),((2 ^ p : Nat) : Int)) h0 h1 rfl
  simp only [hd,if_true,hb,Ki m hm,ob_,h3,hw]) (by unfold VX; simp)
 exact this
theorem kJ (A : Mat) (hA : A = mf a) : Uy (m : Int) A = some ⟨jq m a⟩:=by
 subst hA
 unfold Uy
 let G : Nat → Nat → Nat → Nat → Nat → UInt8:=λr c i j x=>if i < r ∨ (i = r ∧ j < c) then YK m (a i j) (UInt8.ofNat x) else 0
 have hGt : ∀ r c i j x,(i < r ∨ (i = r ∧ j < c)) → G r c i j x = YK m (a i j) (UInt8.ofNat x):=λr c i j x h=>if_pos h
 have hGf : ∀ r c i j x,¬ (i < r ∨ (i = r ∧ j < c)) → G r c i j x = 0:=λr c i j x h=>if_neg h
 have hGe : ∀ r c r' c' i j x,((i < r ∨ (i = r ∧ j < c)) ↔ (i < r' ∨ (i = r' ∧ j < c'))) → G r c i j x = G r' c' i j x:=λr c r' c' i j x h=>by show (if _ then _ else _) = (if _ then _ else _); simp only [h]
 have z0 : ∀ i j,YK m (a i j) (UInt8.ofNat 0) = 0:=λi j=>by rw [H0 hm2 hm]; exact AV hm2 hm _
 have col : ∀ r : Nat,r < 4 → ∀ s0 : Tab × Int,s0.2 = (r : Int) → ZQ (VW (m : Int) s0 (vf 4 (a r))) (tb (G r 0),0) = some (tb (G (r + 1) 0)):=λr hr s0 h0=>by
  have k1 : tb (G r 4) = tb (G (r + 1) 0):=yp λi hi j hj x _=>by
   exact hGe _ _ _ _ _ _ _ om_
  have:=YC (f:=VW (m : Int) s0 (vf 4 (a r))) (λc : Nat=>(tb (G r c),(c : Int))) 0 4 om_ (t:=tb (G (r + 1) 0)) (λc _ hc=>by
   unfold VW
   have e1 : tb (G r c) = tb (B2 m a r c 1 (G r c)):=yp λi _ j _ x _=>by
    unfold B2
    by_cases h : i = r ∧ j = c
    ·obtain ⟨rfl,rfl⟩:=h
     simp only [and_self,if_true]
     rw [hGf _ _ _ _ _ om_]
     by_cases hx : x < 1
     ·have : x = 0:=by omega
      subst this; rw [if_pos hx,z0]
     ·rw [if_neg hx]
    ·simp only [h,if_false]
   have e2 : tb (B2 m a r c 256 (G r c)) = tb (G r (c + 1)):=yp λi _ j _ x hx=>by
    unfold B2
    by_cases h : i = r ∧ j = c
    ·obtain ⟨rfl,rfl⟩:=h
     simp only [and_self,if_true,hx]
     rw [hGt _ _ _ _ _ om_]
    ·simp only [h,if_false]
     exact hGe _ _ _ _ _ _ _ om_
   have h3:=Zh4 m hm hm2 a r c hr hc (G r c) s0 (tb (G r c),(c : Int)) h0 rfl
   rw [← e1,e2] at h3
   simp only [lt4 hc,if_true,Yt _ hc,h3,ob_,wr4 (show c < 1000 by omega)]) (by
   unfold VW
   simp only [k1]
   simp)
  exact this
 have kz : tb (G 0 0) = Vector.replicate 4 (Vector.replicate 4 (Vector.replicate 256 (0 : UInt8))):=by
  rw [KB 256 (0 : UInt8),KB 4,KB 4]
  exact yp λi _ j _ x _=>by
   exact hGf _ _ _ _ _ om_
 have k4 : tb (G 4 0) = jq m a:=yp λi hi j _ x _=>by
  exact hGt _ _ _ _ _ om_
 have:=YC (f:=VZ (m : Int) (mf a)) (λr : Nat=>(tb (G r 0),(r : Int))) 0 4 om_ (t:=jq m a) (λr _ hr=>by
  unfold VZ
  have h3:=col r hr (tb (G r 0),(r : Int)) rfl
  simp only [lt4 hr,if_true,QZ _ hr,h3,ob_,wr4 (show r < 1000 by omega)]) (by
  unfold VZ
  simp only [k4]
  simp)
 have h2 : ZQ (VZ (m : Int) (mf a)) (tb (G 0 0),0) = _:=this
 rw [← kz,h2]; rfl
end

def kA (n : Nat) (p : Vector UInt8 n) : Nat → Vector UInt8 n
 | 0=>Vector.replicate n 0
 | i + 1=>(kA n p i).setIfInBounds (p.toList.getD i 0).toNat (ZC (i : Int))
theorem qB (p : V256) : Ue p = some (kA 256 p 256):=by
 unfold Ue
 have:=YC (f:=WI p) (λi : Nat=>(kA 256 p i,(i : Int))) 0 256 om_ (t:=kA 256 p 256) (λi _ hi=>by
  unfold WI
  have hd : decide ((i : Int) < 256) = true:=by simp; omega
  simp only [hd,if_true,qO p hi,HV,ob_,Zcr,Wn (show i < 9223372036854775807 by omega)]
  rfl) (by unfold WI; simp)
 have h2 : ZQ (WI p) (Vector.replicate 256 0,0) = _:=this
 rw [h2]; rfl
theorem Zjc (p : Blk) {i : Nat} (h : i < 16) : p.toList.getD i 0 = bf p i:=by
 have h1:=qO p h
 rw [zM p h] at h1
 exact (Option.some.inj h1).symm
theorem yi (p : Blk) (hp : JH p = true) : WU p = some (kA 16 p 16):=by
 unfold WU
 have:=YC (f:=XT p) (λi : Nat=>(kA 16 p i,(i : Int))) 0 16 om_ (t:=kA 16 p 16) (λi _ hi=>by
  unfold XT
  have hlt:=yh hp hi
  have hv : Z4 (kA 16 p i) (bI (bf p i)) = some (bf (kA 16 p i) (bf p i).toNat):=zM _ hlt
  simp only [AI hi,if_true,zM p hi,hv,ob_,Zcr,Wn (show i < 9223372036854775807 by omega)]
  rw [← Zjc p hi]
  rfl) (by unfold XT; simp)
 have h2 : ZQ (XT p) (Vector.replicate 16 0,0) = _:=this
 rw [h2]; rfl

def YR (c : GCipher) : Gengine:=⟨c.Box,kA 256 c.Box 256,c.Places,kA 16 c.Places 16,⟨jq c.Field.toNat (jl c.Mix)⟩,⟨jq c.Field.toNat (jl (invM c.Field.toNat c.Mix))⟩,c.Rounds⟩
theorem Hs {c : GCipher} (h : Xe c = true) : JH c.Places = true:=by
 unfold Xe at h
 simp only [Bool.and_eq_true] at h
 exact h.1.1.2
theorem Aw {c : GCipher} (h : Xe c = true) : 1 ≤ c.Rounds ∧ c.Rounds ≤ 20:=by
 unfold Xe at h
 simp only [Bool.and_eq_true,decide_eq_true_eq] at h
 exact h.1.2
theorem Zc9 (c : GCipher) (h : Xe c = true) : Te c = some ⟨YR c⟩:=by
 obtain ⟨m,hm,h1,h2⟩:=zZ h
 have e : c.Field.toNat = m:=by omega
 unfold Te YR
 rw [e]
 simp only [hm,Zhg m h2 h1,ob_,qB,yi _ (Hs h),kJ m h2 h1 (jl c.Mix) c.Mix (jE _),kJ m h2 h1 (jl (invM m c.Mix)) (invM m c.Mix) (jE _)]

def jS (c : GCipher) (n r : Nat) (k f : Nat → UInt8) : Nat → UInt8 :=
 zV (if r < n then Qq c.Field.toNat (jl c.Mix) (AB c.Places (jR c.Box f)) else AB c.Places (jR c.Box f)) k
def yL (c : GCipher) (k f : Nat → UInt8) (n : Nat) : Nat → Nat → UInt8
 | 0=>zV f k
 | r + 1=>jS c n (r + 1) (Zbi c.Box k (r + 1)) (yL c k f n r)
def Zbx (c : GCipher) (k f : Nat → UInt8) (n : Nat) : Nat → UInt8:=yL c k f n n
theorem ql (c : GCipher) (h : Xe c = true) (k f : Nat → UInt8) (n : Nat) (hn : n ≤ 1000) : Wb c (vf 16 k) (vf 16 f) (n : Int) = some (vf 16 (Zbx c k f n)):=by
 obtain ⟨m,hm,h1,h2⟩:=zZ h
 have e : c.Field.toNat = m:=by omega
 have hp:=Hs h
 unfold Wb
 have i0 : idx (T1 c.Box k n) (0 : Int) = some (vf 16 k):=zx c.Box k (Nat.zero_le n)
 simp only [Zgb c k n hn,ob_,i0,z9]
 have:=YC (f:=WJ c (n : Int) (T1 c.Box k n)) (λi : Nat=>(vf 16 (yL c k f n (i - 1)),(i : Int))) 1 (n + 1) om_ (t:=vf 16 (Zbx c k f n)) (λi hi1 hi=>by
  unfold WJ
  obtain ⟨r,rfl⟩ : ∃ q,i = q + 1:=⟨i - 1,by omega⟩
  have e1 : decide (((r + 1 : Nat) : Int) ≤ (n : Int)) = true:=by simp only [decide_eq_true_eq]; omega
  have Yx:=Zh1 m h2 h1 (jl c.Mix) (AB c.Places (jR c.Box (yL c k f n r)))
  rw [← jE] at Yx
  simp only [Nat.add_sub_cancel,e1,if_true,Zd6,ob_,Zf9 c.Places hp,hm,Yx,zx c.Box k (show r + 1 ≤ n by omega),Wn (show r + 1 < 9223372036854775807 by omega)]
  by_cases hr : r + 1 < n
  ·have e2 : decide (((r + 1 : Nat) : Int) < (n : Int)) = true:=by simp only [decide_eq_true_eq]; omega
   simp only [e2,if_true,ob_,z9,yL,jS,hr,e]
  ·have e2 : decide (((r + 1 : Nat) : Int) < (n : Int)) = false:=by simp only [decide_eq_false_iff_not]; omega
   simp only [e2,Bool.false_eq_true,if_false,ob_,z9,yL,jS,hr]) (by
  unfold WJ
  have e1 : decide (((n + 1 : Nat) : Int) ≤ (n : Int)) = false:=by simp only [decide_eq_false_iff_not]; omega
  simp only [e1,Bool.false_eq_true,if_false,Nat.add_sub_cancel,Zbx])
 have h3 : ZQ (WJ c (n : Int) (T1 c.Box k n)) (vf 16 (zV f k),1) = _:=this
 rw [h3]; rfl
theorem Zer (e : Ref Gengine) (s : Blk × Int) (f : Nat → UInt8) (hs : s.1 = vf 16 f) : ZQ (Xc e s) (vf 16 f,0) = some (vf 16 (jR e.v.box f)):=by
 have:=Vl (Xc e s) f (jR e.v.box f) om_ 0 om_ (λj hj=>by omega) (λi _ hi a _ ha=>by
  unfold Xc
  simp only [hs,AI hi,if_true,Yt _ hi,ob_,Int.toNat_natCast,HV,jR]) (λv=>by unfold Xc; simp)
 exact this
theorem kK (c : GCipher) (h : Xe c = true) (k f : Nat → UInt8) (n : Nat) (hn : n ≤ 1000) : XN ⟨YR c⟩ (T1 c.Box k n) (vf 16 f) = some (vf 16 (Zbx c k f n)):=by
 have hp:=Hs h
 unfold XN
 have i0 : idx (T1 c.Box k n) (0 : Int) = some (vf 16 k):=zx c.Box k (Nat.zero_le n)
 simp only [ob_,i0,KL]
 have:=YC (f:=Xd ⟨YR c⟩ (T1 c.Box k n)) (λi : Nat=>(vf 16 (yL c k f n (i - 1)),(i : Int))) 1 (n + 1) om_ (t:=vf 16 (Zbx c k f n)) (λi hi1 hi=>by
  unfold Xd
  obtain ⟨r,rfl⟩ : ∃ q,i = q + 1:=⟨i - 1,by omega⟩
  have e1 : decide (((r + 1 : Nat) : Int) < ((T1 c.Box k n).length : Int)) = true:=by rw [BT]; simp only [decide_eq_true_eq]; omega
  have e3 : wr (((T1 c.Box k n).length : Int) - 1) = (n : Int):=by rw [BT,Xi om_]; omega
  have hb:=Zer ⟨YR c⟩ (vf 16 (yL c k f n r),((r + 1 : Nat) : Int)) (yL c k f n r) rfl
  have hmv:=v_move c.Places hp (jR c.Box (yL c k f n r))
  have Yx:=v_mix c.Field.toNat (jl c.Mix) (AB c.Places (jR c.Box (yL c k f n r)))
  have hsl : ∀ g : Nat → UInt8,slc (vf 16 g).toList (0 : Int) (16 : Int) = some (vf 16 g).toList:=λg=>by
   have:=J2 (l:=(vf 16 g).toList) (i:=0) (j:=16) om_ (by simp)
   simp only [List.drop_zero] at this
   rw [List.take_of_length_le (by simp)] at this
   exact this
  have q1 : (YR c).box = c.Box:=rfl
  have q2 : (YR c).places = c.Places:=rfl
  have q3 : (YR c).mixer = ⟨jq c.Field.toNat (jl c.Mix)⟩:=rfl
  simp only [q1] at hb
  simp only [Nat.add_sub_cancel,e1,if_true,hb,ob_,q2,q3,hmv,e3,hsl,Yx,zx c.Box k (show r + 1 ≤ n by omega),Wn (show r + 1 < 9223372036854775807 by omega)]
  by_cases hr : r + 1 < n
  ·have e2 : decide (((r + 1 : Nat) : Int) < (n : Int)) = true:=by simp only [decide_eq_true_eq]; omega
   simp only [e2,if_true,ob_,KL,yL,jS,hr]
  ·have e2 : decide (((r + 1 : Nat) : Int) < (n : Int)) = false:=by simp only [decide_eq_false_iff_not]; omega
   simp only [e2,Bool.false_eq_true,if_false,ob_,KL,yL,jS,hr]) (by
  unfold Xd
  have e1 : decide (((n + 1 : Nat) : Int) < ((T1 c.Box k n).length : Int)) = false:=by rw [BT]; simp only [decide_eq_false_iff_not]; omega
  simp only [e1,Bool.false_eq_true,if_false,Nat.add_sub_cancel,Zbx])
 have h3 : ZQ (Xd ⟨YR c⟩ (T1 c.Box k n)) (vf 16 (zV f k),1) = _:=this
 rw [h3]; rfl
theorem zB (c : GCipher) (h : Xe c = true) (k f : Nat → UInt8) : Xq ⟨YR c⟩ (vf 16 k) (vf 16 f) = some (vf 16 (Zbx c k f c.Rounds.toNat)):=by
 have hr:=Aw h
 obtain ⟨n,hn⟩ : ∃ n : Nat,c.Rounds = n:=⟨c.Rounds.toNat,by omega⟩
 have e1 : (YR c).rounds = (n : Int):=hn
 have e2 : (YR c).box = c.Box:=rfl
 have hk:=v_keys ⟨YR c⟩ k n om_
 rw [e2] at hk
 unfold Xq
 simp only [e1,hk,ob_,kK c h k f n om_,hn,Int.toNat_natCast]
theorem zn (c : GCipher) (h : Xe c = true) (k f : Nat → UInt8) : Wb c (vf 16 k) (vf 16 f) c.Rounds = some (vf 16 (Zbx c k f c.Rounds.toNat)):=by
 have hr:=Aw h
 obtain ⟨n,hn⟩ : ∃ n : Nat,c.Rounds = n:=⟨c.Rounds.toNat,by omega⟩
 rw [hn]
 exact ql c h k f n om_
theorem qV (x : Nat) : UInt8.ofNat (x % 256) = UInt8.ofNat x:=by
 apply UInt8.toNat_inj.1; simp
def tab (n : Nat) (f : Nat → UInt8) : List UInt8:=(List.range n).map f
@[simp] theorem tab_len (n : Nat) (f : Nat → UInt8) : (tab n f).length = n:=by simp [tab]
theorem Ziw {α : Type} (by_ : Nat) (z : α) (n : Nat) (h : n * by_ ≤ 140737488355328) (hby : 0 < by_) :
  ((if (decide ((n : Int) < 0)) = true then (none) else (some ()) : Option (Unit)).bind λ(_ : Unit)=>(if (decide ((wr ((n : Int) - (wr (0 - 0)))) > 0)) = true then ((mkS by_ z (wr ((n : Int) - (wr (0 - 0))))).bind λ(l14 : List α)=>(slc l14 (0 : Int) (0 : Int)).bind λ(l16 : List α)=>some l16) else (some ([])) : Option (List α)).bind λ(j6 : List α)=>some j6) = some []:=by
 have hn : n ≤ 140737488355328:=Nat.le_trans (Nat.le_mul_of_pos_right _ hby) h
 have e0 : wr (0 - 0) = 0:=by decide
 have e1 : wr ((n : Int) - (wr (0 - 0))) = (n : Int):=by rw [e0,Xi om_]; omega
 have e2 : ¬ ((n : Int) < 0):=by omega
 rw [e1]
 simp only [e2,decide_false,Bool.false_eq_true,if_false,ob_]
 by_cases h3 : (n : Int) > 0
 ·have hm : mkS by_ z (n : Int) = some (List.replicate n z):=by
   have h4 : ((n * by_ : Nat) : Int) ≤ 140737488355328:=by omega
   rw [Int.natCast_mul] at h4
   unfold mkS
   rw [if_pos ⟨by omega,h4⟩,Int.toNat_natCast]
  have hs : slc (List.replicate n z) (0 : Int) (0 : Int) = some []:=by
   have:=J2 (l:=List.replicate n z) (i:=0) (j:=0) (Nat.le_refl _) (Nat.zero_le _)
   simpa using this
  simp [h3,hm,hs]
 have h4 : decide ((n : Int) > 0) = false:=by simp only [decide_eq_false_iff_not]; exact h3
 simp only [h4,Bool.false_eq_true,if_false,ob_]
theorem Za0 {α : Type} (by_ : Nat) (p0 : List (List α)) (L0 : Int × Int → Option (Fl (Int × Int) Int)) (L1 : Int × List α → Option (Fl (Int × List α) (List α)))
  (h0 : ∀ s,L0 s = if (decide (s.1 < (p0.length : Int))) = true then (((idx p0 s.1).bind λ(x : List α)=>(if (decide ((wr (s.2 + (x.length : Int))) < 0)) = true then (none) else (some ()) : Option (Unit)).bind λ(_ : Unit)=>some (wr (s.2 + (x.length : Int))) : Option (Int)).bind λ(j : Int)=>some (Fl.nx (wr (s.1 + 1),j))) else (some (Fl.ex s.2)))
  (h1 : ∀ s,L1 s = if (decide (s.1 < (p0.length : Int))) = true then ((idx p0 s.1).bind λ(x : List α)=>(app by_ s.2 x).bind λ(_ : List α)=>some (Fl.nx (wr (s.1 + 1),(s.2 ++ x)))) else (some (Fl.ex s.2)))
  (hl : p0.flatten.length * by_ ≤ 140737488355328) (hby : 0 < by_) (hn : p0.length < 9223372036854775807) :
  ZQ L0 (0,0) = some (p0.flatten.length : Int) ∧ ZQ L1 (0,[]) = some p0.flatten:=by
 have hlen : p0.flatten.length ≤ 140737488355328:=Nat.le_trans (Nat.le_mul_of_pos_right _ hby) hl
 have hstep : ∀ i (hi : i < p0.length),(p0.take (i + 1)).flatten = (p0.take i).flatten ++ p0[i]:=λi hi=>by
  rw [List.take_succ_eq_append_getElem hi,List.flatten_append]; simp
 have hle : ∀ i,(p0.take i).flatten.length ≤ p0.flatten.length:=λi=>by
  have : p0.flatten = (p0.take i).flatten ++ (p0.drop i).flatten:=by rw [← List.flatten_append,List.take_append_drop]
  rw [this,List.length_append]; omega
 constructor
 ·have:=YC (f:=L0) (λi : Nat=>((i : Int),((p0.take i).flatten.length : Int))) 0 p0.length (Nat.zero_le _) (t:=(p0.flatten.length : Int)) (λi _ hi=>by
   have hs:=congrArg List.length (hstep i hi)
   rw [List.length_append] at hs
   have h3:=hle (i + 1)
   have e1 : wr (((p0.take i).flatten.length : Int) + (p0[i].length : Int)) = ((p0.take (i + 1)).flatten.length : Int):=by rw [Xi om_]; omega
   have e2 : ¬ (((p0.take (i + 1)).flatten.length : Int) < 0):=by omega
   rw [h0]
   simp only [Int.ofNat_lt,hi,decide_true,if_true,Yh,ge_ hi,ob_,e1,e2,decide_false,Bool.false_eq_true,if_false,Wn (show i < 9223372036854775807 by omega)]) (by
   rw [h0]; simp)
  exact this
 have:=YC (f:=L1) (λi : Nat=>((i : Int),(p0.take i).flatten)) 0 p0.length (Nat.zero_le _) (t:=p0.flatten) (λi _ hi=>by
  have hs:=congrArg List.length (hstep i hi)
  rw [List.length_append] at hs
  have h3:=hle (i + 1)
  have hap : app by_ (p0.take i).flatten p0[i] = some ((p0.take i).flatten ++ p0[i]):=YA (by
   have : ((p0.take i).flatten.length + p0[i].length) * by_ ≤ p0.flatten.length * by_:=Nat.mul_le_mul_right _ om_
   omega)
  rw [h1]
  simp only [Int.ofNat_lt,hi,decide_true,if_true,Yh,ge_ hi,ob_,hap,Wn (show i < 9223372036854775807 by omega),hstep i hi]) (by
  rw [h1]; simp)
 exact this
def AD (k : Nat) (b : UInt8) : UInt8:=shlB b (k : Int) ||| kW b ((8 - k : Nat) : Int)
theorem v_rot1 (b : UInt8) : Y4 b 1 = some (AD 1 b):=by
 have e1 : wru (BitVec.ofInt 64 (IntKind.u64.wrap 1) &&& BitVec.ofInt 64 7).toNat = 1:=by decide +kernel
 have e2 : IntKind.u64.wrap (8 - 1) = 7:=by decide +kernel
 have e3 : Wy 1 = some ():=rfl
 have e4 : Wy 7 = some ():=rfl
 unfold Y4
 simp only [e1,e2,e3,e4,ob_]
 rfl
theorem v_rot4 (b : UInt8) : Y4 b 4 = some (AD 4 b):=by
 have e1 : wru (BitVec.ofInt 64 (IntKind.u64.wrap 4) &&& BitVec.ofInt 64 7).toNat = 4:=by decide +kernel
 have e2 : IntKind.u64.wrap (8 - 4) = 4:=by decide +kernel
 have e3 : Wy 4 = some ():=rfl
 unfold Y4
 simp only [e1,e2,e3,ob_]
 rfl
def qc (k : Nat) (b : UInt8) : UInt8:=ZC (JG (orI (qq (bI b) (k : Int)) (Vj (qq (bI b) (k : Int)) 8)) 255)
theorem kT {p : UInt8 → Bool} (h : ((List.range 256).all λn=>p (UInt8.ofNat n)) = true) (b : UInt8) : p b = true:=by
 have:=List.all_eq_true.1 h b.toNat (by simpa using UInt8.toNat_lt b)
 simpa using this
theorem turn0 (b : UInt8) : qc 0 b = b:=by
 have:=kT (p:=λb=>qc 0 b == b) (by decide +kernel) b
 simpa using this
theorem turn1 (b : UInt8) : qc 1 b = AD 1 b:=by
 have:=kT (p:=λb=>qc 1 b == AD 1 b) (by decide +kernel) b
 simpa using this
theorem turn4 (b : UInt8) : qc 4 b = AD 4 b:=by
 have:=kT (p:=λb=>qc 4 b == AD 4 b) (by decide +kernel) b
 simpa using this
theorem Ze0 (b : UInt8) (k : Nat) (h : k < 64) : W8 b (k : Int) = some (qc k b):=by
 have e1 : IntKind.u64.wrap (k : Int) = (k : Int):=Zei k om_
 unfold W8
 rw [e1]
 have e2 : Wy (k : Int) = some ():=by unfold Wy; rw [if_pos om_]
 rw [e2]; rfl
def ke (x : UInt8) : UInt8:=((J4 285 x ^^^ AD 1 (J4 285 x)) ^^^ AD 4 (J4 285 x)) ^^^ 90
def YX (n : Int) : GCipher:=⟨285,vf 256 λx=>ke (UInt8.ofNat x),mf λi j=>J4 285 (UInt8.ofNat (i ^^^ (4 + j))),vf 16 λi=>UInt8.ofNat ((13 * i + 4) % 16),n⟩
theorem Zbo {i : Nat} (h : i < 256) : decide ((i : Int) < 256) = true:=by simp; omega
theorem jJ (L : V256 × Int → Option (Fl (V256 × Int) V256)) (h : Nat → UInt8) (hL : ∀ i : Nat,i < 256 → ∀ a : Nat → UInt8,L (vf 256 a,(i : Int)) = some (.nx ((vf 256 a).setIfInBounds i (h i),wr ((i : Int) + 1))))
  (he : ∀ v,L (v,256) = some (.ex v)) : ZQ L (Vector.replicate 256 0,0) = some (vf 256 h):=by
 rw [KB]
 exact Vl L (λ_=>0) h om_ 0 om_ (λj hj=>by omega) (λi _ hi a _ _=>hL i hi a) he
theorem Zdd (E : UInt8 → Option UInt8) (hE : ∀ a,E a = some (J4 285 a)) (L1 : Mat × Int → Mat × Int → Option (Fl (Mat × Int) Mat)) (L0 : Mat × Int → Option (Fl (Mat × Int) Mat))
  (h1 : ∀ s t,L1 s t = if (decide (t.2 < 4)) = true then ((E (ZC (yx s.2 (wr (4 + t.2))))).bind λr=>(Z4 t.1 s.2).bind λx=>(Z4 x t.2).bind λ_=>some (Fl.nx ((t.1.setIfInBounds (s.2).toNat (x.setIfInBounds (t.2).toNat r)),wr (t.2 + 1)))) else (some (Fl.ex t.1)))
  (h0 : ∀ s,L0 s = if (decide (s.2 < 4)) = true then ((ZQ (L1 s) (s.1,0) : Option Mat).bind λj=>some (Fl.nx (j,wr (s.2 + 1)))) else (some (Fl.ex s.1))) :
  ZQ L0 (Vector.replicate 4 (Vector.replicate 4 (0 : UInt8)),0) = some (mf λi j=>J4 285 (UInt8.ofNat (i ^^^ (4 + j)))):=by
 have inner : ∀ (i : Nat) (hi : i < 4) (g : MF),ZQ (L1 (mf g,(i : Int))) (mf g,0) = some (mf λr c=>if r = i then J4 285 (UInt8.ofNat (i ^^^ (4 + c))) else g r c):=by
  intro i hi g
  have:=YC (f:=L1 (mf g,(i : Int))) (λj : Nat=>(mf λr c=>if r = i ∧ c < j then J4 285 (UInt8.ofNat (i ^^^ (4 + c))) else g r c,(j : Int))) 0 4 om_ (t:=mf λr c=>if r = i then J4 285 (UInt8.ofNat (i ^^^ (4 + c))) else g r c) (λj _ hj=>by
   have e1 : wr (4 + (j : Int)) = ((4 + j : Nat) : Int):=by rw [Xi om_]; omega
   rw [h1]
   simp only [lt4 hj,if_true,e1,BE i (4 + j) om_ om_,WM,hE,ob_,QZ _ hi,Yt _ hj,Int.toNat_natCast,KW,AR,wr4 (show j < 1000 by omega)]
   refine congrArg (λz=>some (Fl.nx (z,((j + 1 : Nat) : Int)))) (Uf λr _ c _=>?_)
   by_cases hr : r = i
   ·subst hr
    by_cases hc : c = j
    ·subst hc; simp
    ·by_cases hc2 : c < j
     ·simp [hc,hc2,show c < j + 1 by omega]
     ·simp [hc,hc2,show ¬ c < j + 1 by omega]
   ·simp [hr]) (by
   rw [h1]
   simp only [show decide (((4 : Nat) : Int) < 4) = false from rfl,Bool.false_eq_true,if_false]
   refine congrArg (λz=>some (Fl.ex z)) (Uf λr _ c hc=>?_)
   by_cases hr : r = i <;> simp [hr,hc])
  have e0 : (mf λr c=>if r = i ∧ c < 0 then J4 285 (UInt8.ofNat (i ^^^ (4 + c))) else g r c) = mf g:=Uf λr _ c _=>by simp
  simp only [e0] at this
  exact this
 have:=YC (f:=L0) (λi : Nat=>(mf λr c=>if r < i then J4 285 (UInt8.ofNat (r ^^^ (4 + c))) else 0,(i : Int))) 0 4 om_ (t:=mf λi j=>J4 285 (UInt8.ofNat (i ^^^ (4 + j)))) (λi _ hi=>by
  rw [h0]
  simp only [lt4 hi,if_true,inner i hi,ob_,wr4 (show i < 1000 by omega)]
  refine congrArg (λz=>some (Fl.nx (z,((i + 1 : Nat) : Int)))) (Uf λr _ c _=>?_)
  by_cases hr : r = i
  ·subst hr; simp
  ·by_cases hc2 : r < i
   ·simp [hr,hc2,show r < i + 1 by omega]
   ·simp [hr,hc2,show ¬ r < i + 1 by omega]) (by
  rw [h0]
  simp only [show decide (((4 : Nat) : Int) < 4) = false from rfl,Bool.false_eq_true,if_false]
  exact congrArg (λz=>some (Fl.ex z)) (Uf λr hr c hc=>by simp [hr]))
 have e0 : (mf λr c=>if r < 0 then J4 285 (UInt8.ofNat (r ^^^ (4 + c))) else 0) = mf λ_ _=>0:=Uf λr _ c _=>by simp
 simp only [e0] at this
 rw [Zbn]
 exact this
theorem jY (L : Blk × Int → Option (Fl (Blk × Int) Blk))
  (hL : ∀ s,L s = if (decide (s.2 < 16)) = true then ((Z4 s.1 s.2).bind λ_=>some (Fl.nx ((s.1.setIfInBounds (s.2).toNat (ZC (Int.tmod (wr ((wr (13 * s.2)) + 4)) 16))),wr (s.2 + 1)))) else (some (Fl.ex s.1))) :
  ZQ L (Vector.replicate 16 0,0) = some (vf 16 λi=>UInt8.ofNat ((13 * i + 4) % 16)):=by
 rw [KB]
 exact Vl L (λ_=>0) (λi=>UInt8.ofNat ((13 * i + 4) % 16)) om_ 0 om_ (λj hj=>by omega) (λi _ hi a _ _=>by
  have e1 : wr (13 * (i : Int)) = 13 * (i : Int):=Xi om_
  have e2 : wr (13 * (i : Int) + 4) = ((13 * i + 4 : Nat) : Int):=by rw [Xi om_]; omega
  have e3 : Int.tmod ((13 * i + 4 : Nat) : Int) 16 = (((13 * i + 4) % 16 : Nat) : Int):=by rw [Int.tmod_eq_emod_of_nonneg om_]; omega
  rw [hL]
  simp only [AI hi,if_true,Yt _ hi,ob_,e1,e2,e3,WM,Int.toNat_natCast]) (λv=>by rw [hL]; simp)
theorem qA (n : Int) : Uk n = some (YX n):=by
 have hinv : ∀ a,Y8 285 a = some (J4 285 a):=λa=>H6 285 om_ a
 have h1:=jJ VG (λx=>ke (UInt8.ofNat x)) (λi hi a=>by
  unfold VG
  simp only [Zbo hi,if_true,WM,hinv,v_rot1,v_rot4,ob_,Yt _ hi,Int.toNat_natCast]
  rfl) (λv=>by unfold VG; simp)
 have h2:=Zdd (Y8 285) hinv Ta Tb (λs t=>by unfold Ta; rfl) (λs=>by unfold Tb; rfl)
 have h3:=jY U9 (λs=>by unfold U9; rfl)
 unfold Uk YX
 simp only [h1,h2,h3,ob_]
theorem Zii (L : UInt8 × UInt8 × Int → Option (Fl (UInt8 × UInt8 × Int) UInt8)) (T : UInt8 → UInt8 → Option UInt8) (hT : ∀ a b,T a b = some (YK 285 a b))
  (hL : ∀ s,L s = if (decide (s.2.2 > 0)) = true then (((if ((Int.tmod s.2.2 2) == 1) = true then ((T s.1 s.2.1).bind λr=>some r) else (some s.1) : Option UInt8).bind λj24=>(T s.2.1 s.2.1).bind λr32=>some (j24,r32) : Option (UInt8 × UInt8)).bind λj21=>some (Fl.nx (j21.1,j21.2,wr (Int.tdiv s.2.2 2)))) else (some (Fl.ex s.1))) :
  ∀ (f k : Nat) (a o : UInt8),k < 2 ^ f → f ≤ 62 → ZQ L (o,a,(k : Int)) = some (jr 285 f a k o):=by
 intro f
 induction f with
 | zero =>
  intro k a o hk _
  have : k = 0:=by simpa using hk
  subst this
  exact U7 (by rw [hL]; simp [jr])
 | succ f ih =>
  intro k a o hk hf
  by_cases h0 : k = 0
  ·subst h0
   exact U7 (by rw [hL]; simp [jr])
  ·have hlt : k < 9223372036854775808:=Nat.lt_of_lt_of_le hk (Nat.pow_le_pow_right (by omega : 0 < 2) (by omega : f + 1 ≤ 63))
   have hst : L (o,a,(k : Int)) = some (.nx (if k % 2 = 1 then YK 285 o a else o,YK 285 a a,((k / 2 : Nat) : Int))):=by
    rw [hL]
    have c1 : (k : Int) > 0:=by omega
    have e3 : ((((k % 2 : Nat) : Int)) == 1) = decide (k % 2 = 1):=by
     rw [Bool.eq_iff_iff,beq_iff_eq,decide_eq_true_eq]; omega
    simp only [c1,decide_true,if_true,Zib,Zhj,hT,e3,ob_,Zfj (k / 2) om_]
    by_cases c2 : k % 2 = 1 <;> simp [c2]
   rw [U8 hst,ih (k / 2) _ _ (by rw [Nat.pow_succ] at hk; omega) om_]
   conv=>rhs; unfold jr
   rw [if_neg h0]
theorem Zef : TS 285 254 = some (vf 256 λx=>J4 285 (UInt8.ofNat x)):=by
 have hp:=Zii (Tf 285) (XQ 285) (A0 285 om_ om_) (λs=>by unfold Tf; rfl)
 have hp2 : ∀ a,ZQ (Tf 285) (1,a,254) = some (J4 285 a):=λa=>hp 8 254 a 1 om_ om_
 have h1:=jJ (Tt 285 254) (λx=>J4 285 (UInt8.ofNat x)) (λi hi a=>by
  unfold Tt
  simp only [Zbo hi,if_true,WM,hp2,ob_,Yt _ hi,Int.toNat_natCast]) (λv=>by unfold Tt; simp)
 unfold TS
 simp only [h1,ob_]
def rots (x : UInt8) : UInt8:=((90 ^^^ x) ^^^ AD 1 x) ^^^ AD 4 x
theorem jX : VH ([0,1,4] : List Int) 90 = some (vf 256 λx=>rots (UInt8.ofNat x)):=by
 have t0 : ∀ b,W8 b 0 = some b:=λb=>by have:=Ze0 b 0 om_; rw [turn0] at this; exact this
 have t1 : ∀ b,W8 b 1 = some (AD 1 b):=λb=>by have:=Ze0 b 1 om_; rw [turn1] at this; exact this
 have t4 : ∀ b,W8 b 4 = some (AD 4 b):=λb=>by have:=Ze0 b 4 om_; rw [turn4] at this; exact this
 have w1 : wr 1 = 1:=by decide
 have w2 : wr 2 = 2:=by decide
 have w3 : wr 3 = 3:=by decide
 have hin : ∀ (s : V256 × Int),ZQ (YY [0,1,4] s) (90,0) = some (rots (ZC s.2)):=by
  intro s
  rw [U8 (f:=YY [0,1,4] s) (s:=(90,0)) (s':=(90 ^^^ ZC s.2,1)) (by unfold YY; simp [t0,w1,idx])]
  rw [U8 (f:=YY [0,1,4] s) (s':=((90 ^^^ ZC s.2) ^^^ AD 1 (ZC s.2),2)) (by unfold YY; simp [t1,w2,idx])]
  rw [U8 (f:=YY [0,1,4] s) (s':=(((90 ^^^ ZC s.2) ^^^ AD 1 (ZC s.2)) ^^^ AD 4 (ZC s.2),3)) (by unfold YY; simp [t4,w3,idx])]
  exact U7 (by unfold YY; simp; rfl)
 have h1:=jJ (Vh [0,1,4] 90) (λx=>rots (UInt8.ofNat x)) (λi hi a=>by
  unfold Vh
  simp only [Zbo hi,if_true,hin,WM,ob_,Yt _ hi,Int.toNat_natCast]) (λv=>by unfold Vh; simp)
 unfold VH
 simp only [h1,ob_]
theorem Zg2 (f g : Nat → UInt8) : Qt (vf 256 f) (vf 256 g) = some (vf 256 λx=>g (f x).toNat):=by
 have hv : ∀ x : UInt8,Z4 (vf 256 g) (bI x) = some (g x.toNat):=λx=>Yt g (UInt8.toNat_lt x)
 have h1:=jJ (TU (vf 256 f) (vf 256 g)) (λx=>g (f x).toNat) (λi hi a=>by
  unfold TU
  simp only [Zbo hi,if_true,ob_,Yt _ hi,hv,Int.toNat_natCast]) (λv=>by unfold TU; simp)
 unfold Qt
 simp only [h1,ob_]
theorem Zdt (x : UInt8) : rots (UInt8.ofNat (J4 285 x).toNat) = ke x:=by
 rw [UInt8.ofNat_toNat]
 unfold rots ke
 ac_rfl
theorem Zd1 (n : Int) : TV n = some (YX n):=by
 have hinv : ∀ a,U3 285 a = some (J4 285 a):=λa=>Zhk 285 om_ om_ a
 have h2:=Zdd (U3 285) hinv Q5 QV (λs t=>by unfold Q5; rfl) (λs=>by unfold QV; rfl)
 have h3:=jY Q3 (λs=>by unfold Q3; rfl)
 unfold TV YX
 simp only [Zef,jX,Zg2,Zdt,h2,h3,ob_]

theorem Ae {α : Type} (n : Nat) (f : Nat → α) : (vf n f).toList = (List.range n).map f:=by
 apply List.ext_getElem
 ·simp
 intro i h1 h2
 simp at h1
 rw [Vector.getElem_toList,HY f h1]; simp
theorem Zgr : Zg8 ((List.range 256).map λx=>ke (UInt8.ofNat x)) = true:=by decide +kernel
theorem Zco : JH (vf 16 λi=>UInt8.ofNat ((13 * i + 4) % 16)) = true:=by
 unfold JH
 rw [Ae]
 decide +kernel
theorem Zda : zQ 285 = true:=by decide +kernel
theorem Zgx : (detC 285 (mf λi j=>J4 285 (UInt8.ofNat (i ^^^ (4 + j)))) != 0) = true:=by decide +kernel
theorem Zc6 (n : Int) (h : 1 ≤ n ∧ n ≤ 20) : Xe (YX n) = true:=by
 unfold Xe YX
 simp only [Ae,Zgr,Zco,Zda,Bool.true_and,h,decide_true,Bool.and_true,and_self]
 exact Zgx
theorem HX (p0 : List (List UInt8)) (hl : p0.flatten.length ≤ 140737488355328) (hn : p0.length < 9223372036854775807) : YD p0 = some p0.flatten:=by
 obtain ⟨a1,a2⟩:=Za0 1 p0 (WA p0) (WB p0) (λs=>by unfold WA; rfl) (λs=>by unfold WB; rfl) om_ om_ hn
 have hg : XD (p0.flatten.length : Int) = some []:=by
  unfold XD
  exact Ziw 1 _ _ om_ om_
 unfold YD
 simp only [a1,a2,hg,ob_]
theorem Jl (l : List UInt8) (h : l.length ≤ 140737488355328) : Yv l = some l:=by
 unfold Yv
 rw [YA (by simp; omega)]; rfl
theorem Hz (l : List UInt8) (h : l.length ≤ 140737488355328) : XI l = some l:=by
 unfold XI
 rw [YA (by simp; omega)]; rfl
theorem kh {l : List UInt8} {n : Nat} (h : n ≤ l.length) : K4 n l = some (vf n λj=>l.getD j 0):=by
 unfold K4
 rw [dif_pos h]
 refine congrArg some (Ab λi hi=>?_)
 rw [HY _ hi,List.getD_eq_getElem?_getD,ge_ om_]
 simp
theorem Zcl {l : List UInt8} {i j : Nat} (h : i ≤ j) (h2 : j ≤ l.length) : ∃ r,slc l (i : Int) (j : Int) = some r ∧ r.length = j - i ∧ ∀ k,k < j - i → r.getD k 0 = l.getD (i + k) 0:=by
 refine ⟨_,J2 h h2,by simp; omega,λk hk=>?_⟩
 rw [List.getD_eq_getElem?_getD,List.getD_eq_getElem?_getD,List.getElem?_drop,List.getElem?_take,if_pos om_]

def beL (n : Int) : Nat → List UInt8
 | 0=>[]
 | k + 1=>ZC (Vj n ((8 * k : Nat) : Int)) :: beL n k
theorem Ql (n : Int) : ∀ k,(beL n k).length = k
 | 0=>rfl
 | k + 1=>by rw [beL,List.length_cons,Ql n k]
theorem Ze4 (n : Int) (L : List UInt8 × Int → Option (Fl (List UInt8 × Int) (List UInt8))) (K : Nat)
  (hL : ∀ (k : Nat) (acc : List UInt8),k < K → acc.length ≤ 100000000 → L (acc,(k : Int)) = some (.nx (acc ++ [ZC (Vj n ((8 * k : Nat) : Int))],(k : Int) - 1))) (he : ∀ acc,L (acc,-1) = some (.ex acc)) :
  ∀ (k : Nat) (acc : List UInt8),k ≤ K → acc.length + k ≤ 100000000 → ZQ L (acc,(k : Int) - 1) = some (acc ++ beL n k):=by
 intro k
 induction k with
 | zero=>intro acc _ _; rw [show ((0 : Nat) : Int) - 1 = -1 from rfl,U7 (he acc)]; simp [beL]
 | succ k ih =>
  intro acc hk hl
  have e : ((k + 1 : Nat) : Int) - 1 = (k : Int):=by omega
  rw [e,U8 (hL k acc om_ om_),ih _ om_ (by simp; omega)]
  simp [beL]
theorem BW (n : Int) (m : Nat) (hm : m ≤ 100) : Xx n (m : Int) = some (beL n m):=by
 have h:=Ze4 n (UI n) 100 (λk acc hk hl=>by
  unfold UI
  have e1 : wr (8 * (k : Int)) = ((8 * k : Nat) : Int):=by rw [Xi om_]; omega
  have e2 : Wy ((8 * k : Nat) : Int) = some ():=by unfold Wy; rw [if_pos om_]
  have e3 : wr ((k : Int) - 1) = (k : Int) - 1:=Xi om_
  have e4 : decide ((k : Int) ≥ 0) = true:=by simp
  simp only [e1,e2,e3,e4,if_true,ob_]
  rw [YA (by simp; omega)]; rfl) (λacc=>by unfold UI; simp) m [] hm (by simp; omega)
 have e : wr ((m : Int) - 1) = (m : Int) - 1:=Xi om_
 unfold Xx
 rw [e,h]; rfl
theorem Zih (x : Int) : ZC (JG x 255) = ZC x:=by
 have h1 : (BitVec.ofInt 64 255) = (255 : BitVec 64):=rfl
 have h2 : (BitVec.ofInt 64 x &&& BitVec.ofInt 64 255).toNat = (x % 256).toNat:=by
  rw [BitVec.toNat_and,h1,show (255 : BitVec 64).toNat = 2 ^ 8 - 1 from rfl,Nat.and_two_pow_sub_one_eq_mod,BitVec.toNat_ofInt]
  omega
 unfold JG ZC
 rw [h2,Xi om_]
 congr 1
 omega
theorem Zab (n : Int) : Tq n = some (beL n 4):=by
 have e0 : Vj n 0 = n:=by unfold Vj; simp
 unfold Tq
 simp only [Zih]
 have : beL n 4 = [ZC (Vj n 24),ZC (Vj n 16),ZC (Vj n 8),ZC (Vj n 0)]:=rfl
 rw [this,e0]

def Tv (n : Nat) : Nat:=(24 - n % 16) % 16
def BZ (d : List UInt8) : List UInt8:=((d ++ [128]) ++ List.replicate (Tv (d.length + 1)) 0) ++ beL (d.length : Int) 8
theorem Zdi (d : List UInt8) : ∃ n,(BZ d).length = 16 * n ∧ n ≤ d.length + 2:=by
 have : (BZ d).length = d.length + 1 + Tv (d.length + 1) + 8:=by simp [BZ,Ql]; omega
 refine ⟨(d.length + 1 + Tv (d.length + 1) + 8) / 16,?_,?_⟩
 ·rw [this]; unfold Tv; omega
 unfold Tv; omega
theorem Zb3 (L : List UInt8 → Option (Fl (List UInt8) (List UInt8))) (hL : ∀ s,L s = if ((Int.tmod (s.length : Int) 16) != 8) = true then ((app 1 s ([0] : List UInt8)).bind λ(_ : List UInt8)=>some (Fl.nx (s ++ ([0] : List UInt8)))) else (some (Fl.ex s)))
  (l : List UInt8) (hl : l.length ≤ 100000000) : ZQ L l = some (l ++ List.replicate (Tv l.length) 0):=by
 have ht : ∀ n : Nat,Int.tmod (n : Int) 16 = ((n % 16 : Nat) : Int):=λn=>by rw [Int.tmod_eq_emod_of_nonneg om_]; omega
 have:=YC (f:=L) (λi : Nat=>l ++ List.replicate i 0) 0 (Tv l.length) (Nat.zero_le _) (t:=l ++ List.replicate (Tv l.length) 0) (λi _ hi=>by
  rw [hL,ht]
  have hz : Tv l.length < 16:=by unfold Tv; omega
  have e : ((((l ++ List.replicate i 0).length % 16 : Nat) : Int) != 8) = true:=by
   simp only [List.length_append,List.length_replicate,bne_iff_ne,ne_eq]
   unfold Tv at hi; omega
  rw [e,if_pos rfl,YA (by simp; omega)]
  simp [List.replicate_succ']) (by
  rw [hL,ht]
  have e : ((((l ++ List.replicate (Tv l.length) 0).length % 16 : Nat) : Int) != 8) = false:=by
   simp only [List.length_append,List.length_replicate,bne_eq_false_iff_eq]
   unfold Tv; omega
  rw [e]; rfl)
 simpa using this
theorem Zbm (d : List UInt8) (h : d.length ≤ 10000000) : UT d = some (BZ d):=by
 have h1:=Zb3 TI (λs=>by unfold TI; rfl) (d ++ [128]) (by simp; omega)
 have h2:=BW (d.length : Int) 8 om_
 have h3 : Xx (d.length : Int) 8 = some (beL (d.length : Int) 8):=h2
 have hz : Tv (d.length + 1) < 16:=by unfold Tv; omega
 have e : (d ++ [128]).length = d.length + 1:=by simp
 rw [e] at h1
 unfold UT BZ
 rw [Jl d om_,ob_,YA (by simp; omega),ob_,h1,ob_,h3,ob_,YA (by simp [Ql]; omega)]
 rfl
theorem Zhb (d : List UInt8) (h : d.length ≤ 10000000) : Kq d = some (BZ d):=by
 have h1:=Zb3 KZ (λs=>by unfold KZ; rfl) (d ++ [128]) (by simp; omega)
 have hz : Tv (d.length + 1) < 16:=by unfold Tv; omega
 have e : (d ++ [128]).length = d.length + 1:=by simp
 rw [e] at h1
 have h2:=Ze4 (d.length : Int) (Tw d) 100 (λk acc hk hl=>by
  unfold Tw
  have e1 : wr (8 * (k : Int)) = ((8 * k : Nat) : Int):=by rw [Xi om_]; omega
  have e5 : IntKind.u64.wrap ((8 * k : Nat) : Int) = ((8 * k : Nat) : Int):=Zei _ om_
  have e2 : Wy ((8 * k : Nat) : Int) = some ():=by unfold Wy; rw [if_pos om_]
  have e3 : wr ((k : Int) - 1) = (k : Int) - 1:=Xi om_
  have e4 : decide ((k : Int) ≥ 0) = true:=by simp
  simp only [e1,e5,e2,e3,e4,if_true,ob_,Zih]
  rw [YA (by simp; omega)]; rfl) (λacc=>by unfold Tw; simp) 8 ((d ++ [128]) ++ List.replicate (Tv (d.length + 1)) 0) om_ (by simp; omega)
 have h3 : ZQ (Tw d) ((d ++ [128]) ++ List.replicate (Tv (d.length + 1)) 0,7) = some (((d ++ [128]) ++ List.replicate (Tv (d.length + 1)) 0) ++ beL (d.length : Int) 8):=h2
 unfold Kq BZ
 rw [Hz d om_,ob_,YA (by simp; omega),ob_,h1,ob_,h3]
 rfl

def Zfl (l : List UInt8) (i : Nat) : Blk:=vf 16 λj=>l.getD (16 * i + j) 0
def Vq (l : List UInt8) (n : Nat) : List Blk:=(List.range n).map (Zfl l)
theorem Hi (l : List UInt8) (n : Nat) : (Vq l n).length = n:=by simp [Vq]
theorem zc (l : List UInt8) (n : Nat) : Vq l (n + 1) = Vq l n ++ [Zfl l n]:=by simp [Vq,List.range_succ]
theorem Zeq (l : List UInt8) (n : Nat) (hl : l.length = 16 * n) (hn : n ≤ 100000000) : TZ l = some (Vq l n):=by
 have:=YC (f:=VU l) (λi : Nat=>(Vq l i,((16 * i : Nat) : Int))) 0 n (Nat.zero_le _) (t:=Vq l n) (λi _ hi=>by
  unfold VU
  have e1 : wr (((16 * i : Nat) : Int) + 16) = ((16 * (i + 1) : Nat) : Int):=by rw [Xi om_]; omega
  have e2 : decide (((16 * i : Nat) : Int) < (l.length : Int)) = true:=by simp; omega
  obtain ⟨r,r1,r2,r3⟩:=Zcl (l:=l) (i:=16 * i) (j:=16 * (i + 1)) om_ om_
  have e3 : K4 16 r = some (Zfl l i):=by
   rw [kh om_]
   exact congrArg some (Wf λj hj=>r3 j om_)
  simp only [e1,e2,if_true,r1,e3,ob_]
  rw [YA (by rw [Hi]; simp; omega),zc]; rfl) (by
  unfold VU
  have e2 : decide (((16 * n : Nat) : Int) < (l.length : Int)) = false:=by simp; omega
  simp only [e2,Bool.false_eq_true,if_false])
 have h2 : ZQ (VU l) ([],0) = _:=this
 unfold TZ
 rw [h2]; rfl
theorem Zcw (l : List UInt8) (n : Nat) (hl : l.length = 16 * n) (hn : n ≤ 100000000) : Tn l = some (Vq l n):=by
 have:=YC (f:=Vk l) (λi : Nat=>(Vq l i,((16 * i : Nat) : Int))) 0 n (Nat.zero_le _) (t:=Vq l n) (λi _ hi=>by
  unfold Vk
  have e1 : wr (((16 * i : Nat) : Int) + 16) = ((16 * (i + 1) : Nat) : Int):=by rw [Xi om_]; omega
  have e2 : decide (((16 * (i + 1) : Nat) : Int) ≤ (l.length : Int)) = true:=by simp; omega
  have h3:=Vl (Vx l (Vq l i,((16 * i : Nat) : Int))) (λ_=>0) (λj=>l.getD (16 * i + j) 0) om_ 0 om_ (λj hj=>by omega) (λj _ hj a _ _=>by
   unfold Vx
   have e4 : wr (((16 * i : Nat) : Int) + (j : Int)) = ((16 * i + j : Nat) : Int):=by rw [Xi om_]; omega
   have e5 : 16 * i + j < l.length:=by omega
   simp only [AI hj,if_true,e4,Yh,ge_ e5,Yt _ hj,ob_,Int.toNat_natCast,List.getD_eq_getElem?_getD,Option.getD_some]) (λv=>by unfold Vx; simp)
  have h4 : ZQ (Vx l (Vq l i,((16 * i : Nat) : Int))) (Vector.replicate 16 0,0) = some (Zfl l i):=by rw [KB]; exact h3
  simp only [e1,e2,if_true,h4,ob_]
  rw [YA (by rw [Hi]; simp; omega),zc]; rfl) (by
  unfold Vk
  have e1 : wr (((16 * n : Nat) : Int) + 16) = ((16 * (n + 1) : Nat) : Int):=by rw [Xi om_]; omega
  have e2 : decide (((16 * (n + 1) : Nat) : Int) ≤ (l.length : Int)) = false:=by simp; omega
  simp only [e1,e2,Bool.false_eq_true,if_false])
 have h2 : ZQ (Vk l) ([],0) = _:=this
 unfold Tn
 rw [h2]; rfl

abbrev Dig:=V32
def df (v : Dig) (i : Nat) : UInt8:=v[i]?.getD default
theorem Zis (v : Dig) : v = vf 32 (df v):=Zfc v
def HR : Dig:=vf 32 λi=>UInt8.ofNat (17 * i)
theorem lt32 {i : Nat} (h : i < 32) : decide ((i : Int) < 32) = true:=by simp; omega
theorem Zjq : Vb = some HR:=by
 have h:=Vl X0 (λ_=>0) (λi=>UInt8.ofNat (17 * i)) om_ 0 om_ (λj hj=>by omega) (λi _ hi a _ _=>by
  unfold X0
  have e1 : wr (17 * (i : Int)) = ((17 * i : Nat) : Int):=by rw [Xi om_]; omega
  simp only [lt32 hi,if_true,Yt _ hi,ob_,e1,WM,Int.toNat_natCast]) (λv=>by unfold X0; simp)
 have h2 : ZQ X0 (Vector.replicate 32 0,0) = some HR:=by rw [KB]; exact h
 unfold Vb
 rw [h2]; rfl
theorem Zdp : T0 = some HR:=by
 have h:=Vl V2 (λ_=>0) (λi=>UInt8.ofNat (17 * i)) om_ 0 om_ (λj hj=>by omega) (λi _ hi a _ _=>by
  unfold V2
  have e1 : wr (17 * (i : Int)) = ((17 * i : Nat) : Int):=by rw [Xi om_]; omega
  have e2 : Int.tmod ((17 * i : Nat) : Int) 256 = ((17 * i % 256 : Nat) : Int):=by rw [Int.tmod_eq_emod_of_nonneg om_]; omega
  simp only [lt32 hi,if_true,Yt _ hi,ob_,e1,e2,WM,qV,Int.toNat_natCast]) (λv=>by unfold V2; simp)
 have h2 : ZQ V2 (Vector.replicate 32 0,0) = some HR:=by rw [KB]; exact h
 unfold T0
 rw [h2]; rfl
def hiF (s : Nat → UInt8) : Nat → UInt8:=λi=>s (16 + i)
def Zaf (f g : Nat → UInt8) : Nat → UInt8:=λi=>if i < 16 then f i else g (i - 16)
def Zfz (c : GCipher) (k a : Nat → UInt8) : Nat → UInt8:=zV (Zbx c k a c.Rounds.toNat) a
def absC (c : GCipher) (s m : Nat → UInt8) : Nat → UInt8 :=
 Zaf (Zfz c (hiF s) (zV s m)) (Zfz c (Zfz c (hiF s) (zV s m)) (zV (hiF s) m))
theorem Zb6 (s : Nat → UInt8) : Tu (vf 32 s) = some (vf 16 s,vf 16 (hiF s)):=by
 have:=YC (f:=Vr (vf 32 s)) (λi : Nat=>(vf 16 (λj=>if j < i then hiF s j else 0),vf 16 (λj=>if j < i then s j else 0),(i : Int))) 0 16 om_ (t:=(vf 16 (hiF s),vf 16 s)) (λi _ hi=>by
  unfold Vr
  have e1 : wr (16 + (i : Int)) = ((16 + i : Nat) : Int):=by rw [Xi om_]; omega
  simp only [AI hi,if_true,e1,Yt _ (show i < 32 by omega),Yt _ (show 16 + i < 32 by omega),Yt _ hi,ob_,Int.toNat_natCast,KW,Wn (show i < 9223372036854775807 by omega)]
  have e : ∀ f : Nat → UInt8,(vf 16 λj=>if j = i then f i else if j < i then f j else 0) = vf 16 λj=>if j < i + 1 then f j else 0:=λf=>Wf λj _=>by
   by_cases h1 : j = i
   ·subst h1; simp
   ·by_cases h2 : j < i
    ·rw [if_neg h1,if_pos h2,if_pos om_]
    ·rw [if_neg h1,if_neg h2,if_neg om_]
  have ea:=e (hiF s)
  have eb:=e s
  rw [eb]
  have ea' : (vf 16 λj=>if j = i then s (16 + i) else if j < i then hiF s j else 0) = vf 16 λj=>if j < i + 1 then hiF s j else 0:=ea
  rw [ea']) (by
  unfold Vr
  simp only [show decide (((16 : Nat) : Int) < 16) = false from rfl,Bool.false_eq_true,if_false]
  refine congrArg (λz=>some (Fl.ex z)) (congr (congrArg Prod.mk (Wf λj hj=>by rw [if_pos hj])) (Wf λj hj=>by rw [if_pos hj])))
 have h2 : ZQ (Vr (vf 32 s)) (vf 16 (λ_=>0),vf 16 (λ_=>0),0) = some (vf 16 (hiF s),vf 16 s):=by
  have e0 : ∀ f : Nat → UInt8,(vf 16 λj=>if j < 0 then f j else 0) = vf 16 λ_=>0:=λf=>Wf λj _=>by simp
  simp only [e0] at this
  exact this
 unfold Tu
 rw [KB,h2]; rfl
theorem Zdg (c : GCipher) (h : Xe c = true) (s m : Nat → UInt8) : V1 c (vf 32 s) (vf 16 m) = some (vf 32 (absC c s m)):=by
 have hj : ∀ f g : Nat → UInt8,ZQ (Vy (vf 16 f) (vf 16 g)) (Vector.replicate 32 0,0) = some (vf 32 (Zaf f g)):=by
  intro f g
  have:=YC (f:=Vy (vf 16 f) (vf 16 g)) (λi : Nat=>(vf 32 (λj=>if j < i then f j else if 16 ≤ j ∧ j < 16 + i then g (j - 16) else 0),(i : Int))) 0 16 om_ (t:=vf 32 (Zaf f g)) (λi _ hi=>by
   unfold Vy
   have e1 : wr (16 + (i : Int)) = ((16 + i : Nat) : Int):=by rw [Xi om_]; omega
   simp only [AI hi,if_true,e1,Yt _ (show i < 32 by omega),Yt _ (show 16 + i < 32 by omega),Yt _ hi,ob_,Int.toNat_natCast,KW,Wn (show i < 9223372036854775807 by omega)]
   refine congrArg (λz=>some (Fl.nx (z,((i + 1 : Nat) : Int)))) (Wf λj hj=>?_)
   by_cases h1 : j = 16 + i
   ·subst h1
    rw [if_pos rfl,if_neg om_,if_pos om_]
    congr 1; omega
   ·rw [if_neg h1]
    by_cases h2 : j = i
    ·subst h2; rw [if_pos rfl,if_pos om_]
    ·rw [if_neg h2]
     by_cases h3 : j < i
     ·rw [if_pos h3,if_pos om_]
     ·rw [if_neg h3,if_neg (show ¬ j < i + 1 by omega)]
      by_cases h4 : 16 ≤ j ∧ j < 16 + i
      ·rw [if_pos h4,if_pos om_]
      ·rw [if_neg h4,if_neg om_]) (by
   unfold Vy
   simp only [show decide (((16 : Nat) : Int) < 16) = false from rfl,Bool.false_eq_true,if_false]
   refine congrArg (λz=>some (Fl.ex z)) (Wf λj hj=>?_)
   unfold Zaf
   by_cases h3 : j < 16
   ·rw [if_pos h3,if_pos h3]
   ·rw [if_neg h3,if_neg h3,if_pos om_])
  have e0 : (vf 32 λj=>if j < 0 then f j else if 16 ≤ j ∧ j < 16 + 0 then g (j - 16) else 0) = vf 32 λ_=>0:=Wf λj _=>by rw [if_neg om_,if_neg om_]
  simp only [e0] at this
  rw [KB]
  exact this
 unfold V1
 simp only [Zb6,ob_,z9,zn c h,hj]
 rfl
theorem Zha (c : GCipher) (h : Xe c = true) (s m : Nat → UInt8) : Wi ⟨YR c⟩ (vf 32 s) (vf 16 m) = some (vf 32 (absC c s m)):=by
 have g1 : ∀ {n : Nat} (f : Nat → UInt8) (k : Nat),k < n → (vf n f).toList.getD k 0 = f k:=λf k hk=>by
  rw [Ae,List.getD_eq_getElem?_getD,List.getElem?_map,List.getElem?_range hk]; rfl
 have hl : ∀ {n : Nat} (f : Nat → UInt8),(vf n f).toList.length = n:=λf=>by simp
 have cut : ∀ {n : Nat} (f : Nat → UInt8) (i j : Nat),i ≤ j → j ≤ n → ∃ r,slc (vf n f).toList (i : Int) (j : Int) = some r ∧ r.length = j - i ∧ K4 (j - i) r = some (vf (j - i) λk=>f (i + k)) ∧ ∀ k,k < j - i → r.getD k 0 = f (i + k):=by
  intro n f i j hij hjn
  obtain ⟨r,r1,r2,r3⟩:=Zcl (l:=(vf n f).toList) (i:=i) (j:=j) hij (by rw [hl]; exact hjn)
  have r4 : ∀ k,k < j - i → r.getD k 0 = f (i + k):=λk hk=>by rw [r3 k hk,g1 f (i + k) om_]
  refine ⟨r,r1,r2,?_,r4⟩
  rw [kh om_]
  exact congrArg some (Wf r4)
 obtain ⟨l,l1,l2,l3,l4⟩:=cut (n:=32) s 0 16 om_ om_
 obtain ⟨l',l1',l2',l3',l4'⟩:=cut (n:=32) s 16 32 om_ om_
 have a1 : slc (vf 32 s).toList (0 : Int) (16 : Int) = some l:=l1
 have a2 : slc (vf 32 s).toList (16 : Int) (32 : Int) = some l':=l1'
 have a3 : K4 16 l = some (vf 16 s):=by
  have : K4 16 l = some (vf 16 λk=>s (0 + k)):=l3
  rw [this]; exact congrArg some (Wf λk _=>by rw [Nat.zero_add])
 have a4 : K4 16 l' = some (vf 16 (hiF s)):=l3'
 have join : ∀ f g : Nat → UInt8,((slc (vf 16 f).toList (0 : Int) (16 : Int)).bind λ(l56 : (List UInt8))=>(slc (vf 16 g).toList (0 : Int) (16 : Int)).bind λ(l59 : (List UInt8))=>(YD ([l56,l59] : (List (List UInt8)))).bind λ(r64 : (List UInt8))=>(K4 32 r64).bind λ(x67 : V32)=>some x67 : Option (V32)) = some (vf 32 (Zaf f g)):=by
  intro f g
  obtain ⟨p,p1,p2,_,p4⟩:=cut (n:=16) f 0 16 om_ om_
  obtain ⟨q,q1,q2,_,q4⟩:=cut (n:=16) g 0 16 om_ om_
  have b1 : slc (vf 16 f).toList (0 : Int) (16 : Int) = some p:=p1
  have b2 : slc (vf 16 g).toList (0 : Int) (16 : Int) = some q:=q1
  have b3 : YD [p,q] = some (p ++ q):=by
   have:=HX [p,q] (by simp; omega) (by simp)
   simpa using this
  rw [b1,ob_,b2,ob_,b3,ob_,kh (by simp; omega),ob_]
  refine congrArg some (Wf λk hk=>?_)
  unfold Zaf
  rw [List.getD_eq_getElem?_getD]
  by_cases h1 : k < 16
  ·rw [if_pos h1,List.getElem?_append_left om_,← List.getD_eq_getElem?_getD,p4 k om_,Nat.zero_add]
  ·rw [if_neg h1,List.getElem?_append_right om_,← List.getD_eq_getElem?_getD,q4 (k - p.length) om_,Nat.zero_add,show p.length = 16 from p2]
 have in1 : ∀ k a : Nat → UInt8,((Xq ⟨YR c⟩ (vf 16 k) (vf 16 a)).bind λ(r34 : V16)=>(Xm r34 (vf 16 a)).bind λ(r36 : V16)=>some r36 : Option V16) = some (vf 16 (Zfz c k a)):=λk a=>by
  rw [zB c h,ob_,KL,ob_]; rfl
 unfold Wi
 rw [a1,ob_,a3,ob_,a2,ob_,a4,ob_,KL,ob_,in1,ob_,KL,ob_,in1,ob_,join,ob_]
 rfl

def absV (c : GCipher) (s : Dig) (m : Blk) : Dig:=vf 32 (absC c (df s) (bf m))
theorem Zfp (c : GCipher) (h : Xe c = true) (s : Dig) (m : Blk) : Wi ⟨YR c⟩ s m = some (absV c s m) ∧ V1 c s m = some (absV c s m):=by
 have h1:=Zha c h (df s) (bf m)
 have h2:=Zdg c h (df s) (bf m)
 rw [← Zis,← Zie] at h1 h2
 exact ⟨h1,h2⟩
def HB (c : GCipher) (d : List UInt8) : Dig:=(Vq (BZ d) ((BZ d).length / 16)).foldl (absV c) HR
theorem zS (c : GCipher) (h : Xe c = true) (ps : List (List UInt8)) (hl : ps.flatten.length ≤ 10000000) (hn : ps.length < 9223372036854775807) : Xo ⟨YR c⟩ ps = some (HB c ps.flatten):=by
 obtain ⟨n,n1,n2⟩:=Zdi ps.flatten
 have e : (BZ ps.flatten).length / 16 = n:=by omega
 have h1:=V3 (f:=XZ ⟨YR c⟩ (Vq (BZ ps.flatten) n)) (Vq (BZ ps.flatten) n) (λ(b : Dig) i=>(b,i)) (absV c) HR (t:=HB c ps.flatten) (by rw [Hi]; omega) (λi hi=>by
  unfold XZ
  simp only [Int.ofNat_lt,hi,decide_true,if_true,Yh,ge_ hi,ob_,(Zfp c h _ _).1]) (by
  unfold XZ HB
  rw [e]; simp)
 unfold Xo
 rw [Zjq,ob_,HX ps om_ hn,ob_,Zbm _ hl,ob_,Zeq _ n n1 om_,ob_]
 have h2 : ZQ (XZ ⟨YR c⟩ (Vq (BZ ps.flatten) n)) (HR,0) = _:=h1
 rw [h2]; rfl
theorem jL (c : GCipher) (h : Xe c = true) (d : List UInt8) (hl : d.length ≤ 10000000) : VN c d = some (HB c d):=by
 obtain ⟨n,n1,n2⟩:=Zdi d
 have e : (BZ d).length / 16 = n:=by omega
 have h1:=V3 (f:=T8 c (Vq (BZ d) n)) (Vq (BZ d) n) (λ(b : Dig) i=>(b,i)) (absV c) HR (t:=HB c d) (by rw [Hi]; omega) (λi hi=>by
  unfold T8
  simp only [Int.ofNat_lt,hi,decide_true,if_true,Yh,ge_ hi,ob_,(Zfp c h _ _).2]) (by
  unfold T8 HB
  rw [e]; simp)
 unfold VN
 rw [Zhb _ hl,ob_,Zcw _ n n1 om_,ob_,Zdp,ob_]
 have h2 : ZQ (T8 c (Vq (BZ d) n)) (HR,0) = _:=h1
 rw [h2]; rfl
theorem HT (d : Dig) : WN d = some d.toList:=by
 have h:=zG (f:=Tz d) (List.range 32) (λi=>df d i) (t:=d.toList) (by simp) (λi hi=>by
  have hi' : i < 32:=by simpa using hi
  unfold Tz
  have hv : Z4 d (i : Int) = some (df d i):=by
   have:=Yt (df d) hi'
   rwa [← Zis] at this
  simp only [lt32 hi',if_true,hv,ob_]
  rw [YA (by simp; omega)]
  simp) (by
  unfold Tz
  have e : (List.range 32).map (λi=>df d i) = d.toList:=by
   conv=>rhs; rw [Zis d]
   rw [Ae]
  simp only [List.length_range,show decide (((32 : Nat) : Int) < 32) = false from rfl,Bool.false_eq_true,if_false,e])
 unfold WN
 rw [h]; rfl
def Ai (d : Dig) (e : GEvent) : List UInt8:=((d.toList ++ [ZC e.Kind]) ++ beL e.Number 4) ++ e.Tag.toList
theorem Zcx (d : Dig) (e : GEvent) : (Ai d e).length = 69:=by simp [Ai,Ql]
def yX (c : GCipher) (d : Dig) (e : GEvent) : Dig:=HB c (Ai d e)
def H9 (c : GCipher) (l : List GEvent) : Dig:=l.foldl (yX c) (HB c (List.replicate 32 0))
theorem HU : Xe (YX 4) = true:=Zc6 4 om_
theorem Hl : Wh = some (YX 4):=by
 unfold Wh
 rw [Zd1]; rfl
theorem Zj6 (n : Int) (h : 1 ≤ n ∧ n ≤ 20) : KX n = some ⟨YR (YX n)⟩:=by
 unfold KX
 rw [qA,ob_,Zc9 _ (Zc6 n h)]; rfl
theorem U1 : Y0 = some ⟨YR (YX 4)⟩:=by
 unfold Y0
 rw [Zj6 4 om_]; rfl
theorem Zbt (d : Dig) : slc d.toList (0 : Int) (32 : Int) = some d.toList:=by
 have h1 : slc d.toList ((0 : Nat) : Int) ((32 : Nat) : Int) = _:=J2 (Nat.zero_le _) (by simp)
 have h2 : slc d.toList (0 : Int) (32 : Int) = _:=h1
 rw [h2,List.drop_zero,List.take_of_length_le (by simp)]
theorem Hq (c : GCipher) (h : Xe c = true) (l : List GEvent) (hl : l.length < 9223372036854775807) : Wc ⟨YR c⟩ l = some (H9 c l):=by
 have hm : mkS 1 (0 : UInt8) 32 = some (List.replicate 32 0):=by unfold mkS; rw [if_pos om_]; rfl
 have h0:=zS c h [List.replicate 32 0] (by simp) (by simp)
 have e0 : ([List.replicate 32 0] : List (List UInt8)).flatten = List.replicate 32 0:=by simp
 rw [e0] at h0
 have h1:=V3 (f:=WF ⟨YR c⟩ l) l (λ(b : Dig) i=>(b,i)) (yX c) (HB c (List.replicate 32 0)) (t:=H9 c l) hl (λi hi=>by
  unfold WF
  have hb : Xx l[i].Number 4 = some (beL l[i].Number 4):=BW _ 4 om_
  have hd:=zS c h [((l.take i).foldl (yX c) (HB c (List.replicate 32 0))).toList,[ZC l[i].Kind],beL l[i].Number 4,l[i].Tag.toList] (by simp [Ql]) (by simp)
  have ed : ([((l.take i).foldl (yX c) (HB c (List.replicate 32 0))).toList,[ZC l[i].Kind],beL l[i].Number 4,l[i].Tag.toList] : List (List UInt8)).flatten = Ai ((l.take i).foldl (yX c) (HB c (List.replicate 32 0))) l[i]:=by simp [Ai]
  rw [ed] at hd
  simp only [Int.ofNat_lt,hi,decide_true,if_true,Yh,ge_ hi,ob_,Zbt,hb,hd]
  rfl) (by unfold WF H9; simp)
 unfold Wc
 rw [hm,ob_,h0,ob_]
 have h2 : ZQ (WF ⟨YR c⟩ l) (HB c (List.replicate 32 0),0) = _:=h1
 rw [h2]; rfl
theorem Zf7 (d : Dig) (e : GEvent) : Qy d e = some (yX (YX 4) d e):=by
 have h1:=jL (YX 4) HU (Ai d e) (by rw [Zcx]; omega)
 unfold Qy
 rw [HT,ob_,YA (by simp),ob_,ob_,Zab,ob_,YA (by simp [Ql]),ob_,Hl,ob_,HT,ob_,YA (by simp [Ql]),ob_]
 have h2 : VN (YX 4) (((d.toList ++ [ZC e.Kind]) ++ beL e.Number 4) ++ e.Tag.toList) = some (yX (YX 4) d e):=h1
 rw [h2]; rfl
theorem B9 (l : List GEvent) (hl : l.length < 9223372036854775807) : W6 l = some (H9 (YX 4) l):=by
 have hm : mkS 1 (0 : UInt8) 32 = some (List.replicate 32 0):=by unfold mkS; rw [if_pos om_]; rfl
 have h1:=V3 (f:=UC l) l (λ(b : Dig) i=>(b,i)) (yX (YX 4)) (HB (YX 4) (List.replicate 32 0)) (t:=H9 (YX 4) l) hl (λi hi=>by
  unfold UC
  simp only [Int.ofNat_lt,hi,decide_true,if_true,Yh,ge_ hi,ob_,Zf7]) (by unfold UC H9; simp)
 unfold W6
 rw [Hl,ob_,hm,ob_,jL _ HU _ (by simp),ob_]
 have h2 : ZQ (UC l) (HB (YX 4) (List.replicate 32 0),0) = _:=h1
 rw [h2]; rfl
def HK (l : List GEvent) : Dig × Int:=if l.any (λe=>!Ww e) then (Vector.replicate 32 0,1) else if 60 < l.length then (Vector.replicate 32 0,2) else (H9 (YX 4) l,0)
theorem Jz (l : List GEvent) (hl : l.length < 9223372036854775807) : WE l = some (HK l):=by
 unfold WE HK
 rw [H8 l _ (λe=>!Ww e) hl (λx _=>by unfold WS; rw [qH]; rfl),ob_]
 cases l.any (λe=>!Ww e)
 ·simp only [Bool.false_eq_true,if_false]
  by_cases h : 60 < l.length
  ·have h2 : decide ((l.length : Int) > 60) = true:=by simp; omega
   rw [h2,if_pos rfl,if_pos h]
  have h2 : decide ((l.length : Int) > 60) = false:=by simp; omega
  rw [h2,if_neg (by simp),if_neg h,U1,ob_,Hq _ HU l hl]; rfl
 simp
theorem Ao (l : List GEvent) (hl : l.length < 9223372036854775807) : VL l = some (HK l):=by
 unfold VL HK
 have h1:=T9 (f:=Va l) l (λe=>!Ww e) (t:=(Vector.replicate 32 (0 : UInt8),(1 : Int))) hl (λi hi=>by
  unfold Va
  simp only [Int.ofNat_lt,hi,decide_true,if_true,Yh,ge_ hi,ob_,kg]
  cases Ww l[i] <;> rfl) (by unfold Va; simp)
 rw [h1,ob_]
 cases l.any (λe=>!Ww e)
 ·simp only [Bool.false_eq_true,if_false,Fl.el]
  by_cases h : 60 < l.length
  ·have h2 : decide ((l.length : Int) > 60) = true:=by simp; omega
   rw [h2,if_pos rfl,if_pos h]
  have h2 : decide ((l.length : Int) > 60) = false:=by simp; omega
  rw [h2,if_neg (by simp),if_neg h,B9 l hl]; rfl
 simp [Fl.el]
def HF (key : Blk) : GVault:=⟨[key],1,[],[],H9 (YX 4) []⟩
theorem y6 (key : Blk) : TW key = some (HF key):=by
 unfold TW
 rw [B9 [] (by simp)]; rfl
def Km (k : Blk) (b : UInt8) : Blk:=vf 16 λi=>bf k i ^^^ b
theorem qJ (b : UInt8) (L : Blk × Int → Option (Fl (Blk × Int) Blk)) (hL : ∀ s,L s = if (decide (s.2 < 16)) = true then ((Z4 s.1 s.2).bind λx=>(Z4 s.1 s.2).bind λ_=>some (Fl.nx ((s.1.setIfInBounds (s.2).toNat (x ^^^ b)),wr (s.2 + 1)))) else (some (Fl.ex s.1))) (k : Blk) :
  ZQ L (k,0) = some (Km k b):=by
 have h:=Vl L (bf k) (λi=>bf k i ^^^ b) om_ 0 om_ (λj hj=>by omega) (λi _ hi a _ ha=>by
  rw [hL]
  simp only [AI hi,if_true,Yt _ hi,ob_,Int.toNat_natCast,ha i (Nat.le_refl _)]) (λv=>by rw [hL]; simp)
 rw [← Zie] at h
 exact h
theorem HP (k : Blk) (b : UInt8) : Wu k b = some (Km k b).toList:=by
 have hs : ∀ v : Blk,slc v.toList (0 : Int) (16 : Int) = some v.toList:=λv=>by
  have h1 : slc v.toList ((0 : Nat) : Int) ((16 : Nat) : Int) = _:=J2 (Nat.zero_le _) (by simp)
  have h2 : slc v.toList (0 : Int) (16 : Int) = _:=h1
  rw [h2,List.drop_zero,List.take_of_length_le (by simp)]
 unfold Wu
 rw [qJ b (TE b) (λs=>by unfold TE; rfl),ob_,hs]; rfl
theorem Za5 (k : Blk) (b : UInt8) : UR k b = some (Km k b):=by
 unfold UR
 rw [qJ b (TC b) (λs=>by unfold TC; rfl)]; rfl
theorem Zcp {n : Nat} (v : Vector UInt8 n) (g : UInt8 → UInt8) (L : List UInt8 × Int → Option (Fl (List UInt8 × Int) (List UInt8))) (acc : List UInt8) (hn : n ≤ 1000) (ha : acc.length ≤ 100000000)
  (hL : ∀ s,L s = if (decide (s.2 < (n : Int))) = true then ((Z4 v s.2).bind λx=>(app 1 s.1 ([g x] : List UInt8)).bind λ_=>some (Fl.nx ((s.1 ++ ([g x] : List UInt8)),wr (s.2 + 1)))) else (some (Fl.ex s.1))) :
  ZQ L (acc,0) = some (acc ++ v.toList.map g):=by
 have hlen : v.toList.length = n:=by simp
 have:=YC (f:=L) (λi : Nat=>(acc ++ (v.toList.take i).map g,(i : Int))) 0 n (Nat.zero_le _) (t:=acc ++ v.toList.map g) (λi _ hi=>by
  have hi' : i < v.toList.length:=by omega
  rw [hL]
  simp only [Int.ofNat_lt,hi,decide_true,if_true,Qc,Vector.getElem?_eq_getElem hi,ob_,Wn (show i < 9223372036854775807 by omega)]
  rw [YA (by simp; omega),List.take_succ_eq_append_getElem hi']
  simp) (by
  rw [hL]
  have e : v.toList.take n = v.toList:=List.take_of_length_le om_
  simp only [Int.ofNat_lt,Nat.lt_irrefl,decide_false,Bool.false_eq_true,if_false,e])
 simpa using this
theorem Zgv (k : Blk) (b : UInt8) : (Km k b).toList = k.toList.map λx=>x ^^^ b:=by
 conv=>rhs; rw [Zie k]
 unfold Km
 rw [Ae,Ae,List.map_map]; rfl
theorem y0 (k : Blk) (b : UInt8) : V5 k b = some (Km k b).toList:=by
 unfold V5
 rw [Zcp k (λx=>x ^^^ b) (Qk k b) [] om_ (by simp) (λs=>by unfold Qk; rfl),Zgv]; rfl
theorem Zgq {n : Nat} (v : Vector UInt8 n) : K4 n v.toList = some v:=by
 unfold K4
 rw [dif_pos (by simp)]
 refine congrArg some (Ab λi hi=>?_)
 simp
def HA (l : List Blk) : List UInt8:=(l.map λb=>b.toList).flatten
theorem yr (l : List Blk) (h : l.length ≤ 1000000) : Wv l = some (HA l):=by
 have hlen : ∀ i,i ≤ l.length → (HA (l.take i)).length = 16 * i:=by
  intro i
  induction i with
  | zero=>intro _; rfl
  | succ i ih =>
   intro hi
   have e : HA (l.take (i + 1)) = HA (l.take i) ++ (l[i]'om_).toList:=by
    unfold HA
    rw [List.take_succ_eq_append_getElem om_,List.map_append,List.flatten_append]; simp
   rw [e,List.length_append,ih om_]; simp; omega
 have:=YC (f:=Us l) (λi : Nat=>(HA (l.take i),(i : Int))) 0 l.length (Nat.zero_le _) (t:=HA l) (λi _ hi=>by
  unfold Us
  have h1:=Zcp l[i] (λx=>x) (Kt l (HA (l.take i),(i : Int))) (HA (l.take i)) om_ (by rw [hlen i om_]; omega) (λs=>by
   unfold Kt
   simp only [Yh,ge_ hi,ob_]; rfl)
  simp only [Int.ofNat_lt,hi,decide_true,if_true,h1,ob_,Wn (show i < 9223372036854775807 by omega)]
  refine congrArg (λz=>some (Fl.nx (z,((i + 1 : Nat) : Int)))) ?_
  unfold HA
  rw [List.take_succ_eq_append_getElem hi,List.map_append,List.flatten_append]; simp) (by
  unfold Us
  simp)
 have h2 : ZQ (Us l) ([],0) = _:=this
 unfold Wv
 rw [h2]; rfl

def tagC (c : GCipher) (key : Blk) (d : List UInt8) : Dig:=HB c ((Km key 165).toList ++ (HB c ((Km key 90).toList ++ d)).toList)
theorem v_tag (c : GCipher) (h : Xe c = true) (key : Blk) (ps : List (List UInt8)) (hl : ps.flatten.length ≤ 1000000) (hn : ps.length < 9223372036854775807) : Vs ⟨YR c⟩ key ps = some (tagC c key ps.flatten):=by
 have e1 : ([(Km key 90).toList,ps.flatten] : List (List UInt8)).flatten = (Km key 90).toList ++ ps.flatten:=by simp
 have d1:=zS c h [(Km key 90).toList,ps.flatten] (by rw [e1,List.length_append,Vector.length_toList]; omega) (by simp)
 rw [e1] at d1
 have d2:=zS c h [(Km key 165).toList,(HB c ((Km key 90).toList ++ ps.flatten)).toList] (by simp) (by simp)
 have e2 : ([(Km key 165).toList,(HB c ((Km key 90).toList ++ ps.flatten)).toList] : List (List UInt8)).flatten = (Km key 165).toList ++ (HB c ((Km key 90).toList ++ ps.flatten)).toList:=by simp
 rw [e2] at d2
 unfold Vs
 rw [HP,ob_,HX ps om_ hn,ob_,d1,ob_,HP,ob_,Zbt,ob_,d2]
 rfl
theorem Zcz (c : GCipher) (h : Xe c = true) (key : Blk) (d : List UInt8) (hl : d.length ≤ 1000000) : UZ c key d = some (tagC c key d):=by
 unfold UZ
 rw [y0,ob_,YA (by simp; omega),ob_,jL c h _ (by simp; omega),ob_,y0,ob_,HT,ob_,YA (by simp),ob_,jL c h _ (by simp)]
 rfl

def Xb (v : GVault) (n : Int) : Int:=match v.Records.findIdx? (λr=>r.Number == n) with | some i=>(i : Int) | none=>-1
theorem Zji (v : GVault) (n : Int) (h : v.Records.length < 9223372036854775807) : Uc v n = some (Xb v n):=by
 unfold Uc Yr
 rw [z7 v.Records _ (λr=>r.Number == n) _ (λs=>by unfold Yz; rfl) h (λx _=>rfl)]
 rfl
theorem J6 (v : GVault) (n : Int) (h : v.Records.length < 9223372036854775807) : X8 v n = some (Xb v n):=by
 unfold X8
 have:=z7 v.Records (λr=>some (r.Number == n)) (λr=>r.Number == n) (QW v n) (λs=>by
  unfold QW
  simp only [ob_]) h (λx _=>rfl)
 exact this
theorem zw {v : GVault} {n : Int} (h : ¬ Xb v n < 0) : ∃ i : Nat,Xb v n = i ∧ ∃ hi : i < v.Records.length,v.Records[i].Number = n:=by
 unfold Xb at h ⊢
 cases hf : v.Records.findIdx? (λr=>r.Number == n) with
 | none=>rw [hf] at h; simp at h
 | some i =>
  obtain ⟨hi,hq,_⟩:=List.findIdx?_eq_some_iff_getElem.1 hf
  exact ⟨i,rfl,hi,by simpa using hq⟩
def qZ (v : GVault) (n : Int) : Int × Int:=if Z3 v then (if Xb v n < 0 then (0,4) else (Xb v n,0)) else (0,1)
theorem Jh (v : GVault) (hb : Wt.ln v) (n : Int) : XL v n = some (qZ v n):=by
 unfold XL qZ
 rw [QN v hb,ob_]
 cases hv : Z3 v with
 | false=>rfl
 | true =>
  have hs:=YQ hv
  simp only [Bool.not_true,Bool.false_eq_true,if_false,if_true]
  rw [Zji v n om_,ob_]
  by_cases h : Xb v n < 0 <;> simp [h]
theorem UA {v : GVault} (h : Z3 v = true) {r : GRecord} (hr : r ∈ v.Records) : 0 ≤ r.Version ∧ r.Version ≤ (v.Keys.length : Int) - 1 ∧ r.Label.length ≤ 32 ∧ r.Body.length ≤ 200:=by
 unfold Z3 at h
 simp only [Bool.and_eq_true,Bool.not_eq_true',List.any_eq_false,List.mem_range'_1] at h
 obtain ⟨i,hi,rfl⟩:=List.mem_iff_getElem.1 hr
 have:=h.1.2 i om_
 unfold Bg Bz at this
 rw [ge_ hi] at this
 simp only [Bool.or_eq_true,Bool.not_eq_true',decide_eq_true_eq,decide_eq_false_iff_not,not_or,Classical.not_not] at this
 omega

def H7 (v : GVault) (n : Int) : Blk:=v.Keys.getD n.toNat default
theorem jz {v : GVault} {n : Int} (h0 : 0 ≤ n) (h1 : n ≤ (v.Keys.length : Int) - 1) : idx v.Keys n = some (H7 v n):=by
 have e : n = ((n.toNat : Nat) : Int):=by omega
 have hl : n.toNat < v.Keys.length:=by omega
 rw [e,Yh]
 unfold H7
 rw [Int.toNat_natCast,List.getD_eq_getElem?_getD,ge_ hl]; rfl
def BK (r : GRecord) : List UInt8:=((((beL r.Number 4 ++ [ZC r.Version]) ++ r.Nonce.toList) ++ [ZC (r.Label.length : Int)]) ++ r.Label) ++ r.Body
def VO (v : GVault) (r : GRecord) : Dig:=tagC (YX 4) (Km (H7 v r.Version) 129) (BK r)
theorem Ze3 (v : Blk) : slc v.toList (0 : Int) (16 : Int) = some v.toList:=by
 have h1 : slc v.toList ((0 : Nat) : Int) ((16 : Nat) : Int) = _:=J2 (Nat.zero_le _) (by simp)
 have h2 : slc v.toList (0 : Int) (16 : Int) = _:=h1
 rw [h2,List.drop_zero,List.take_of_length_le (by simp)]
theorem zm (v : GVault) (r : GRecord) (h : 0 ≤ r.Version ∧ r.Version ≤ (v.Keys.length : Int) - 1) (hl : r.Label.length ≤ 1000) (hb : r.Body.length ≤ 1000) : YU ⟨YR (YX 4)⟩ v r = some (VO v r):=by
 have hbe : Xx r.Number 4 = some (beL r.Number 4):=BW _ 4 om_
 have ht:=v_tag (YX 4) HU (Km (H7 v r.Version) 129) [beL r.Number 4,[ZC r.Version],r.Nonce.toList,[ZC (r.Label.length : Int)],r.Label,r.Body] (by simp [Ql]; omega) (by simp)
 have e : ([beL r.Number 4,[ZC r.Version],r.Nonce.toList,[ZC (r.Label.length : Int)],r.Label,r.Body] : List (List UInt8)).flatten = BK r:=by simp [BK]
 rw [e] at ht
 unfold YU
 rw [jz h.1 h.2,ob_,HP,ob_,Zgq,ob_,hbe,ob_,Ze3,ob_,ht]
 rfl
theorem BF (v : GVault) (r : GRecord) (h : 0 ≤ r.Version ∧ r.Version ≤ (v.Keys.length : Int) - 1) (hl : r.Label.length ≤ 1000) (hb : r.Body.length ≤ 1000) : X2 v r = some (VO v r):=by
 have hd : Wv [r.Nonce] = some r.Nonce.toList:=by
  have:=yr [r.Nonce] (by simp)
  simpa [HA] using this
 have ht:=Zcz (YX 4) HU (Km (H7 v r.Version) 129) (BK r) (by simp [BK,Ql]; omega)
 unfold X2
 rw [Zab,ob_,YA (by simp [Ql]),ob_,ob_,hd,ob_,YA (by simp [Ql]),ob_,YA (by simp [Ql]),ob_,YA (by simp [Ql]; omega),ob_,YA (by simp [Ql]; omega),ob_,Hl,ob_,jz h.1 h.2,ob_,Za5,ob_]
 have ht' : UZ (YX 4) (Km (H7 v r.Version) 129) (((((beL r.Number 4 ++ [ZC r.Version]) ++ r.Nonce.toList) ++ [ZC (r.Label.length : Int)]) ++ r.Label) ++ r.Body) = some (VO v r):=ht
 rw [ht']; rfl
def Xh (v : GVault) (n : Int) : GRecord:=v.Records.getD (Xb v n).toNat ⟨0,0,default,[],[],default⟩
theorem K7 {v : GVault} {n : Int} (h : ¬ Xb v n < 0) : idx v.Records (Xb v n) = some (Xh v n) ∧ Xh v n ∈ v.Records:=by
 obtain ⟨i,e,hi,_⟩:=zw h
 unfold Xh
 rw [e,Yh,Int.toNat_natCast,List.getD_eq_getElem?_getD,ge_ hi]
 exact ⟨rfl,List.getElem_mem hi⟩
def jw (v : GVault) (n : Int) : Dig × Int:=if Z3 v then (if Xb v n < 0 then (Vector.replicate 32 0,4) else (VO v (Xh v n),0)) else (Vector.replicate 32 0,1)
theorem AL (v : GVault) (hb : Wt.ln v) (n : Int) : Ua v n = some (jw v n):=by
 unfold Ua jw
 rw [He v hb,ob_]
 cases hv : Z3 v with
 | false=>rfl
 | true =>
  have hs:=YQ hv
  simp only [Bool.not_true,Bool.false_eq_true,if_false,if_true]
  rw [J6 v n om_,ob_]
  by_cases h : Xb v n < 0
  ·simp [h]
  ·obtain ⟨h1,h2⟩:=K7 h
   obtain ⟨a1,a2,a3,a4⟩:=UA hv h2
   simp only [h,decide_false,Bool.false_eq_true,if_false]
   rw [h1,ob_,BF v _ ⟨a1,a2⟩ om_ om_]; rfl
theorem A3 (v : GVault) (hb : Wt.ln v) (n : Int) : Ui v n = some (jw v n):=by
 unfold Ui jw
 rw [Jh v hb,ob_]
 unfold qZ
 cases hv : Z3 v with
 | false=>rfl
 | true =>
  simp only [if_true]
  by_cases h : Xb v n < 0
  ·simp [h]
  ·obtain ⟨h1,h2⟩:=K7 h
   obtain ⟨a1,a2,a3,a4⟩:=UA hv h2
   simp only [h,if_false,bne_self_eq_false,Bool.false_eq_true]
   rw [U1,ob_,h1,ob_,zm v _ ⟨a1,a2⟩ om_ om_]; rfl
def Za2 (c : GCipher) (key nonce : Blk) (j : Nat) : List UInt8:=(tagC c key (nonce.toList ++ [UInt8.ofNat (j / 256),UInt8.ofNat j])).toList
def jV (c : GCipher) (key nonce : Blk) (k : Nat) : List UInt8:=((List.range k).map (Za2 c key nonce)).flatten
theorem qG (c : GCipher) (key nonce : Blk) (k : Nat) : jV c key nonce (k + 1) = jV c key nonce k ++ Za2 c key nonce k:=by
 unfold jV
 rw [List.range_succ,List.map_append,List.flatten_append]; simp
theorem BR (c : GCipher) (key nonce : Blk) : ∀ k,(jV c key nonce k).length = 32 * k
 | 0=>rfl
 | k + 1=>by rw [qG,List.length_append,BR c key nonce k]; simp [Za2]; omega
def KM (c : GCipher) (key nonce : Blk) (n : Nat) : List UInt8:=(jV c key nonce ((n + 31) / 32)).take n
theorem KI (c : GCipher) (key nonce : Blk) (n : Nat) : (KM c key nonce n).length = n:=by
 unfold KM
 rw [List.length_take,BR]; omega
theorem yS (c : GCipher) (key nonce : Blk) (n : Nat) (hn : n ≤ 100000) (L : Int × List UInt8 → Option (Fl (Int × List UInt8) (List UInt8)))
  (hL : ∀ (j : Nat) (out : List UInt8),j ≤ 100000 → out.length ≤ 1000000 → L ((j : Int),out) = if (decide ((out.length : Int) < (n : Int))) = true then some (Fl.nx (((j + 1 : Nat) : Int),out ++ Za2 c key nonce j)) else some (Fl.ex out)) :
  ((ZQ L (0,[]) : Option (List UInt8)).bind λj=>slc j (0 : Int) (n : Int)) = some (KM c key nonce n):=by
 have:=YC (f:=L) (λj : Nat=>((j : Int),jV c key nonce j)) 0 ((n + 31) / 32) (Nat.zero_le _) (t:=jV c key nonce ((n + 31) / 32)) (λj _ hj=>by
  have hlen:=BR c key nonce j
  have e : decide (((jV c key nonce j).length : Int) < (n : Int)) = true:=by rw [hlen]; simp only [decide_eq_true_eq]; omega
  rw [hL j _ om_ om_,e,if_pos rfl,qG]) (by
  have hlen:=BR c key nonce ((n + 31) / 32)
  have e : decide (((jV c key nonce ((n + 31) / 32)).length : Int) < (n : Int)) = false:=by rw [hlen]; simp only [decide_eq_false_iff_not]; omega
  rw [hL _ _ om_ om_,e]; rfl)
 have h2 : ZQ L (0,[]) = _:=this
 rw [h2,ob_]
 have h3 : slc (jV c key nonce ((n + 31) / 32)) ((0 : Nat) : Int) (n : Int) = _:=J2 (Nat.zero_le _) (by rw [BR]; omega)
 have h4 : slc (jV c key nonce ((n + 31) / 32)) (0 : Int) (n : Int) = _:=h3
 rw [h4,List.drop_zero]; rfl
theorem Zim (c : GCipher) (h : Xe c = true) (key nonce : Blk) (n : Nat) (hn : n ≤ 100000) : Vg ⟨YR c⟩ key nonce (n : Int) = some (KM c key nonce n):=by
 have h1:=yS c key nonce n hn (X1 ⟨YR c⟩ key nonce (n : Int)) (λj out hj ho=>by
  have e1 : ZC (Vj (j : Int) 8) = UInt8.ofNat (j / 256):=by
   have:=Zcj j 8 om_
   rw [Nat.shiftRight_eq_div_pow] at this
   have h2 : Vj (j : Int) 8 = ((j / 2 ^ 8 : Nat) : Int):=this
   rw [h2,WM]
  have ht:=v_tag c h key [nonce.toList,[UInt8.ofNat (j / 256),UInt8.ofNat j]] (by simp) (by simp)
  have ef : ([nonce.toList,[UInt8.ofNat (j / 256),UInt8.ofNat j]] : List (List UInt8)).flatten = nonce.toList ++ [UInt8.ofNat (j / 256),UInt8.ofNat j]:=by simp
  rw [ef] at ht
  unfold X1
  simp only [Ze3,ob_,e1,WM,ht,Zbt,Wn (show j < 9223372036854775807 by omega)]
  split
  ·rw [YA (by simp; omega)]; rfl
  ·rfl)
 unfold Vg
 rw [show (ZQ (X1 ⟨YR c⟩ key nonce (n : Int)) (0,([] : List UInt8)) : Option (List UInt8)).bind (λj7=>(slc j7 (0 : Int) (n : Int)).bind λl46=>(Yv l46).bind λr48=>some r48) = ((ZQ (X1 ⟨YR c⟩ key nonce (n : Int)) (0,([] : List UInt8)) : Option (List UInt8)).bind (λj7=>slc j7 (0 : Int) (n : Int))).bind (λl46=>(Yv l46).bind λr48=>some r48) from (Option.bind_assoc _ _ _).symm,h1,ob_,Jl _ (by rw [KI]; omega)]
 rfl
theorem Zdj (c : GCipher) (h : Xe c = true) (key nonce : Blk) (n : Nat) (hn : n ≤ 100000) : Tg c key nonce (n : Int) = some (KM c key nonce n):=by
 have hd : Wv [nonce] = some nonce.toList:=by
  have:=yr [nonce] (by simp)
  simpa [HA] using this
 have h1:=yS c key nonce n hn (Vw c key nonce (n : Int)) (λj out hj ho=>by
  have e1 : ZC (wr (Int.tdiv (j : Int) 256)) = UInt8.ofNat (j / 256):=by
   have : Int.tdiv (j : Int) 256 = ((j / 256 : Nat) : Int):=by rw [Int.tdiv_eq_ediv_of_nonneg om_]; omega
   rw [this,Xi om_,WM]
  have e2 : ZC (Int.tmod (j : Int) 256) = UInt8.ofNat j:=by
   have : Int.tmod (j : Int) 256 = ((j % 256 : Nat) : Int):=by rw [Int.tmod_eq_emod_of_nonneg om_]; omega
   rw [this,WM,qV]
  unfold Vw
  split
  ·rw [hd,ob_,e1,e2,YA (by simp),ob_,Zcz c h key _ (by simp),ob_,HT,ob_,YA (by simp; omega),ob_,Wn om_]
   rfl
  ·rfl)
 unfold Tg
 rw [show (ZQ (Vw c key nonce (n : Int)) (0,([] : List UInt8)) : Option (List UInt8)).bind (λj9=>(slc j9 (0 : Int) (n : Int)).bind λl44=>(XI l44).bind λr46=>some r46) = ((ZQ (Vw c key nonce (n : Int)) (0,([] : List UInt8)) : Option (List UInt8)).bind (λj7=>slc j7 (0 : Int) (n : Int))).bind (λl46=>(XI l46).bind λr48=>some r48) from (Option.bind_assoc _ _ _).symm,h1,ob_,Hz _ (by rw [KI]; omega)]
 rfl

def Qm (a b : List UInt8) : List UInt8:=List.zipWith (λx y=>x ^^^ y) a b
theorem Ak {a b : List UInt8} (h : b.length = a.length) : (Qm a b).length = a.length:=by simp [Qm,h]
theorem Zc4 {a b : List UInt8} {i : Nat} (ha : i < a.length) (hb : i < b.length) (h : i < (Qm a b).length) : (Qm a b)[i] = a[i] ^^^ b[i]:=by simp [Qm]
theorem A8 (v : GVault) (r : GRecord) (d : List UInt8) (h : 0 ≤ r.Version ∧ r.Version ≤ (v.Keys.length : Int) - 1) (hd : d.length ≤ 100000) :
  Y9 ⟨YR (YX 4)⟩ v r d = some (Qm d (KM (YX 4) (H7 v r.Version) r.Nonce d.length)):=by
 unfold Y9
 rw [Jl d om_,ob_,jz h.1 h.2,ob_,Zim (YX 4) HU _ _ _ hd,ob_,ob_]
 generalize hs : KM (YX 4) (H7 v r.Version) r.Nonce d.length = s
 have hsl : s.length = d.length:=by rw [← hs,KI]
 have hxl:=Ak hsl
 have:=YC (f:=XF (s,(s.length : Int),0)) (λi : Nat=>((i : Int),(Qm d s).take i ++ d.drop i)) 0 d.length (Nat.zero_le _) (t:=Qm d s) (λi _ hi=>by
  have h1 : i < s.length:=by omega
  have h2 : i < (Qm d s).length:=by omega
  have h3 : ((Qm d s).take i ++ d.drop i)[i]? = some d[i]:=by
   rw [List.getElem?_append_right (by simp; omega),List.length_take,List.getElem?_drop]
   have e : i + (i - min i (Qm d s).length) = i:=by omega
   rw [e,ge_ hi]
  have h4 : ((Qm d s).take i ++ d.drop i).set i (d[i] ^^^ s[i]) = (Qm d s).take (i + 1) ++ d.drop (i + 1):=by
   rw [List.set_append_right _ _ (by simp; omega),List.drop_eq_getElem_cons hi]
   have e : i - ((Qm d s).take i).length = 0:=by simp; omega
   rw [e,List.set_cons_zero,List.take_succ_eq_append_getElem h2,Zc4 hi h1 h2,List.append_assoc]; rfl
  unfold XF
  simp only [Int.ofNat_lt,h1,decide_true,if_true,Yh,ge_ h1,h3,ob_,Int.toNat_natCast,h4,Wn (show i < 9223372036854775807 by omega)]) (by
  have e : (Qm d s).take d.length ++ d.drop d.length = Qm d s:=by rw [List.take_of_length_le om_,List.drop_length,List.append_nil]
  unfold XF
  simp only [hsl,Int.ofNat_lt,Nat.lt_irrefl,decide_false,Bool.false_eq_true,if_false,e])
 have h2 : ZQ (XF (s,(s.length : Int),0)) (0,d) = _:=this
 rw [h2]; rfl
theorem BL (v : GVault) (r : GRecord) (d : List UInt8) (h : 0 ≤ r.Version ∧ r.Version ≤ (v.Keys.length : Int) - 1) (hd : d.length ≤ 100000) :
  XV v r d = some (Qm d (KM (YX 4) (H7 v r.Version) r.Nonce d.length)):=by
 unfold XV
 rw [Hl,ob_,jz h.1 h.2,ob_,Zdj (YX 4) HU _ _ _ hd,ob_,ob_]
 generalize hs : KM (YX 4) (H7 v r.Version) r.Nonce d.length = s
 have hsl : s.length = d.length:=by rw [← hs,KI]
 have hxl:=Ak hsl
 have:=YC (f:=Vm d (s,[])) (λi : Nat=>((Qm d s).take i,(i : Int))) 0 d.length (Nat.zero_le _) (t:=Qm d s) (λi _ hi=>by
  have h1 : i < s.length:=by omega
  have h2 : i < (Qm d s).length:=by omega
  unfold Vm
  simp only [Int.ofNat_lt,hi,decide_true,if_true,Yh,ge_ h1,ge_ hi,ob_,Wn (show i < 9223372036854775807 by omega)]
  rw [YA (by simp; omega),List.take_succ_eq_append_getElem h2,Zc4 hi h1 h2]; rfl) (by
  have e : (Qm d s).take d.length = Qm d s:=List.take_of_length_le om_
  unfold Vm
  simp only [Int.ofNat_lt,Nat.lt_irrefl,decide_false,Bool.false_eq_true,if_false,e])
 have h2 : ZQ (Vm d (s,[])) ([],0) = _:=this
 rw [h2]; rfl

def Jf (v : GVault) (r : GRecord) : List UInt8:=Qm r.Body (KM (YX 4) (H7 v r.Version) r.Nonce r.Body.length)
def JZ (v : GVault) (n : Int) : List UInt8 × Int:=if Z3 v then (if Xb v n < 0 then ([],4) else if VO v (Xh v n) = (Xh v n).Tag then (Jf v (Xh v n),0) else ([],5)) else ([],1)
theorem zf (v : GVault) (hb : Wt.ln v) (n : Int) : UP v n = some (JZ v n):=by
 unfold UP JZ
 rw [Jh v hb,ob_]
 unfold qZ
 cases hv : Z3 v with
 | false=>rfl
 | true =>
  simp only [if_true]
  by_cases h : Xb v n < 0
  ·simp [h]
  ·obtain ⟨h1,h2⟩:=K7 h
   obtain ⟨a1,a2,a3,a4⟩:=UA hv h2
   simp only [h,if_false,bne_self_eq_false,Bool.false_eq_true]
   rw [U1,ob_,h1,ob_,zm v _ ⟨a1,a2⟩ om_ om_,ob_,ob_]
   by_cases ht : VO v (Xh v n) = (Xh v n).Tag
   ·simp only [ht,decide_true,Bool.not_true,Bool.false_eq_true,if_false,if_true]
    rw [A8 v _ _ ⟨a1,a2⟩ om_]; rfl
   ·simp [ht]
theorem Hg (v : GVault) (hb : Wt.ln v) (n : Int) : Vu v n = some (JZ v n):=by
 unfold Vu JZ
 rw [He v hb,ob_]
 cases hv : Z3 v with
 | false=>rfl
 | true =>
  have hs:=YQ hv
  simp only [Bool.not_true,Bool.false_eq_true,if_false,if_true]
  rw [J6 v n om_,ob_]
  by_cases h : Xb v n < 0
  ·simp [h]
  ·obtain ⟨h1,h2⟩:=K7 h
   obtain ⟨a1,a2,a3,a4⟩:=UA hv h2
   simp only [h,decide_false,Bool.false_eq_true,if_false,h1,ob_,BF v _ ⟨a1,a2⟩ (show (Xh v n).Label.length ≤ 1000 by omega) (show (Xh v n).Body.length ≤ 1000 by omega)]
   by_cases ht : VO v (Xh v n) = (Xh v n).Tag
   ·simp only [ht,decide_true,Bool.not_true,Bool.false_eq_true,if_false,if_true]
    rw [BL v _ _ ⟨a1,a2⟩ om_]; rfl
   ·simp [ht]
theorem Za4 (l : List Blk) (h : l.length ≤ 1000000) : YW l = some l:=by
 unfold YW
 rw [YA (by simp; omega)]; rfl
theorem Za9 (l : List GEvent) (h : l.length ≤ 1000000) : YS l = some l:=by
 unfold YS
 rw [YA (by simp; omega)]; rfl
theorem Zb1 (l : List GRecord) : l.map (λr=>(⟨r.Number,r.Version,r.Nonce,r.Label,r.Body,r.Tag⟩ : GRecord)) = l:=by
 induction l with
 | nil=>rfl
 | cons r l ih=>rw [List.map_cons,ih]
def yo (v : GVault) : Prop:=v.Keys.length ≤ 1000 ∧ v.Events.length ≤ 1000 ∧ v.Records.length ≤ 1000 ∧ ∀ r ∈ v.Records,r.Label.length ≤ 1000000 ∧ r.Body.length ≤ 1000000
theorem Za7 (v : GVault) (h : yo v) : We v = some v:=by
 obtain ⟨h1,h2,h3,h4⟩:=h
 have hl:=zG (f:=VJ v) v.Records (λr=>(⟨r.Number,r.Version,r.Nonce,r.Label,r.Body,r.Tag⟩ : GRecord)) (t:=v.Records) om_ (λi hi=>by
  obtain ⟨a1,a2⟩:=h4 _ (List.getElem_mem hi)
  unfold VJ
  simp only [Int.ofNat_lt,hi,decide_true,if_true,Yh,ge_ hi,ob_,Jl _ (show v.Records[i].Label.length ≤ 140737488355328 by omega),Jl _ (show v.Records[i].Body.length ≤ 140737488355328 by omega)]
  rw [YA (by simp; omega)]; rfl) (by
  unfold VJ
  rw [Zb1]; simp)
 unfold We
 rw [Za4 _ om_,ob_,Za9 _ om_,ob_,hl]; rfl
theorem zD (v : GVault) (h : yo v) : VS v = some v:=by
 obtain ⟨h1,h2,h3,h4⟩:=h
 have hl:=zG (f:=QG v) v.Records (λr=>(⟨r.Number,r.Version,r.Nonce,r.Label,r.Body,r.Tag⟩ : GRecord)) (t:=v.Records) om_ (λi hi=>by
  obtain ⟨a1,a2⟩:=h4 _ (List.getElem_mem hi)
  unfold QG
  simp only [Int.ofNat_lt,hi,decide_true,if_true,Yh,ge_ hi,ob_,Hz _ (show v.Records[i].Label.length ≤ 140737488355328 by omega),Hz _ (show v.Records[i].Body.length ≤ 140737488355328 by omega)]
  rw [YA (by simp; omega)]; rfl) (by
  unfold QG
  rw [Zb1]; simp)
 unfold VS
 rw [YA (by simp; omega),ob_,YA (by simp; omega),ob_,hl]; rfl
theorem HW {v : GVault} (h : Z3 v = true) (hb : ∀ r ∈ v.Records,r.Label.length ≤ 1000000 ∧ r.Body.length ≤ 1000000) : yo v:=by
 obtain ⟨h1,h2,h3,h4,h5,h6⟩:=YQ h
 exact ⟨by omega,by omega,by omega,hb⟩
def KE (v : GVault) (e : GEvent) : GVault:=⟨v.Keys,v.Next,v.Records,v.Events ++ [e],H9 (YX 4) (v.Events ++ [e])⟩
theorem Zbb (v : GVault) (e : GEvent) (h : v.Events.length ≤ 1000) : Xj ⟨YR (YX 4)⟩ v e = some (KE v e):=by
 unfold Xj
 rw [YA (by simp; omega),ob_,Hq _ HU _ (by simp; omega)]; rfl
theorem Aa (v : GVault) (k n : Int) (t : Dig) (h : v.Events.length ≤ 1000) : XP v k n t = some (KE v ⟨k,n,t⟩):=by
 unfold XP
 rw [YA (by simp; omega),ob_,B9 _ (by simp; omega)]; rfl
theorem js (l : List Blk) (h : l.length < 9223372036854775807) (b : Blk) : YH l b = some (l.any λx=>decide (b = x)):=by
 unfold YH Xk
 rw [z7 l (λx=>some (decide (b = x))) (λx=>decide (b = x)) (Xg l b) (λs=>by
  unfold Xg
  by_cases hs : (decide (s < (l.length : Int))) = true
  ·rw [if_pos hs,if_pos hs]
   cases idx l s <;> rfl
  ·rw [if_neg hs,if_neg hs]) h (λx _=>rfl)]
 simp only [ob_,Zeb]
def Jn : GVault:=⟨[],0,[],[],Vector.replicate 32 0⟩
def yb (v : GVault) : Bool:=v.Keys.length == 8 || v.Events.length == 60
def zt (v : GVault) (key : Blk) : GVault × Int :=
 if Z3 v then (if v.Keys.any (λx=>decide (key = x)) then (Jn,5) else if yb v then (Jn,3) else
  (KE ⟨v.Keys ++ [key],v.Next,v.Records,v.Events,v.Head⟩ ⟨3,(v.Keys.length : Int),Vector.replicate 32 0⟩,0)) else (Jn,1)
theorem qN (v : GVault) : (if ((v.Keys.length : Int) == 8) = true then (some true) else (some ((v.Events.length : Int) == 60)) : Option Bool) = some (yb v):=by
 unfold yb
 have e1 : ((v.Keys.length : Int) == 8) = (v.Keys.length == 8):=by rw [Bool.eq_iff_iff,beq_iff_eq,beq_iff_eq]; omega
 have e2 : ((v.Events.length : Int) == 60) = (v.Events.length == 60):=by rw [Bool.eq_iff_iff,beq_iff_eq,beq_iff_eq]; omega
 rw [e1,e2]
 cases v.Keys.length == 8 <;> rfl
theorem yz (v : GVault) (hb : Wt.ln v) (key : Blk) : Tk v key = some (zt v key):=by
 unfold Tk zt
 rw [QN v hb,ob_]
 cases hv : Z3 v with
 | false=>rfl
 | true =>
  obtain ⟨h1,h2,h3,h4,h5,h6⟩:=YQ hv
  have hsm : yo v:=HW hv (λr hr=>by
   unfold Z3 at hv
   simp only [Bool.and_eq_true,Bool.not_eq_true',List.any_eq_false,List.mem_range'_1] at hv
   obtain ⟨i,hi,rfl⟩:=List.mem_iff_getElem.1 hr
   have:=hv.1.2 i om_
   unfold Bg Bz at this
   rw [ge_ hi] at this
   simp only [Bool.or_eq_true,Bool.not_eq_true',decide_eq_true_eq,decide_eq_false_iff_not,not_or,Classical.not_not] at this
   omega)
  simp only [Bool.not_true,Bool.false_eq_true,if_false,if_true]
  rw [js v.Keys om_,ob_]
  cases v.Keys.any (λx=>decide (key = x)) with
  | true=>rfl
  | false =>
   simp only [Bool.false_eq_true,if_false]
   rw [qN,ob_]
   cases yb v with
   | true=>rfl
   | false =>
    simp only [Bool.false_eq_true,if_false]
    rw [Za7 v hsm,ob_,YA (by simp; omega),ob_,U1,ob_]
    have hlen : Yb v.Keys = some (v.Keys.length : Int):=rfl
    have hn : ∀ e,Xj ⟨YR (YX 4)⟩ ⟨v.Keys ++ [key],v.Next,v.Records,v.Events,v.Head⟩ e = some (KE ⟨v.Keys ++ [key],v.Next,v.Records,v.Events,v.Head⟩ e):=λe=>Zbb _ e (show v.Events.length ≤ 1000 by omega)
    rw [hlen,ob_,hn]
    rfl
theorem Hy (v : GVault) (hb : Wt.ln v) (key : Blk) : V7 v key = some (zt v key):=by
 unfold V7 zt
 rw [He v hb,ob_]
 cases hv : Z3 v with
 | false=>rfl
 | true =>
  obtain ⟨h1,h2,h3,h4,h5,h6⟩:=YQ hv
  have hsm : yo v:=HW hv (λr hr=>by
   unfold Z3 at hv
   simp only [Bool.and_eq_true,Bool.not_eq_true',List.any_eq_false,List.mem_range'_1] at hv
   obtain ⟨i,hi,rfl⟩:=List.mem_iff_getElem.1 hr
   have:=hv.1.2 i om_
   unfold Bg Bz at this
   rw [ge_ hi] at this
   simp only [Bool.or_eq_true,Bool.not_eq_true',decide_eq_true_eq,decide_eq_false_iff_not,not_or,Classical.not_not] at this
   omega)
  simp only [Bool.not_true,Bool.false_eq_true,if_false,if_true]
  have hl:=T9 (f:=UV v key) v.Keys (λx=>decide (key = x)) (t:=(Jn,(5 : Int))) om_ (λi hi=>by
   unfold UV
   simp only [Int.ofNat_lt,hi,decide_true,if_true,Yh,ge_ hi,ob_]
   by_cases hk : v.Keys[i] = key
   ·simp [hk]; rfl
   ·have hk2 : ¬ (key = v.Keys[i]):=λe=>hk e.symm
    simp [hk,hk2]) (by unfold UV; simp)
  rw [hl,ob_]
  cases v.Keys.any (λx=>decide (key = x)) with
  | true=>rfl
  | false =>
   simp only [Bool.false_eq_true,if_false,Fl.el]
   rw [qN,ob_]
   cases yb v with
   | true=>rfl
   | false =>
    simp only [Bool.false_eq_true,if_false]
    rw [zD v hsm,ob_,YA (by simp; omega),ob_]
    have hn : ∀ k n t,XP ⟨v.Keys ++ [key],v.Next,v.Records,v.Events,v.Head⟩ k n t = some (KE ⟨v.Keys ++ [key],v.Next,v.Records,v.Events,v.Head⟩ ⟨k,n,t⟩):=λk n t=>Aa _ k n t (show v.Events.length ≤ 1000 by omega)
    rw [hn]
    rfl
theorem Zw {α β : Type} {o : Option α} {f : α → Option β} {P : α → Prop} {Q : β → Prop} (h : ∃ r,o = some r ∧ P r) (k : ∀ r,P r → ∃ q,f r = some q ∧ Q q) : ∃ q,(o.bind f) = some q ∧ Q q:=by
 obtain ⟨r,e,hr⟩:=h
 rw [e,ob_]
 exact k r hr
theorem kx {α β : Type} {x : α} {f : α → Option β} {Q : β → Prop} (k : ∃ q,f x = some q ∧ Q q) : ∃ q,((some x).bind f) = some q ∧ Q q:=k
theorem Y7 {β : Type} {c : Prop} [Decidable c] {a b : Option β} {Q : β → Prop} (h1 : c → ∃ q,a = some q ∧ Q q) (h2 : ¬ c → ∃ q,b = some q ∧ Q q) : ∃ q,(if c then a else b) = some q ∧ Q q:=by
 by_cases h : c
 ·rw [if_pos h]; exact h1 h
 rw [if_neg h]; exact h2 h
theorem HN {σ ρ : Type} {f : σ → Option (Fl σ ρ)} (I : Nat → σ → Prop) {R : ρ → Prop} (n : Nat) (h : ∀ i s,i < n → I i s → ∃ q,f s = some q ∧ ∃ s',q = .nx s' ∧ I (i + 1) s') (he : ∀ s,I n s → ∃ q,f s = some q ∧ ∃ r,q = .ex r ∧ R r) :
  ∀ (k i : Nat) (s : σ),i + k = n → I i s → ∃ r,ZQ f s = some r ∧ R r
 | 0,i,s,hk,hi=>by
  have : i = n:=by omega
  subst this
  obtain ⟨q,e,r,rfl,hr⟩:=he s hi
  exact ⟨r,U7 e,hr⟩
 | k + 1,i,s,hk,hi=>by
  obtain ⟨q,e,s',rfl,hs⟩:=h i s om_ hi
  rw [U8 e]
  exact HN I n h he k (i + 1) s' om_ hs
theorem JW {α : Type} {n : Nat} (v : Vector α n) {i : Int} (h : 0 ≤ i ∧ i < n) : ∃ x,Z4 v i = some x ∧ True:=by
 obtain ⟨k,rfl⟩:=Int.eq_ofNat_of_zero_le h.1
 exact ⟨v[k]'om_,by rw [Qc,Vector.getElem?_eq_getElem om_],trivial⟩
theorem Q0 {α : Type} (l : List α) {i : Int} (h : 0 ≤ i ∧ i < l.length) : ∃ x,idx l i = some x ∧ x ∈ l:=by
 obtain ⟨k,rfl⟩:=Int.eq_ofNat_of_zero_le h.1
 have hk : k < l.length:=by omega
 exact ⟨l[k],by rw [Yh,ge_ hk],List.getElem_mem hk⟩
def Up (s : Int × Int) : Prop:=0 ≤ s.1 ∧ s.1 ≤ 4096
section
variable {p : List UInt8} (hp : p.length ≤ 4096) {s : Int × Int} (hs : Up s)
theorem Zd3 (a : BitVec 64) : ∃ m : Nat,m ≤ 16777215 ∧ IntKind.i64.wrap (wru (a &&& BitVec.ofInt 64 16777215).toNat) = (m : Int):=by
 have h : (a &&& BitVec.ofInt 64 16777215).toNat ≤ 16777215:=by
  rw [BitVec.toNat_and]
  exact Nat.le_trans Nat.and_le_right (by decide)
 refine ⟨_,h,?_⟩
 generalize (a &&& BitVec.ofInt 64 16777215).toNat = m at *
 have e : wru (m : Int) = (m : Int):=Zei m om_
 rw [e]
 exact Xi om_
include hp hs
theorem YT {n : Int} (hn : 1 ≤ n) : ∃ r,ZO p s n = some r ∧ (Up r.1 ∧ 0 ≤ r.2 ∧ r.2 < n):=by
 unfold ZO
 obtain ⟨m,hm,em⟩:=Zd3 (BitVec.ofInt 64 (Vj (IntKind.u64.wrap ((IntKind.u64.wrap (s.2 * 6364136223846793005)) + 1442695040888963407)) 33))
 rw [em]
 have hz : zO n = some ():=by unfold zO; rw [if_pos om_]
 obtain ⟨h1,h2⟩:=hs
 rw [if_neg (by simp only [decide_eq_true_eq]; omega)]
 refine Zw (P:=λj=>(0 ≤ j.1 ∧ j.1 ≤ 4096) ∧ 0 ≤ j.2) (kx (Y7 (λhc=>?_) (λ_=>⟨_,rfl,⟨h1,h2⟩,by omega⟩))) λj hj=>?_
 ·have hc : s.1 < (p.length : Int):=of_decide_eq_true hc
  refine Zw (P:=λx=>0 ≤ x) (Zw (Q0 p ⟨h1,hc⟩) λx _=>⟨_,rfl,?_⟩) λx hx=>⟨_,rfl,?_,hx⟩
  ·have hb:=x.toNat_lt
   show 0 ≤ wr ((m : Int) + (x.toNat : Int))
   rw [Xi om_]; omega
  show 0 ≤ wr (s.1 + 1) ∧ wr (s.1 + 1) ≤ 4096
  rw [Xi om_]; omega
 rw [hz]
 refine ⟨_,rfl,hj.1,?_,?_⟩
 ·exact Int.tmod_nonneg _ hj.2
 exact Int.tmod_lt_of_pos _ om_
theorem Jo {l : List Int} (hl : 1 ≤ l.length) : ∃ r,Xv p s l = some r ∧ (Up r.1 ∧ r.2 ∈ l):=by
 unfold Xv
 exact Zw (YT hp hs om_) λr hr=>Zw (Q0 l hr.2) λx hx=>⟨_,rfl,hr.1,hx⟩
theorem Zc2 : ∃ r,WX p s = some r ∧ Up r.1:=by
 unfold WX
 exact Zw (YT hp hs om_) λr hr=>Zw (YT hp hr.1 om_) λr hr=>Zw (YT hp hr.1 om_) λr hr=>Zw (Jo hp hr.1 (by simp)) λr hr=>⟨_,rfl,hr.1⟩
theorem KJ : ∃ r,YI p s = some r ∧ Up r.1:=by
 unfold YI
 refine Zw (YT hp hs om_) λr hr=>Y7 (λ_=>?_) (λ_=>?_)
 ·exact Zw (YT hp hr.1 om_) λr hr=>Zw (Zc2 hp hr.1) λq hq=>Zw (JW _ hr.2) λx _=>⟨_,rfl,hq⟩
 refine Zw (P:=λj=>Up j.2) (HN (λi t=>t.2.2.2 = (i : Int) ∧ Up (t.2.1,t.2.2.1)) 16 (λi t hi ht=>?_) (λt ht=>?_) 16 0 _ rfl ⟨rfl,hr.1⟩) λj hj=>⟨_,rfl,hj⟩
 ·unfold UX
  obtain ⟨t1,t2⟩:=ht
  rw [if_pos (by simp only [decide_eq_true_eq]; omega)]
  exact Zw (YT hp t2 om_) λr hr=>Zw (JW _ om_) λx _=>⟨_,rfl,_,rfl,by show wr (t.2.2.2 + 1) = _; rw [t1,Xi om_]; omega,hr.1⟩
 unfold UX
 obtain ⟨t1,t2⟩:=ht
 rw [if_neg (by simp only [decide_eq_true_eq]; omega)]
 exact ⟨_,rfl,_,rfl,t2⟩
end
theorem Hx {p : List UInt8} (hp : p.length ≤ 4096) : ∃ r,X6 p = some r ∧ Up r:=by
 unfold X6
 refine Zw (P:=λ_=>True) (HN (λi t=>t.2 = (i : Int)) p.length (λi t hi ht=>?_) (λt ht=>?_) p.length 0 _ om_ rfl) λj _=>⟨_,rfl,by show (0 : Int) ≤ 0; omega,by show (0 : Int) ≤ 4096; omega⟩
 ·unfold Ky
  rw [if_pos (by simp only [decide_eq_true_eq]; omega)]
  have h1 : decide (t.2 < 4096) = true:=by simp only [decide_eq_true_eq]; omega
  rw [h1]
  exact kx (Y7 (λ_=>Zw (Q0 p om_) λx _=>⟨_,rfl,_,rfl,by show wr (t.2 + 1) = _; rw [ht,Xi om_]; omega⟩) λh=>absurd rfl h)
 unfold Ky
 rw [if_neg (by simp only [decide_eq_true_eq]; omega)]
 exact ⟨_,rfl,_,rfl,trivial⟩

def qe (v : GVault) (nonce : Blk) : Bool:=v.Records.any λr=>(r.Version == (v.Keys.length : Int) - 1) && decide (r.Nonce = nonce)
theorem zq {v : GVault} (h : v.Keys.length ≤ 1000) : wr ((v.Keys.length : Int) - 1) = (v.Keys.length : Int) - 1:=Xi om_
theorem Zes (v : GVault) (nonce : Blk) (hk : v.Keys.length ≤ 1000) (hr : v.Records.length ≤ 1000) : WO v nonce = some (qe v nonce):=by
 have h1 : ∀ z,Y3 z v nonce = some ((z.Version == (v.Keys.length : Int) - 1) && decide (z.Nonce = nonce)):=λz=>by
  have hlen : Yb v.Keys = some (v.Keys.length : Int):=rfl
  unfold Y3
  rw [hlen,ob_,zq hk]
  cases z.Version == (v.Keys.length : Int) - 1 <;> rfl
 unfold WO YL Yr
 rw [z7 v.Records (λz=>Y3 z v nonce) (λz=>(z.Version == (v.Keys.length : Int) - 1) && decide (z.Nonce = nonce)) (Yz v.Records (λz0=>Y3 z0 v nonce)) (λs=>by
  unfold Yz
  rfl) om_ (λx _=>h1 x)]
 simp only [ob_,Zeb]
 rfl
theorem Zaa (v : GVault) (nonce : Blk) (hk : v.Keys.length ≤ 1000) (hr : v.Records.length ≤ 1000) : Tc v nonce = some (qe v nonce):=by
 unfold Tc
 rw [T9 (f:=TM v nonce) v.Records (λz=>(z.Version == (v.Keys.length : Int) - 1) && decide (z.Nonce = nonce)) (t:=true) om_ (λi hi=>by
  unfold TM
  simp only [Int.ofNat_lt,hi,decide_true,if_true,Yh,ge_ hi,ob_,zq hk]
  cases v.Records[i].Version == (v.Keys.length : Int) - 1 with
  | true =>
   simp only [if_true,ob_,Bool.true_and]
   cases decide (v.Records[i].Nonce = nonce) <;> rfl
  | false=>rfl) (by unfold TM; simp)]
 rw [ob_]
 show Fl.el _ _ _ = some (List.any v.Records λz=>(z.Version == (v.Keys.length : Int) - 1) && decide (z.Nonce = nonce))
 cases List.any v.Records λz=>(z.Version == (v.Keys.length : Int) - 1) && decide (z.Nonce = nonce) <;> rfl
def QA (v : GVault) (ver : Int) (nonce : Blk) (data : List UInt8) : List UInt8:=Qm data (KM (YX 4) (H7 v ver) nonce data.length)
theorem JS (v : GVault) (ver : Int) (nonce : Blk) (data : List UInt8) : (QA v ver nonce data).length = data.length:=Ak (KI _ _ _ _)
def Ji (v : GVault) (n ver : Int) (nonce : Blk) (label data : List UInt8) : GRecord:=⟨n,ver,nonce,label,QA v ver nonce data,VO v ⟨n,ver,nonce,label,QA v ver nonce data,Vector.replicate 32 0⟩⟩
def limB (v : GVault) : Bool:=(v.Records.length == 12) || (v.Events.length == 60) || (v.Next == 1000000)
theorem Zg9 (v : GVault) : (if ((v.Records.length : Int) == 12) = true then (some true) else (if ((v.Events.length : Int) == 60) = true then (some true) else (some (v.Next == 1000000))) : Option Bool) = some (limB v):=by
 unfold limB
 have e1 : ((v.Records.length : Int) == 12) = (v.Records.length == 12):=by rw [Bool.eq_iff_iff,beq_iff_eq,beq_iff_eq]; omega
 have e2 : ((v.Events.length : Int) == 60) = (v.Events.length == 60):=by rw [Bool.eq_iff_iff,beq_iff_eq,beq_iff_eq]; omega
 rw [e1,e2]
 cases v.Records.length == 12 <;> cases v.Events.length == 60 <;> rfl
def jT (label data : List UInt8) : Bool:=decide (32 < label.length) || decide (200 < data.length)
theorem Zgy (label data : List UInt8) : (if (decide ((label.length : Int) > 32)) = true then (some true) else (some (decide ((data.length : Int) > 200))) : Option Bool) = some (jT label data):=by
 unfold jT
 have e1 : decide ((label.length : Int) > 32) = decide (32 < label.length):=by rw [Bool.eq_iff_iff]; simp only [decide_eq_true_eq]; omega
 have e2 : decide ((data.length : Int) > 200) = decide (200 < data.length):=by rw [Bool.eq_iff_iff]; simp only [decide_eq_true_eq]; omega
 rw [e1,e2]
 cases decide (32 < label.length) <;> rfl
def Ac (v : GVault) (r : GRecord) : GVault:=⟨v.Keys,v.Next + 1,v.Records ++ [r],v.Events,v.Head⟩
def Zfo (v : GVault) (label data : List UInt8) (nonce : Blk) : GVault × Int × Int :=
 if Z3 v then (if jT label data then (Jn,0,2) else if qe v nonce then (Jn,0,5) else if limB v then (Jn,0,3) else
  (KE (Ac v (Ji v v.Next ((v.Keys.length : Int) - 1) nonce label data)) ⟨1,v.Next,(Ji v v.Next ((v.Keys.length : Int) - 1) nonce label data).Tag⟩,v.Next,0)) else (Jn,0,1)
theorem kd {label data : List UInt8} (h : jT label data = false) : label.length ≤ 32 ∧ data.length ≤ 200:=by
 unfold jT at h
 simp only [Bool.or_eq_false_iff,decide_eq_false_iff_not] at h
 omega
theorem BV {v : GVault} (hv : Z3 v = true) : yo v:=HW hv λr hr=>by
 obtain ⟨_,_,h1,h2⟩:=UA hv hr
 omega
theorem Zhx (v : GVault) (n ver : Int) (nonce : Blk) (label data : List UInt8) (t : Dig) (b : List UInt8) (h : 0 ≤ ver ∧ ver ≤ (v.Keys.length : Int) - 1) (hl : label.length ≤ 32) (hd : data.length ≤ 200) :
  Vf ⟨YR (YX 4)⟩ v ⟨n,ver,nonce,label,b,t⟩ data = some (Ji v n ver nonce label data):=by
 unfold Vf
 rw [A8 v ⟨n,ver,nonce,label,b,t⟩ data h om_,ob_]
 have hb:=JS v ver nonce data
 have ht : YU ⟨YR (YX 4)⟩ v ⟨n,ver,nonce,label,QA v ver nonce data,t⟩ = some (VO v ⟨n,ver,nonce,label,QA v ver nonce data,t⟩):=zm v _ h (show label.length ≤ 1000 by omega) (show (QA v ver nonce data).length ≤ 1000 by omega)
 show (YU ⟨YR (YX 4)⟩ v ⟨n,ver,nonce,label,QA v ver nonce data,t⟩).bind _ = _
 rw [ht]; rfl
theorem jh (v : GVault) (hb : Wt.ln v) (label data : List UInt8) (nonce : Blk) : TL v label data nonce = some (Zfo v label data nonce):=by
 unfold TL Zfo
 rw [He v hb,ob_]
 cases hv : Z3 v with
 | false=>rfl
 | true =>
  obtain ⟨h1,h2,h3,h4,h5,h6⟩:=YQ hv
  simp only [Bool.not_true,Bool.false_eq_true,if_false,if_true]
  rw [Zgy,ob_]
  cases hlg : jT label data with
  | true=>rfl
  | false =>
   obtain ⟨k1,k2⟩:=kd hlg
   simp only [Bool.false_eq_true,if_false]
   rw [Zaa v nonce om_ om_,ob_]
   cases qe v nonce with
   | true=>rfl
   | false =>
    simp only [Bool.false_eq_true,if_false]
    rw [Zg9,ob_]
    cases limB v with
    | true=>rfl
    | false =>
     have hbl:=JS v ((v.Keys.length : Int) - 1) nonce data
     simp only [Bool.false_eq_true,if_false]
     have hm : ∀ t,XV v ⟨v.Next,(v.Keys.length : Int) - 1,nonce,label,[],t⟩ data = some (QA v ((v.Keys.length : Int) - 1) nonce data):=λt=>BL v _ data ⟨by show (0 : Int) ≤ (v.Keys.length : Int) - 1; omega,Int.le_refl _⟩ om_
     have ht : ∀ t,X2 v ⟨v.Next,(v.Keys.length : Int) - 1,nonce,label,QA v ((v.Keys.length : Int) - 1) nonce data,t⟩ = some (VO v ⟨v.Next,(v.Keys.length : Int) - 1,nonce,label,QA v ((v.Keys.length : Int) - 1) nonce data,t⟩):=λt=>BF v _ ⟨by show (0 : Int) ≤ (v.Keys.length : Int) - 1; omega,Int.le_refl _⟩ (show label.length ≤ 1000 by omega) (show (QA v ((v.Keys.length : Int) - 1) nonce data).length ≤ 1000 by omega)
     rw [zD v (BV hv),ob_,Hz label om_,ob_,zq om_,hm,ob_,ht,ob_,YA (by simp; omega),ob_,Xi om_]
     have hn : ∀ k n t,XP (Ac v (Ji v v.Next ((v.Keys.length : Int) - 1) nonce label data)) k n t = some (KE (Ac v (Ji v v.Next ((v.Keys.length : Int) - 1) nonce label data)) ⟨k,n,t⟩):=λk n t=>Aa _ k n t (show v.Events.length ≤ 1000 by omega)
     have:=hn 1 v.Next (Ji v v.Next ((v.Keys.length : Int) - 1) nonce label data).Tag
     unfold Ac Ji at this
     rw [this]
     rfl
def HZ (v : GVault) (i : Nat) (r : GRecord) : GVault:=⟨v.Keys,v.Next,v.Records.set i r,v.Events,v.Head⟩
def Qn (v : GVault) (n : Int) (nonce : Blk) : GRecord:=Ji v n ((v.Keys.length : Int) - 1) nonce (Xh v n).Label (Jf v (Xh v n))
def Zai (v : GVault) (n : Int) (nonce : Blk) : GVault × Int :=
 if Z3 v then (if Xb v n < 0 then (Jn,4) else if VO v (Xh v n) = (Xh v n).Tag then (if qe v nonce then (Jn,5) else if v.Events.length == 60 then (Jn,3) else
  (KE (HZ v (Xb v n).toNat (Qn v n nonce)) ⟨4,n,(Qn v n nonce).Tag⟩,0)) else (Jn,5)) else (Jn,1)
theorem jD (v : GVault) : ((v.Events.length : Int) == 60) = (v.Events.length == 60):=by rw [Bool.eq_iff_iff,beq_iff_eq,beq_iff_eq]; omega
theorem Aj (v : GVault) (r : GRecord) : (Jf v r).length = r.Body.length:=Ak (KI _ _ _ _)
theorem BA {v : GVault} {n : Int} (h : ¬ Xb v n < 0) : ∃ i : Nat,Xb v n = i ∧ i < v.Records.length ∧ v.Records[i]? = some (Xh v n) ∧ (Xh v n).Number = n:=by
 obtain ⟨i,h1,h2,h3⟩:=zw h
 refine ⟨i,h1,h2,?_,?_⟩
 ·unfold Xh
  rw [h1,Int.toNat_natCast,List.getD_eq_getElem?_getD,ge_ h2]; rfl
 unfold Xh
 rw [h1,Int.toNat_natCast,List.getD_eq_getElem?_getD,ge_ h2]; exact h3
theorem jc (v : GVault) (hb : Wt.ln v) (n : Int) (nonce : Blk) : TP v n nonce = some (Zai v n nonce):=by
 unfold TP Zai
 rw [Jh v hb,ob_]
 unfold qZ
 cases hv : Z3 v with
 | false=>rfl
 | true =>
  obtain ⟨h1,h2,h3,h4,h5,h6⟩:=YQ hv
  simp only [if_true]
  by_cases hp : Xb v n < 0
  ·simp only [if_pos hp]; rfl
  ·simp only [if_neg hp]
   obtain ⟨i,p1,p2,p3,p4⟩:=BA hp
   have hmem : Xh v n ∈ v.Records:=List.mem_of_getElem? p3
   obtain ⟨q1,q2,q3,q4⟩:=UA hv hmem
   have hlen : Yb v.Keys = some (v.Keys.length : Int):=rfl
   simp only [bne_self_eq_false,Bool.false_eq_true,if_false]
   rw [U1,ob_,Za7 v (BV hv),ob_,p1,Yh,p3,ob_,zm v _ ⟨q1,q2⟩ om_ om_,ob_,Zes v nonce om_ om_,ob_]
   by_cases ht : VO v (Xh v n) = (Xh v n).Tag
   ·simp only [ht,decide_true,Bool.not_true,Bool.false_eq_true,if_false,if_true,ob_]
    cases qe v nonce with
    | true=>rfl
    | false =>
     simp only [Bool.false_eq_true,if_false,jD]
     cases (v.Events.length == 60) with
     | true=>rfl
     | false =>
      simp only [Bool.false_eq_true,if_false]
      have hs : Y9 ⟨YR (YX 4)⟩ v (Xh v n) (Xh v n).Body = some (Jf v (Xh v n)):=A8 v _ _ ⟨q1,q2⟩ om_
      have hpl:=Aj v (Xh v n)
      have hse:=Zhx v (Xh v n).Number ((v.Keys.length : Int) - 1) nonce (Xh v n).Label (Jf v (Xh v n)) (Xh v n).Tag (Xh v n).Body ⟨by omega,by omega⟩ q3 om_
      rw [hs,ob_,hlen,ob_,zq om_,ob_]
      simp only []
      rw [hse]
      simp only [ob_,Int.toNat_natCast,p4]
      have hset : (v.Records.set i (Qn v n nonce))[i]? = some (Qn v n nonce):=by rw [List.getElem?_set_self p2]
      have hn : ∀ e,Xj ⟨YR (YX 4)⟩ (HZ v i (Qn v n nonce)) e = some (KE (HZ v i (Qn v n nonce)) e):=λe=>Zbb _ e (show v.Events.length ≤ 1000 by omega)
      have:=hn ⟨4,n,(Qn v n nonce).Tag⟩
      unfold HZ at this
      unfold Qn at hset this
      rw [Yh,hset,ob_,this]
      rfl
   ·simp only [ht,decide_false,Bool.not_false,if_true,if_false,ob_]; rfl
theorem Bc (v : GVault) (hb : Wt.ln v) (n : Int) (nonce : Blk) : UB v n nonce = some (Zai v n nonce):=by
 unfold UB Zai
 rw [Hg v hb,ob_]
 unfold JZ
 cases hv : Z3 v with
 | false=>rfl
 | true =>
  obtain ⟨h1,h2,h3,h4,h5,h6⟩:=YQ hv
  simp only [if_true]
  by_cases hp : Xb v n < 0
  ·simp only [if_pos hp]; rfl
  ·simp only [if_neg hp]
   obtain ⟨i,p1,p2,p3,p4⟩:=BA hp
   have hmem : Xh v n ∈ v.Records:=List.mem_of_getElem? p3
   obtain ⟨q1,q2,q3,q4⟩:=UA hv hmem
   by_cases ht : VO v (Xh v n) = (Xh v n).Tag
   ·simp only [if_pos ht,bne_self_eq_false,Bool.false_eq_true,if_false]
    rw [Zaa v nonce om_ om_,ob_]
    cases qe v nonce with
    | true=>rfl
    | false =>
     simp only [Bool.false_eq_true,if_false,jD]
     cases (v.Events.length == 60) with
     | true=>rfl
     | false =>
      simp only [Bool.false_eq_true,if_false]
      have hpl:=Aj v (Xh v n)
      have hbl:=JS v ((v.Keys.length : Int) - 1) nonce (Jf v (Xh v n))
      have hm : ∀ t,XV v ⟨n,(v.Keys.length : Int) - 1,nonce,(Xh v n).Label,[],t⟩ (Jf v (Xh v n)) = some (QA v ((v.Keys.length : Int) - 1) nonce (Jf v (Xh v n))):=λt=>BL v _ _ ⟨by show (0 : Int) ≤ (v.Keys.length : Int) - 1; omega,Int.le_refl _⟩ om_
      have htg : ∀ t,X2 v ⟨n,(v.Keys.length : Int) - 1,nonce,(Xh v n).Label,QA v ((v.Keys.length : Int) - 1) nonce (Jf v (Xh v n)),t⟩ = some (VO v ⟨n,(v.Keys.length : Int) - 1,nonce,(Xh v n).Label,QA v ((v.Keys.length : Int) - 1) nonce (Jf v (Xh v n)),t⟩):=λt=>BF v _ ⟨by show (0 : Int) ≤ (v.Keys.length : Int) - 1; omega,Int.le_refl _⟩ (show (Xh v n).Label.length ≤ 1000 by omega) (show (QA v ((v.Keys.length : Int) - 1) nonce (Jf v (Xh v n))).length ≤ 1000 by omega)
      rw [zD v (BV hv),ob_,J6 v n om_,ob_,p1]
      simp only [Yh,p3,ob_,zq (show v.Keys.length ≤ 1000 by omega),hm,htg,Int.toNat_natCast]
      have hn : ∀ k n' t,XP (HZ v i (Qn v n nonce)) k n' t = some (KE (HZ v i (Qn v n nonce)) ⟨k,n',t⟩):=λk n' t=>Aa _ k n' t (show v.Events.length ≤ 1000 by omega)
      have:=hn 4 n (Qn v n nonce).Tag
      unfold HZ Qn Ji at this
      rw [this]
      rfl
   ·simp only [if_neg ht]; rfl
theorem Zdb {v : GVault} {n : Int} (nonce : Blk) (hv : Z3 v = true) (hp : ¬ Xb v n < 0) : (Qn v n nonce).Label.length ≤ 32 ∧ (Qn v n nonce).Body.length ≤ 200:=by
 obtain ⟨i,p1,p2,p3,p4⟩:=BA hp
 obtain ⟨q1,q2,q3,q4⟩:=UA hv (List.mem_of_getElem? p3)
 have hbl:=JS v ((v.Keys.length : Int) - 1) nonce (Jf v (Xh v n))
 have hpl:=Aj v (Xh v n)
 exact ⟨q3,by show (QA v ((v.Keys.length : Int) - 1) nonce (Jf v (Xh v n))).length ≤ 200; omega⟩
theorem jG {k : Int} (h : 0 ≤ k) (h' : k ≤ 100000) : wr (k + 1) = k + 1:=Xi om_
theorem Zbg {k : Int} (h : 0 ≤ k) (h' : k ≤ 100000) : wr (k - 1) = k - 1:=Xi om_
theorem Zdm {k : Int} (h : 0 < k) : (decide (k > 0)) = true:=by simpa using h
theorem Zed {k : Int} (h : ¬ 0 < k) : ¬ (decide (k > 0)) = true:=by simpa using h
theorem jW {a b : Int} (h : a < b) : (decide (a < b)) = true:=by simpa using h
theorem lt_no {a b : Int} (h : ¬ a < b) : ¬ (decide (a < b)) = true:=by simpa using h
section
variable {p : List UInt8} (hp : p.length ≤ 4096) {s : Int × Int} (hs : Up s)
include hp hs
theorem Zgd {n : Nat} (hn : n ≤ 1000) : ∃ r,VM p s (n : Int) = some r ∧ (Up r.1 ∧ r.2.length ≤ n):=by
 unfold VM
 have a5 : 0 ≤ (if (5 : Int) < (n : Int) then 5 else (n : Int)) ∧ (if (5 : Int) < (n : Int) then 5 else (n : Int)) ≤ n:=by split <;> omega
 have a40 : 0 ≤ (if (40 : Int) < (n : Int) then 40 else (n : Int)) ∧ (if (40 : Int) < (n : Int) then 40 else (n : Int)) ≤ n:=by split <;> omega
 rw [jG a5.1 om_,jG a40.1 om_,jG (k:=(n : Int)) om_ om_]
 refine Zw (YT hp hs om_) λr3 q3=>Zw (YT hp q3.1 om_) λr5 q5=>Zw (YT hp q5.1 om_) λr7 q7=>Zw (Jo hp q7.1 (by simp)) λr q=>?_
 obtain ⟨k,ek,hk⟩ : ∃ k : Nat,r.2 = k ∧ k ≤ n:=by
  have h0:=q3.2; have h1:=q5.2; have h2:=q7.2
  have h3:=q.2
  simp only [List.mem_cons,List.not_mem_nil,or_false] at h3
  exact ⟨r.2.toNat,by rcases h3 with e | e | e <;> omega,by rcases h3 with e | e | e <;> omega⟩
 refine Zw (P:=λj=>Up (j.1,j.2.1) ∧ j.2.2.length ≤ n) (HN (λi t=>t.2.2.2 = ((k - i : Nat) : Int) ∧ t.2.2.1.length = i ∧ Up (t.1,t.2.1)) k (λi t hi ht=>?_) (λt ht=>?_) k 0 _ om_ ⟨ek,rfl,q.1⟩) λj hj=>⟨_,rfl,hj⟩
 ·obtain ⟨t1,t2,t3⟩:=ht
  unfold UQ
  rw [if_pos (Zdm om_)]
  refine Zw (Zc2 hp t3) λr hr=>?_
  have ha : app 1 t.2.2.1 ([r.2] : List UInt8) = _:=YA (by simp only [List.length_singleton]; omega)
  rw [ha]
  exact ⟨_,rfl,_,rfl,by show wr (t.2.2.2 - 1) = _; rw [t1,Zbg om_ om_]; omega,by simp; omega,hr⟩
 obtain ⟨t1,t2,t3⟩:=ht
 unfold UQ
 rw [if_neg (Zed om_)]
 exact ⟨_,rfl,_,rfl,t3,by show t.2.2.1.length ≤ n; omega⟩
end
theorem XS {α β : Type} {o : Option α} {r : α} {f : α → Option β} {x : Option β} (h : o = some r) (k : f r = x) : o.bind f = x:=by rw [h]; exact k
theorem elf_nx {β γ : Type} {o : Option (Fl Unit β)} {f : Unit → Option γ} {g : β → Option γ} {x : Option γ} (h : o = some (.nx ())) (k : f () = x) : (o.bind λj=>j.el f g) = x:=by rw [h]; exact k
theorem ite_nx {β : Type} {c : Prop} [Decidable c] {A x : Option β} (h : c → A = x) : (if c then A else x) = x:=by
 by_cases c' : c
 ·rw [if_pos c']; exact h c'
 rw [if_neg c']
theorem jA {β : Type} {o : Option Bool} {A B x : Option β} (h : o = some false) (k : B = x) : (o.bind λj=>if j = true then A else B) = x:=by rw [h]; exact k
theorem BJ (l : List UInt8) (h : l.length ≤ 1000) : U0 l l = some true:=by
 unfold U0
 have:=T9 (f:=QI l l) l (λ_=>false) (t:=false) om_ (λi hi=>by
  unfold QI
  rw [if_pos (jW om_),Yh,ge_ hi]
  simp) (by unfold QI; simp)
 rw [this]; simp [Fl.el]
theorem Hp (l : List Int) (h : l.length ≤ 100000) : VD l l = some true:=by
 unfold VD
 have:=T9 (f:=Td l l) l (λ_=>false) (t:=false) om_ (λi hi=>by
  unfold Td
  rw [if_pos (jW om_),Yh,ge_ hi]
  simp) (by unfold Td; simp)
 rw [this]; simp [Fl.el]
def AN (v : GVault) (i : Nat) : GVault:=⟨v.Keys,v.Next,v.Records.take i ++ v.Records.drop (i + 1),v.Events,v.Head⟩
def qP (v : GVault) (n : Int) : GVault × Int :=
 if Z3 v then (if Xb v n < 0 then (Jn,4) else if v.Events.length == 60 then (Jn,3) else (KE (AN v (Xb v n).toNat) ⟨2,n,Vector.replicate 32 0⟩,0)) else (Jn,1)
theorem Zif {α : Type} {l : List α} {i : Nat} (h : i < l.length) : delF l (i : Int) ((i : Int) + 1) = some (l.take i ++ l.drop (i + 1)):=by
 unfold delF
 rw [if_pos om_]
 have : ((i : Int) + 1).toNat = i + 1:=by omega
 rw [this,Int.toNat_natCast]
theorem Zj1 {α : Type} {l : List α} {i : Nat} (h : i ≤ l.length) : slc l (0 : Int) (i : Int) = some (l.take i):=by
 unfold slc; rw [if_pos om_]; simp
theorem Zja {α : Type} {l : List α} {i : Nat} (h : i ≤ l.length) : slc l (i : Int) (l.length : Int) = some (l.drop i):=by
 unfold slc; rw [if_pos om_]; simp
theorem Zh7 {α : Type} {l : List α} {i : Nat} (h : i < l.length) : slc l ((i : Int) + 1) (l.length : Int) = some (l.drop (i + 1)):=Zja (i:=i + 1) h
theorem zP (v : GVault) (hb : Wt.ln v) (n : Int) : UO v n = some (qP v n):=by
 unfold UO qP
 rw [Jh v hb,ob_]
 unfold qZ
 cases hv : Z3 v with
 | false=>rfl
 | true =>
  obtain ⟨h1,h2,h3,h4,h5,h6⟩:=YQ hv
  simp only [if_true]
  by_cases hp : Xb v n < 0
  ·simp only [if_pos hp]; rfl
  ·simp only [if_neg hp]
   obtain ⟨i,p1,p2,p3,p4⟩:=BA hp
   simp only [bne_self_eq_false,Bool.false_eq_true,if_false,jD]
   cases (v.Events.length == 60) with
   | true=>rfl
   | false =>
    simp only [Bool.false_eq_true,if_false]
    rw [Za7 v (BV hv),ob_,p1,Xi om_,U1]
    unfold XE
    rw [Zif p2]
    simp only [ob_,Int.toNat_natCast]
    have hn:=Zbb (AN v i) ⟨2,n,Vector.replicate 32 0⟩ (show v.Events.length ≤ 1000 by omega)
    unfold AN at hn
    rw [hn]
    rfl
theorem Hb (v : GVault) (hb : Wt.ln v) (n : Int) : Vp v n = some (qP v n):=by
 unfold Vp qP
 rw [He v hb,ob_]
 cases hv : Z3 v with
 | false=>rfl
 | true =>
  obtain ⟨h1,h2,h3,h4,h5,h6⟩:=YQ hv
  simp only [Bool.not_true,Bool.false_eq_true,if_false,if_true]
  rw [J6 v n om_,ob_]
  by_cases hp : Xb v n < 0
  ·simp only [if_pos hp,hp,decide_true,if_true]; rfl
  ·simp only [if_neg hp,hp,decide_false,Bool.false_eq_true,if_false,jD]
   obtain ⟨i,p1,p2,p3,p4⟩:=BA hp
   cases (v.Events.length == 60) with
   | true=>rfl
   | false =>
    simp only [Bool.false_eq_true,if_false]
    have hnn : Wy ((i : Int) + 1 - i) = some ():=by unfold Wy; rw [if_pos om_]
    rw [zD v (BV hv),ob_,p1,Xi om_,hnn,ob_,Zj1 om_,Zh7 p2]
    have hl1 : (v.Records.take i).length ≤ 1000:=by simp; omega
    have hl2 : (v.Records.drop (i + 1)).length ≤ 1000:=by simp; omega
    simp only [ob_]
    rw [YA (by simp; omega),ob_,YA (by simp; omega)]
    simp only [ob_,Int.toNat_natCast,List.nil_append]
    have hn:=Aa (AN v i) 2 n (Vector.replicate 32 0) (show v.Events.length ≤ 1000 by omega)
    unfold AN at hn
    rw [hn]
    rfl
def hv (c : UInt8) : Option UInt8:=if 48 ≤ c.toNat ∧ c.toNat ≤ 57 then some (c - 48) else if 97 ≤ c.toNat ∧ c.toNat ≤ 102 then some (c - 97 + 10) else none
def byN (n : Int) (s : Dig × Bool) (e : GEvent) : Dig × Bool:=if e.Number = n then (if e.Kind = 1 ∨ (e.Kind = 4 ∧ s.2 = true) then (e.Tag,true) else if e.Kind = 2 then (s.1,false) else s) else s
def JA (m : List (Int × Dig)) (e : GEvent) : List (Int × Dig):=if e.Kind = 1 ∨ (e.Kind = 4 ∧ (XO m e.Number).isSome = true) then Kh m e.Number e.Tag else if e.Kind = 2 then J3 m e.Number else m
def byC (l : List GEvent) (n : Int) : Dig × Bool:=l.foldl (byN n) (Vector.replicate 32 0,false)
def VP (l : List GEvent) : List (Int × Dig):=l.foldl JA []
theorem Zj9 (l : List GEvent) (n : Int) (h : l.length < 9223372036854775807) : KO l n = some (byC l n):=by
 unfold KO
 have:=V3 (f:=T7 l n) l (λb i=>(b.1,b.2,i)) (byN n) (Vector.replicate 32 0,false) (t:=byC l n) h (λi hi=>by
  have hlt : ((i : Int) < (l.length : Int)):=by omega
  have hx : idx l ((i : Nat) : Int) = some l[i]:=by rw [Yh,ge_ hi]
  generalize (l.take i).foldl (byN n) (Vector.replicate 32 0,false) = s
  obtain ⟨t,b⟩:=s
  unfold T7 byN
  simp only [hlt,decide_true,if_true,hx,ob_]
  by_cases h1 : l[i].Number = n
  ·have e1 : (l[i].Number != n) = false:=by simpa using h1
   simp only [e1,Bool.false_eq_true,if_false,h1,if_true]
   by_cases h2 : l[i].Kind = 1
   ·simp [h2]
   ·by_cases h4 : l[i].Kind = 4
    ·cases b <;> simp [h4]
    ·by_cases h3 : l[i].Kind = 2 <;> simp [h2,h3,h4]
  ·have e1 : (l[i].Number != n) = true:=by simpa using h1
   simp [h1]) (by
  unfold T7 byC
  simp)
 have e : ZQ (T7 l n) ((Vector.replicate 32 (0 : UInt8)),false,0) = some (byC l n):=this
 rw [e]; rfl
theorem Zew (l : List GEvent) (h : l.length < 9223372036854775807) : TY l = some (VP l):=by
 unfold TY
 have:=V3 (f:=Th l) l (λb i=>(b,i)) JA [] (t:=VP l) h (λi hi=>by
  have hlt : ((i : Int) < (l.length : Int)):=by omega
  have hx : idx l ((i : Nat) : Int) = some l[i]:=by rw [Yh,ge_ hi]
  generalize (l.take i).foldl JA [] = m
  unfold Th JA
  simp only [hlt,decide_true,if_true,hx,ob_]
  by_cases h2 : l[i].Kind = 1
  ·simp [h2]
  ·by_cases h4 : l[i].Kind = 4
   ·cases hm : (XO m l[i].Number).isSome <;> simp [h4,hm]
   ·by_cases h3 : l[i].Kind = 2 <;> simp [h2,h3,h4]) (by
  unfold Th VP
  simp)
 rw [this]; rfl
theorem HJ (k k' : Int) (x : Dig) : ∀ m : List (Int × Dig),XO (Kh m k x) k' = if k = k' then some x else XO m k'
 | []=>by by_cases h : k = k' <;> simp [Kh,XO,h]
 | p :: m=>by
  by_cases h : p.1 = k
  ·by_cases h2 : k = k'
   ·simp [Kh,XO,h,h2]
   ·have : ¬ p.1 = k':=λe=>h2 (h.symm.trans e)
    simp [Kh,XO,h,h2]
  ·have ih:=HJ k k' x m
   by_cases h2 : p.1 = k'
   ·have h3 : ¬ k = k':=λe=>h (h2.trans e.symm)
    rw [Kh,if_neg h,XO,if_pos h2,if_neg h3,XO,if_pos h2]
   ·simp only [Kh,XO,h,h2,if_false,ih]
theorem zA (k : Int) : ∀ m : List (Int × Dig),(XO m k).isSome = true ↔ k ∈ m.map (·.1)
 | []=>by simp [XO]
 | p :: m=>by
  by_cases h : p.1 = k
  ·simp [XO,h]
  ·have : ¬ k = p.1:=λe=>h e.symm
   simp only [XO,h,if_false,zA k m,List.map_cons,List.mem_cons,this,false_or]
theorem yD (k k' : Int) : ∀ m : List (Int × Dig),(m.map (·.1)).Nodup → XO (J3 m k) k' = if k = k' then none else XO m k'
 | [],_=>by simp [J3,XO]
 | p :: m,hn=>by
  obtain ⟨n1,n2⟩:=List.nodup_cons.1 hn
  by_cases h : p.1 = k
  ·by_cases h2 : k = k'
   ·have : XO m k' = none:=by
     have h3 : ¬ (XO m k').isSome = true:=λq=>n1 (by show p.1 ∈ _; rw [h,h2]; exact (zA k' m).1 q)
     simpa using h3
    simp [J3,h,h2,this]
   ·have : ¬ p.1 = k':=λe=>h2 (h.symm.trans e)
    simp [J3,XO,h,h2]
  ·have ih:=yD k k' m n2
   by_cases h2 : p.1 = k'
   ·have h3 : ¬ k = k':=λe=>h (h2.trans e.symm)
    rw [J3,if_neg h,XO,if_pos h2,if_neg h3,XO,if_pos h2]
   ·simp only [J3,XO,h,h2,if_false,ih]
theorem zN (k : Int) (x : Dig) : ∀ m : List (Int × Dig),(Kh m k x).map (·.1) = if k ∈ m.map (·.1) then m.map (·.1) else m.map (·.1) ++ [k]
 | []=>by simp [Kh]
 | p :: m=>by
  by_cases h : p.1 = k
  ·simp [Kh,h]
  ·have h' : ¬ k = p.1:=λe=>h e.symm
   simp only [Kh,h,if_false,List.map_cons,zN k x m,List.mem_cons,h',false_or]
   split <;> simp
theorem za (k : Int) : ∀ m : List (Int × Dig),((J3 m k).map (·.1)).Sublist (m.map (·.1))
 | []=>by simp [J3]
 | p :: m=>by
  by_cases h : p.1 = k
  ·simp [J3,h]
  ·simp only [J3,h,if_false,List.map_cons]
   exact (za k m).cons_cons _
theorem Zcb {m : List (Int × Dig)} (h : (m.map (·.1)).Nodup) (e : GEvent) : ((JA m e).map (·.1)).Nodup:=by
 unfold JA
 split
 ·rw [zN]
  split
  ·exact h
  rename_i hk
  exact List.nodup_append.2 ⟨h,by simp,λa ha b hb=>by simp at hb; subst hb; exact λe=>hk (e ▸ ha)⟩
 split
 ·exact h.sublist (za _ _)
 exact h
theorem Zgj (m : List (Int × Dig)) (e : GEvent) : (JA m e).length ≤ m.length + 1:=by
 have h1 : ∀ k x,(Kh m k x).length ≤ m.length + 1:=λk x=>by
  have:=congrArg List.length (zN k x m)
  rw [List.length_map] at this
  rw [this]; split <;> simp
 have h2 : ∀ k,(J3 m k).length ≤ m.length:=λk=>by
  have:=(za k m).length_le
  simpa using this
 unfold JA
 split
 ·exact h1 _ _
 split
 ·exact Nat.le_succ_of_le (h2 _)
 omega
theorem Zij (l : List GEvent) : (VP l).length ≤ l.length:=by
 unfold VP
 suffices H : ∀ (l : List GEvent) (m : List (Int × Dig)),(l.foldl JA m).length ≤ m.length + l.length by simpa using H l []
 intro l
 induction l with
 | nil=>intro m; simp
 | cons e l ih =>
  intro m
  have:=ih (JA m e)
  have h2:=Zgj m e
  simp only [List.foldl_cons,List.length_cons]; omega
theorem Zgw (l : List GEvent) : ∀ n ∈ (VP l).map (·.1),∃ e ∈ l,e.Number = n:=by
 unfold VP
 suffices H : ∀ (l : List GEvent) (m : List (Int × Dig)),∀ n ∈ (l.foldl JA m).map (·.1),n ∈ m.map (·.1) ∨ ∃ e ∈ l,e.Number = n by
  intro n hn
  rcases H l [] n hn with h | h
  ·simp at h
  ·exact h
 intro l
 induction l with
 | nil=>intro m n hn; exact .inl hn
 | cons e l ih =>
  intro m n hn
  rcases ih (JA m e) n hn with h | ⟨x,hx,h⟩
  ·unfold JA at h
   split at h
   ·rw [zN] at h
    split at h
    ·exact .inl h
    ·rcases List.mem_append.1 h with h | h
     ·exact .inl h
     ·simp at h; exact .inr ⟨e,by simp,h.symm⟩
   ·split at h
    ·exact .inl ((za _ _).subset h)
    ·exact .inl h
  ·exact .inr ⟨x,by simp [hx],h⟩
theorem Ze1 (l : List GEvent) (n : Int) : (byC l n).2 = (XO (VP l) n).isSome ∧ ((byC l n).2 = true → XO (VP l) n = some (byC l n).1):=by
 unfold byC VP
 suffices H : ∀ (l : List GEvent) (s : Dig × Bool) (m : List (Int × Dig)),(m.map (·.1)).Nodup → (s.2 = (XO m n).isSome ∧ (s.2 = true → XO m n = some s.1)) →
   ((l.foldl (byN n) s).2 = (XO (l.foldl JA m) n).isSome ∧ ((l.foldl (byN n) s).2 = true → XO (l.foldl JA m) n = some (l.foldl (byN n) s).1)) from H l _ _ (by simp) ⟨rfl,λh=>by cases h⟩
 intro l
 induction l with
 | nil=>intro s m _ h; exact h
 | cons e l ih =>
  intro s m hm h
  refine ih _ _ (Zcb hm e) ?_
  unfold byN JA
  by_cases h1 : e.Number = n
  ·rw [if_pos h1,h1,← h.1]
   by_cases h2 : e.Kind = 1 ∨ (e.Kind = 4 ∧ s.2 = true)
   ·rw [if_pos h2,if_pos h2,HJ]; simp
   ·rw [if_neg h2,if_neg h2]
    by_cases h3 : e.Kind = 2
    ·rw [if_pos h3,if_pos h3,yD _ _ _ hm]; simp
    ·rw [if_neg h3,if_neg h3]; exact h
  ·rw [if_neg h1]
   split
   ·rw [HJ,if_neg h1]; exact h
   ·split
    ·rw [yD _ _ _ hm,if_neg h1]; exact h
    ·exact h
def JE (n : Int) : List Int → List Int
 | []=>[n]
 | x :: r=>if x < n then x :: JE n r else if x = n then x :: r else n :: x :: r
theorem ko (n k : Int) : ∀ l : List Int,k ∈ JE n l ↔ k = n ∨ k ∈ l
 | []=>by simp [JE]
 | x :: r=>by
  unfold JE
  split
  ·simp only [List.mem_cons,ko n k r]; exact ⟨λh=>by rcases h with h | h | h <;> simp [h],λh=>by rcases h with h | h | h <;> simp [h]⟩
  ·split
   ·rename_i h; subst h; simp
   ·simp
theorem Zfr {n : Int} : ∀ {l : List Int},l.Pairwise (· < ·) → (JE n l).Pairwise (· < ·)
 | [],_=>by simp [JE]
 | x :: r,h=>by
  obtain ⟨h1,h2⟩:=List.pairwise_cons.1 h
  unfold JE
  split
  ·rename_i hx
   refine List.pairwise_cons.2 ⟨λk hk=>?_,Zfr h2⟩
   rcases (ko n k r).1 hk with rfl | hk
   ·exact hx
   ·exact h1 k hk
  ·split
   ·exact h
   ·rename_i hx hn
    refine List.pairwise_cons.2 ⟨λk hk=>?_,h⟩
    rcases List.mem_cons.1 hk with rfl | hk
    ·omega
    ·have:=h1 k hk; omega
theorem kf (n : Int) : ∀ l : List Int,(JE n l).length ≤ l.length + 1
 | []=>by simp [JE]
 | x :: r=>by
  unfold JE
  have:=kf n r
  split
  ·simp only [List.length_cons]; omega
  ·split <;> simp
def Uo (n : Int) : List Int → Nat
 | []=>0
 | x :: r=>if x < n then Uo n r + 1 else 0
theorem Zft (n : Int) : ∀ l : List Int,Uo n l ≤ l.length
 | []=>Nat.le_refl _
 | x :: r=>by unfold Uo; have:=Zft n r; split <;> simp <;> omega
theorem Ze2 (n : Int) : ∀ (l : List Int) (i : Nat) (h : i < l.length),i < Uo n l → l[i] < n
 | x :: r,i,h,hi=>by
  unfold Uo at hi
  split at hi
  ·cases i with
   | zero=>assumption
   | succ i=>exact Ze2 n r i (by simpa using h) (by omega)
  ·omega
theorem Zfm (n : Int) : ∀ (l : List Int) (h : Uo n l < l.length),¬ l[Uo n l] < n
 | x :: r,h=>by
  unfold Uo at h
  by_cases hx : x < n
  ·rw [if_pos hx] at h
   have e : Uo n (x :: r) = Uo n r + 1:=by rw [Uo,if_pos hx]
   have:=Zfm n r (by simpa using h)
   simp only [e,List.getElem_cons_succ]; exact this
  ·have e : Uo n (x :: r) = 0:=by rw [Uo,if_neg hx]
   simp only [e,List.getElem_cons_zero]; exact hx
theorem Ze5 (n : Int) : ∀ l : List Int,JE n l = if l[Uo n l]? = some n then l else l.take (Uo n l) ++ (n :: l.drop (Uo n l))
 | []=>by simp [JE,Uo]
 | x :: r=>by
  unfold JE Uo
  by_cases hx : x < n
  ·rw [if_pos hx,if_pos hx,Ze5 n r]
   simp only [List.getElem?_cons_succ,List.take_succ_cons,List.drop_succ_cons]
   split <;> simp
  ·rw [if_neg hx,if_neg hx]
   by_cases hn : x = n
   ·simp [hn]
   ·simp [hn]
def QL (v : GVault) : List Int:=v.Events.foldl (λl e=>JE e.Number l) (v.Records.map (·.Number))
theorem Zaw (v : GVault) (hr : v.Records.length ≤ 12) (he : v.Events.length ≤ 60) : UY v = some (QL v):=by
 unfold UY
 have h0:=zG (f:=Ud v) v.Records (λr=>r.Number) (t:=v.Records.map (·.Number)) om_ (λi hi=>by
  have hlt : ((i : Int) < (v.Records.length : Int)):=by omega
  have hx : idx v.Records ((i : Nat) : Int) = some v.Records[i]:=by rw [Yh,ge_ hi]
  unfold Ud
  simp only [hlt,decide_true,if_true,hx,ob_]
  rw [YA (by simp; omega)]; rfl) (by unfold Ud; simp)
 rw [h0,ob_]
 have hlen : ∀ l : List GEvent,(l.foldl (λl e=>JE e.Number l) (v.Records.map (·.Number))).length ≤ 12 + l.length:=by
  suffices H : ∀ (l : List GEvent) (a : List Int),(l.foldl (λl e=>JE e.Number l) a).length ≤ a.length + l.length by
   intro l
   have:=H l (v.Records.map (·.Number))
   rw [List.length_map] at this; omega
  intro l
  induction l with
  | nil=>intro a; simp
  | cons e l ih =>
   intro a
   have h1:=ih (JE e.Number a)
   have h2:=kf e.Number a
   simp only [List.foldl_cons,List.length_cons]; omega
 have h1:=V3 (f:=Uh v) v.Events (λb i=>(b,i)) (λl e=>JE e.Number l) (v.Records.map (·.Number)) (t:=QL v) om_ (λi hi=>by
  have hl:=hlen (v.Events.take i)
  rw [List.length_take] at hl
  generalize (v.Events.take i).foldl (λl e=>JE e.Number l) (v.Records.map (·.Number)) = a at hl
  have hlt : ((i : Int) < (v.Events.length : Int)):=by omega
  have hx : idx v.Events ((i : Nat) : Int) = some v.Events[i]:=by rw [Yh,ge_ hi]
  generalize v.Events[i] = e at hx
  have hp:=Zft e.Number a
  have h2 : ZQ (WW (a,(i : Int)) e) 0 = some ((Uo e.Number a : Nat) : Int) :=
   YC (f:=WW (a,(i : Int)) e) (λq : Nat=>(q : Int)) 0 (Uo e.Number a) (Nat.zero_le _) (λq _ hq=>by
    have hql : q < a.length:=by omega
    have hqx : idx a ((q : Nat) : Int) = some a[q]:=by rw [Yh,ge_ hql]
    have h3:=Ze2 e.Number a q hql hq
    have h4 : ((q : Int) < (a.length : Int)):=by omega
    unfold WW
    simp only [h4,decide_true,if_true,hqx,ob_,h3,Wn (show q < 9223372036854775807 by omega)]) (by
    unfold WW
    by_cases h4 : Uo e.Number a < a.length
    ·have h5 : ((Uo e.Number a : Nat) : Int) < (a.length : Int):=by omega
     have hqx : idx a ((Uo e.Number a : Nat) : Int) = some a[Uo e.Number a]:=by rw [Yh,ge_ h4]
     have h6:=Zfm e.Number a h4
     simp only [h5,decide_true,if_true,hqx,ob_,h6,decide_false,Bool.false_eq_true,if_false]
    ·have h5 : ¬ ((Uo e.Number a : Nat) : Int) < (a.length : Int):=by omega
     simp only [h5,decide_false,Bool.false_eq_true,if_false,ob_])
  unfold Uh
  simp only [hlt,decide_true,if_true,hx,ob_,h2]
  have hput : (slc a ((Uo e.Number a : Nat) : Int) (a.length : Int)).bind (λ(l90 : List Int)=>(app 8 ([e.Number] : List Int) l90).bind λ(_ : List Int)=>(slc a (0 : Int) ((Uo e.Number a : Nat) : Int)).bind λ(l97 : List Int)=>(T6 l97).bind λ(r99 : List Int)=>(app 8 r99 (([e.Number] : List Int) ++ l90)).bind λ(_ : List Int)=>some (r99 ++ (([e.Number] : List Int) ++ l90))) = some (a.take (Uo e.Number a) ++ (e.Number :: a.drop (Uo e.Number a))):=by
   have s1 : slc a ((Uo e.Number a : Nat) : Int) (a.length : Int) = some (a.drop (Uo e.Number a)):=by
    have:=J2 (l:=a) (i:=Uo e.Number a) (j:=a.length) hp (Nat.le_refl _)
    rwa [List.take_length] at this
   have s2 : slc a (0 : Int) ((Uo e.Number a : Nat) : Int) = some (a.take (Uo e.Number a)):=by
    have:=J2 (l:=a) (i:=0) (j:=Uo e.Number a) (Nat.zero_le _) hp
    rwa [List.drop_zero] at this
   have s3 : T6 (a.take (Uo e.Number a)) = some (a.take (Uo e.Number a)):=by
    unfold T6
    rw [YA (by simp; omega)]; rfl
   rw [s1,ob_,YA (by simp; omega),ob_,s2,ob_,s3,ob_,YA (by simp; omega)]; rfl
  rw [Ze5]
  by_cases h4 : Uo e.Number a < a.length
  ·have h5 : ¬ (((Uo e.Number a : Nat) : Int) == (a.length : Int)) = true:=by simp; omega
   have hqx : idx a ((Uo e.Number a : Nat) : Int) = some a[Uo e.Number a]:=by rw [Yh,ge_ h4]
   rw [if_neg h5,hqx]
   simp only [ob_,ge_ h4,Option.some.injEq]
   by_cases h6 : a[Uo e.Number a] = e.Number
   ·have h7 : (a[Uo e.Number a] != e.Number) = false:=by simpa using h6
    simp only [h7,Bool.false_eq_true,if_false,ob_,if_pos h6]
   ·have h7 : (a[Uo e.Number a] != e.Number) = true:=by simpa using h6
    simp only [h7,if_true,if_neg h6]
    rw [hput]; rfl
  ·have h5 : (((Uo e.Number a : Nat) : Int) == (a.length : Int)) = true:=by simp; omega
   rw [if_pos h5]
   have h8 : ¬ a[Uo e.Number a]? = some e.Number:=by rw [List.getElem?_eq_none om_]; simp
   simp only [ob_,if_true,if_neg h8]
   rw [hput]; rfl) (by unfold Uh QL; simp)
 rw [h1]; rfl
theorem kF (l : List Int) (hs : l.Pairwise (· ≤ ·)) : ∀ m,m ≤ l.length → (Lib.compactUpTo l.toArray m).Pairwise (· < ·) ∧ ∀ x,x ∈ Lib.compactUpTo l.toArray m ↔ ∃ j,j < m ∧ l[j]? = some x
 | 0,_=>⟨by simp [Lib.compactUpTo],λx=>by simp [Lib.compactUpTo]⟩
 | m + 1,hm=>by
  obtain ⟨h1,h2⟩:=kF l hs m om_
  have hml : m < l.length:=by omega
  have hg : l.toArray[m]! = l[m]:=by simp [getElem!_pos,hml]
  have hle : ∀ i j (hi : i < l.length) (hj : j < l.length),i < j → l[i] ≤ l[j]:=λi j hi hj hij=>List.pairwise_iff_getElem.1 hs i j hi hj hij
  have e : Lib.compactUpTo l.toArray (m + 1) = Lib.compactUpTo l.toArray m ++ (if Lib.keeps l.toArray m then [l[m]] else []):=by
   unfold Lib.compactUpTo
   rw [List.range_succ,List.filter_append,List.map_append]
   congr 1
   by_cases hk : Lib.keeps l.toArray m = true
   ·simp [hk,hml]
   ·simp [hk]
  rw [e]
  by_cases hk : Lib.keeps l.toArray m = true
  ·rw [if_pos hk]
   refine ⟨List.pairwise_append.2 ⟨h1,by simp,λa ha b hb=>?_⟩,λx=>?_⟩
   ·simp at hb; subst hb
    obtain ⟨j,hj,hx⟩:=(h2 a).1 ha
    obtain ⟨hjl,rfl⟩:=List.getElem?_eq_some_iff.1 hx
    unfold Lib.keeps at hk
    simp only [decide_eq_true_eq] at hk
    rcases hk with h0 | hk
    ·omega
    ·have hg1 : l.toArray[m - 1]! = l[m - 1]:=by
      have : m - 1 < l.length:=by omega
      simp [getElem!_pos,this]
     rw [hg,hg1] at hk
     have a1:=hle (m - 1) m om_ hml om_
     have a2 : l[j] ≤ l[m - 1]:=by
      rcases Nat.lt_or_ge j (m - 1) with h | h
      ·exact hle j (m - 1) hjl om_ h
      ·have : j = m - 1:=by omega
       subst this; exact Int.le_refl _
     omega
   ·rw [List.mem_append,h2]
    constructor
    ·rintro (⟨j,hj,hx⟩ | hx)
     ·exact ⟨j,by omega,hx⟩
     ·simp at hx; exact ⟨m,by omega,by rw [ge_ hml,hx]⟩
    ·rintro ⟨j,hj,hx⟩
     rcases Nat.lt_or_ge j m with h | h
     ·exact .inl ⟨j,h,hx⟩
     ·have : j = m:=by omega
      subst this
      rw [ge_ hml] at hx
      exact .inr (by simpa using (Option.some.inj hx).symm)
  ·rw [if_neg hk,List.append_nil]
   refine ⟨h1,λx=>?_⟩
   rw [h2]
   constructor
   ·rintro ⟨j,hj,hx⟩; exact ⟨j,by omega,hx⟩
   ·rintro ⟨j,hj,hx⟩
    rcases Nat.lt_or_ge j m with h | h
    ·exact ⟨j,h,hx⟩
    ·have : j = m:=by omega
     subst this
     unfold Lib.keeps at hk
     simp only [decide_eq_true_eq,not_or,Classical.not_not] at hk
     have hg1 : l.toArray[j - 1]! = l[j - 1]:=by
      have : j - 1 < l.length:=by omega
      simp [getElem!_pos,this]
     rw [hg,hg1] at hk
     refine ⟨j - 1,by omega,?_⟩
     rw [ge_ hml] at hx
     rw [ge_ om_,← hk.2,← hx]
theorem qr (l : List Int) (hs : l.Pairwise (· ≤ ·)) : (Lib.compact l).Pairwise (· < ·) ∧ ∀ x,x ∈ Lib.compact l ↔ x ∈ l:=by
 obtain ⟨h1,h2⟩:=kF l hs l.length (Nat.le_refl _)
 refine ⟨h1,λx=>(h2 x).trans ?_⟩
 rw [List.mem_iff_getElem?]
 constructor
 ·rintro ⟨j,_,h⟩; exact ⟨j,h⟩
 rintro ⟨j,h⟩; exact ⟨j,(List.getElem?_eq_some_iff.1 h).1,h⟩
theorem Zcf (l : List Int) : (VQ l).Pairwise (· ≤ ·) ∧ ∀ x,x ∈ VQ l ↔ x ∈ l:=by
 have t : ∀ a b c : Int,decide (a ≤ b) = true → decide (b ≤ c) = true → decide (a ≤ c) = true:=λa b c h1 h2=>by simp at *; omega
 have tot : ∀ a b : Int,(decide (a ≤ b) || decide (b ≤ a)) = true:=λa b=>by simp; omega
 have s1:=List.pairwise_mergeSort t tot l
 exact ⟨s1.imp λh=>by simpa using h,λx=>(List.mergeSort_perm l _).mem_iff⟩
theorem Zg5 {l m : List Int} (h1 : l.Pairwise (· < ·)) (h2 : m.Pairwise (· < ·)) (h : ∀ x,x ∈ l ↔ x ∈ m) : l = m:=by
 have n1 : l.Nodup:=h1.imp λh=>Int.ne_of_lt h
 have n2 : m.Nodup:=h2.imp λh=>Int.ne_of_lt h
 exact ((List.perm_ext_iff_of_nodup n1 n2).2 h).eq_of_pairwise (λa b _ _ h3 h4=>by omega) h1 h2
theorem jy {v : GVault} (h : Z3 v = true) : (v.Records.map (·.Number)).Pairwise (· < ·):=by
 unfold Z3 at h
 simp only [Bool.and_eq_true,Bool.not_eq_true',List.any_eq_false,List.mem_range'_1] at h
 have hb:=h.1.2
 have step : ∀ i (h1 : i + 1 < v.Records.length),v.Records[i].Number < v.Records[i + 1].Number:=λi h1=>by
  have:=hb (i + 1) om_
  unfold Bg at this
  rw [ge_ h1] at this
  simp only [Bool.or_eq_true,decide_eq_true_eq,not_or] at this
  have h2:=this.1.1
  simp only [Kn,ge_ (show i < v.Records.length by omega),Option.map_some,Option.getD_some] at h2
  omega
 have all : ∀ j i (hj : j < v.Records.length) (hi : i < v.Records.length),i < j → v.Records[i].Number < v.Records[j].Number:=by
  intro j
  induction j with
  | zero=>intro i _ _ h; omega
  | succ j ih =>
   intro i hj hi hij
   have h1:=step j hj
   rcases Nat.lt_or_ge i j with h2 | h2
   ·have:=ih i om_ hi h2; omega
   ·have : i = j:=by omega
    subst this; exact h1
 rw [List.pairwise_iff_getElem]
 intro i j hi hj hij
 rw [List.length_map] at hi hj
 rw [List.getElem_map,List.getElem_map]
 exact all j i hj hi hij
theorem Zen {v : GVault} (h : Z3 v = true) : (QL v).Pairwise (· < ·) ∧ ∀ x,x ∈ QL v ↔ x ∈ v.Records.map (·.Number) ∨ ∃ e ∈ v.Events,e.Number = x:=by
 unfold QL
 suffices H : ∀ (l : List GEvent) (a : List Int),a.Pairwise (· < ·) → (l.foldl (λl e=>JE e.Number l) a).Pairwise (· < ·) ∧ ∀ x,x ∈ l.foldl (λl e=>JE e.Number l) a ↔ x ∈ a ∨ ∃ e ∈ l,e.Number = x from H _ _ (jy h)
 intro l
 induction l with
 | nil=>intro a ha; exact ⟨ha,λx=>by simp⟩
 | cons e l ih =>
  intro a ha
  obtain ⟨h1,h2⟩:=ih (JE e.Number a) (Zfr ha)
  refine ⟨h1,λx=>(h2 x).trans ?_⟩
  rw [ko]
  constructor
  ·rintro ((rfl | hx) | ⟨q,hq,hx⟩)
   ·exact .inr ⟨e,by simp,rfl⟩
   ·exact .inl hx
   ·exact .inr ⟨q,by simp [hq],hx⟩
  ·rintro (hx | ⟨q,hq,hx⟩)
   ·exact .inl (.inr hx)
   ·rcases List.mem_cons.1 hq with rfl | hq
    ·exact .inl (.inl hx.symm)
    ·exact .inr ⟨q,hq,hx⟩
theorem kB {v : GVault} (hr : v.Records.length ≤ 12) (he : v.Events.length ≤ 60) : (QL v).length ≤ 72:=by
 unfold QL
 have H : ∀ (l : List GEvent) (a : List Int),(l.foldl (λl e=>JE e.Number l) a).length ≤ a.length + l.length:=by
  intro l
  induction l with
  | nil=>intro a; simp
  | cons e l ih =>
   intro a
   have h1:=ih (JE e.Number a)
   have h2:=kf e.Number a
   simp only [List.foldl_cons,List.length_cons]; omega
 have:=H v.Events (v.Records.map (·.Number))
 rw [List.length_map] at this; omega
def JB (l : List GRecord) : List (Int × Dig):=l.foldl (λm r=>Kh m r.Number r.Tag) []
theorem ki (n : Int) : ∀ (l : List GRecord) (m : List (Int × Dig)),(∀ r ∈ l,r.Number ≠ n) → XO (l.foldl (λm r=>Kh m r.Number r.Tag) m) n = XO m n
 | [],_,_=>rfl
 | r :: l,m,h=>by
  rw [List.foldl_cons,ki n l _ (λq hq=>h q (by simp [hq])),HJ,if_neg (h r (by simp))]
theorem Zbp : ∀ (l : List GRecord) (m : List (Int × Dig)) (r : GRecord),(l.map (·.Number)).Nodup → r ∈ l → XO (l.foldl (λm r=>Kh m r.Number r.Tag) m) r.Number = some r.Tag
 | q :: l,m,r,hn,hr=>by
  obtain ⟨n1,n2⟩:=List.nodup_cons.1 hn
  rw [List.foldl_cons]
  rcases List.mem_cons.1 hr with rfl | hr
  ·rw [ki _ l _ (λx hx e=>n1 (List.mem_map.2 ⟨x,hx,e⟩)),HJ,if_pos rfl]
  ·exact Zbp l _ r n2 hr
def Jg (v : GVault) (n : Int) : Bool:=((byC v.Events n).2 != decide (Xb v n ≥ 0)) || ((byC v.Events n).2 && !decide ((Xh v n).Tag = (byC v.Events n).1))
def yq (told held : List (Int × Dig)) (n : Int) : Bool:=!(XO told n).isSome || (!(XO held n).isSome || !decide ((XO told n).getD (Vector.replicate 32 0) = (XO held n).getD (Vector.replicate 32 0)))
theorem Zd9 {v : GVault} (h : Z3 v = true) (n : Int) : (XO (JB v.Records) n).isSome = decide (Xb v n ≥ 0) ∧ (Xb v n ≥ 0 → XO (JB v.Records) n = some (Xh v n).Tag):=by
 have hnd : (v.Records.map (·.Number)).Nodup:=(jy h).imp λh=>Int.ne_of_lt h
 by_cases hp : Xb v n < 0
 ·have hno : ∀ r ∈ v.Records,r.Number ≠ n:=by
   intro r hr he
   unfold Xb at hp
   cases hf : v.Records.findIdx? (λr=>r.Number == n) with
   | none =>
    have:=List.findIdx?_eq_none_iff.1 hf r hr
    simp [he] at this
   | some i=>rw [hf] at hp; simp at hp; omega
  have e : XO (JB v.Records) n = none:=by unfold JB; rw [ki n _ _ hno]; rfl
  have hp' : ¬ Xb v n ≥ 0:=by omega
  exact ⟨by rw [e]; simp [hp'],λq=>absurd q hp'⟩
 obtain ⟨i,e1,hi,e2⟩:=zw hp
 have h1:=(K7 hp).2
 have h2 : (Xh v n).Number = n:=by
  unfold Xh
  rw [e1,Int.toNat_natCast,List.getD_eq_getElem?_getD,ge_ hi]; exact e2
 have h3:=Zbp v.Records [] (Xh v n) hnd h1
 rw [h2] at h3
 have hp' : Xb v n ≥ 0:=by omega
 have h4 : XO (JB v.Records) n = some (Xh v n).Tag:=h3
 exact ⟨by rw [h4]; simp [hp'],λ_=>h4⟩
theorem kZ {v : GVault} (h : Z3 v = true) (n : Int) (hn : n ∈ v.Records.map (·.Number) ∨ n ∈ (VP v.Events).map (·.1)) : yq (VP v.Events) (JB v.Records) n = Jg v n:=by
 obtain ⟨a1,a2⟩:=Ze1 v.Events n
 obtain ⟨b1,b2⟩:=Zd9 h n
 unfold yq Jg
 rw [← a1,b1]
 cases hb : (byC v.Events n).2 with
 | false =>
  cases hk : decide (Xb v n ≥ 0) with
  | true=>rfl
  | false =>
   exfalso
   rcases hn with hn | hn
   ·obtain ⟨r,hr,rfl⟩:=List.mem_map.1 hn
    have hnd : (v.Records.map (·.Number)).Nodup:=(jy h).imp λh=>Int.ne_of_lt h
    have:=Zbp v.Records [] r hnd hr
    rw [show XO (JB v.Records) r.Number = some r.Tag from this,hk] at b1
    cases b1
   ·have:=(zA n _).2 hn
    rw [← a1,hb] at this
    cases this
 | true =>
  cases hk : decide (Xb v n ≥ 0) with
  | false=>rfl
  | true =>
   rw [a2 hb,b2 (by simpa using hk)]
   simp only [Option.getD_some,Bool.not_true,Bool.false_or,bne_self_eq_false,Bool.true_and]
   congr 1
   rw [decide_eq_decide]
   exact ⟨λh=>h.symm,λh=>h.symm⟩
theorem Zdn {v : GVault} (h : Z3 v = true) : (QL v).filter (Jg v) = (Lib.compact (VQ (v.Records.map (·.Number) ++ (VP v.Events).map (·.1)))).filter (yq (VP v.Events) (JB v.Records)):=by
 obtain ⟨n1,n2⟩:=Zen h
 obtain ⟨s1,s2⟩:=Zcf (v.Records.map (·.Number) ++ (VP v.Events).map (·.1))
 obtain ⟨c1,c2⟩:=qr _ s1
 have hm : ∀ x,x ∈ Lib.compact (VQ (v.Records.map (·.Number) ++ (VP v.Events).map (·.1))) ↔ x ∈ v.Records.map (·.Number) ∨ x ∈ (VP v.Events).map (·.1):=λx=>by
  rw [c2,s2,List.mem_append]
 refine Zg5 (n1.sublist List.filter_sublist) (c1.sublist List.filter_sublist) λx=>?_
 rw [List.mem_filter,List.mem_filter,n2,hm]
 constructor
 ·rintro ⟨hx,hf⟩
  have hx' : x ∈ v.Records.map (·.Number) ∨ x ∈ (VP v.Events).map (·.1):=by
   rcases hx with hx | _
   ·exact .inl hx
   ·obtain ⟨a1,_⟩:=Ze1 v.Events x
    unfold Jg at hf
    cases hb : (byC v.Events x).2 with
    | true=>exact .inr ((zA x _).1 (by rw [← a1,hb]))
    | false =>
     rw [hb] at hf
     have hp : Xb v x ≥ 0:=by simpa using hf
     have hp' : ¬ Xb v x < 0:=by omega
     obtain ⟨i,_,hi,e2⟩:=zw hp'
     exact .inl (List.mem_map.2 ⟨_,List.getElem_mem hi,e2⟩)
  exact ⟨hx',by rw [kZ h x hx']; exact hf⟩
 rintro ⟨hx,hf⟩
 refine ⟨?_,by rw [← kZ h x hx]; exact hf⟩
 rcases hx with hx | hx
 ·exact .inl hx
 exact .inr (Zgw _ x hx)
def qv (k : Int) (p : Int → Bool) (l : List Int) : List (List Int):=(l.filter p).map λn=>[k,n]
theorem qI (k : Int) (p : Int → Bool) (l : List Int) (acc : List (List Int)) : l.foldl (λa n=>if p n then a ++ [[k,n]] else a) acc = acc ++ qv k p l:=by
 induction l generalizing acc with
 | nil=>simp [qv]
 | cons n l ih =>
  rw [List.foldl_cons,ih]
  unfold qv
  by_cases h : p n = true
  ·simp [h]
  ·simp [h]
theorem kU (k : Int) (p : Int → Bool) (l : List Int) : (qv k p l).length ≤ l.length:=by
 unfold qv; rw [List.length_map]; exact List.length_filter_le _ _
def Ax (v : GVault) : List (List Int):=(v.Records.filter λr=>!decide (VO v r = r.Tag)).map λr=>[3,r.Number]
theorem kP (v : GVault) (l : List GRecord) (acc : List (List Int)) : l.foldl (λa r=>if !decide (VO v r = r.Tag) then a ++ [[3,r.Number]] else a) acc = acc ++ (l.filter λr=>!decide (VO v r = r.Tag)).map λr=>[3,r.Number]:=by
 induction l generalizing acc with
 | nil=>simp
 | cons r l ih =>
  rw [List.foldl_cons,ih]
  by_cases h : VO v r = r.Tag
  ·simp [h]
  ·simp [h]
def Hm (v : GVault) : List (List Int):=if H9 (YX 4) v.Events = v.Head then [] else [[1]]
def H5 (v : GVault) : List (List Int) × Int:=if Z3 v then ((Hm v ++ qv 2 (Jg v) (QL v)) ++ Ax v,0) else ([],1)
theorem Zcq (v : GVault) : (((some (H9 (YX 4) v.Events)).bind λ(r18 : V32)=>some (!decide (r18 = v.Head)) : Option Bool).bind λ(j14 : Bool)=>if j14 = true then ((app 24 ([] : List (List Int)) ([([1] : List Int)] : List (List Int))).bind λ(_ : List (List Int))=>some (([] : List (List Int)) ++ ([([1] : List Int)] : List (List Int)))) else (some ([] : List (List Int))) : Option (List (List Int))) = some (Hm v):=by
 unfold Hm
 by_cases h : H9 (YX 4) v.Events = v.Head
 ·simp [h]
 simp only [ob_,h,decide_false,Bool.not_false,if_true,if_false]
 rw [YA (by simp)]; rfl
theorem zL {α : Type} (p : α → Bool) (g : α → List Int) (l : List α) (acc : List (List Int)) : (l.foldl (λa x=>if p x then a ++ [g x] else a) acc).length ≤ acc.length + l.length:=by
 induction l generalizing acc with
 | nil=>simp
 | cons x l ih =>
  rw [List.foldl_cons]
  have h1 : (if p x then acc ++ [g x] else acc).length ≤ acc.length + 1:=by split <;> simp
  have h2:=ih (if p x then acc ++ [g x] else acc)
  rw [List.length_cons]; omega
theorem Zee (v : GVault) (hv : Z3 v = true) (acc : List (List Int)) (ha : acc.length ≤ 1000) : ZQ (V4 v) (0,acc) = some (acc ++ Ax v):=by
 have hs:=YQ hv
 have:=V3 (f:=V4 v) v.Records (λb i=>(i,b)) (λa r=>if !decide (VO v r = r.Tag) then a ++ [[3,r.Number]] else a) acc (t:=acc ++ Ax v) om_ (λi hi=>by
  have hlt : ((i : Int) < (v.Records.length : Int)):=by omega
  have hx : idx v.Records ((i : Nat) : Int) = some v.Records[i]:=by rw [Yh,ge_ hi]
  have hl:=zL (λr : GRecord=>!decide (VO v r = r.Tag)) (λr=>[3,r.Number]) (v.Records.take i) acc
  rw [List.length_take] at hl
  generalize (v.Records.take i).foldl _ acc = s at hl
  obtain ⟨a1,a2,a3,a4⟩:=UA hv (List.getElem_mem hi)
  unfold V4
  simp only [hlt,decide_true,if_true,hx,ob_,BF v _ ⟨a1,a2⟩ om_ om_]
  by_cases h : VO v v.Records[i] = v.Records[i].Tag
  ·simp [h]
  ·simp only [h,decide_false,Bool.not_false,if_true]
   rw [YA (by simp only [List.length_cons,List.length_nil]; omega)]; rfl) (by
  rw [kP]
  unfold V4 Ax
  simp)
 exact this
theorem Zds (v : GVault) (hv : Z3 v = true) (acc : List (List Int)) (ha : acc.length ≤ 1000) : ZQ (V6 v ⟨YR (YX 4)⟩) (0,acc) = some (acc ++ Ax v):=by
 have hs:=YQ hv
 have:=V3 (f:=V6 v ⟨YR (YX 4)⟩) v.Records (λb i=>(i,b)) (λa r=>if !decide (VO v r = r.Tag) then a ++ [[3,r.Number]] else a) acc (t:=acc ++ Ax v) om_ (λi hi=>by
  have hlt : ((i : Int) < (v.Records.length : Int)):=by omega
  have hx : idx v.Records ((i : Nat) : Int) = some v.Records[i]:=by rw [Yh,ge_ hi]
  have hl:=zL (λr : GRecord=>!decide (VO v r = r.Tag)) (λr=>[3,r.Number]) (v.Records.take i) acc
  rw [List.length_take] at hl
  generalize (v.Records.take i).foldl _ acc = s at hl
  obtain ⟨a1,a2,a3,a4⟩:=UA hv (List.getElem_mem hi)
  unfold V6
  simp only [hlt,decide_true,if_true,hx,ob_,zm v _ ⟨a1,a2⟩ om_ om_]
  by_cases h : VO v v.Records[i] = v.Records[i].Tag
  ·simp [h]
  ·simp only [h,decide_false,Bool.not_false,if_true]
   rw [YA (by simp only [List.length_cons,List.length_nil]; omega)]; rfl) (by
  rw [kP]
  unfold V6 Ax
  simp)
 exact this
theorem ys (v : GVault) : (Hm v).length ≤ 1:=by unfold Hm; split <;> simp
theorem jj (v : GVault) (hb : Wt.ln v) : T4 v = some (H5 v):=by
 unfold T4 H5
 rw [He v hb,ob_]
 cases hv : Z3 v with
 | false=>rfl
 | true =>
  have hs:=YQ hv
  have hh:=ys v
  have hn:=kB (v:=v) om_ om_
  simp only [Bool.not_true,Bool.false_eq_true,if_false,if_true]
  rw [B9 v.Events om_,Zcq,ob_,Zaw v om_ om_,ob_]
  have:=V3 (f:=Tr v (QL v)) (QL v) (λb i=>(b,i)) (λa n=>if Jg v n then a ++ [[2,n]] else a) (Hm v) (t:=Hm v ++ qv 2 (Jg v) (QL v)) om_ (λi hi=>by
   have hlt : ((i : Int) < ((QL v).length : Int)):=by omega
   have hx : idx (QL v) ((i : Nat) : Int) = some (QL v)[i]:=by rw [Yh,ge_ hi]
   have hl:=zL (Jg v) (λn=>[2,n]) ((QL v).take i) (Hm v)
   rw [List.length_take] at hl
   generalize ((QL v).take i).foldl _ (Hm v) = s at hl
   generalize (QL v)[i] = n at hx
   unfold Tr
   simp only [hlt,decide_true,if_true,hx,ob_,Zj9 v.Events n om_,J6 v n om_]
   have hput : ((app 24 s ([([2,n] : List Int)] : List (List Int))).bind λ(_ : List (List Int))=>some (s ++ ([([2,n] : List Int)] : List (List Int)))) = some (s ++ [[2,n]]):=by rw [YA (by simp only [List.length_cons,List.length_nil]; omega)]; rfl
   unfold Jg
   cases hb2 : (byC v.Events n).2 with
   | false =>
    cases hk : decide (Xb v n ≥ 0) with
    | false=>simp
    | true=>simp [hput]
   | true =>
    cases hk : decide (Xb v n ≥ 0) with
    | false=>simp [hput]
    | true =>
     have hp0 : Xb v n ≥ 0:=of_decide_eq_true hk
     have hp : ¬ Xb v n < 0:=Int.not_lt.2 hp0
     rw [(K7 hp).1]
     by_cases ht : (Xh v n).Tag = (byC v.Events n).1
     ·simp [ht]
     ·simp [ht,hput]) (by
   rw [qI]
   unfold Tr
   simp)
  rw [this,ob_,Zee v hv _ (by have:=kU 2 (Jg v) (QL v); rw [List.length_append]; omega)]; rfl
theorem je (v : GVault) (hb : Wt.ln v) : TN v = some (H5 v):=by
 unfold TN H5
 rw [QN v hb,ob_]
 cases hv : Z3 v with
 | false=>rfl
 | true =>
  have hs:=YQ hv
  have hh:=ys v
  have ht:=Zij v.Events
  simp only [Bool.not_true,Bool.false_eq_true,if_false,if_true]
  rw [U1,ob_,Hq (YX 4) HU v.Events om_,Zcq,ob_,Zew v.Events om_,ob_]
  have h0:=V3 (f:=V9 v) v.Records (λb i=>(b.1,i,b.2)) (λs r=>(Kh s.1 r.Number r.Tag,s.2 ++ [r.Number])) (([],[]) : List (Int × Dig) × List Int) (t:=(JB v.Records,v.Records.map (·.Number))) om_ (λi hi=>by
   have hlt : ((i : Int) < (v.Records.length : Int)):=by omega
   have hx : idx v.Records ((i : Nat) : Int) = some v.Records[i]:=by rw [Yh,ge_ hi]
   have hl : ((v.Records.take i).foldl (λs r=>(Kh s.1 r.Number r.Tag,s.2 ++ [r.Number])) (([],[]) : List (Int × Dig) × List Int)).2.length ≤ 12:=by
    have H : ∀ (l : List GRecord) (s : List (Int × Dig) × List Int),(l.foldl (λs r=>(Kh s.1 r.Number r.Tag,s.2 ++ [r.Number])) s).2.length = s.2.length + l.length:=by
     intro l
     induction l with
     | nil=>intro s; simp
     | cons r l ih=>intro s; rw [List.foldl_cons,ih]; simp; omega
    rw [H,List.length_take]; simp; omega
   generalize (v.Records.take i).foldl _ (([],[]) : List (Int × Dig) × List Int) = s at hl
   unfold V9
   simp only [hlt,decide_true,if_true,hx,ob_]
   rw [YA (by simp only [List.length_cons,List.length_nil]; omega)]; rfl) (by
   have H : ∀ (l : List GRecord) (s : List (Int × Dig) × List Int),l.foldl (λs r=>(Kh s.1 r.Number r.Tag,s.2 ++ [r.Number])) s = (l.foldl (λm r=>Kh m r.Number r.Tag) s.1,s.2 ++ l.map (·.Number)):=by
    intro l
    induction l with
    | nil=>intro s; simp
    | cons r l ih=>intro s; rw [List.foldl_cons,ih]; simp
   rw [H]
   unfold V9 JB
   simp)
  have h0' : ZQ (V9 v) (([] : List (Int × Dig)),0,([] : List Int)) = some (JB v.Records,v.Records.map (·.Number)):=h0
  rw [h0',ob_]
  simp only
  rw [YA (by simp; omega),ob_]
  have hcl : (Lib.compact (VQ (v.Records.map (·.Number) ++ (VP v.Events).map (·.1)))).length ≤ 72:=by
   have h1:=kE (VQ (v.Records.map (·.Number) ++ (VP v.Events).map (·.1)))
   rw [Ad,List.length_append,List.length_map,List.length_map] at h1; omega
  have h2:=V3 (f:=To (VP v.Events) (JB v.Records,v.Records.map (·.Number))) (Lib.compact (VQ (v.Records.map (·.Number) ++ (VP v.Events).map (·.1)))) (λb i=>(b,i)) (λa n=>if yq (VP v.Events) (JB v.Records) n then a ++ [[2,n]] else a) (Hm v) (t:=Hm v ++ qv 2 (Jg v) (QL v)) om_ (λi hi=>by
   have hlt : ((i : Int) < ((Lib.compact (VQ (v.Records.map (·.Number) ++ (VP v.Events).map (·.1)))).length : Int)):=by omega
   have hx : idx (Lib.compact (VQ (v.Records.map (·.Number) ++ (VP v.Events).map (·.1)))) ((i : Nat) : Int) = some (Lib.compact (VQ (v.Records.map (·.Number) ++ (VP v.Events).map (·.1))))[i]:=by rw [Yh,ge_ hi]
   have hl:=zL (yq (VP v.Events) (JB v.Records)) (λn=>[2,n]) ((Lib.compact (VQ (v.Records.map (·.Number) ++ (VP v.Events).map (·.1)))).take i) (Hm v)
   rw [List.length_take] at hl
   generalize ((Lib.compact (VQ (v.Records.map (·.Number) ++ (VP v.Events).map (·.1)))).take i).foldl _ (Hm v) = s at hl
   unfold To
   simp only [hlt,decide_true,if_true,hx,ob_]
   generalize (Lib.compact (VQ (v.Records.map (·.Number) ++ (VP v.Events).map (·.1))))[i] = n
   have hput : ((app 24 s ([([2,n] : List Int)] : List (List Int))).bind λ(_ : List (List Int))=>some (s ++ ([([2,n] : List Int)] : List (List Int)))) = some (s ++ [[2,n]]):=by rw [YA (by simp only [List.length_cons,List.length_nil]; omega)]; rfl
   unfold yq
   cases (XO (VP v.Events) n).isSome with
   | false=>simp [hput]
   | true =>
    cases (XO (JB v.Records) n).isSome with
    | false=>simp [hput]
    | true =>
     by_cases hq : (XO (VP v.Events) n).getD (Vector.replicate 32 0) = (XO (JB v.Records) n).getD (Vector.replicate 32 0)
     ·simp [hq]
     ·simp [hq,hput]) (by
   rw [qI]
   unfold qv
   rw [Zdn hv]
   unfold To
   simp)
  rw [h2,ob_,Zds v hv _ (by
   have:=kU 2 (Jg v) (QL v)
   have hn:=kB (v:=v) om_ om_
   rw [List.length_append]; omega)]; rfl
theorem Zbd (v : GVault) : (H5 v).1.length ≤ 85 ∧ ∀ x ∈ (H5 v).1,x.length ≤ 2:=by
 unfold H5
 cases hv : Z3 v with
 | false=>simp
 | true =>
  have hs:=YQ hv
  have hh:=ys v
  have hn:=kB (v:=v) om_ om_
  have hp:=kU 2 (Jg v) (QL v)
  have ht : (Ax v).length ≤ v.Records.length:=by unfold Ax; rw [List.length_map]; exact List.length_filter_le _ _
  simp only [if_true]
  refine ⟨by rw [List.length_append,List.length_append]; omega,λx hx=>?_⟩
  rcases List.mem_append.1 hx with hx | hx
  ·rcases List.mem_append.1 hx with hx | hx
   ·unfold Hm at hx
    split at hx
    ·cases hx
    ·simp at hx; subst hx; simp
   ·unfold qv at hx
    obtain ⟨n,_,rfl⟩:=List.mem_map.1 hx; simp
  ·unfold Ax at hx
   obtain ⟨r,_,rfl⟩:=List.mem_map.1 hx; simp
structure SV (n : Nat) (v : GVault) : Prop where
 k : v.Keys.length ≤ 9
 r : v.Records.length ≤ 13
 e : v.Events.length ≤ n
 x : ∀ r ∈ v.Records,r.Label.length ≤ 32 ∧ r.Body.length ≤ 200
theorem SV.ln {n : Nat} {v : GVault} (h : SV n v) (hn : n ≤ 100:=by decide) : Wt.ln v:=by
 have h1:=h.k
 have h2:=h.r
 have h3:=h.e
 exact ⟨⟨by omega,λ_ _=>trivial⟩,⟨by omega,λx hx=>by have:=h.x x hx; exact ⟨⟨by omega,λ_ _=>trivial⟩,⟨by omega,λ_ _=>trivial⟩⟩⟩,⟨by omega,λ_ _=>trivial⟩⟩
theorem Zfa {v : GVault} (h : Z3 v = true) : v.Keys.length ≤ 8 ∧ v.Records.length ≤ 12 ∧ v.Events.length ≤ 60 ∧ ∀ r ∈ v.Records,r.Label.length ≤ 32 ∧ r.Body.length ≤ 200:=by
 obtain ⟨_,h2,_,_,h5,h6⟩:=YQ h
 exact ⟨h2,h5,h6,λr hr=>(UA h hr).2.2⟩
theorem TJ : SV 61 Jn:=⟨by decide,by decide,by decide,λr hr=>by cases hr⟩
theorem zF {v : GVault} (e : GEvent) (h1 : v.Keys.length ≤ 9) (h2 : v.Records.length ≤ 13) (h3 : v.Events.length ≤ 60) (h4 : ∀ r ∈ v.Records,r.Label.length ≤ 32 ∧ r.Body.length ≤ 200) : SV 61 (KE v e) :=
 ⟨h1,h2,by unfold KE; simp; omega,h4⟩
theorem sv_new (key : Blk) : SV 61 (HF key):=⟨by simp [HF],by simp [HF],by simp [HF],λr hr=>by cases hr⟩
theorem Zay (v : GVault) (key : Blk) : SV 61 (zt v key).1:=by
 unfold zt
 split
 ·rename_i hv
  obtain ⟨h1,h2,h3,h4⟩:=Zfa hv
  split
  ·exact TJ
  split
  ·exact TJ
  exact zF _ (by simp; omega) (by show v.Records.length ≤ 13; omega) h3 h4
 exact TJ
theorem Ze7 (v : GVault) (n : Int) : SV 61 (qP v n).1:=by
 unfold qP
 split
 ·rename_i hv
  obtain ⟨h1,h2,h3,h4⟩:=Zfa hv
  split
  ·exact TJ
  split
  ·exact TJ
  refine zF _ (show v.Keys.length ≤ 9 by omega) (by unfold AN; simp; omega) h3 λr hr=>h4 r ?_
  unfold AN at hr
  rcases List.mem_append.1 hr with h | h
  ·exact List.mem_of_mem_take h
  exact List.mem_of_mem_drop h
 exact TJ
theorem Zfv (v : GVault) (n : Int) (nonce : Blk) : SV 61 (Zai v n nonce).1:=by
 unfold Zai
 split
 ·rename_i hv
  obtain ⟨h1,h2,h3,h4⟩:=Zfa hv
  split
  ·exact TJ
  rename_i hp
  split
  ·split
   ·exact TJ
   split
   ·exact TJ
   refine zF _ (show v.Keys.length ≤ 9 by omega) (by unfold HZ; simp; omega) h3 λr hr=>?_
   unfold HZ at hr
   rcases List.mem_or_eq_of_mem_set hr with h | rfl
   ·exact h4 r h
   exact Zdb nonce hv hp
  exact TJ
 exact TJ
theorem Zjt (v : GVault) (label data : List UInt8) (nonce : Blk) : SV 61 (Zfo v label data nonce).1:=by
 unfold Zfo
 split
 ·rename_i hv
  obtain ⟨h1,h2,h3,h4⟩:=Zfa hv
  cases hlg : jT label data with
  | true=>exact TJ
  | false =>
   obtain ⟨k1,k2⟩:=kd hlg
   simp only [Bool.false_eq_true,if_false]
   split
   ·exact TJ
   ·split
    ·exact TJ
    ·refine zF _ (show v.Keys.length ≤ 9 by omega) (by unfold Ac; simp; omega) h3 λr hr=>?_
     unfold Ac at hr
     rcases List.mem_append.1 hr with h | h
     ·exact h4 r h
     ·obtain rfl:=List.mem_singleton.1 h
      exact ⟨k1,by rw [show (Ji v v.Next ((v.Keys.length : Int) - 1) nonce label data).Body = QA v ((v.Keys.length : Int) - 1) nonce data from rfl,JS]; exact k2⟩
 exact TJ
section
variable {p : List UInt8} (hp : p.length ≤ 4096) {s : Int × Int} (hs : Up s)
include hp hs
theorem Zam : ∃ r,Uu p s = some r ∧ (Up r.1 ∧ r.2.length ≤ 3):=by
 unfold Uu
 refine Zw (YT hp hs om_) λr hr=>Y7 (λ_=>⟨_,rfl,hr.1,by simp⟩) λh0=>Y7 (λ_=>⟨_,rfl,hr.1,by simp⟩) λh1=>Y7 (λ_=>⟨_,rfl,hr.1,by simp⟩) λh2=>Y7 (λ_=>⟨_,rfl,hr.1,by simp⟩) λh3=>?_
 exfalso
 have:=hr.2
 simp only [beq_iff_eq] at h0 h1 h2 h3
 omega
theorem Zge : ∃ r,QU p s = some r ∧ (Up r.1 ∧ SV 61 r.2):=by
 unfold QU
 refine Zw (KJ hp hs) λr3 q3=>Zw (P:=λv=>SV 61 v) ⟨_,y6 r3.2,sv_new _⟩ λr5 q5=>Zw (YT hp q3 om_) λr12 q12=>Zw (YT hp q12.1 om_) λr14 q14=>Zw (Jo hp q14.1 (by simp)) λr18 q18=>?_
 obtain ⟨k,ek,hk⟩ : ∃ k : Nat,r18.2 = k ∧ k ≤ 7:=by
  have h1:=q12.2; have h2:=q14.2
  have h3:=q18.2
  simp only [List.mem_cons,List.not_mem_nil,or_false] at h3
  exact ⟨r18.2.toNat,by rcases h3 with e | e <;> omega,by rcases h3 with e | e <;> omega⟩
 refine Zw (P:=λj=>SV 61 ⟨j.1,j.2.1,j.2.2.1,j.2.2.2.1,j.2.2.2.2.1⟩ ∧ Up (j.2.2.2.2.2.1,j.2.2.2.2.2.2)) (HN (λi t=>t.2.2.2.2.2.2.2 = ((k - i : Nat) : Int) ∧ SV 61 ⟨t.1,t.2.1,t.2.2.1,t.2.2.2.1,t.2.2.2.2.1⟩ ∧ Up (t.2.2.2.2.2.1,t.2.2.2.2.2.2.1)) k (λi t hi ht=>?_) (λt ht=>?_) k 0 _ om_ ⟨ek,q5,q18.1⟩) λj hj=>⟨_,rfl,hj.2,hj.1⟩
 ·obtain ⟨t1,t2,t3⟩:=ht
  unfold Kx
  rw [if_pos (Zdm om_)]
  refine Zw (P:=λj=>SV 61 ⟨j.1,j.2.1,j.2.2.1,j.2.2.2.1,j.2.2.2.2.1⟩ ∧ Up (j.2.2.2.2.2.1,j.2.2.2.2.2.2)) ?_ λj hj=>⟨_,rfl,_,rfl,by show wr (t.2.2.2.2.2.2.2 - 1) = _; rw [t1,Zbg om_ om_]; omega,hj.1,hj.2⟩
  refine Zw (P:=λj=>SV 61 ⟨j.1,j.2.1,j.2.2.1,j.2.2.2.1,j.2.2.2.2.1⟩ ∧ Up (j.2.2.2.2.2.1,j.2.2.2.2.2.2.1)) ?_ λj51 h51=>Zw (P:=λj=>SV 61 ⟨j.1,j.2.1,j.2.2.1,j.2.2.2.1,j.2.2.2.2⟩) (Y7 (λ_=>⟨_,rfl,h51.1⟩) (λ_=>⟨_,rfl,t2⟩)) λj h=>⟨_,rfl,h,h51.2⟩
  have hn : ∀ x : Int,1 ≤ (if 1 > x then 1 else x):=λx=>by split <;> omega
  refine Zw (YT hp t3 om_) λr60 q60=>Zw (P:=λj=>SV 61 ⟨j.1,j.2.1,j.2.2.1,j.2.2.2.1,j.2.2.2.2.1⟩ ∧ Up (j.2.2.2.2.2.1,j.2.2.2.2.2.2.1)) ?_ λj h=>⟨_,rfl,h⟩
  refine Y7 (λ_=>?_) λ_=>Y7 (λ_=>?_) λ_=>Y7 (λ_=>?_) λ_=>?_
  ·exact Zw (KJ hp q60.1) λr q=>Zw (P:=λx=>SV 61 x.1) ⟨_,Hy _ t2.ln _,Zay _ _⟩ λr' q'=>⟨_,rfl,q',q⟩
  ·exact Zw (YT hp q60.1 (hn _)) λr q=>Zw (P:=λx=>SV 61 x.1) ⟨_,Hb _ t2.ln _,Ze7 _ _⟩ λr' q'=>⟨_,rfl,q',q.1⟩
  ·exact Zw (YT hp q60.1 (hn _)) λr q=>Zw (KJ hp q.1) λr1 q1=>Zw (P:=λx=>SV 61 x.1) ⟨_,Bc _ t2.ln _ _,Zfv _ _ _⟩ λr' q'=>⟨_,rfl,q',q1⟩
  exact Zw (Zam hp q60.1) λr q=>Zw (Zgd hp q.1 (n:=12) om_) λr0 q0=>Zw (KJ hp q0.1) λr1 q1=>Zw (P:=λx=>SV 61 x.1) ⟨_,jh _ t2.ln _ _ _,Zjt _ _ _ _⟩ λr' q'=>⟨_,rfl,q',q1⟩
 obtain ⟨t1,t2,t3⟩:=ht
 unfold Kx
 rw [if_neg (Zed om_)]
 exact ⟨_,rfl,_,rfl,t2,t3⟩
theorem HS : ∃ r,WL p s = some r ∧ (Up r.1 ∧ SV 62 r.2):=by
 unfold WL
 refine Zw (Zge hp hs) λr3 q3=>kx ?_
 obtain ⟨q3,v1,v2,v3,v4⟩:=q3
 have v3' : r3.2.Events.length ≤ 62:=by omega
 refine Zw (P:=λj=>SV 62 ⟨j.1,j.2.1,j.2.2.1,j.2.2.2.1,j.2.2.2.2.1⟩ ∧ Up (j.2.2.2.2.2.1,j.2.2.2.2.2.2)) ?_ λj hj=>⟨_,rfl,hj.2,hj.1⟩
 refine Zw (YT hp q3 om_) λr q=>Zw (P:=λj=>SV 62 ⟨j.1,j.2.1,j.2.2.1,j.2.2.2.1,j.2.2.2.2.1⟩ ∧ Up (j.2.2.2.2.2.1,j.2.2.2.2.2.2)) ?_ λj hj=>⟨_,rfl,hj⟩
 have same : SV 62 ⟨r3.2.Keys,r3.2.Next,r3.2.Records,r3.2.Events,r3.2.Head⟩:=⟨v1,v2,v3',v4⟩
 refine Y7 (λ_=>?_) λ_=>Y7 (λ_=>?_) λ_=>Y7 (λ_=>?_) λ_=>Y7 (λ_=>?_) λ_=>Y7 (λ_=>?_) λ_=>Y7 (λ_=>?_) λ_=>Y7 (λ_=>?_) λ_=>Y7 (λ_=>?_) λ_=>Y7 (λ_=>?_) λ_=>⟨_,rfl,same,q.1⟩
 ·exact Zw (YT hp q.1 om_) λr' q'=>Zw (JW _ q'.2) λ_ _=>Zw (JW _ q'.2) λ_ _=>⟨_,rfl,⟨v1,v2,v3',v4⟩,q'.1⟩
 ·refine Y7 (λh=>?_) λ_=>⟨_,rfl,same,q.1⟩
  have h : 0 < (r3.2.Records.length : Int):=of_decide_eq_true h
  refine Zw (YT hp q.1 (show 1 ≤ (r3.2.Records.length : Int) by omega)) λr' q'=>Zw (Q0 _ q'.2) λx hx=>Y7 (λhb=>?_) λ_=>⟨_,rfl,same,q'.1⟩
  have hb : 0 < (x.Body.length : Int):=of_decide_eq_true hb
  refine Zw (Q0 x.Body (i:=0) ⟨Int.le_refl _,hb⟩) λ_ _=>Zw (Q0 x.Body (i:=0) ⟨Int.le_refl _,hb⟩) λ_ _=>⟨_,rfl,⟨v1,by simpa using v2,v3',λz hz=>?_⟩,q'.1⟩
  rcases List.mem_or_eq_of_mem_set hz with hz | rfl
  ·exact v4 z hz
  have:=v4 x hx
  exact ⟨this.1,by simpa using this.2⟩
 ·refine Y7 (λh=>?_) λ_=>⟨_,rfl,same,q.1⟩
  have h : 0 < (r3.2.Records.length : Int):=of_decide_eq_true h
  refine Zw (YT hp q.1 (show 1 ≤ (r3.2.Records.length : Int) by omega)) λr' q'=>Zw (Q0 _ q'.2) λx hx=>Zw (YT hp q'.1 om_) λr2 q2=>Zw (JW _ q2.2) λ_ _=>Zw (JW _ q2.2) λ_ _=>Zw (Q0 _ q'.2) λ_ _=>⟨_,rfl,⟨v1,by simpa using v2,v3',λz hz=>?_⟩,q2.1⟩
  rcases List.mem_or_eq_of_mem_set hz with hz | rfl
  ·exact v4 z hz
  exact v4 x hx
 ·refine Y7 (λh=>?_) λ_=>⟨_,rfl,same,q.1⟩
  have h : 0 < (r3.2.Events.length : Int):=of_decide_eq_true h
  have e : wr ((r3.2.Events.length : Int) - 1) = ((r3.2.Events.length - 1 : Nat) : Int):=by rw [Xi om_]; omega
  refine Zw (P:=λl=>l.length ≤ 62) ⟨r3.2.Events.take (r3.2.Events.length - 1),?_,by simp; omega⟩ λl hl=>⟨_,rfl,⟨v1,v2,hl,v4⟩,q.1⟩
  show slc r3.2.Events ((0 : Nat) : Int) (wr ((r3.2.Events.length : Int) - 1)) = _
  rw [e,J2 (Nat.zero_le _) om_,List.drop_zero]
 ·refine Y7 (λh=>?_) λ_=>⟨_,rfl,same,q.1⟩
  have h : 0 < (r3.2.Records.length : Int):=of_decide_eq_true h
  refine Zw (P:=λl=>l = r3.2.Records.drop 1) ⟨_,?_,rfl⟩ λl hl=>⟨_,rfl,⟨v1,by subst hl; simp; omega,v3',λz hz=>v4 z (by subst hl; exact List.mem_of_mem_drop hz)⟩,q.1⟩
  show slc r3.2.Records ((1 : Nat) : Int) ((r3.2.Records.length : Nat) : Int) = _
  rw [J2 om_ (Nat.le_refl _),List.take_length]
 ·exact Zw (Jo hp q.1 (by simp)) λr' q'=>⟨_,rfl,⟨v1,v2,v3',v4⟩,q'.1⟩
 ·exact ⟨_,rfl,⟨by simp,v2,v3',v4⟩,q.1⟩
 ·refine Y7 (λh=>?_) λ_=>⟨_,rfl,same,q.1⟩
  have h : 1 < (r3.2.Records.length : Int):=of_decide_eq_true h
  refine Zw (P:=λl=>l.length ≤ 13 ∧ ∀ z ∈ l,z ∈ r3.2.Records) ?_ λl hl=>⟨_,rfl,⟨v1,hl.1,v3',λz hz=>v4 z (hl.2 z hz)⟩,q.1⟩
  generalize r3.2.Records = l at *
  match l,h with
  | a :: b :: l,_=>exact ⟨_,rfl,by simpa using v2,λz hz=>by simp at hz ⊢; grind⟩
  | [],h=>simp at h
  | [_],h=>simp at h
 refine Zw (Jo hp q.1 (by simp)) λr1 q1=>Zw (Jo hp q1.1 (by simp)) λr2 q2=>?_
 rw [YA (by simp; omega),ob_]
 exact ⟨_,rfl,⟨v1,v2,by simp; omega,v4⟩,q2.1⟩
theorem Zek : ∃ r,W7 p s = some r ∧ Up r.1:=by
 unfold W7
 refine Zw (KJ hp hs) λr3 q3=>Zw (KJ hp q3) λr5 q5=>Zw (P:=λl=>l.length = 32) ⟨_,yr _ (by simp),by simp [HA]⟩ λl hl=>?_
 refine Zw (P:=λ_=>True) (HN (λi t=>t.2 = (i : Int)) 32 (λi t hi ht=>?_) (λt ht=>?_) 32 0 _ rfl rfl) λj _=>⟨_,rfl,q5⟩
 ·unfold Um
  rw [if_pos (jW om_)]
  exact Zw (Q0 l om_) λx _=>Zw (JW _ om_) λy _=>⟨_,rfl,_,rfl,by show wr (t.2 + 1) = _; rw [ht,jG om_ om_]; omega⟩
 unfold Um
 rw [if_neg (lt_no om_)]
 exact ⟨_,rfl,_,rfl,trivial⟩
end
section
variable {p : List UInt8} (hp : p.length ≤ 4096)
include hp
theorem yc : ∃ r,W1 p = some r ∧ SV 62 r.1:=by
 unfold W1
 refine Zw (Hx hp) λr3 q3=>Zw (HS hp q3) λr7 q7=>?_
 obtain ⟨q7,hv⟩:=q7
 refine Zw (P:=λj=>Up (j.1,j.2.1) ∧ (j.2.2 = true → 0 < (r7.2.Records.length : Int))) ?_ λj hj=>Y7 (λhc=>?_) λ_=>?_
 ·exact Y7 (λh=>Zw (YT hp q7 om_) λr q=>⟨_,rfl,q.1,λ_=>of_decide_eq_true h⟩) λ_=>⟨_,rfl,q7,λh=>by cases h⟩
 ·have h:=hj.2 hc
  exact Zw (P:=λj=>SV 62 ⟨j.1,j.2.1,j.2.2.1,j.2.2.2.1,j.2.2.2.2.1⟩) (Zw (YT hp hj.1 om_) λr q=>Zw (Q0 _ q.2) λx _=>⟨_,rfl,hv⟩) λj hj=>⟨_,rfl,hj⟩
 exact Zw (P:=λj=>SV 62 ⟨j.1,j.2.1,j.2.2.1,j.2.2.2.1,j.2.2.2.2.1⟩) (Zw (YT hp hj.1 om_) λr q=>⟨_,rfl,hv⟩) λj hj=>⟨_,rfl,hj⟩
theorem jv : ∃ r,WR p = some r ∧ SV 62 r.1:=by
 unfold WR
 exact Zw (yc hp) λr q=>⟨_,rfl,q⟩
theorem kX : ∃ r,Vd p = some r ∧ SV 62 r.1:=by
 unfold Vd
 refine Zw (Hx hp) λr5 q5=>Zw (HS hp q5) λr9 q9=>?_
 obtain ⟨q9,hv⟩:=q9
 refine Zw (P:=λj=>Up (j.1,j.2.1) ∧ (j.2.2 = true → 0 < (r9.2.Keys.length : Int))) ?_ λj hj=>Y7 (λhc=>?_) λ_=>?_
 ·exact Y7 (λh=>Zw (YT hp q9 om_) λr q=>⟨_,rfl,q.1,λ_=>of_decide_eq_true h⟩) λ_=>⟨_,rfl,q9,λh=>by cases h⟩
 ·have h:=hj.2 hc
  exact Zw (P:=λj=>SV 62 ⟨j.1,j.2.1,j.2.2.1,j.2.2.2.1,j.2.2.2.2.1⟩) (Zw (Q0 _ ⟨Int.le_refl _,h⟩) λx _=>⟨_,rfl,hv⟩) λj hj=>⟨_,rfl,hj⟩
 exact Zw (P:=λj=>SV 62 ⟨j.1,j.2.1,j.2.2.1,j.2.2.2.1,j.2.2.2.2.1⟩) (Zw (KJ hp hj.1) λr q=>⟨_,rfl,hv⟩) λj hj=>⟨_,rfl,hj⟩
theorem qz : ∃ r,VK p = some r ∧ SV 62 r.1:=by
 unfold VK
 refine Zw (Hx hp) λr5 q5=>Zw (yc hp) λr9 hv=>?_
 refine Zw (P:=λj=>Up (j.1,j.2.1) ∧ (j.2.2 = true → 0 < (r9.1.Records.length : Int))) ?_ λj hj=>Y7 (λhc=>?_) λ_=>?_
 ·exact Y7 (λh=>Zw (YT hp q5 om_) λr q=>⟨_,rfl,q.1,λ_=>of_decide_eq_true h⟩) λ_=>⟨_,rfl,q5,λh=>by cases h⟩
 ·have h:=hj.2 hc
  exact Zw (P:=λj=>SV 62 ⟨j.1,j.2.1,j.2.2.1,j.2.2.2.1,j.2.2.2.2.1⟩) (Zw (Q0 _ ⟨Int.le_refl _,h⟩) λx _=>⟨_,rfl,hv⟩) λj hj=>⟨_,rfl,hj⟩
 exact Zw (P:=λj=>SV 62 ⟨j.1,j.2.1,j.2.2.1,j.2.2.2.1,j.2.2.2.2.1⟩) (Zw (KJ hp hj.1) λr q=>⟨_,rfl,hv⟩) λj hj=>⟨_,rfl,hj⟩
theorem qp : ∃ r,VF p = some r ∧ SV 62 r:=by
 unfold VF
 exact Zw (Hx hp) λr3 q3=>Zw (HS hp q3) λr7 q7=>⟨_,rfl,q7.2⟩
theorem Zc8 : ∃ r,XY p = some r ∧ SV 62 r.1:=by
 unfold XY
 refine Zw (Hx hp) λr3 q3=>Zw (HS hp q3) λr7 q7=>?_
 obtain ⟨q7,hv⟩:=q7
 refine Zw (YT hp q7 om_) λr q=>Y7 (λ_=>?_) λ_=>?_
 ·exact Zw (P:=λj=>SV 62 ⟨j.1,j.2.1,j.2.2.1,j.2.2.2.1,j.2.2.2.2.1⟩) (Zw (P:=λ_=>True) ⟨_,rfl,trivial⟩ λr q=>⟨_,rfl,hv⟩) λj hj=>⟨_,rfl,hj⟩
 exact Zw (P:=λj=>SV 62 ⟨j.1,j.2.1,j.2.2.1,j.2.2.2.1,j.2.2.2.2.1⟩) (Zw (Zam hp q.1) λr q=>⟨_,rfl,hv⟩) λj hj=>⟨_,rfl,hj⟩
theorem ji : ∃ r,Wm p = some r ∧ r.length ≤ 61:=by
 unfold Wm
 refine Zw (Hx hp) λr1 q1=>Zw (YT hp q1 om_) λr7 q7=>Zw (YT hp q7.1 om_) λr9 q9=>Zw (YT hp q9.1 om_) λr11 q11=>Zw (Jo hp q11.1 (by simp)) λr15 q15=>?_
 obtain ⟨k,ek,hk⟩ : ∃ k : Nat,r15.2 = k ∧ k ≤ 61:=by
  have h1:=q7.2; have h2:=q9.2; have h4:=q11.2
  have h3:=q15.2
  simp only [List.mem_cons,List.not_mem_nil,or_false] at h3
  exact ⟨r15.2.toNat,by rcases h3 with e | e | e | e <;> omega,by rcases h3 with e | e | e | e <;> omega⟩
 refine Zw (P:=λj=>Up (j.1,j.2.1) ∧ j.2.2.length ≤ 61) (HN (λi t=>t.2.2.2 = ((k - i : Nat) : Int) ∧ t.2.2.1.length = i ∧ Up (t.1,t.2.1)) k (λi t hi ht=>?_) (λt ht=>?_) k 0 _ om_ ⟨ek,rfl,q15.1⟩) λj hj=>?_
 ·obtain ⟨t1,t2,t3⟩:=ht
  unfold W4
  rw [if_pos (Zdm om_)]
  refine Zw (YT hp t3 om_) λr29 q29=>Zw (YT hp q29.1 om_) λr31 q31=>Zw (Zek hp q31.1) λr33 q33=>?_
  rw [YA (by simp; omega)]
  exact ⟨_,rfl,_,rfl,by show wr (t.2.2.2 - 1) = _; rw [t1,Zbg om_ om_]; omega,by simp; omega,q33⟩
 ·obtain ⟨t1,t2,t3⟩:=ht
  unfold W4
  rw [if_neg (Zed om_)]
  exact ⟨_,rfl,_,rfl,t3,by show t.2.2.1.length ≤ 61; omega⟩
 refine Zw (P:=λl=>l.length ≤ 61) ?_ λl hl=>⟨_,rfl,hl⟩
 refine Zw (P:=λx=>Up (x.1,x.2.1) ∧ (x.2.2 = true → 0 < (j.2.2.length : Int))) (Y7 (λh=>Zw (YT hp hj.1 om_) λr q=>⟨_,rfl,q.1,λ_=>of_decide_eq_true h⟩) λ_=>⟨_,rfl,hj.1,λh=>by cases h⟩) λx hx=>Y7 (λhc=>?_) λ_=>⟨_,rfl,hj.2⟩
 exact Zw (Jo hp hx.1 (by simp)) λr q=>Zw (Q0 _ ⟨Int.le_refl _,hx.2 hc⟩) λy _=>⟨_,rfl,by simpa using hj.2⟩
end
structure VOk (v : GVault) : Prop where
 h : 1 ≤ v.Keys.length ∧ v.Keys.length ≤ 8 ∧ 1 ≤ v.Next ∧ v.Next ≤ 1000000 ∧ v.Records.length ≤ 12 ∧ v.Events.length ≤ 60
 n : (v.Records.map (·.Number)).Pairwise (· < ·)
 b : ∀ r ∈ v.Records,0 < r.Number ∧ r.Number < v.Next ∧ 0 ≤ r.Version ∧ r.Version ≤ (v.Keys.length : Int) - 1 ∧ r.Label.length ≤ 32 ∧ r.Body.length ≤ 200
 e : ∀ e ∈ v.Events,Ww e = true
theorem Zhp {v : GVault} (h : Z3 v = true) : VOk v:=by
 have hn:=jy h
 have hs:=YQ h
 have h':=h
 unfold Z3 at h'
 simp only [Bool.and_eq_true,Bool.not_eq_true',List.any_eq_false,List.mem_range'_1,List.all_eq_true] at h'
 obtain ⟨⟨_,hb⟩,he⟩:=h'
 have step : ∀ i (hi : i < v.Records.length),Kn v.Records i < v.Records[i].Number ∧ v.Records[i].Number < v.Next:=λi hi=>by
  have:=hb i om_
  unfold Bg at this
  rw [ge_ hi] at this
  simp only [Bool.or_eq_true,decide_eq_true_eq,not_or] at this
  omega
 have pos : ∀ i (hi : i < v.Records.length),0 < v.Records[i].Number:=by
  intro i
  induction i with
  | zero=>intro hi; exact (step 0 hi).1
  | succ i ih =>
   intro hi
   have h1:=(step (i + 1) hi).1
   have h2:=ih om_
   simp only [Kn,ge_ (show i < v.Records.length by omega),Option.map_some,Option.getD_some] at h1
   omega
 refine ⟨hs,hn,λr hr=>?_,he⟩
 obtain ⟨i,hi,rfl⟩:=List.mem_iff_getElem.1 hr
 exact ⟨pos i hi,(step i hi).2,UA h hr⟩
theorem VOk.is {v : GVault} (h : VOk v) : Z3 v = true:=by
 obtain ⟨h1,h2,h3,h4⟩:=h
 unfold Z3 BH
 simp only [Bool.and_eq_true,Bool.not_eq_true',List.any_eq_false,List.mem_range'_1,List.all_eq_true,decide_eq_true_eq]
 refine ⟨⟨h1,λi hi=>?_⟩,h4⟩
 have hi : i < v.Records.length:=by omega
 unfold Bg Bz
 rw [ge_ hi]
 obtain ⟨b1,b2,b3,b4,b5,b6⟩:=h3 _ (List.getElem_mem hi)
 have hp : Kn v.Records i < v.Records[i].Number:=by
  cases i with
  | zero=>exact b1
  | succ i =>
   simp only [Kn,ge_ (show i < v.Records.length by omega),Option.map_some,Option.getD_some]
   have:=List.pairwise_iff_getElem.1 h2 i (i + 1) (by rw [List.length_map]; omega) (by rw [List.length_map]; omega) om_
   rwa [List.getElem_map,List.getElem_map] at this
 simp only [Bool.or_eq_true,Bool.not_eq_true',decide_eq_true_eq,decide_eq_false_iff_not,not_or,Classical.not_not]
 omega
theorem rot_ok {v : GVault} (h : VOk v) (hf : yb v = false) (key : Blk) : VOk (KE ⟨v.Keys ++ [key],v.Next,v.Records,v.Events,v.Head⟩ ⟨3,(v.Keys.length : Int),Vector.replicate 32 0⟩):=by
 obtain ⟨h1,h2,h3,h4⟩:=h
 unfold yb at hf
 simp only [Bool.or_eq_false_iff,beq_eq_false_iff_ne,ne_eq] at hf
 refine ⟨?_,h2,λr hr=>?_,λe he=>?_⟩
 ·show 1 ≤ (v.Keys ++ [key]).length ∧ (v.Keys ++ [key]).length ≤ 8 ∧ 1 ≤ v.Next ∧ v.Next ≤ 1000000 ∧ v.Records.length ≤ 12 ∧ (v.Events ++ [_]).length ≤ 60
  simp only [List.length_append,List.length_singleton]; omega
 ·have:=h3 r hr
  show 0 < r.Number ∧ r.Number < v.Next ∧ 0 ≤ r.Version ∧ r.Version ≤ ((v.Keys ++ [key]).length : Int) - 1 ∧ r.Label.length ≤ 32 ∧ r.Body.length ≤ 200
  simp only [List.length_append,List.length_singleton]; omega
 rcases List.mem_append.1 he with he | he
 ·exact h4 e he
 obtain rfl:=List.mem_singleton.1 he
 unfold Ww
 simp only [decide_eq_true_eq]; omega
theorem Zkd {v : GVault} {key : Blk} (h : (zt v key).2 = 0) : Z3 v = true ∧ yb v = false ∧ (zt v key).1 = KE ⟨v.Keys ++ [key],v.Next,v.Records,v.Events,v.Head⟩ ⟨3,(v.Keys.length : Int),Vector.replicate 32 0⟩:=by
 unfold zt at h ⊢
 cases hv : Z3 v with
 | false=>rw [hv] at h; simp at h
 | true =>
  rw [hv] at h
  simp only [if_true] at h ⊢
  by_cases hk : v.Keys.any (λx=>decide (key = x)) = true
  ·rw [if_pos hk] at h; cases h
  ·rw [if_neg hk] at h ⊢
   cases hf : yb v with
   | true=>rw [hf] at h; simp at h
   | false=>simp
theorem Zbq (l : List Blk) (h : l.length ≤ 1000) : Qx l l = some true:=by
 unfold Qx
 have:=T9 (f:=TT l l) l (λ_=>false) (t:=false) om_ (λi hi=>by
  unfold TT
  rw [if_pos (jW om_),Yh,ge_ hi]
  simp) (by unfold TT; simp)
 rw [this]; simp [Fl.el]
theorem Zdv (l : List (List Int)) (h : l.length ≤ 1000) (hd : ∀ x ∈ l,x.length ≤ 1000) : KV l l = some true:=by
 unfold KV
 have:=T9 (f:=Kj l l) l (λ_=>false) (t:=false) om_ (λi hi=>by
  unfold Kj
  rw [if_pos (jW om_),Yh,ge_ hi]
  simp [Hp _ (Nat.le_trans (hd _ (List.getElem_mem hi)) om_)]) (by unfold Kj; simp)
 rw [this]; simp [Fl.el]
theorem Zav (r : GRecord) (h : r.Label.length ≤ 32 ∧ r.Body.length ≤ 200) : Qv r r = some true:=by
 unfold Qv
 simp [BJ r.Label om_,BJ r.Body om_]
theorem BM {n : Nat} {v : GVault} (h : SV n v) (hn : n ≤ 100:=by decide) : U2 v v = some true:=by
 have h1:=h.k
 have h2:=h.r
 have h3:=h.e
 unfold U2
 rw [Zbq _ om_]
 have i0:=T9 (f:=QR v v) v.Records (λ_=>false) (t:=false) om_ (λi hi=>by
  unfold QR
  rw [if_pos (jW om_),Yh,ge_ hi]
  simp [Zav _ (h.x _ (List.getElem_mem hi))]) (by unfold QR; simp)
 have i1:=T9 (f:=QH v v) v.Events (λ_=>false) (t:=false) om_ (λi hi=>by
  unfold QH
  rw [if_pos (jW om_),Yh,ge_ hi]
  simp) (by unfold QH; simp)
 simp [i0,i1,Fl.el]
theorem Zhf {n : Nat} {v : GVault} (h : SV n v) (k : Int) : (JZ v k).1.length ≤ 200:=by
 unfold JZ
 split
 ·split
  ·simp
  rename_i hp
  split
  ·rw [Aj]; exact (h.x _ (K7 hp).2).2
  simp
 simp
theorem Zfk (q : GRecord → Bool) (l : List GRecord) : (QP q l).length ≤ l.length:=by unfold QP; rw [List.length_map]; exact List.length_filter_le _ _
theorem Zjm {n : Nat} {v : GVault} (h : SV n v) : (Zc3 v).1.length ≤ 13:=by
 unfold Zc3
 split
 ·exact Nat.le_trans (Zfk _ _) h.r
 simp
theorem Zga {n : Nat} {v : GVault} (h : SV n v) (lab : List UInt8) : (yG v lab).1.length ≤ 13:=by
 unfold yG
 split
 ·simp
 split
 ·simp
 exact Nat.le_trans (Zfk _ _) h.r
theorem AH (p : List UInt8) (_ : Dat.bd p) : Un p = some true:=by
 unfold Un
 refine XS (r:=decide ((p.length : Int) > 4096)) rfl ?_
 by_cases hbig : (p.length : Int) > 4096
 ·rw [if_pos (by simpa using hbig)]
 rw [if_neg (by simpa using hbig)]
 have hp : p.length ≤ 4096:=by omega
 obtain ⟨⟨v,n⟩,e1,hv⟩:=jv hp
 have hv : SV 62 v:=hv
 have lv:=hv.ln
 refine XS e1 (XS (zf v lv n) (XS (Hg v lv n) (XS (zP v lv n) (XS (Hb v lv n) (XS (A3 v lv n) (XS (AL v lv n) (jA ?_ ?_)))))))
 ·have hl:=Zhf hv n
  rw [if_neg (by simp),BJ _ om_,ob_,if_neg (by decide),if_neg (by simp),BM (Ze7 v n),ob_,if_neg (by decide),if_neg (by simp)]
  simp
 obtain ⟨⟨w,key⟩,e2,hw⟩:=kX hp
 have hw : SV 62 w:=hw
 have lw:=hw.ln
 obtain ⟨⟨x,k,nonce⟩,e3,hx⟩:=qz hp
 have hx : SV 62 x:=hx
 have lx:=hx.ln
 refine XS e2 (XS (yz w lw key) (XS (Hy w lw key) (XS e3 (XS (jc x lx k nonce) (XS (Bc x lx k nonce) (jA ?_ ?_))))))
 ·rw [if_neg (by simp),BM (Zay w key),ob_,if_neg (by decide),if_neg (by simp),BM (Zfv x k nonce),ob_]
  simp
 obtain ⟨y,e4,hy⟩:=qp hp
 have ly:=hy.ln
 obtain ⟨⟨z,lab⟩,e5,hz⟩:=Zc8 hp
 have hz : SV 62 z:=hz
 have lz:=hz.ln
 obtain ⟨es,e6,he⟩:=ji hp
 refine XS e4 (XS (je y ly) (XS (jj y ly) (XS (Hc y ly) (XS (zT y ly) (XS e5 (XS (Bi z lz lab) (XS (Bj z lz lab) (XS e6 (XS (Jz es om_) (XS (Ao es om_) (jA ?_ ?_)))))))))))
 ·have hf:=Zbd y
  have ho:=Zjm hy
  have hl:=Zga hz lab
  rw [if_neg (by simp),Zdv _ om_ (λr hr=>by have:=hf.2 r hr; omega),ob_,if_neg (by decide),if_neg (by simp),Hp _ om_,ob_,if_neg (by decide),if_neg (by simp),Hp _ om_,ob_,if_neg (by decide),if_neg (by simp)]
  simp
 refine elf_nx (ite_nx λhc=>?_) rfl
 have hc : (zt w key).2 = 0:=by simpa using hc
 obtain ⟨r1,r2,r3⟩:=Zkd hc
 have ok:=rot_ok (Zhp r1) r2 key
 rw [← r3] at ok
 have hle:=(Zay w key).e
 have hlr:=(Zay w key).ln
 have hok:=ok.is
 have hh : HK (zt w key).1.Events = ((zt w key).1.Head,0):=by
  unfold HK
  rw [if_neg (by rw [Bool.not_eq_true,List.any_eq_false]; intro e he; simp [ok.e e he]),if_neg (by have:=ok.h; omega),r3]
  rfl
 have hlen : (Zc3 (zt w key).1) = ((zt w key).1.Records.map (·.Number),0):=by
  unfold Zc3 QP
  rw [hok,if_pos rfl,List.filter_eq_self.2]
  intro r hr
  rw [r3] at hr ⊢
  have:=(Zhp r1).b r hr
  unfold Hu
  show (r.Version != ((w.Keys ++ [key]).length : Int) - 1) = true
  simp only [List.length_append,List.length_singleton,bne_iff_ne,ne_eq]; omega
 refine XS (Jz _ om_) (XS (Hc _ hlr) (jA ?_ rfl))
 rw [hh,hlen,if_neg (by simp),if_neg (by simp),if_neg (by simp),List.length_map]
 simp
end Go.Proofs.YtfhhlkkhcoaapaaGreat
