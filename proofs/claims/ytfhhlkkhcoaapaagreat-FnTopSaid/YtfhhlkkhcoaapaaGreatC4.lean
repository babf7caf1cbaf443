/- Plain laws, no program in sight. -/
import Derived.Test.YtfhhlkkhcoaapaaGreatC3
set_option linter.unusedVariables false
set_option linter.unusedSimpArgs false
set_option maxRecDepth 20000
set_option maxHeartbeats 400000
namespace Go.Proofs.YtfhhlkkhcoaapaaGreat
open Go
open Flat (enc)
theorem ob_ {α β : Type} {a : α} {f : α → Option β} : (Option.some a).bind f = f a:=rfl
abbrev ge_:=@List.getElem?_eq_getElem
abbrev gd_:=@List.getD_eq_getElem?_getD
theorem bf_ : (false = true) = False:=Bool.false_eq_true
theorem tn_ (n : Nat) : (n : Int).toNat = n:=Int.toNat_natCast n
theorem om_ {p : Prop} (h : p := by omega) : p:=h
theorem od_ {p : Prop} (h : p := by simp only [decide_eq_true_eq]; omega) : p:=h
theorem os_ {p : Prop} (h : p := by simp; omega) : p:=h
theorem WN {i : Nat} (h : i < 9223372036854775807) : wr ((i : Int) + 1) = ((i + 1 : Nat) : Int):=by
 rw [YY om_]; rfl

section
variable {S T : Type} {f : S → Option (Fl S T)}
theorem Zrc (g : Nat → S) (m n : Nat) (hmn : m ≤ n) (h : ∀ i, m ≤ i → i < n → f (g i) = some (.nx (g (i + 1)))) : ZK f (g m) = ZK f (g n) := by
  induction n with
  | zero => have : m = 0 := by omega
            subst this; rfl
  | succ n ih =>
    rcases Nat.lt_or_ge m (n + 1) with h1 | h1
    · rw [ih om_ (λi h2 h3 => h i h2 om_), WM (h n om_ om_)]
    · have : m = n + 1 := by omega
      subst this; rfl
theorem Yr (g : Nat → S) (m n : Nat) (hmn : m ≤ n) {t : T} (h : ∀ i,m ≤ i → i < n → f (g i) = some (.nx (g (i + 1)))) (he : f (g n) = some (.ex t)) : ZK f (g m) = some t:=by
 rw [Zrc g m n hmn h,We he]
theorem HP (g : Nat → S) (p : Nat → Bool) (t : Nat → T) {e : T} (n : Nat) : ∀ (k m : Nat),m + k = n → (∀ i,m ≤ i → i < n → f (g i) = some (if p i then .ex (t i) else .nx (g (i + 1)))) → f (g n) = some (.ex e) →
  ZK f (g m) = some (((List.range' m k).find? p).elim e t)
 | 0,m,hk,_,he=>by
  have : m = n:=by omega
  subst this
  rw [We he]; rfl
 | k + 1,m,hk,h,he=>by
  have h1:=h m (Nat.le_refl _) om_
  rw [List.range'_succ,List.find?_cons]
  cases hp : p m with
  | true=>rw [hp] at h1; rw [We h1]; rfl
  | false =>
   rw [hp] at h1
   rw [WM h1,HP g p t n k (m + 1) om_ (λi h2 h3=>h i om_ h3) he]
end

theorem Zhy {T : Type} {f : Int → Option (Fl Int (Fl Unit T))} (p : Nat → Bool) {t : T} {n m : Nat} (hm : m ≤ n)
  (h : ∀ i,m ≤ i → i < n → f (i : Int) = some (if p i then .ex (.ex t) else .nx ((i + 1 : Nat) : Int))) (he : f (n : Int) = some (.ex (.nx ()))) :
  ZK f (m : Int) = some (if (List.range' m (n - m)).any p then .ex t else .nx ()):=by
 rw [HP (λi : Nat=>(i : Int)) p (λ_=>.ex t) n (n - m) m om_ h he]
 cases hf : (List.range' m (n - m)).find? p with
 | none =>
  have : (List.range' m (n - m)).any p = false:=by
   rw [List.any_eq_false]
   rw [List.find?_eq_none] at hf
   exact hf
  rw [this]; rfl
 | some i =>
  have : (List.range' m (n - m)).any p = true:=by
   rw [List.any_eq_true]
   exact ⟨i,List.mem_of_find?_eq_some hf,List.find?_some hf⟩
  rw [this]; rfl
theorem QR {p : Nat → Bool} {m n : Nat} : (List.range' m (n - m)).any p = true ↔ ∃ i,m ≤ i ∧ i < n ∧ p i = true:=by
 rw [List.any_eq_true]
 simp only [List.mem_range'_1]
 constructor
 ·rintro ⟨i,⟨h1,h2⟩,h3⟩; exact ⟨i,h1,by omega,h3⟩
 rintro ⟨i,h1,h2,h3⟩; exact ⟨i,⟨h1,by omega⟩,h3⟩
class Wt (α : Type) [Dat α] where
 wt : α → Nat
 ln : α → Prop
 bdln : ∀ x,Dat.bd x → ln x
 wtln : ∀ x,wt x ≤ 1048576 → ln x
instance : Wt Int:=⟨λ_=>0,λ_=>True,λ_ _=>trivial,λ_ _=>trivial⟩
instance : Wt UInt8:=⟨λ_=>0,λ_=>True,λ_ _=>trivial,λ_ _=>trivial⟩
instance : Wt Bool:=⟨λ_=>0,λ_=>True,λ_ _=>trivial,λ_ _=>trivial⟩
instance : Wt Str:=⟨λs=>s.l.length,λs=>s.l.length ≤ 9223372036854775807,λ_ h=>h,λ_ h=>by omega⟩
instance {n : Nat} : Wt (Vector UInt8 n):=⟨λ_=>0,λ_=>True,λ_ _=>trivial,λ_ _=>trivial⟩
instance {n m : Nat} : Wt (Vector (Vector UInt8 m) n):=⟨λ_=>0,λ_=>True,λ_ _=>trivial,λ_ _=>trivial⟩
theorem Zrm {α : Type} {f : α → Nat} {l : List α} {x : α} (h : x ∈ l) : f x ≤ (l.map f).sum:=by
 induction l with
 | nil=>cases h
 | cons y l ih =>
  rw [List.map_cons,List.sum_cons]
  rcases List.mem_cons.1 h with rfl | h
  ·omega
  ·have:=ih h; omega
instance {α : Type} [Dat α] [Wt α] : Wt (List α):=⟨λl=>l.length + (l.map Wt.wt).sum,λl=>l.length ≤ 9223372036854775807 ∧ ∀ x ∈ l,Wt.ln x,λ_ h=>⟨h.1,λx hx=>Wt.bdln x (h.2 x hx)⟩,
 λl h=>⟨by omega,λx hx=>Wt.wtln x (by have:=Zrm (f:=Wt.wt) hx; omega)⟩⟩
instance {α β : Type} [Dat α] [Dat β] [Wt α] [Wt β] : Wt (α × β):=⟨λx=>Wt.wt x.1 + Wt.wt x.2,λx=>Wt.ln x.1 ∧ Wt.ln x.2,λx h=>⟨Wt.bdln x.1 h.1,Wt.bdln x.2 h.2⟩,λx h=>⟨Wt.wtln x.1 (by omega),Wt.wtln x.2 (by omega)⟩⟩
theorem Ziz {α : Type} [Dat α] [Wt α] {l : List α} (h : Wt.ln l) : l.length ≤ 9223372036854775807:=h.1
@[simp] theorem Yx {α : Type} (l : List α) (i : Nat) : idx l (i : Int) = l[i]?:=by unfold idx; simp
@[simp] theorem Zar {α : Type} (l : List α) : idx l (0 : Int) = l[0]?:=Yx l 0
theorem kX {T : Type} {f : Int → Option (Fl Int (Fl Unit T))} (n : Nat) (p : Nat → Bool) (t : Nat → T) (hn : n < 9223372036854775807)
  (h : ∀ i,i < n → f (i : Int) = some (if p i then .ex (.ex (t i)) else .nx (wr ((i : Int) + 1)))) (he : f (n : Int) = some (.ex (.nx ()))) (m : Nat) (hm : m ≤ n) :
  ZK f (m : Int) = some (match (List.range' m (n - m)).find? p with | some i=>.ex (t i) | none=>.nx ()):=by
 rw [HP (λi : Nat=>(i : Int)) p (λi=>.ex (t i)) n (n - m) m om_ (λi _ hi=>by rw [h i hi,WN om_]) he]
 cases (List.range' m (n - m)).find? p <;> rfl
theorem Za7 {T : Type} {f : Int → Option (Fl Int (Fl Unit T))} (n : Nat) (p : Nat → Bool) (t : T) (hn : n < 9223372036854775807)
  (h : ∀ i,i < n → f (i : Int) = some (if p i then .ex (.ex t) else .nx (wr ((i : Int) + 1)))) (he : f (n : Int) = some (.ex (.nx ()))) (m : Nat) (hm : m ≤ n) :
  ZK f (m : Int) = some (if (List.range' m (n - m)).any p then .ex t else .nx ()) :=
 Zhy p hm (λi _ hi=>by rw [h i hi,WN om_]) he
theorem zF {T : Type} {f : Int → Option (Fl Int (Fl Unit T))} (n : Nat) (p : Nat → Bool) (t : T) (hn : n < 9223372036854775807) (m : Nat) (hm : m ≤ n)
  (h : ∀ i,m ≤ i → i < n → f (i : Int) = some (if p i then .ex (.ex t) else .nx (wr ((i : Int) + 1)))) (he : f (n : Int) = some (.ex (.nx ()))) :
  ZK f (m : Int) = some (if (List.range' m (n - m)).any p then .ex t else .nx ()) :=
 Zhy p hm (λi hmi hi=>by rw [h i hmi hi,WN om_]) he
theorem T7 {α β S T : Type} {f : S → Option (Fl S T)} (l : List α) (pack : β → Int → S) (g : β → α → β) (b0 : β) {t : T} (hn : l.length < 9223372036854775807)
  (h : ∀ i (hi : i < l.length),f (pack ((l.take i).foldl g b0) (i : Int)) = some (.nx (pack (g ((l.take i).foldl g b0) l[i]) (wr ((i : Int) + 1))))) (he : f (pack (l.foldl g b0) (l.length : Int)) = some (.ex t)) :
  ZK f (pack b0 0) = some t:=by
 have:=Yr (f:=f) (λi : Nat=>pack ((l.take i).foldl g b0) (i : Int)) 0 l.length (Nat.zero_le _) (t:=t) (λi _ hi=>by
  rw [h i hi,WN om_]
  congr 3
  rw [List.take_succ_eq_append_getElem hi,List.foldl_append]; rfl) (by rw [List.take_length]; exact he)
 simpa using this
theorem Zc7 {α β : Type} (g : α → β) (l : List α) (acc : List β) : l.foldl (λb x=>b ++ [g x]) acc = acc ++ l.map g:=by
 induction l generalizing acc with
 | nil=>simp
 | cons x l ih=>simp [ih]
theorem Zg8 {α β T : Type} {f : List β × Int → Option (Fl (List β × Int) T)} (l : List α) (g : α → β) {t : T} (hn : l.length < 9223372036854775807)
  (h : ∀ i (hi : i < l.length),f ((l.take i).map g,(i : Int)) = some (.nx ((l.take i).map g ++ [g l[i]],wr ((i : Int) + 1)))) (he : f (l.map g,(l.length : Int)) = some (.ex t)) :
  ZK f ([],0) = some t:=by
 have e : ∀ m : List α,m.foldl (λb x=>b ++ [g x]) [] = m.map g:=λm=>by rw [Zc7]; rfl
 exact T7 (f:=f) l (λb i=>(b,i)) (λb x=>b ++ [g x]) [] hn (λi hi=>by simp only [e]; exact h i hi) (by simp only [e]; exact he)
theorem Xm {α : Type} {by_ : Nat} {l m : List α} (h : (l.length + m.length) * by_ ≤ 140737488355328) : app by_ l m = some (l ++ m):=by unfold app; rw [if_pos h]
theorem KW {α : Type} {l : List α} {i j : Nat} (h : i ≤ j) (h2 : j ≤ l.length) : slc l (i : Int) (j : Int) = some ((l.take j).drop i):=by
 unfold slc; rw [if_pos om_]; simp

theorem Bm {α : Type} {n : Nat} {v w : Vector α n} (h : ∀ i (hi : i < n),v[i] = w[i]) : v = w:=Vector.ext h
@[simp] theorem KF {α : Type} {n : Nat} (v : Vector α n) (i : Nat) : ZP v (i : Int) = v[i]?:=by unfold ZP; simp
instance : Wt GShare:=⟨λx=>Wt.wt x.Data,λx=>Wt.ln x.Data,λx h=>Wt.bdln x.Data h.2,λx h=>Wt.wtln x.Data h⟩
instance : Wt GRecord:=⟨λx=>Wt.wt x.Label + Wt.wt x.Body,λx=>Wt.ln x.Label ∧ Wt.ln x.Body,λx h=>⟨Wt.bdln x.Label h.2.2.2.1,Wt.bdln x.Body h.2.2.2.2.1⟩,λx h=>⟨Wt.wtln x.Label (by omega),Wt.wtln x.Body (by omega)⟩⟩
instance : Wt GEvent:=⟨λ_=>0,λ_=>True,λ_ _=>trivial,λ_ _=>trivial⟩
instance : Wt GVault:=⟨λx=>Wt.wt x.Keys + (Wt.wt x.Records + Wt.wt x.Events),λx=>Wt.ln x.Keys ∧ Wt.ln x.Records ∧ Wt.ln x.Events,λx h=>⟨Wt.bdln x.Keys h.1,Wt.bdln x.Records h.2.2.1,Wt.bdln x.Events h.2.2.2.1⟩,
 λx h=>⟨Wt.wtln x.Keys (by omega),Wt.wtln x.Records (by omega),Wt.wtln x.Events (by omega)⟩⟩
theorem TZ (n a b : Int) : Yy n a b = some (decide (a ≤ n ∧ n ≤ b)):=by
 unfold Yy
 by_cases h1 : a ≤ n <;> by_cases h2 : n ≤ b <;> simp [h1,h2]
theorem Zln (n a b : Int) : KA n a b = some (decide (a ≤ n ∧ n ≤ b)):=by
 unfold KA
 by_cases h1 : a ≤ n <;> by_cases h2 : n ≤ b <;> simp [h1,h2]
theorem zH {α : Type} (l : List α) (p : α → Option Bool) (q : α → Bool) (L : Int → Option (Fl Int (Fl Unit Int)))
  (hL : ∀ s,L s = if (decide (s < (l.length : Int))) = true then ((idx l s).bind λx=>((p x)).bind λr=>if r = true then (some (Fl.ex (Fl.ex s))) else (some (Fl.nx (wr (s + 1))))) else (some (Fl.ex (Fl.nx ()))))
  (hl : l.length < 9223372036854775807) (hp : ∀ x ∈ l,p x = some (q x)) :
  ((ZK L 0 : Option (Fl Unit Int)).bind λj1=>j1.el (λ_=>some (-1)) (λr=>some r)) = some (match l.findIdx? q with | some i=>(i : Int) | none=>-1):=by
 have h:=kX (f:=L) l.length (λi=>(l[i]?.map q).getD false) (λi=>(i : Int)) hl (λi hi=>by
  rw [hL]
  simp only [Int.ofNat_lt,hi,decide_true,if_true,Yx,ge_ hi,ob_,Option.map_some,Option.getD_some,hp _ (List.getElem_mem hi)]
  split <;> rfl) (by rw [hL]; simp) 0 (Nat.zero_le _)
 have h3 : ZK L 0 = _:=h
 rw [h3]
 have key : (List.range' 0 (l.length - 0)).find? (λi=>(l[i]?.map q).getD false) = l.findIdx? q:=by
  rw [Nat.sub_zero,← List.range_eq_range']
  clear h h3 hL hp hl
  induction l with
  | nil=>rfl
  | cons x l ih =>
   rw [List.length_cons,List.range_succ_eq_map,List.find?_cons,List.findIdx?_cons]
   simp only [List.getElem?_cons_zero,Option.map_some,Option.getD_some]
   cases q x with
   | true=>rfl
   | false =>
    simp only [bf_,if_false]
    rw [List.find?_map,← ih]
    congr 1
 rw [key]
 cases l.findIdx? q <;> rfl
theorem Zbs {α : Type} (l : List α) (q : α → Bool) : decide ((match l.findIdx? q with | some i=>(i : Int) | none=>-1) ≥ 0) = l.any q:=by
 rw [Bool.eq_iff_iff,decide_eq_true_eq]
 cases h : l.findIdx? q with
 | none =>
  have:=List.findIdx?_eq_none_iff.1 h
  simp
  exact this
 | some i =>
  have h2:=List.findIdx?_eq_some_iff_getElem.1 h
  obtain ⟨hi,hq,_⟩:=h2
  simp
  exact ⟨_,List.getElem_mem hi,hq⟩
def Kr (e : GEvent) : Bool:=decide ((1 ≤ e.Kind ∧ e.Kind ≤ 4) ∧ (0 ≤ e.Number ∧ e.Number ≤ 1000000))
theorem Zlz (e : GEvent) : Km e = some (Kr e):=by
 unfold Km Kr Jg
 simp only [TZ,ob_]
 by_cases h1 : (1 ≤ e.Kind ∧ e.Kind ≤ 4) <;> by_cases h2 : (0 ≤ e.Number ∧ e.Number ≤ 1000000) <;> simp [h1,h2]
theorem qz (l : List GEvent) (p : GEvent → Option Bool) (q : GEvent → Bool) (hl : l.length < 9223372036854775807) (hp : ∀ x ∈ l,p x = some (q x)) : Yt l p = some (l.any q):=by
 unfold Yt Xa
 rw [zH l p q _ (λs=>by unfold XK; rfl) hl hp]
 simp only [ob_,Zbs]
def HZ (l : List GRecord) : Nat → Int
 | 0=>0
 | i + 1=>(l[i]?.map (·.Number)).getD 0
def j0 (v : GVault) (r : GRecord) : Bool:=!decide ((0 : Int) ≤ r.Version ∧ r.Version ≤ (v.Keys.length : Int) - 1) || decide (32 < r.Label.length) || decide (200 < r.Body.length)
def Zcj (v : GVault) (i : Nat) : Bool:=match v.Records[i]? with
 | some r=>decide (r.Number ≤ HZ v.Records i) || decide (r.Number ≥ v.Next) || j0 v r
 | none=>false
def badI (v : GVault) (i : Nat) : Bool:=match v.Records[i]? with
 | some r=>!decide (1 ≤ r.Number ∧ r.Number ≤ v.Next - 1) || (decide (0 < i) && decide (HZ v.Records i ≥ r.Number)) || j0 v r
 | none=>false
def Zag (v : GVault) : Bool:=decide (1 ≤ v.Keys.length ∧ v.Keys.length ≤ 8 ∧ 1 ≤ v.Next ∧ v.Next ≤ 1000000 ∧ v.Records.length ≤ 12 ∧ v.Events.length ≤ 60)
def YW (v : GVault) : Bool:=Zag v && !((List.range' 0 (v.Records.length - 0)).any (Zcj v)) && v.Events.all Kr
theorem Znq (v : GVault) : (List.range' 0 (v.Records.length - 0)).any (badI v) = (List.range' 0 (v.Records.length - 0)).any (Zcj v):=by
 have h : ∀ b c : Bool,(b = false ↔ c = false) → b = c:=by intro b c; cases b <;> cases c <;> simp
 apply h
 rw [List.any_eq_false,List.any_eq_false]
 simp only [List.mem_range'_1,Nat.zero_le,true_and,Nat.sub_zero,Nat.zero_add,Bool.not_eq_true]
 constructor
 ·intro hI i hi
  have h1:=hI i hi
  unfold badI Zcj at *
  rw [ge_ hi] at h1 ⊢
  simp only [Bool.or_eq_false_iff,Bool.not_eq_false',decide_eq_true_eq,Bool.and_eq_false_iff,decide_eq_false_iff_not] at h1 ⊢
  refine ⟨⟨?_,by omega⟩,h1.2⟩
  cases i with
  | zero=>simp only [HZ]; omega
  | succ i =>
   rcases h1.1.2 with h2 | h2
   ·omega
   ·omega
 intro hS
 have pos : ∀ i,i < v.Records.length → 0 ≤ HZ v.Records i ∧ HZ v.Records i < (v.Records[i]?.map (·.Number)).getD 0:=by
  intro i
  induction i with
  | zero =>
   intro hi
   have h1:=hS 0 hi
   unfold Zcj at h1
   rw [ge_ hi] at h1 ⊢
   simp only [Bool.or_eq_false_iff,decide_eq_false_iff_not,Option.map_some,Option.getD_some] at h1 ⊢
   have e : HZ v.Records 0 = 0:=rfl
   have h2:=h1.1.1
   rw [e] at h2 ⊢
   omega
  | succ i ih =>
   intro hi
   have h0:=ih om_
   have h1:=hS (i + 1) hi
   unfold Zcj at h1
   have e : HZ v.Records (i + 1) = (v.Records[i]?.map (·.Number)).getD 0:=rfl
   rw [ge_ hi] at h1 ⊢
   simp only [Bool.or_eq_false_iff,decide_eq_false_iff_not,Option.map_some,Option.getD_some] at h1 ⊢
   rw [e] at h1 ⊢
   omega
 intro i hi
 have h1:=hS i hi
 have h2:=pos i hi
 unfold badI Zcj at *
 rw [ge_ hi] at h1 h2 ⊢
 simp only [Bool.or_eq_false_iff,Bool.not_eq_false',decide_eq_true_eq,Bool.and_eq_false_iff,decide_eq_false_iff_not,Option.map_some,Option.getD_some] at h1 h2 ⊢
 exact ⟨⟨by omega,.inr om_⟩,h1.2⟩
theorem JA (v : GVault) (hb : Wt.ln v) : VM v = some (YW v):=by
 have hb1:=Ziz hb.1; have hb2:=Ziz hb.2.1; have hb3:=Ziz hb.2.2
 unfold VM Z3
 simp only [TZ,ob_]
 by_cases hh : Zag v = true
 ·have hh' : 1 ≤ v.Keys.length ∧ v.Keys.length ≤ 8 ∧ 1 ≤ v.Next ∧ v.Next ≤ 1000000 ∧ v.Records.length ≤ 12 ∧ v.Events.length ≤ 60:=by simpa [Zag] using hh
  have c1 : (1 : Int) ≤ v.Keys.length ∧ (v.Keys.length : Int) ≤ 8:=by omega
  have c3 : 1 ≤ v.Next ∧ v.Next ≤ 1000000:=by omega
  have c4 : ¬ ((v.Records.length : Int) > 12):=by omega
  have c5 : ¬ ((v.Events.length : Int) > 60):=by omega
  simp only [c1,c3,c4,c5,decide_false,decide_true,and_self,Bool.not_true,bf_,if_false,ob_]
  have hw : wr ((v.Keys.length : Int) - 1) = (v.Keys.length : Int) - 1:=YY om_
  have hw2 : wr (v.Next - 1) = v.Next - 1:=YY om_
  have h1:=Za7 (f:=Te v) v.Records.length (badI v) false om_ (λi hi=>by
   unfold Te badI Z3
   simp only [Int.ofNat_lt,hi,decide_true,if_true,Yx,ge_ hi,ob_,TZ,hw,hw2]
   unfold j0
   by_cases d1 : 1 ≤ v.Records[i].Number ∧ v.Records[i].Number ≤ v.Next - 1
   ·have key : (if decide ((i : Int) > 0) = true then (idx v.Records (wr ((i : Int) - 1))).bind λx=>some (decide (x.Number ≥ v.Records[i].Number)) else some false) = some (decide (0 < i) && decide (HZ v.Records i ≥ v.Records[i].Number)):=by
     cases i with
     | zero=>simp
     | succ i =>
      have e1 : wr (((i + 1 : Nat) : Int) - 1) = (i : Int):=by rw [YY om_]; omega
      have hi' : i < v.Records.length:=by omega
      have e2 : HZ v.Records (i + 1) = v.Records[i].Number:=by simp [HZ,ge_ hi']
      have e3 : ((i + 1 : Nat) : Int) > 0:=by omega
      simp only [e1,e2,e3,decide_true,if_true,Yx,ge_ hi',ob_]
      simp
    simp only [d1,decide_true,and_self,Bool.not_true,bf_,if_false,key,ob_,Bool.false_or]
    by_cases d2 : (decide (0 < i) && decide (HZ v.Records i ≥ v.Records[i].Number)) = true
    ·simp [d2]
    ·have d2 : (decide (0 < i) && decide (HZ v.Records i ≥ v.Records[i].Number)) = false:=by simpa using d2
     rw [d2]
     by_cases d3 : (0 : Int) ≤ v.Records[i].Version ∧ v.Records[i].Version ≤ (v.Keys.length : Int) - 1
     ·by_cases d4 : 32 < v.Records[i].Label.length
      ·have d4' : (v.Records[i].Label.length : Int) > 32:=by omega
       simp [d3,d4,d4']
      ·have d4' : ¬ ((v.Records[i].Label.length : Int) > 32):=by omega
       by_cases d5 : 200 < v.Records[i].Body.length
       ·have d5' : (v.Records[i].Body.length : Int) > 200:=by omega
        simp [d3,d4,d4',d5,d5']
       ·have d5' : ¬ ((v.Records[i].Body.length : Int) > 200):=by omega
        simp [d3,d4,d4',d5,d5']
     ·simp [d3]
   ·simp [d1]) (by unfold Te; simp) 0 (Nat.zero_le _)
  have h2 : ZK (Te v) 0 = _:=h1
  rw [h2,Znq,qz v.Events _ (λe=>!Kr e) om_ (λx _=>by unfold T4; rw [Zlz]; rfl)]
  have ha : (v.Events.any λe=>!Kr e) = !(v.Events.all Kr):=by rw [List.any_eq_not_all_not]; simp
  unfold YW
  rw [hh,ha]
  generalize (List.range' 0 (v.Records.length - 0)).any (Zcj v) = z
  cases z <;> simp [Fl.el]
 have hf : Zag v = false:=by simpa using hh
 unfold YW
 rw [hf]
 have hh' : ¬ (1 ≤ v.Keys.length ∧ v.Keys.length ≤ 8 ∧ 1 ≤ v.Next ∧ v.Next ≤ 1000000 ∧ v.Records.length ≤ 12 ∧ v.Events.length ≤ 60):=by simpa [Zag] using hf
 by_cases c1 : (1 : Int) ≤ v.Keys.length ∧ (v.Keys.length : Int) ≤ 8
 ·by_cases c3 : 1 ≤ v.Next ∧ v.Next ≤ 1000000
  ·by_cases c4 : ((v.Records.length : Int) > 12)
   ·simp [c1,c3,c4]
   have c5 : ((v.Events.length : Int) > 60):=by omega
   simp [c1,c3,c4,c5]
  simp [c1,c3]
 simp [c1]
theorem Kn {v : GVault} (h : YW v = true) : 1 ≤ v.Keys.length ∧ v.Keys.length ≤ 8 ∧ 1 ≤ v.Next ∧ v.Next ≤ 1000000 ∧ v.Records.length ≤ 12 ∧ v.Events.length ≤ 60:=by
 unfold YW Zag at h
 simp only [Bool.and_eq_true,decide_eq_true_eq] at h
 exact h.1.1
theorem Zoo (a b : List UInt8) : decide (a = b) = (a == b):=by rw [Bool.eq_iff_iff]; simp
theorem js (a b : List UInt8) : QT a b = some (a == b):=by
 unfold QT
 rw [← Zoo]
 congr 1
 rw [decide_eq_decide]
 constructor
 ·intro h; exact Str.mk.inj h
 intro h; rw [h]
theorem ko (a : Nat) (h : a < 9223372036854775808) : (BitVec.ofInt 64 (a : Int)).toNat = a:=by
 rw [BitVec.toNat_ofInt]
 omega
theorem B7 (a b : Nat) (ha : a < 9223372036854775808) (hb : b < 9223372036854775808) : BY (a : Int) (b : Int) = ((a ^^^ b : Nat) : Int):=by
 unfold BY
 rw [BitVec.toNat_xor,ko a ha,ko b hb]
 have : a ^^^ b < 2 ^ 63:=Nat.xor_lt_two_pow ha hb
 exact YY om_
theorem Zo4 (a b : Nat) (ha : a < 9223372036854775808) (hb : b < 9223372036854775808) : Zin (a : Int) (b : Int) = ((a &&& b : Nat) : Int):=by
 unfold Zin
 rw [BitVec.toNat_and,ko a ha,ko b hb]
 have : a &&& b < 2 ^ 63:=Nat.and_lt_two_pow _ hb
 exact YY om_
theorem zf (a i : Nat) (hi : i ≤ 63) (h : a <<< i < 9223372036854775808) : BJ (a : Int) (i : Int) = ((a <<< i : Nat) : Int):=by
 unfold BJ
 rw [show min ((i : Int)).toNat 64 = i by omega]
 have : ((a : Int) * 2 ^ i) = ((a <<< i : Nat) : Int):=by rw [Nat.shiftLeft_eq]; simp
 rw [this]
 generalize a <<< i = x at h ⊢
 exact YY om_
theorem Zhz (a i : Nat) (hi : i ≤ 63) : Qp (a : Int) (i : Int) = ((a >>> i : Nat) : Int):=by
 unfold Qp
 rw [show min ((i : Int)).toNat 64 = i by omega,Nat.shiftRight_eq_div_pow,Int.fdiv_eq_ediv_of_nonneg _ (by exact_mod_cast Nat.zero_le _)]
 simp
theorem Zfr (a i : Nat) : ((a >>> i) &&& 1 = 1) ↔ a.testBit i = true:=by
 rw [Nat.testBit,Nat.and_comm]
 have h:=Nat.and_one_is_mod (a >>> i)
 rw [Nat.and_comm] at h
 rw [h]
 rcases Nat.mod_two_eq_zero_or_one (a >>> i) with h | h <;> simp [h]
theorem Zot (a : Nat) : Int.tmod (a : Int) 2 = ((a % 2 : Nat) : Int):=by
 rw [Int.tmod_eq_emod_of_nonneg om_]; simp
theorem Zkj (a : Nat) : Int.tdiv (a : Int) 2 = ((a / 2 : Nat) : Int):=by
 rw [Int.tdiv_eq_ediv_of_nonneg om_]; simp
theorem Zdx (a : Nat) (h : a < 9223372036854775808) : wr (a : Int) = (a : Int):=YY om_
theorem Zj3 (a : Nat) (h : a < 9223372036854775808) : IntKind.u64.wrap (a : Int) = (a : Int):=by
 simp only [IntKind.wrap,IntKind.bits,IntKind.signed]
 simp
 omega

def XJ (m deg : Nat) : Nat → Nat → Nat
 | 0,a=>a
 | k + 1,a=>XJ m deg k (if a.testBit (deg + k) then a ^^^ (m <<< k) else a)
theorem Au {m k n : Nat} (h : m < 2 ^ n) : m <<< k < 2 ^ (n + k):=by
 rw [Nat.shiftLeft_eq,Nat.pow_add]
 exact Nat.mul_lt_mul_of_pos_right h (Nat.two_pow_pos _)
theorem ku {a n : Nat} (h : a < 2 ^ (n + 1)) (hb : a.testBit n = false) : a < 2 ^ n:=by
 apply Nat.lt_pow_two_of_testBit
 intro i hi
 rcases Nat.eq_or_lt_of_le hi with rfl | hi
 ·exact hb
 exact Nat.testBit_lt_two_pow (Nat.lt_of_lt_of_le h (Nat.pow_le_pow_right om_ hi))
theorem Zk7 {m d : Nat} (h1 : 2 ^ d ≤ m) (h2 : m < 2 ^ (d + 1)) : m.testBit d = true:=by
 rw [Nat.testBit,Nat.shiftRight_eq_div_pow]
 have : m / 2 ^ d = 1:=by
  apply Nat.div_eq_of_lt_le
  ·simpa using h1
  ·rw [Nat.pow_succ] at h2; omega
 rw [this]; rfl
theorem Zlk {m d k a : Nat} (h1 : 2 ^ d ≤ m) (h2 : m < 2 ^ (d + 1)) (ha : a < 2 ^ (d + (k + 1))) (hb : a.testBit (d + k) = true) : a ^^^ (m <<< k) < 2 ^ (d + k):=by
 have hm : m <<< k < 2 ^ (d + (k + 1)):=by have:=Au (k:=k) h2; rwa [show d + 1 + k = d + (k + 1) by omega] at this
 refine ku (Nat.xor_lt_two_pow (by rwa [show d + k + 1 = d + (k + 1) by omega]) (by rwa [show d + k + 1 = d + (k + 1) by omega])) ?_
 rw [Nat.testBit_xor,hb,Nat.testBit_shiftLeft]
 simp [Zk7 h1 h2]
theorem jI {m d : Nat} (h1 : 2 ^ d ≤ m) (h2 : m < 2 ^ (d + 1)) : ∀ (k a : Nat),a < 2 ^ (d + k) → XJ m d k a < 2 ^ d
 | 0,a,h=>by simpa [XJ] using h
 | k + 1,a,h=>by
  unfold XJ
  cases hb : a.testBit (d + k) with
  | true=>simp only [if_true]; exact jI h1 h2 k _ (Zlk h1 h2 h hb)
  | false=>simp only [Bool.false_eq_true,if_false]; exact jI h1 h2 k a (ku h hb)
theorem HM (m d : Nat) : ∀ (k a b : Nat),XJ m d k (a ^^^ b) = XJ m d k a ^^^ XJ m d k b
 | 0,_,_=>rfl
 | k + 1,a,b=>by
  simp only [XJ]
  rw [Nat.testBit_xor]
  cases a.testBit (d + k) <;> cases b.testBit (d + k) <;> simp only [Bool.xor_false,Bool.false_xor,Bool.xor_self,Bool.xor_true,Bool.not_false,Bool.not_true,Bool.false_eq_true,if_true,if_false]
  ·exact HM m d k a b
  ·rw [Nat.xor_assoc]; exact HM m d k a _
  ·rw [← HM m d k]; congr 1; rw [Nat.xor_assoc,Nat.xor_comm b,← Nat.xor_assoc]
  ·rw [← HM m d k]; congr 1
   rw [Nat.xor_assoc,← Nat.xor_assoc (m <<< k),Nat.xor_comm (m <<< k) b,Nat.xor_assoc,Nat.xor_self,Nat.xor_zero]
theorem KE {m d : Nat} : ∀ (k a : Nat),a < 2 ^ d → XJ m d k a = a
 | 0,_,_=>rfl
 | k + 1,a,h=>by
  unfold XJ
  rw [Nat.testBit_lt_two_pow (Nat.lt_of_lt_of_le h (Nat.pow_le_pow_right (by omega) (by omega)))]
  simp only [Bool.false_eq_true,if_false]
  exact KE k a h
theorem jN {m d k a : Nat} (h : a < 2 ^ (d + k)) : XJ m d (k + 1) a = XJ m d k a:=by
 conv=>lhs; unfold XJ
 rw [Nat.testBit_lt_two_pow h]; rfl
theorem Bn (m d : Nat) : ∀ (k x : Nat),XJ m d (k + 1) (x <<< 1) = (if ((XJ m d k x) <<< 1).testBit d then ((XJ m d k x) <<< 1) ^^^ m else (XJ m d k x) <<< 1)
 | 0,x=>by simp [XJ]
 | k + 1,x=>by
  conv=>lhs; unfold XJ
  conv=>rhs; unfold XJ
  have e : (x <<< 1).testBit (d + (k + 1)) = x.testBit (d + k):=by
   rw [Nat.testBit_shiftLeft]
   have : d + (k + 1) ≥ 1:=by omega
   simp only [this,decide_true,Bool.true_and]
   congr 1
  rw [e]
  cases x.testBit (d + k) with
  | false=>simp only [bf_,if_false]; exact Bn m d k x
  | true =>
   simp only [if_true]
   have e2 : x <<< 1 ^^^ m <<< (k + 1) = (x ^^^ m <<< k) <<< 1:=by
    rw [Nat.shiftLeft_xor_distrib,← Nat.shiftLeft_add]
   rw [e2]
   exact Bn m d k _

def BK (n : Nat) : Nat:=if n = 0 then 0 else n.log2 + 1
theorem Zmv (n : Nat) (h : 0 < n) : BK n = BK (n / 2) + 1:=by
 unfold BK
 rw [if_neg om_]
 by_cases h2 : n / 2 = 0
 ·have : n = 1:=by omega
  subst this; rfl
 rw [if_neg h2]
 conv=>lhs; rw [Nat.log2_def]
 rw [if_pos om_]
theorem Zab {n p : Nat} (h1 : 2 ^ p ≤ n) (h2 : n < 2 ^ (p + 1)) : BK n = p + 1:=by
 have h0 : n ≠ 0:=by have:=Nat.two_pow_pos p; omega
 unfold BK
 rw [if_neg h0,(Nat.log2_eq_iff h0).2 ⟨h1,h2⟩]
theorem Zrt {n p : Nat} (h : n < 2 ^ p) : BK n ≤ p:=by
 unfold BK
 split
 ·omega
 rename_i h0
 have:=(Nat.log2_lt h0).2 h
 omega
theorem A1 (n : Nat) (h : n < 9223372036854775808) : Vx (n : Int) = some ((BK n : Nat) : Int):=by
 have key : ∀ (f n c : Nat),n < 2 ^ f → f ≤ 63 → c + f ≤ 1000 → ZK Wm ((n : Int),(c : Int)) = some ((c + BK n : Nat) : Int):=by
  intro f
  induction f with
  | zero =>
   intro n c hn _ _
   have : n = 0:=by simpa using hn
   subst this
   rw [We (t:=(c : Int))]
   ·simp [BK]
   ·unfold Wm; simp
  | succ f ih =>
   intro n c hn hf hc
   by_cases h0 : n = 0
   ·subst h0
    rw [We (t:=(c : Int))]
    ·simp [BK]
    ·unfold Wm; simp
   ·have hp : 0 < n:=by omega
    have hlt : n < 9223372036854775808:=Nat.lt_of_lt_of_le hn (Nat.pow_le_pow_right (by omega : 0 < 2) hf)
    have hst : Wm ((n : Int),(c : Int)) = some (.nx (((n / 2 : Nat) : Int),((c + 1 : Nat) : Int))):=by
     unfold Wm
     have : (n : Int) > 0:=by omega
     simp only [this,decide_true,if_true,Zkj]
     rw [Zdx _ om_,WN om_]
    rw [WM hst,ih (n / 2) (c + 1) (by rw [Nat.pow_succ] at hn; omega) om_ om_,Zmv n hp]
    congr 2; omega
 unfold Vx
 have:=key 63 n 0 h om_ om_
 have h2 : ZK Wm ((n : Int),0) = _:=this
 rw [h2]
 simp
theorem Zne (a b d k : Nat) (hd : d ≤ 20) (hk : k ≤ 20) (h1 : 2 ^ d ≤ b) (h2 : b < 2 ^ (d + 1)) (ha : a < 2 ^ (d + k)) : Kl (a : Int) (b : Int) = some ((XJ b d k a : Nat) : Int):=by
 have big : ∀ n,n ≤ 62 → ∀ x : Nat,x < 2 ^ n → x < 9223372036854775808:=λn hn x hx=>Nat.lt_of_lt_of_le hx (Nat.pow_le_pow_right (by omega : 0 < 2) (by omega : n ≤ 63))
 have key : ∀ (k a : Nat),k ≤ 20 → a < 2 ^ (d + k) → ZK (Tc (b : Int) ((d + 1 : Nat) : Int)) ((a : Int),((BK a : Nat) : Int)) = some ((XJ b d k a : Nat) : Int):=by
  intro k
  induction k with
  | zero =>
   intro a _ ha
   have hl:=Zrt (p:=d) ha
   rw [We (t:=(a : Int))]
   ·rfl
   ·unfold Tc
    have : ¬ (((BK a : Nat) : Int) ≥ ((d + 1 : Nat) : Int)):=by omega
    simp only [this,decide_false,bf_,if_false]
  | succ k ih =>
   intro a hk ha
   cases hb : a.testBit (d + k) with
   | false =>
    have ha':=ku (by rwa [show d + k + 1 = d + (k + 1) by omega]) hb
    rw [ih a om_ ha',jN ha']
   | true =>
    have hge : 2 ^ (d + k) ≤ a:=Nat.ge_two_pow_of_testBit hb
    have hl : BK a = d + k + 1:=Zab hge (by rwa [show d + k + 1 = d + (k + 1) by omega])
    have hx:=Zlk h1 h2 ha hb
    have hshl : b <<< k < 2 ^ (d + 1 + k):=Au h2
    have hst : Tc (b : Int) ((d + 1 : Nat) : Int) ((a : Int),((BK a : Nat) : Int)) = some (.nx (((a ^^^ b <<< k : Nat) : Int),((BK (a ^^^ b <<< k) : Nat) : Int))):=by
     unfold Tc
     have c1 : ((BK a : Nat) : Int) ≥ ((d + 1 : Nat) : Int):=by rw [hl]; omega
     have c2 : IntKind.u64.wrap (wr (((BK a : Nat) : Int) - ((d + 1 : Nat) : Int))) = ((k : Nat) : Int):=by
      rw [hl,show ((d + k + 1 : Nat) : Int) - ((d + 1 : Nat) : Int) = ((k : Nat) : Int) by omega,Zdx _ om_,Zj3 _ om_]
     simp only [c1,decide_true,if_true,c2]
     have c3 : XM ((k : Nat) : Int) = some ():=by unfold XM; rw [if_pos om_]
     rw [c3,zf b k om_ (big _ om_ _ hshl),B7 a _ (big _ om_ _ ha) (big _ om_ _ hshl)]
     simp only [ob_]
     rw [A1 _ (big _ om_ _ hx)]
     rfl
    rw [WM hst,ih _ om_ hx]
    conv=>rhs; unfold XJ
    rw [hb]; rfl
 unfold Kl
 rw [A1 b (big _ om_ _ h2),A1 a (big _ om_ _ ha)]
 simp only [ob_]
 rw [Zab h1 h2,key k a hk ha]
 rfl
theorem Zos (a m d : Nat) (hd : d ≤ 15) (ha : a < 2 ^ 16) (hm : m < 2 ^ 20) : Qc (a : Int) (m : Int) (d : Int) = some ((XJ m d (16 - d) a : Nat) : Int):=by
 have key : ∀ (k a : Nat),d + k ≤ 16 → a < 2 ^ 40 → ZK (WS (m : Int) (d : Int)) ((a : Int),((d + k : Nat) : Int) - 1) = some ((XJ m d k a : Nat) : Int):=by
  intro k
  induction k with
  | zero =>
   intro a _ _
   rw [We (t:=(a : Int))]
   ·rfl
   ·unfold WS
    have : ¬ (((d + 0 : Nat) : Int) - 1 ≥ (d : Int)):=by omega
    simp only [this,decide_false,bf_,if_false]
  | succ k ih =>
   intro a hk ha
   have e0 : ((d + (k + 1) : Nat) : Int) - 1 = ((d + k : Nat) : Int):=by omega
   have hsh : m <<< k < 2 ^ (20 + k):=Au hm
   have hsh2 : m <<< k < 2 ^ 40:=Nat.lt_of_lt_of_le hsh (Nat.pow_le_pow_right om_ om_)
   have hst : WS (m : Int) (d : Int) ((a : Int),((d + (k + 1) : Nat) : Int) - 1) = some (.nx (((if a.testBit (d + k) then a ^^^ (m <<< k) else a : Nat) : Int),((d + k : Nat) : Int) - 1)):=by
    rw [e0]
    unfold WS
    have c1 : ((d + k : Nat) : Int) ≥ (d : Int):=by omega
    have c2 : XM ((d + k : Nat) : Int) = some ():=by unfold XM; rw [if_pos om_]
    have c3 : wr (((d + k : Nat) : Int) - (d : Int)) = ((k : Nat) : Int):=by rw [show ((d + k : Nat) : Int) - (d : Int) = ((k : Nat) : Int) by omega,Zdx _ om_]
    have c4 : XM ((k : Nat) : Int) = some ():=by unfold XM; rw [if_pos om_]
    have c5 : wr (((d + k : Nat) : Int) - 1) = ((d + k : Nat) : Int) - 1:=YY om_
    simp only [c1,decide_true,if_true,c2,c3,c4,c5,ob_]
    have c6 : Zin (Qp (a : Int) ((d + k : Nat) : Int)) 1 = (((a >>> (d + k)) &&& 1 : Nat) : Int):=by
     rw [Zhz a (d + k) om_]
     exact Zo4 _ 1 (Nat.lt_of_le_of_lt (Nat.shiftRight_le _ _) om_) om_
    rw [c6,zf m k om_ om_,B7 a _ om_ om_]
    cases hb : a.testBit (d + k) with
    | true =>
     have:=(Zfr a (d + k)).2 hb
     rw [this]; rfl
    | false =>
     have : ¬ ((a >>> (d + k)) &&& 1 = 1):=λh=>by rw [(Zfr a (d + k)).1 h] at hb; cases hb
     have h2 : (((((a >>> (d + k)) &&& 1 : Nat) : Int)) == 1) = false:=by
      rw [beq_eq_false_iff_ne]; omega
     rw [h2]; rfl
   rw [WM hst,ih _ om_ ?_]
   ·conv=>rhs; unfold XJ
   ·split
    ·exact Nat.xor_lt_two_pow ha hsh2
    ·exact ha
 unfold Qc
 have:=key (16 - d) a om_ om_
 rw [show ((d + (16 - d) : Nat) : Int) - 1 = 15 by omega] at this
 rw [this]; rfl

def jG : Nat → Nat → Nat → Nat
 | 0,_,_=>0
 | n + 1,a,b=>(if b % 2 = 1 then a else 0) ^^^ jG n (a <<< 1) (b / 2)
theorem kF : ∀ (n a : Nat),jG n a 0 = 0
 | 0,_=>rfl
 | n + 1,a=>by simp [jG,kF n]
theorem Zkd : ∀ (n a b p : Nat),a < 2 ^ p → jG n a b < 2 ^ (p + n)
 | 0,_,_,_,_=>by simp [jG]; exact Nat.two_pow_pos _
 | n + 1,a,b,p,h=>by
  unfold jG
  have h1 : a <<< 1 < 2 ^ (p + 1):=Au h
  have h2:=Zkd n (a <<< 1) (b / 2) (p + 1) h1
  rw [show p + 1 + n = p + (n + 1) by omega] at h2
  refine Nat.xor_lt_two_pow ?_ h2
  have h3 : 2 ^ p ≤ 2 ^ (p + (n + 1)):=Nat.pow_le_pow_right om_ om_
  have h4:=Nat.two_pow_pos (p + (n + 1))
  split <;> omega
def prC : Nat → Nat → Nat → Nat
 | 0,_,_=>0
 | i + 1,a,b=>prC i a b ^^^ (if b.testBit i then a <<< i else 0)
theorem Zg9 : ∀ (n a b : Nat),prC (n + 1) a b = (if b % 2 = 1 then a else 0) ^^^ prC n (a <<< 1) (b / 2)
 | 0,a,b=>by
  simp only [prC,Nat.zero_xor,Nat.xor_zero,Nat.shiftLeft_zero]
  have : b.testBit 0 = decide (b % 2 = 1):=by simp [Nat.testBit_zero]
  rw [this]; simp
 | n + 1,a,b=>by
  conv=>lhs; unfold prC
  rw [Zg9 n a b]
  conv=>rhs; unfold prC
  rw [← Nat.xor_assoc]
  congr 1
  rw [Nat.testBit_succ,← Nat.shiftLeft_add,Nat.add_comm 1 n]
theorem Zqf : ∀ (n a b : Nat),prC n a b = jG n a b
 | 0,_,_=>rfl
 | n + 1,a,b=>by rw [Zg9,Zqf n]; rfl
theorem Zjg (a b : Nat) (h : a < 256) : ∀ i,i ≤ 8 → prC i a b < 2 ^ 16
 | 0,_=>by simp [prC]
 | i + 1,hi=>by
  unfold prC
  have h1 : a <<< i < 2 ^ (8 + i):=Au h
  have h2 : 2 ^ (8 + i) ≤ 2 ^ 16:=Nat.pow_le_pow_right om_ om_
  refine Nat.xor_lt_two_pow (Zjg a b h i om_) ?_
  split
  ·omega
  ·omega
def ZE (m : Nat) (a b : UInt8) : UInt8:=Zz ((XJ m 8 8 (jG 8 a.toNat b.toNat) : Nat) : Int)
theorem Uu (m : Nat) (hm : m < 512) (a b : UInt8) : Z5 (m : Int) a b = some (ZE m a b):=by
 have ha : a.toNat < 256:=a.toNat_lt
 have hb : b.toNat < 256:=b.toNat_lt
 have h:=Yr (f:=YT a b) (λi : Nat=>(((prC i a.toNat b.toNat : Nat) : Int),(i : Int))) 0 8 (Nat.zero_le _) (t:=((prC 8 a.toNat b.toNat : Nat) : Int)) (λi _ hi=>by
  unfold YT
  have c1 : ((i : Int) < 8):=by omega
  have c2 : XM (i : Int) = some ():=by unfold XM; rw [if_pos om_]
  have c3 : prC i a.toNat b.toNat < 2 ^ 16:=Zjg _ _ ha i om_
  have c4 : a.toNat <<< i < 2 ^ (8 + i):=Au ha
  have c5 : 2 ^ (8 + i) ≤ 2 ^ 16:=Nat.pow_le_pow_right om_ om_
  have c6 : (((qn b (i : Int)) &&& 1) == 1) = b.toNat.testBit i:=by
   have e1 : (qn b (i : Int)).toNat = b.toNat >>> i:=by
    unfold qn Zz
    rw [show min ((i : Int)).toNat 8 = i by omega,Int.fdiv_eq_ediv_of_nonneg _ (by exact_mod_cast Nat.zero_le _)]
    have : ((b.toNat : Int) / 2 ^ i) = ((b.toNat >>> i : Nat) : Int):=by rw [Nat.shiftRight_eq_div_pow]; simp
    rw [this]
    have h3 : b.toNat >>> i ≤ b.toNat:=Nat.shiftRight_le _ _
    generalize b.toNat >>> i = q at h3 ⊢
    have h4 : (((q : Nat) : Int) % 256).toNat = q:=by omega
    rw [h4]
    simp
    omega
   rw [Bool.eq_iff_iff,beq_iff_eq,← Zfr,← UInt8.toNat_inj,UInt8.toNat_and,e1]
   simp
  simp only [c1,decide_true,if_true,c2,ob_,c6,WN (show i < 9223372036854775807 by omega)]
  rw [zf _ i om_ om_,B7 _ _ om_ om_]
  cases hbit : b.toNat.testBit i with
  | true=>simp [prC,hbit]
  | false=>simp [prC,hbit]) (by unfold YT; simp)
 have h2 : ZK (YT a b) (0,0) = _:=h
 unfold Z5
 rw [h2]
 simp only [ob_]
 have h3:=Zos (prC 8 a.toNat b.toNat) m 8 om_ (Zjg _ _ ha 8 om_) om_
 have h4 : Qc ((prC 8 a.toNat b.toNat : Nat) : Int) (m : Int) 8 = _:=h3
 rw [h4,Zqf]
 rfl
theorem Js (m : Nat) (hm : m < 512) (hm2 : 256 ≤ m) (a b : UInt8) : YO (m : Int) a b = some (ZE m a b):=by
 have ha : a.toNat < 256:=a.toNat_lt
 have hb : b.toNat < 256:=b.toNat_lt
 have h1 : 2 ^ 8 ≤ m:=hm2
 have h2 : m < 2 ^ (8 + 1):=hm
 have hR : ∀ i,i ≤ 8 → XJ m 8 8 (a.toNat <<< i) < 256:=λi hi=>jI h1 h2 8 _ (by
  have:=Au (k:=i) (show a.toNat < 2 ^ 8 from ha)
  exact Nat.lt_of_lt_of_le this (Nat.pow_le_pow_right om_ om_))
 have hdbl : ∀ i,i ≤ 7 → XJ m 8 8 (a.toNat <<< (i + 1)) = if 256 ≤ (XJ m 8 8 (a.toNat <<< i)) * 2 then (XJ m 8 8 (a.toNat <<< i)) * 2 ^^^ m else (XJ m 8 8 (a.toNat <<< i)) * 2:=by
  intro i hi
  have hx : a.toNat <<< i < 2 ^ (8 + 7):=Nat.lt_of_lt_of_le (Au (show a.toNat < 2 ^ 8 from ha)) (Nat.pow_le_pow_right om_ om_)
  have e : a.toNat <<< (i + 1) = (a.toNat <<< i) <<< 1:=by rw [← Nat.shiftLeft_add]
  rw [e,Bn m 8 7,← jN hx]
  have hlt:=hR i om_
  generalize XJ m 8 8 (a.toNat <<< i) = y at hlt ⊢
  have e2 : y <<< 1 = y * 2:=by rw [Nat.shiftLeft_eq]
  rw [e2]
  have e3 : (y * 2).testBit 8 = decide (256 ≤ y * 2):=by
   by_cases hy : 256 ≤ y * 2
   ·rw [Zk7 (d:=8) hy om_]; simp [hy]
   ·rw [Nat.testBit_lt_two_pow (by omega : y * 2 < 2 ^ 8)]; simp [hy]
  rw [e3]
  by_cases hy : 256 ≤ y * 2 <;> simp [hy]
 have key : ∀ (n i o r : Nat),i + n ≤ 8 → r < 2 ^ n → o < 256 → ZK (WK (m : Int)) ((o : Int),((XJ m 8 8 (a.toNat <<< i) : Nat) : Int),(r : Int)) = some ((o ^^^ XJ m 8 8 (jG n (a.toNat <<< i) r) : Nat) : Int):=by
  intro n
  induction n with
  | zero =>
   intro i o r _ hr ho
   have : r = 0:=by simpa using hr
   subst this
   rw [We (t:=(o : Int))]
   ·rw [kF,KE 8 0 om_,Nat.xor_zero]
   ·unfold WK; simp
  | succ n ih =>
   intro i o r hi hr ho
   by_cases h0 : r = 0
   ·subst h0
    rw [We (t:=(o : Int))]
    ·rw [kF,KE 8 0 om_,Nat.xor_zero]
    ·unfold WK; simp
   ·have hy:=hR i om_
    have hst : WK (m : Int) ((o : Int),((XJ m 8 8 (a.toNat <<< i) : Nat) : Int),(r : Int)) = some (.nx (((o ^^^ XJ m 8 8 (if r % 2 = 1 then a.toNat <<< i else 0) : Nat) : Int),((XJ m 8 8 (a.toNat <<< (i + 1)) : Nat) : Int),((r / 2 : Nat) : Int))):=by
     rw [hdbl i om_]
     unfold WK
     have c1 : (r : Int) > 0:=by omega
     have hr2 : r < 512:=Nat.lt_of_lt_of_le hr (Nat.le_trans (Nat.pow_le_pow_right om_ (by omega : n + 1 ≤ 9)) om_)
     simp only [c1,decide_true,if_true,Zot,Zkj]
     have e1 : wr (((XJ m 8 8 (a.toNat <<< i) : Nat) : Int) * 2) = (((XJ m 8 8 (a.toNat <<< i)) * 2 : Nat) : Int):=by rw [YY om_]; omega
     have e2 : wr ((r / 2 : Nat) : Int) = ((r / 2 : Nat) : Int):=Zdx _ om_
     rw [e1,e2,B7 _ _ om_ om_,B7 _ _ om_ om_]
     have e3 : ((((r % 2 : Nat) : Int)) == 1) = decide (r % 2 = 1):=by
      rw [Bool.eq_iff_iff,beq_iff_eq,decide_eq_true_eq]; omega
     rw [e3]
     have e4 : decide ((((XJ m 8 8 (a.toNat <<< i)) * 2 : Nat) : Int) ≥ 256) = decide (256 ≤ (XJ m 8 8 (a.toNat <<< i)) * 2):=by rw [decide_eq_decide]; omega
     rw [e4]
     have e5 : XJ m 8 8 0 = 0:=KE 8 0 om_
     by_cases c2 : r % 2 = 1 <;> by_cases c3 : 256 ≤ (XJ m 8 8 (a.toNat <<< i)) * 2 <;> simp only [c2,c3,decide_true,decide_false,bf_,if_true,if_false,ob_,e5,Nat.xor_zero]
    rw [WM hst,ih (i + 1) _ (r / 2) om_ (by rw [Nat.pow_succ] at hr; omega) ?_]
    ·conv=>rhs; unfold jG
     rw [HM,Nat.xor_assoc,Nat.shiftLeft_add]
    ·refine Nat.xor_lt_two_pow (n:=8) ho ?_
     split
     ·exact hR i om_
     ·rw [KE 8 0 om_]; omega
 have:=key 8 0 0 b.toNat om_ hb om_
 rw [Nat.shiftLeft_zero,KE 8 a.toNat ha,Nat.zero_xor] at this
 have h3 : ZK (WK (m : Int)) (0,bI a,bI b) = _:=this
 unfold YO
 rw [h3]
 rfl

def B8 (m : Nat) : Nat → UInt8 → Nat → UInt8 → UInt8
 | 0,_,_,o=>o
 | f + 1,a,k,o=>if k = 0 then o else B8 m f (ZE m a a) (k / 2) (if k % 2 = 1 then ZE m o a else o)
theorem Zhe (m : Nat) (L : UInt8 × Int × UInt8 → Option (Fl (UInt8 × Int × UInt8) UInt8)) (T : UInt8 → UInt8 → Option UInt8) (hT : ∀ a b,T a b = some (ZE m a b))
  (hL : ∀ s,L s = if (decide (s.2.1 > 0)) = true then (((if ((Int.tmod s.2.1 2) == 1) = true then ((T s.2.2 s.1).bind λr=>some r) else (some s.2.2) : Option UInt8).bind λj12=>(T s.1 s.1).bind λr20=>some (r20,j12) : Option (UInt8 × UInt8)).bind λj9=>some (Fl.nx (j9.1,wr (Int.tdiv s.2.1 2),j9.2))) else (some (Fl.ex s.2.2))) :
  ∀ (f k : Nat) (a o : UInt8),k < 2 ^ f → f ≤ 62 → ZK L (a,(k : Int),o) = some (B8 m f a k o):=by
 intro f
 induction f with
 | zero =>
  intro k a o hk _
  have : k = 0:=by simpa using hk
  subst this
  exact We (by rw [hL]; simp [B8])
 | succ f ih =>
  intro k a o hk hf
  by_cases h0 : k = 0
  ·subst h0
   exact We (by rw [hL]; simp [B8])
  ·have hlt : k < 9223372036854775808:=Nat.lt_of_lt_of_le hk (Nat.pow_le_pow_right (by omega : 0 < 2) (by omega : f + 1 ≤ 63))
   have hst : L (a,(k : Int),o) = some (.nx (ZE m a a,((k / 2 : Nat) : Int),if k % 2 = 1 then ZE m o a else o)):=by
    rw [hL]
    have c1 : (k : Int) > 0:=by omega
    have e3 : ((((k % 2 : Nat) : Int)) == 1) = decide (k % 2 = 1):=by
     rw [Bool.eq_iff_iff,beq_iff_eq,decide_eq_true_eq]; omega
    simp only [c1,decide_true,if_true,Zot,Zkj,hT,e3,ob_,Zdx (k / 2) om_]
    by_cases c2 : k % 2 = 1 <;> simp [c2]
   rw [WM hst,ih (k / 2) _ _ (by rw [Nat.pow_succ] at hk; omega) om_]
   conv=>rhs; unfold B8
   rw [if_neg h0]
theorem Zdb (m : Nat) (hm : m < 512) (a : UInt8) (k f : Nat) (hk : k < 2 ^ f) (hf : f ≤ 62) : Vw (m : Int) a (k : Int) = some (B8 m f a k 1):=by
 unfold Vw
 rw [Zhe m (TJ (m : Int)) _ (Uu m hm) (λs=>by unfold TJ; rfl) f k a 1 hk hf]; rfl
theorem Zii (m : Nat) (hm : m < 512) (hm2 : 256 ≤ m) (a : UInt8) (k f : Nat) (hk : k < 2 ^ f) (hf : f ≤ 62) : U5 (m : Int) a (k : Int) = some (B8 m f a k 1):=by
 unfold U5
 rw [Zhe m (KJ (m : Int)) _ (Js m hm hm2) (λs=>by unfold KJ; rfl) f k a 1 hk hf]; rfl
def TH (m : Nat) (a : UInt8) : UInt8:=B8 m 8 a 254 1
theorem Hk (m : Nat) (hm : m < 512) (a : UInt8) : Y3 (m : Int) a = some (TH m a):=by
 unfold Y3
 have:=Zdb m hm a 254 8 om_ om_
 have h2 : Vw (m : Int) a 254 = _:=this
 rw [h2]; rfl
theorem Zia (m : Nat) (hm : m < 512) (hm2 : 256 ≤ m) (a : UInt8) : Un (m : Int) a = some (TH m a):=by
 unfold Un
 have:=Zii m hm hm2 a 254 8 om_ om_
 have h2 : U5 (m : Int) a 254 = _:=this
 rw [h2]; rfl

def yV (m d : Nat) : Bool:=XJ d (BK d - 1) (16 - (BK d - 1)) m == 0
def Yl (m : Int) : Bool:=decide (256 ≤ m ∧ m ≤ 511) && !((List.range' 2 30).any (yV m.toNat))
theorem Zcw (m : Int) : Td m = some (Yl m):=by
 unfold Td Yl
 rw [Zln]
 by_cases hm : 256 ≤ m ∧ m ≤ 511
 ·obtain ⟨n,rfl⟩:=Int.eq_ofNat_of_zero_le (show 0 ≤ m by omega)
  have hn : n < 512:=by omega
  have h:=zF (f:=UJ (n : Int)) 32 (yV n) false om_ 2 om_ (λd h2 hd=>by
   unfold UJ
   have c1 : (d : Int) < 32:=by omega
   have hp : ∃ p,p ≤ 4 ∧ 2 ^ p ≤ d ∧ d < 2 ^ (p + 1):=by
    refine ⟨d.log2,?_,Nat.log2_self_le om_,Nat.lt_log2_self⟩
    have:=(Nat.log2_lt (n:=d) om_).2 (show d < 2 ^ 5 by omega)
    omega
   obtain ⟨p,h3,h4,h5⟩:=hp
   have hl:=Zab h4 h5
   rw [Zne n d p (16 - p) om_ om_ h4 h5 (by rw [show p + (16 - p) = 16 by omega]; omega)]
   simp only [c1,decide_true,if_true,ob_]
   unfold yV
   rw [hl,show p + 1 - 1 = p by omega]
   generalize XJ d p (16 - p) n = q
   have : ((((q : Nat) : Int)) == 0) = (q == 0):=by rw [Bool.eq_iff_iff,beq_iff_eq,beq_iff_eq]; omega
   rw [this]
   cases q == 0 <;> simp) (by unfold UJ; simp)
  have h2 : ZK (UJ (n : Int)) 2 = _:=h
  rw [h2]
  simp only [hm,decide_true,and_self,Bool.not_true,bf_,if_false,ob_,Bool.true_and,tn_]
  cases (List.range' 2 30).any (yV n) <;> rfl
 simp [hm]
theorem jL (m : Int) : UN m = some (Yl m):=by
 unfold UN Yl
 rw [TZ]
 by_cases hm : 256 ≤ m ∧ m ≤ 511
 ·obtain ⟨n,rfl⟩:=Int.eq_ofNat_of_zero_le (show 0 ≤ m by omega)
  have hn : n < 512:=by omega
  have inner : ∀ p : Nat,p ≤ 4 → ZK (U4 (n : Int) (p : Int)) ((2 ^ p : Nat) : Int) = some (if (List.range' (2 ^ p) (2 ^ p)).any (yV n) then Fl.ex false else Fl.nx ()):=by
   intro p hp
   have c2 : XM (p : Int) = some ():=by unfold XM; rw [if_pos om_]
   have hpow : 2 ^ p ≤ 2 ^ 4:=Nat.pow_le_pow_right om_ hp
   have hpp:=Nat.two_pow_pos p
   have c3 : BJ 2 (p : Int) = ((2 ^ (p + 1) : Nat) : Int):=by
    have:=zf 2 p om_ (by rw [Nat.shiftLeft_eq]; omega)
    rw [Nat.shiftLeft_eq] at this
    rw [show (2 : Int) = ((2 : Nat) : Int) from rfl,this,Nat.pow_succ,Nat.mul_comm]
   have h:=zF (f:=U4 (n : Int) (p : Int)) (2 ^ (p + 1)) (yV n) false (by rw [Nat.pow_succ]; omega) (2 ^ p) (by rw [Nat.pow_succ]; omega) (λd h4 h5=>by
    unfold U4
    have c1 : (d : Int) < ((2 ^ (p + 1) : Nat) : Int):=by omega
    have hd : d < 32:=by rw [Nat.pow_succ] at h5; omega
    have hl:=Zab h4 h5
    rw [c2,c3,Zos n d p om_ om_ om_]
    simp only [c1,decide_true,if_true,ob_]
    unfold yV
    rw [hl,show p + 1 - 1 = p by omega]
    generalize XJ d p (16 - p) n = q
    have : ((((q : Nat) : Int)) == 0) = (q == 0):=by rw [Bool.eq_iff_iff,beq_iff_eq,beq_iff_eq]; omega
    rw [this]
    cases q == 0 <;> simp) (by
     unfold U4
     rw [c2,c3]; simp)
   rw [show 2 ^ (p + 1) - 2 ^ p = 2 ^ p by rw [Nat.pow_succ]; omega] at h
   exact h
  have h:=zF (f:=U3 (n : Int)) 5 (λp=>(List.range' (2 ^ p) (2 ^ p)).any (yV n)) false om_ 1 om_ (λp _ hp=>by
   unfold U3
   have c1 : (p : Int) ≤ 4:=by omega
   have c2 : XM (p : Int) = some ():=by unfold XM; rw [if_pos om_]
   have c3 : BJ 1 (p : Int) = ((2 ^ p : Nat) : Int):=by
    have hpow : 2 ^ p ≤ 2 ^ 4:=Nat.pow_le_pow_right om_ om_
    have:=zf 1 p om_ (by rw [Nat.shiftLeft_eq]; omega)
    rw [Nat.shiftLeft_eq,Nat.one_mul] at this
    exact this
   rw [c2,c3,inner p om_]
   simp only [c1,decide_true,if_true,ob_]
   cases (List.range' (2 ^ p) (2 ^ p)).any (yV n) <;> rfl) (by unfold U3; simp)
  have h2 : ZK (U3 (n : Int)) 1 = _:=h
  rw [h2]
  have e : ((List.range' 1 (5 - 1)).any λp=>(List.range' (2 ^ p) (2 ^ p)).any (yV n)) = (List.range' 2 30).any (yV n):=by
   have e1 : List.range' 2 30 = List.range' 2 2 ++ (List.range' 4 4 ++ (List.range' 8 8 ++ List.range' 16 16)):=by decide
   have e2 : List.range' 1 (5 - 1) = [1,2,3,4]:=by decide
   rw [e1,e2]
   simp only [List.any_append,List.any_cons,List.any_nil,Bool.or_false,Nat.reducePow]
  rw [e]
  simp only [hm,decide_true,and_self,Bool.not_true,bf_,if_false,ob_,Bool.true_and,tn_]
  cases (List.range' 2 30).any (yV n) <;> rfl
 simp [hm]
theorem Ut {m : Int} (h : Yl m = true) : ∃ n : Nat,m = n ∧ 256 ≤ n ∧ n < 512:=by
 unfold Yl at h
 simp only [Bool.and_eq_true,decide_eq_true_eq] at h
 exact ⟨m.toNat,by omega,by omega,by omega⟩
def Qw (s : GShare) : Bool:=s.Place != 0 && decide (s.Data.length ≤ 100)
theorem Zl5 (s : GShare) : Ky s = some (Qw s):=by
 unfold Ky Qw
 cases h : s.Place != 0 <;> simp <;> omega

def UZ (l : List UInt8) : Bool:=decide l.Nodup
theorem Zeu (l : List UInt8) : ((List.range' 0 (l.length - 0)).any λi=>(List.range' 0 (i - 0)).any λk=>l[i]? == l[k]?) = !UZ l:=by
 rw [Bool.eq_iff_iff,QR]
 rw [UZ,Bool.not_eq_true',decide_eq_false_iff_not]
 unfold List.Nodup
 rw [List.pairwise_iff_getElem]
 simp only [QR,beq_iff_eq]
 constructor
 ·rintro ⟨i,_,hi,k,_,hk,h⟩ hn
  have hk' : k < l.length:=by omega
  rw [ge_ hi,ge_ hk'] at h
  exact hn k i hk' hi hk (by simpa using h.symm)
 intro h
 simp only [Classical.not_forall,ne_eq,Decidable.not_not] at h
 obtain ⟨k,i,hk,hi,hki,h⟩:=h
 exact ⟨i,Nat.zero_le _,hi,k,Nat.zero_le _,hki,by rw [ge_ hi,ge_ hk,h]⟩
theorem Zi3 (l : List GShare) (h : l.length ≤ 140737488355327) : QJ l = some (l.map (·.Place)):=by
 unfold QJ
 have:=Zg8 (f:=TW l) l (·.Place) (t:=l.map (·.Place)) om_ (λi hi=>by
  unfold TW
  simp only [Int.ofNat_lt,hi,decide_true,if_true,Yx,ge_ hi,ob_]
  rw [Xm os_]
  simp) (by unfold TW; simp)
 rw [this]; rfl

def Za8 (l : List GShare) : Bool:=l.all λs=>s.Data.length == (l.headD default).Data.length
def JE (l : List GShare) : Int :=
 if !(l.all Qw) then 1 else if !(UZ (l.map (·.Place))) then 1 else if l.length < 1 ∨ 12 < l.length then 2 else if !Za8 l then 2 else 0
theorem z7 (l : List GShare) : Wv l = some (l.length : Int):=rfl
theorem Ay (l : List GShare) (p : GShare → Option Bool) (q : GShare → Bool) (hl : l.length < 9223372036854775807) (hp : ∀ x ∈ l,p x = some (q x)) : Yd l p = some (l.any q):=by
 unfold Yd Xb
 rw [zH l p q _ (λs=>by unfold XP; rfl) hl hp]
 simp only [ob_,Zbs]
theorem zY (l : List UInt8) (c : UInt8) : decide (indexByte l c ≥ 0) = l.contains c:=by
 induction l with
 | nil=>rfl
 | cons b l ih =>
  have hge:=Lib.indexByte_ge l c
  show decide (Lib.indexByte (b :: l) c ≥ 0) = _
  unfold Lib.indexByte
  rw [List.contains_cons,← ih]
  by_cases hb : b = c
  ·subst hb; simp
  ·have hb' : (c == b) = false:=by simpa using λh=>hb h.symm
   simp only [beq_eq_false_iff_ne.2 hb,hb',bf_,if_false,Bool.false_or]
   rw [decide_eq_decide]
   show _ ↔ Lib.indexByte l c ≥ 0
   by_cases h1 : Lib.indexByte l c = -1
   ·simp [h1]
   ·rw [if_neg (by simpa using h1)]; omega
theorem HX (l : List UInt8) (h : l.length < 9223372036854775807) : Wh l = some (UZ l):=by
 unfold Wh
 have:=Za7 (f:=WH l) l.length (λi=>(l.take i).any λx=>l[i]? == some x) false h (λi hi=>by
  unfold WH
  have e1 : slc l (0 : Int) (i : Int) = some (l.take i):=by have:=KW (l:=l) (i:=0) (j:=i) (Nat.zero_le _) om_; simpa using this
  simp only [Int.ofNat_lt,hi,decide_true,if_true,Yx,ge_ hi,ob_,e1]
  unfold V5
  simp only [ob_,zY]
  have e2 : (l.take i).contains l[i] = (l.take i).any λx=>some l[i] == some x:=by
   rw [Bool.eq_iff_iff]; simp [List.any_eq_true]
  rw [e2]
  split <;> rfl) (by unfold WH; simp) 0 (Nat.zero_le _)
 have h3 : ZK (WH l) 0 = _:=this
 have key : ((List.range' 0 (l.length - 0)).any λi=>(l.take i).any λx=>l[i]? == some x) = !UZ l:=by
  rw [← Zeu,Bool.eq_iff_iff,QR,QR]
  refine exists_congr λi=>and_congr_right λ_=>and_congr_right λhi=>?_
  rw [QR,List.any_eq_true]
  constructor
  ·rintro ⟨x,hx,h⟩
   obtain ⟨k,hk,rfl⟩:=List.mem_iff_getElem.1 hx
   have hk2 : k < i ∧ k < l.length:=by simp at hk; omega
   exact ⟨k,Nat.zero_le _,hk2.1,by rw [ge_ hk2.2]; simpa using h⟩
  ·rintro ⟨k,_,hk,h⟩
   have hkl : k < l.length:=by omega
   refine ⟨l[k],List.mem_iff_getElem.2 ⟨k,by simp; omega,by simp⟩,?_⟩
   rw [ge_ hkl] at h; exact h
 rw [h3,key]
 cases UZ l <;> simp [Fl.el]
theorem Zjr (l : List GShare) (h0 : 0 < l.length) (s : GShare) : UB s l = some (s.Data.length != (l.headD default).Data.length):=by
 unfold UB
 have e3 : (l.headD default) = l[0]:=by cases l with | nil=>simp at h0 | cons x l=>rfl
 simp only [Zar,ge_ h0,ob_,e3]
 congr 1
 rw [Bool.eq_iff_iff]
 simp only [bne_iff_ne,ne_eq]
 omega
theorem Zl7 (l : List GShare) (h : l.length < 9223372036854775807) : Kg l = some (Za8 l):=by
 unfold Kg
 rw [Ay l _ (λs=>s.Data.length != (l.headD default).Data.length) h (λx hx=>Zjr l (List.length_pos_of_mem hx) x)]
 simp only [ob_,Za8,List.any_eq_not_all_not]
 simp [bne]
theorem Zdz {α : Type} {l : List α} (h : l.Nodup) {i j : Nat} (hi : i < l.length) (hj : j < l.length) (e : l[i] = l[j]) : i = j:=by
 unfold List.Nodup at h
 rw [List.pairwise_iff_getElem] at h
 rcases Nat.lt_trichotomy i j with h1 | h1 | h1
 ·exact absurd e (h i j hi hj h1)
 ·exact h1
 exact absurd e.symm (h j i hj hi h1)
def HF (l : List UInt8) : Bool:=!l.contains 0 && UZ l
theorem Zc9 (l : List UInt8) (h : l.length < 9223372036854775807) : UP l = some (HF l):=by
 unfold UP V5
 rw [HX l h]
 have e : decide (indexByte l 0 < 0) = !l.contains 0:=by
  rw [← zY,Bool.eq_iff_iff]; simp
 simp only [ob_,e,HF]
 cases UZ l <;> simp
def dbl (m y : Nat) : Nat:=if (y <<< 1).testBit 8 then (y <<< 1) ^^^ m else y <<< 1
theorem Zhr (a b c d : Nat) : (a ^^^ b) ^^^ (c ^^^ d) = (a ^^^ c) ^^^ (b ^^^ d):=by
 rw [Nat.xor_assoc,Nat.xor_assoc,← Nat.xor_assoc b,← Nat.xor_assoc c,Nat.xor_comm b c]
theorem Zkq (m x y : Nat) : dbl m (x ^^^ y) = dbl m x ^^^ dbl m y:=by
 unfold dbl
 rw [Nat.shiftLeft_xor_distrib,Nat.testBit_xor]
 cases (x <<< 1).testBit 8 <;> cases (y <<< 1).testBit 8 <;> simp only [Bool.xor_false,Bool.false_xor,Bool.xor_self,Bool.xor_true,Bool.not_false,Bool.not_true,bf_,if_true,if_false]
 ·rw [Nat.xor_assoc]
 ·rw [Nat.xor_assoc,Nat.xor_assoc,Nat.xor_comm m]
 rw [Zhr,Nat.xor_self,Nat.xor_zero]
theorem Zbv (m : Nat) : dbl m 0 = 0:=by simp [dbl]
def opP (m : Nat) : Nat → Nat → Nat → Nat
 | 0,_,_=>0
 | n + 1,b,x=>(if b % 2 = 1 then x else 0) ^^^ opP m n (b / 2) (dbl m x)
theorem Zg2 (m n b x : Nat) : opP m (n + 1) b x = (if b % 2 = 1 then x else 0) ^^^ opP m n (b / 2) (dbl m x):=rfl
theorem Zfw (m : Nat) : ∀ (n b x y : Nat),opP m n b (x ^^^ y) = opP m n b x ^^^ opP m n b y
 | 0,_,_,_=>by simp [opP]
 | n + 1,b,x,y=>by
  unfold opP
  rw [Zkq,Zfw m n,Zhr]
  congr 1
  split <;> simp
theorem jp (m : Nat) : ∀ (n b : Nat),opP m n b 0 = 0
 | 0,_=>rfl
 | n + 1,b=>by unfold opP; rw [Zbv,jp m n]; simp
theorem Zkk (m : Nat) : ∀ (n b x : Nat),opP m n b (dbl m x) = dbl m (opP m n b x)
 | 0,_,_=>(Zbv m).symm
 | n + 1,b,x=>by
  unfold opP
  rw [Zkk m n,Zkq]
  congr 1
  split
  ·rfl
  ·exact (Zbv m).symm
theorem jk (m : Nat) : ∀ (n b k c x : Nat),opP m n b (opP m k c x) = opP m k c (opP m n b x)
 | 0,_,k,c,_=>(jp m k c).symm
 | n + 1,b,k,c,x=>by
  rw [Zg2,Zg2,← Zkk,jk m n,Zfw]
  congr 1
  split
  ·rfl
  ·exact (jp m k c).symm
theorem Zmi (a : Nat) : (if a % 2 = 1 then 1 else 0) ^^^ (a / 2) <<< 1 = a:=by
 rw [Nat.shiftLeft_eq]
 have h : (if a % 2 = 1 then 1 else 0) = a % 2:=by split <;> omega
 rw [h]
 apply Nat.eq_of_testBit_eq
 intro i
 rw [Nat.testBit_xor]
 cases i with
 | zero =>
  simp [Nat.testBit_zero]
 | succ i =>
  rw [Nat.testBit_succ,Nat.testBit_succ,Nat.testBit_succ]
  have h1 : a % 2 / 2 = 0:=by omega
  have h2 : a / 2 * 2 ^ 1 / 2 = a / 2:=by omega
  rw [h1,h2]; simp
theorem Zqu (m i : Nat) (hi : i < 7) : dbl m (1 <<< i) = 1 <<< (i + 1):=by
 unfold dbl
 rw [← Nat.shiftLeft_add]
 have : (1 <<< (i + 1)).testBit 8 = false:=by
  apply Nat.testBit_lt_two_pow
  rw [Nat.shiftLeft_eq,Nat.one_mul]
  exact Nat.pow_lt_pow_right om_ om_
 rw [this]; rfl
theorem zI (m : Nat) : ∀ (n i a : Nat), n + i ≤ 8 → a < 2 ^ n → opP m n a (1 <<< i) = a <<< i
  | 0, i, a, _, ha => by
    have : a = 0 := by simpa using ha
    subst this; simp [opP]
  | n + 1, i, a, hn, ha => by
    have e : a <<< i = (if a % 2 = 1 then 1 <<< i else 0) ^^^ (a / 2) <<< (i + 1) := by
      conv => lhs; rw [← Zmi a]
      rw [Nat.shiftLeft_xor_distrib, ← Nat.shiftLeft_add, Nat.add_comm 1 i]
      congr 1
      split <;> simp
    unfold opP
    rw [e]
    congr 1
    rcases Nat.eq_zero_or_pos n with rfl | hp
    · have : a / 2 = 0 := by have : a < 2 := by simpa using ha
                             omega
      rw [this]; simp [opP]
    · rw [Zqu m i om_]
      exact zI m n (i + 1) (a / 2) om_ (by rw [Nat.pow_succ] at ha; omega)

theorem Zms (m x : Nat) (hx : x < 2 ^ 15) : XJ m 8 8 (x <<< 1) = dbl m (XJ m 8 8 x):=by
 rw [Bn m 8 7,← jN (d:=8) (k:=7) hx]; rfl
theorem Zp6 (m : Nat) : ∀ (n i a b : Nat),i + n ≤ 8 → a < 2 ^ 8 → XJ m 8 8 (jG n (a <<< i) b) = opP m n b (XJ m 8 8 (a <<< i))
 | 0,_,_,_,_,_=>by simp [jG,opP,KE 8 0]
 | n + 1,i,a,b,hn,ha=>by
  unfold jG opP
  rw [HM]
  have hx : a <<< i < 2 ^ 15:=Nat.lt_of_lt_of_le (Au ha) (Nat.pow_le_pow_right om_ om_)
  rw [← Zms m _ hx,← Nat.shiftLeft_add,Zp6 m n (i + 1) a (b / 2) om_ ha]
  congr 1
  split
  ·rfl
  ·exact KE 8 0 om_
theorem Vp (m : Nat) (h1 : 256 ≤ m) (h2 : m < 512) (a b : UInt8) : (ZE m a b).toNat = opP m 8 b.toNat a.toNat:=by
 have ha : a.toNat < 2 ^ 8:=a.toNat_lt
 have hr : XJ m 8 8 (jG 8 a.toNat b.toNat) < 256:=jI (d:=8) h1 h2 8 _ (Zkd 8 a.toNat b.toNat 8 ha)
 have e:=Zp6 m 8 0 a.toNat b.toNat om_ ha
 rw [Nat.shiftLeft_zero,KE 8 _ ha] at e
 unfold ZE Zz
 rw [e] at hr ⊢
 generalize opP m 8 b.toNat a.toNat = q at hr ⊢
 have : (((q : Nat) : Int) % 256).toNat = q:=by omega
 rw [this]
 simp
 omega
section
variable {m : Nat} (h1 : 256 ≤ m) (h2 : m < 512)
include h1 h2
theorem Y8 (a b : UInt8) : ZE m a b = ZE m b a:=by
 apply UInt8.toNat_inj.1
 rw [Vp m h1 h2,Vp m h1 h2]
 have ea:=zI m 8 0 a.toNat om_ a.toNat_lt
 have eb:=zI m 8 0 b.toNat om_ b.toNat_lt
 simp only [Nat.shiftLeft_zero] at ea eb
 rw [← ea,jk,eb,ea]
theorem Y4 (a b c : UInt8) : ZE m (ZE m a b) c = ZE m a (ZE m b c):=by
 rw [Y8 h1 h2 a (ZE m b c)]
 apply UInt8.toNat_inj.1
 rw [Vp m h1 h2,Vp m h1 h2,Vp m h1 h2,Vp m h1 h2]
 have ea:=zI m 8 0 a.toNat om_ a.toNat_lt
 have eb:=zI m 8 0 b.toNat om_ b.toNat_lt
 simp only [Nat.shiftLeft_zero] at ea eb
 have e1 : opP m 8 b.toNat a.toNat = opP m 8 a.toNat b.toNat:=by
  conv=>lhs; rw [← ea]
  rw [jk,eb]
 rw [e1,jk]
theorem HO (a b c : UInt8) : ZE m (a ^^^ b) c = ZE m a c ^^^ ZE m b c:=by
 apply UInt8.toNat_inj.1
 rw [UInt8.toNat_xor,Vp m h1 h2,Vp m h1 h2,Vp m h1 h2,UInt8.toNat_xor,Zfw]
theorem Uc (a b c : UInt8) : ZE m a (b ^^^ c) = ZE m a b ^^^ ZE m a c:=by
 rw [Y8 h1 h2,HO h1 h2,Y8 h1 h2 b,Y8 h1 h2 c]
theorem QX (a : UInt8) : ZE m 1 a = a:=by
 apply UInt8.toNat_inj.1
 rw [Vp m h1 h2]
 have ea:=zI m 8 0 a.toNat om_ a.toNat_lt
 simpa using ea
theorem Zj1 (a : UInt8) : ZE m a 1 = a:=by rw [Y8 h1 h2,QX h1 h2]
theorem TE (a : UInt8) : ZE m 0 a = 0:=by
 apply UInt8.toNat_inj.1
 rw [Vp m h1 h2]
 exact jp m 8 _
theorem Bb (a b c d : UInt8) : ZE m (ZE m a b) (ZE m c d) = ZE m (ZE m a c) (ZE m b d):=by
 rw [Y4 h1 h2,Y4 h1 h2,← Y4 h1 h2 b c d,Y8 h1 h2 b c,Y4 h1 h2 c b d]
theorem kE : ∀ (f k : Nat) (a b o p : UInt8),B8 m f (ZE m a b) k (ZE m o p) = ZE m (B8 m f a k o) (B8 m f b k p)
 | 0,_,_,_,_,_=>rfl
 | f + 1,k,a,b,o,p=>by
  unfold B8
  by_cases h : k = 0
  ·simp [h]
  ·rw [if_neg h,if_neg h,if_neg h]
   by_cases hk : k % 2 = 1
   ·rw [if_pos hk,if_pos hk,if_pos hk,Bb h1 h2 a b,Bb h1 h2 o p]
    exact kE f (k / 2) _ _ _ _
   ·rw [if_neg hk,if_neg hk,if_neg hk,Bb h1 h2 a b]
    exact kE f (k / 2) _ _ _ _
theorem Zeg (a b : UInt8) : TH m (ZE m a b) = ZE m (TH m a) (TH m b):=by
 unfold TH
 have:=kE h1 h2 8 254 a b 1 1
 rwa [QX h1 h2] at this
theorem Zla : ∀ (f k : Nat),B8 m f 1 k 1 = 1
 | 0,_=>rfl
 | f + 1,k=>by
  unfold B8
  rw [QX h1 h2]
  split
  ·rfl
  ·split <;> exact Zla f _
theorem Zld : TH m 1 = 1:=Zla h1 h2 8 254

end
def Q9 (m : Nat) (l : List UInt8) (x : UInt8) : UInt8:=l.foldr (λa acc=>ZE m acc x ^^^ a) 0
def vf {α : Type} (n : Nat) (f : Nat → α) : Vector α n:=Vector.ofFn λi=>f i.1
theorem Hr {α : Type} {n i : Nat} (f : Nat → α) (h : i < n) : (vf n f)[i] = f i:=by simp [vf]
theorem J5 {α : Type} {n i : Nat} (f : Nat → α) (h : i < n) : (vf n f)[i]? = some (f i):=by rw [Vector.getElem?_eq_getElem h,Hr f h]
theorem Yh {α : Type} {n i : Nat} (f : Nat → α) (h : i < n) : ZP (vf n f) (i : Int) = some (f i):=by rw [KF,J5 f h]
theorem W2 {α : Type} {n : Nat} {f g : Nat → α} (h : ∀ i,i < n → f i = g i) : vf n f = vf n g:=by
 apply Bm
 intro i hi
 rw [Hr f hi,Hr g hi,h i hi]
theorem Jk {α : Type} {n : Nat} (f : Nat → α) (k : Nat) (x : α) : (vf n f).setIfInBounds k x = vf n (λi=>if i = k then x else f i):=by
 apply Bm
 intro i hi
 rw [Vector.getElem_setIfInBounds,Hr _ hi,Hr _ hi]
 by_cases h : k = i
 ·subst h; simp
 rw [if_neg h,if_neg (λe=>h e.symm)]
theorem JY {α : Type} (n : Nat) (x : α) : Vector.replicate n x = vf n (λ_=>x):=by
 apply Bm
 intro i hi
 rw [Hr _ hi]; simp
theorem Zk3 {α : Type} [Inhabited α] {n : Nat} (v : Vector α n) : v = vf n (λi=>v[i]?.getD default):=by
 apply Bm
 intro i hi
 rw [Hr _ hi,Vector.getElem?_eq_getElem hi]; rfl
abbrev Mat:=V44
def mf (f : Nat → Nat → UInt8) : Mat:=vf 4 λi=>vf 4 (f i)
theorem Vs {f g : Nat → Nat → UInt8} (h : ∀ i,i < 4 → ∀ j,j < 4 → f i j = g i j) : mf f = mf g:=W2 λi hi=>W2 λj hj=>h i hi j hj
theorem VB {i : Nat} (f : Nat → Nat → UInt8) (h : i < 4) : ZP (mf f) (i : Int) = some (vf 4 (f i)):=Yh _ h
theorem Aj (f : Nat → Nat → UInt8) (k : Nat) (g : Nat → UInt8) : (mf f).setIfInBounds k (vf 4 g) = mf (λi j=>if i = k then g j else f i j):=by
 unfold mf
 rw [Jk]
 apply W2
 intro i hi
 by_cases h : i = k
 ·simp [h]
 simp [h]
theorem qP : Vector.replicate 4 (Vector.replicate 4 (0 : UInt8)) = mf (λ_ _=>0):=by rw [JY 4 (0 : UInt8),JY]; rfl
theorem lt4 {i : Nat} (h : i < 4) : decide ((i : Int) < 4) = true:=by simp; omega
theorem lt4' {i : Nat} (h : ¬ i < 4) : decide ((i : Int) < 4) = false:=by simp; omega
theorem wr4 {i : Nat} (h : i < 1000) : wr ((i : Int) + 1) = ((i + 1 : Nat) : Int):=WN om_

def TG (i j : Nat) : UInt8:=if i = j then 1 else 0
theorem Zdw (L : Mat × Int → Option (Fl (Mat × Int) Mat))
  (hL : ∀ s8,L s8 = if (decide (s8.2 < 4)) = true then ((ZP s8.1 s8.2).bind λ(x14 : (Vector UInt8 4))=>(ZP x14 s8.2).bind λ(x17 : UInt8)=>some (Fl.nx ((s8.1.setIfInBounds (s8.2).toNat (x14.setIfInBounds (s8.2).toNat 1)),wr (s8.2 + 1)))) else (some (Fl.ex s8.1))) :
  ZK L (Vector.replicate 4 (Vector.replicate 4 (0 : UInt8)),0) = some (mf TG):=by
 have:=Yr (f:=L) (λi : Nat=>(mf λr c=>if r < i then TG r c else 0,(i : Int))) 0 4 om_ (t:=mf TG) (λi _ hi=>by
  rw [hL]
  simp only [lt4 hi,if_true,VB _ hi,Yh _ hi,ob_,tn_,Jk,Aj,wr4 (show i < 1000 by omega)]
  congr 3
  apply Vs
  intro r hr c hc
  by_cases h1 : r = i
  ·subst h1; simp [TG,eq_comm]
  ·simp only [h1,if_false]
   by_cases h2 : r < i
   ·rw [if_pos h2,if_pos om_]
   ·rw [if_neg h2,if_neg om_]) (by
  rw [hL]
  simp only [lt4' (show ¬ 4 < 4 by omega),bf_,if_false]
  exact congrArg (λz=>some (Fl.ex z)) (Vs λr hr c hc=>by rw [if_pos hr]))
 rw [qP]
 simpa using this
theorem jr : Ts = some (mf TG):=by
 unfold Ts
 rw [Zdw Jn λs=>rfl]; rfl
theorem y9 : Tt = some (mf TG):=by
 unfold Tt
 rw [Zdw Jp λs=>rfl]; rfl

abbrev MF:=Nat → Nat → UInt8
def K8 (f : MF) (k : Nat) : Nat:=((List.range' k (4 - k)).find? λi=>!(f i k == 0)).getD 4
def Kd (f : MF) (i k : Nat) : MF:=λr c=>if r = k then f i c else if r = i then f k c else f r c
def Q4 (m : Nat) (f : MF) (k : Nat) (by_ : UInt8) : MF:=λr c=>if r = k then ZE m (f k c) by_ else f r c
def WP (m : Nat) (f g : MF) (k : Nat) : MF:=λr c=>if r = k then g r c else g r c ^^^ ZE m (f r k) (g k c)
structure Red where
 a : MF
 b : MF
 det : UInt8
def HE (m : Nat) (s : Red) (k : Nat) : Option Red :=
 let i:=K8 s.a k
 if i = 4 then none else
  let f:=Kd s.a i k
  let g:=Kd s.b i k
  let q:=TH m (f k k)
  let f2:=Q4 m f k q
  let g2:=Q4 m g k q
  some ⟨WP m f2 f2 k,WP m f2 g2 k,ZE m s.det (f k k)⟩
def HG (m : Nat) : Nat → Nat → Red → Option Red
 | 0,_,s=>some s
 | n + 1,k,s=>(HE m s k).bind (HG m n (k + 1))
def Ak (m : Nat) (a : MF) : UInt8 × Mat:=match HG m 4 0 ⟨a,TG,1⟩ with
 | some s=>(s.det,mf s.b)
 | none=>(0,mf λ_ _=>0)
theorem Zbr (L : Int → Option (Fl Int Int)) (f : MF) (k : Nat) (hk : k < 4)
  (hL : ∀ s,L s = (if (decide (s < 4)) = true then ((ZP (mf f) s).bind λ(x30 : (Vector UInt8 4))=>(ZP x30 (k : Int)).bind λ(x33 : UInt8)=>some (x33 == 0)) else (some false) : Option (Bool)).bind λ(j25 : Bool)=>if j25 = true then (some (Fl.nx (wr (s + 1)))) else (some (Fl.ex s))) :
  ZK L (k : Int) = some ((K8 f k : Nat) : Int):=by
 have:=HP (f:=L) (λi : Nat=>(i : Int)) (λi=>!(f i k == 0)) (λi=>(i : Int)) (e:=(4 : Int)) 4 (4 - k) k om_ (λi _ hi=>by
  rw [hL]
  simp only [lt4 hi,if_true,VB _ hi,Yh _ hk,ob_]
  cases h : (f i k == 0)
  ·simp
  ·simp [wr4 (show i < 1000 by omega)]) (by rw [hL]; simp)
 rw [this]
 unfold K8
 cases (List.range' k (4 - k)).find? λi=>!(f i k == 0) <;> rfl
theorem Zgm {f : MF} {k : Nat} (h : K8 f k ≠ 4) : K8 f k < 4:=by
 unfold K8 at h ⊢
 cases hf : (List.range' k (4 - k)).find? λi=>!(f i k == 0) with
 | none=>rw [hf] at h; exact absurd rfl h
 | some i =>
  have:=List.mem_range'_1.1 (List.mem_of_find?_eq_some hf)
  simp only [Option.getD_some]
  omega
theorem zM (L : Mat × Mat × Int → Option (Fl (Mat × Mat × Int) (Mat × Mat))) (f g : MF) (k : Nat) (hk : k < 4) (p q : Nat → UInt8)
  (hL : ∀ c,c < 4 → ∀ a b : MF,(∀ r,r ≠ k → a r = f r) → (∀ r,r ≠ k → b r = g r) → a k c = f k c → b k c = g k c → L (mf a,mf b,(c : Int)) = some (Fl.nx ((mf a).setIfInBounds k ((vf 4 (a k)).setIfInBounds c (p c)),(mf b).setIfInBounds k ((vf 4 (b k)).setIfInBounds c (q c)),wr ((c : Int) + 1))))
  (he : ∀ a b : Mat,L (a,b,4) = some (Fl.ex (a,b))) :
  ZK L (mf f,mf g,0) = some (mf (λr c=>if r = k then p c else f r c),mf (λr c=>if r = k then q c else g r c)):=by
 have k1 : (mf λr c=>if r = k then (if c < 4 then p c else f k c) else f r c) = mf λr c=>if r = k then p c else f r c:=Vs λr _ c hc=>by rw [if_pos hc]
 have k2 : (mf λr c=>if r = k then (if c < 4 then q c else g k c) else g r c) = mf λr c=>if r = k then q c else g r c:=Vs λr _ c hc=>by rw [if_pos hc]
 have:=Yr (f:=L) (λi : Nat=>(mf λr c=>if r = k then (if c < i then p c else f k c) else f r c,mf λr c=>if r = k then (if c < i then q c else g k c) else g r c,(i : Int))) 0 4 om_
  (t:=(mf (λr c=>if r = k then p c else f r c),mf (λr c=>if r = k then q c else g r c))) (λi _ hi=>by
  rw [hL i hi _ _ (λr hr=>by funext c; rw [if_neg hr]) (λr hr=>by funext c; rw [if_neg hr]) (by simp) (by simp)]
  simp only [Jk,Aj,wr4 (show i < 1000 by omega)]
  congr 3
  ·apply Vs
   intro r hr c hc
   by_cases h : r = k
   ·simp only [h,if_true]
    by_cases h2 : c = i
    ·subst h2; simp
    ·by_cases h3 : c < i
     ·rw [if_neg h2,if_pos h3,if_pos om_]
     ·rw [if_neg h2,if_neg h3,if_neg om_]
   ·simp only [h,if_false]
  ·congr 1
   apply Vs
   intro r hr c hc
   by_cases h : r = k
   ·simp only [h,if_true]
    by_cases h2 : c = i
    ·subst h2; simp
    ·by_cases h3 : c < i
     ·rw [if_neg h2,if_pos h3,if_pos om_]
     ·rw [if_neg h2,if_neg h3,if_neg om_]
   ·simp only [h,if_false]) (by
  simp only [k1,k2]
  exact he _ _)
 have e1 : mf (λr c=>if r = k then (if c < 0 then p c else f k c) else f r c) = mf f:=Vs λr hr c hc=>by
  by_cases h : r = k
  ·subst h; simp
  ·simp [h]
 have e2 : mf (λr c=>if r = k then (if c < 0 then q c else g k c) else g r c) = mf g:=Vs λr hr c hc=>by
  by_cases h : r = k
  ·subst h; simp
  ·simp [h]
 simp only [e1,e2] at this
 exact this
theorem Zcq {S : Type} (m : Nat) (L : S → Option (Fl S (Fl (Mat × UInt8) (UInt8 × Mat)))) (pk : Red → Nat → S)
  (hstep : ∀ k,k < 4 → ∀ s,L (pk s k) = some (match HE m s k with | none=>.ex (.ex (0,mf λ_ _=>0)) | some s'=>.nx (pk s' (k + 1))))
  (hend : ∀ s,L (pk s 4) = some (.ex (.nx (mf s.b,s.det)))) : ∀ (n k : Nat) (s : Red),k + n = 4 → ZK L (pk s k) = some (match HG m n k s with | some s'=>.nx (mf s'.b,s'.det) | none=>.ex (0,mf λ_ _=>0))
 | 0,k,s,h=>by
  have : k = 4:=by omega
  subst this
  rw [We (hend s)]; rfl
 | n + 1,k,s,h=>by
  have h1:=hstep k om_ s
  unfold HG
  cases hr : HE m s k with
  | none=>rw [hr] at h1; rw [We h1]; rfl
  | some s'=>rw [hr] at h1; rw [WM h1]; exact Zcq m L pk hstep hend n (k + 1) s' om_
theorem Zk4 {i k : Nat} : (((i : Int)) != ((k : Nat) : Int)) = decide (i ≠ k):=by
 by_cases h : i = k
 ·subst h; simp
 have : (i : Int) ≠ (k : Int):=by omega
 simp [h,this]
theorem Zeh (m : Nat) (L : Mat × Mat × Int → Option (Fl (Mat × Mat × Int) (Mat × Mat))) (f g : MF) (k : Nat)
  (hL : ∀ i,i < 4 → ∀ a b : MF,(a i = f i) → (b i = g i) → (a k = f k) → (b k = g k) → L (mf a,mf b,(i : Int)) = some (Fl.nx (mf (λr c=>if r = i then WP m f f k r c else a r c),mf (λr c=>if r = i then WP m f g k r c else b r c),wr ((i : Int) + 1))))
  (he : ∀ a b : Mat,L (a,b,4) = some (Fl.ex (a,b))) : ZK L (mf f,mf g,0) = some (mf (WP m f f k),mf (WP m f g k)):=by
 have ek : ∀ h : MF,WP m f h k k = h k:=λh=>by funext c; simp [WP]
 have k1 : (mf λr c=>if r < 4 then WP m f f k r c else f r c) = mf (WP m f f k):=Vs λr hr c _=>by rw [if_pos hr]
 have k2 : (mf λr c=>if r < 4 then WP m f g k r c else g r c) = mf (WP m f g k):=Vs λr hr c _=>by rw [if_pos hr]
 have:=Yr (f:=L) (λi : Nat=>(mf λr c=>if r < i then WP m f f k r c else f r c,mf λr c=>if r < i then WP m f g k r c else g r c,(i : Int))) 0 4 om_
  (t:=(mf (WP m f f k),mf (WP m f g k))) (λi _ hi=>by
  rw [hL i hi _ _ (by funext c; simp) (by funext c; simp) (by funext c; by_cases h : k < i <;> simp [h,ek]) (by funext c; by_cases h : k < i <;> simp [h,ek])]
  rw [wr4 (show i < 1000 by omega)]
  have e : ∀ (x y : MF),(mf λr c=>if r = i then x r c else if r < i then x r c else y r c) = mf λr c=>if r < i + 1 then x r c else y r c:=λx y=>Vs λr _ c _=>by
   by_cases h1 : r = i
   ·subst h1; simp
   ·by_cases h2 : r < i
    ·rw [if_neg h1,if_pos h2,if_pos om_]
    ·rw [if_neg h1,if_neg h2,if_neg om_]
  rw [e,e]) (by
  simp only [k1,k2]
  exact he _ _)
 simpa using this

theorem Zhh (f : MF) {i k : Nat} : ((mf f).setIfInBounds i (vf 4 (f k))).setIfInBounds k (vf 4 (f i)) = mf (Kd f i k):=by
 rw [Aj,Aj]; rfl
section
variable (m : Nat) (hm : m < 512) (hm2 : 256 ≤ m)
include hm
theorem Zjc (A B : Mat) (det : UInt8) (q : UInt8) (f g : MF) (k : Nat) (hk : k < 4) : ZK (VO (m : Int) (A,B,(k : Int),det) q) (mf f,mf g,0) = some (mf (Q4 m f k q),mf (Q4 m g k q)):=by
 refine zM _ f g k hk (λc=>ZE m (f k c) q) (λc=>ZE m (g k c) q) (λc hc a b _ _ ha hb=>?_) (λa b=>?_)
 ·unfold VO
  simp only [lt4 hc,if_true,VB _ hk,Yh _ hc,ob_,Uu m hm,ha,hb,tn_]
 unfold VO; simp
theorem Zog (A B : Mat) (det : UInt8) (s1 : Mat × Mat × Int) (x : UInt8) (f g : MF) (k i : Nat) (hk : k < 4) (hi : i < 4) (hik : i ≠ k) (hs : s1.2.2 = (i : Int)) :
  ZK (VJ (m : Int) (A,B,(k : Int),det) s1 x) (mf f,mf g,0) = some (mf (λr c=>if r = i then f i c ^^^ ZE m x (f k c) else f r c),mf (λr c=>if r = i then g i c ^^^ ZE m x (g k c) else g r c)):=by
 refine zM _ f g i hi (λc=>f i c ^^^ ZE m x (f k c)) (λc=>g i c ^^^ ZE m x (g k c)) (λc hc a b ha' hb' ha hb=>?_) (λa b=>?_)
 ·unfold VJ
  have e1:=ha' k (Ne.symm hik)
  have e2:=hb' k (Ne.symm hik)
  simp only [hs,lt4 hc,if_true,VB _ hk,VB _ hi,Yh _ hc,ob_,Uu m hm,ha,hb,e1,e2,tn_]
 unfold VJ; simp
include hm2
theorem Zm2 (A B : Mat) (det : UInt8) (f g : MF) (k : Nat) (hk : k < 4) : ZK (VF (m : Int) (A,B,(k : Int),det)) (mf f,mf g,0) = some (mf (WP m f f k),mf (WP m f g k)):=by
 refine Zeh m _ f g k (λi hi a b hai hbi hak hbk=>?_) (λa b=>by unfold VF; simp)
 unfold VF
 have hfi : a i k = f i k:=by rw [hai]
 simp only [lt4 hi,if_true,VB _ hi,Yh _ hk,ob_,Zk4,hfi]
 by_cases h : i = k
 ·subst h
  simp only [ne_eq,not_true_eq_false,decide_false,bf_,if_false,ob_]
  congr 3
  ·exact Vs λr _ c _=>by
    by_cases h : r = i
    ·subst h; simp [WP,hai]
    ·simp [h]
  congr 1
  exact Vs λr _ c _=>by
   by_cases h : r = i
   ·subst h; simp [WP,hbi]
   ·simp [h]
 have hd : decide (i ≠ k) = true:=by simpa using h
 simp only [hd,if_true,ob_]
 by_cases h0 : f i k = 0
 ·simp only [h0,bne_self_eq_false,bf_,if_false,ob_]
  congr 3
  ·exact Vs λr _ c _=>by
    by_cases h2 : r = i
    ·subst h2; simp [WP,hai,h,h0,TE hm2 hm]
    ·simp [h2]
  congr 1
  exact Vs λr _ c _=>by
   by_cases h2 : r = i
   ·subst h2; simp [WP,hbi,h,h0,TE hm2 hm]
   ·simp [h2]
 have hb0 : (f i k != 0) = true:=by simpa using h0
 simp only [hb0,if_true,ob_]
 rw [Zog m hm A B det _ _ a b k i hk hi h rfl]
 simp only [ob_]
 congr 3
 ·exact Vs λr _ c _=>by
   by_cases h2 : r = i
   ·subst h2; simp [WP,hai,hak,h]
   ·simp [h2]
 congr 1
 exact Vs λr _ c _=>by
  by_cases h2 : r = i
  ·subst h2; simp [WP,hbi,hbk,h]
  ·simp [h2]
theorem Zmy (k : Nat) (hk : k < 4) (s : Red) : X4 (m : Int) (mf s.a,mf s.b,(k : Int),s.det) = some (match HE m s k with | none=>.ex (.ex (0,mf λ_ _=>0)) | some s'=>.nx (mf s'.a,mf s'.b,((k + 1 : Nat) : Int),s'.det)):=by
 unfold X4
 have hp:=Zbr (Kj (mf s.a,mf s.b,(k : Int),s.det)) s.a k hk (λx=>rfl)
 simp only [lt4 hk,if_true,hp,ob_]
 unfold HE
 by_cases h4 : K8 s.a k = 4
 ·have : ((4 : Nat) : Int) = 4:=rfl
  simp only [h4,this,beq_self_eq_true,if_true,qP]
 have hi:=Zgm h4
 have h5 : (((K8 s.a k : Nat) : Int) == 4) = false:=by
  have : ((K8 s.a k : Nat) : Int) ≠ 4:=by omega
  simpa using this
 generalize hpi : K8 s.a k = i at *
 simp only [h4,h5,bf_,if_false]
 have x1 : ZP ((mf s.a).setIfInBounds i (vf 4 (s.a k))) (k : Int) = some (vf 4 (λc=>if k = i then s.a k c else s.a k c)):=by rw [Aj]; exact VB _ hk
 have x2 : ZP ((mf s.b).setIfInBounds i (vf 4 (s.b k))) (k : Int) = some (vf 4 (λc=>if k = i then s.b k c else s.b k c)):=by rw [Aj]; exact VB _ hk
 simp only [VB _ hk,VB _ hi,ob_,tn_,x1,x2,Zhh,Yh _ hk,Uu m hm,Hk m hm,Zjc m hm _ _ _ _ _ _ k hk,Zm2 m hm hm2 _ _ _ _ _ k hk,wr4 (show k < 1000 by omega)]
theorem Za6 (f : MF) : Wj (m : Int) (mf f) = some (Ak m f):=by
 unfold Wj
 have h:=Zcq m (X4 (m : Int)) (λs k=>(mf s.a,mf s.b,(k : Int),s.det)) (Zmy m hm hm2) (λs=>by unfold X4; simp) 4 0 ⟨f,TG,1⟩ rfl
 have h2 : ZK (X4 (m : Int)) (mf f,mf TG,0,1) = _:=h
 rw [y9,ob_,h2]
 unfold Ak
 cases HG m 4 0 ⟨f,TG,1⟩ <;> rfl
theorem Zj5 (A B : Mat) (det : UInt8) (q : UInt8) (f g : MF) (k : Nat) (hk : k < 4) : ZK (Tj (m : Int) (A,B,det,(k : Int)) q) (mf f,mf g,0) = some (mf (Q4 m f k q),mf (Q4 m g k q)):=by
 refine zM _ f g k hk (λc=>ZE m (f k c) q) (λc=>ZE m (g k c) q) (λc hc a b _ _ ha hb=>?_) (λa b=>?_)
 ·unfold Tj
  simp only [lt4 hc,if_true,VB _ hk,Yh _ hc,ob_,Js m hm hm2,ha,hb,tn_]
 unfold Tj; simp
theorem Zol (A B : Mat) (det : UInt8) (s1 : Mat × Mat × Int) (x : UInt8) (f g : MF) (k i : Nat) (hk : k < 4) (hi : i < 4) (hik : i ≠ k) (hs : s1.2.2 = (i : Int)) :
  ZK (WW (m : Int) (A,B,det,(k : Int)) s1 x) (mf f,mf g,0) = some (mf (λr c=>if r = i then f i c ^^^ ZE m x (f k c) else f r c),mf (λr c=>if r = i then g i c ^^^ ZE m x (g k c) else g r c)):=by
 have hd : decide (i ≠ k) = true:=by simpa using hik
 refine zM _ f g i hi (λc=>f i c ^^^ ZE m x (f k c)) (λc=>g i c ^^^ ZE m x (g k c)) (λc hc a b ha' hb' ha hb=>?_) (λa b=>?_)
 ·unfold WW
  have e1:=ha' k (Ne.symm hik)
  have e2:=hb' k (Ne.symm hik)
  simp only [hs,lt4 hc,if_true,Zk4,hd,VB _ hk,VB _ hi,Yh _ hc,ob_,Js m hm hm2,ha,hb,e1,e2,tn_]
 unfold WW; simp
theorem Zmw (A B : Mat) (det : UInt8) (f g : MF) (k : Nat) (hk : k < 4) : ZK (Tq (m : Int) (A,B,det,(k : Int))) (mf f,mf g,0) = some (mf (WP m f f k),mf (WP m f g k)):=by
 refine Zeh m _ f g k (λi hi a b hai hbi hak hbk=>?_) (λa b=>by unfold Tq; simp)
 unfold Tq
 have hfi : a i k = f i k:=by rw [hai]
 simp only [lt4 hi,if_true,VB _ hi,Yh _ hk,ob_,hfi]
 by_cases h : i = k
 ·subst h
  have h0 : ZK (WW (m : Int) (A,B,det,(i : Int)) (mf a,mf b,(i : Int)) (f i i)) (mf a,mf b,0) = some (mf a,mf b):=by
   refine We ?_
   unfold WW
   simp
  rw [h0]
  simp only [ob_]
  congr 3
  ·exact Vs λr _ c _=>by
    by_cases h : r = i
    ·subst h; simp [WP,hai]
    ·simp [h]
  congr 1
  exact Vs λr _ c _=>by
   by_cases h : r = i
   ·subst h; simp [WP,hbi]
   ·simp [h]
 rw [Zol m hm hm2 A B det _ _ a b k i hk hi h rfl]
 simp only [ob_]
 congr 3
 ·exact Vs λr _ c _=>by
   by_cases h2 : r = i
   ·subst h2; simp [WP,hai,hak,h]
   ·simp [h2]
 congr 1
 exact Vs λr _ c _=>by
  by_cases h2 : r = i
  ·subst h2; simp [WP,hbi,hbk,h]
  ·simp [h2]
theorem Zni (k : Nat) (hk : k < 4) (s : Red) : WU (m : Int) (mf s.a,mf s.b,s.det,(k : Int)) = some (match HE m s k with | none=>.ex (.ex (0,mf λ_ _=>0)) | some s'=>.nx (mf s'.a,mf s'.b,s'.det,((k + 1 : Nat) : Int))):=by
 unfold WU
 have hp:=Zbr (JB (mf s.a,mf s.b,s.det,(k : Int))) s.a k hk (λx=>rfl)
 simp only [lt4 hk,if_true,hp,ob_]
 unfold HE
 by_cases h4 : K8 s.a k = 4
 ·have : ((4 : Nat) : Int) = 4:=rfl
  simp only [h4,this,beq_self_eq_true,if_true,qP]
 have hi:=Zgm h4
 have h5 : (((K8 s.a k : Nat) : Int) == 4) = false:=by
  have : ((K8 s.a k : Nat) : Int) ≠ 4:=by omega
  simpa using this
 generalize hpi : K8 s.a k = i at *
 simp only [h4,h5,bf_,if_false]
 have x1 : ZP ((mf s.a).setIfInBounds i (vf 4 (s.a k))) (k : Int) = some (vf 4 (λc=>if k = i then s.a k c else s.a k c)):=by rw [Aj]; exact VB _ hk
 have x2 : ZP ((mf s.b).setIfInBounds i (vf 4 (s.b k))) (k : Int) = some (vf 4 (λc=>if k = i then s.b k c else s.b k c)):=by rw [Aj]; exact VB _ hk
 simp only [VB _ hk,VB _ hi,ob_,tn_,x1,x2,Zhh,Yh _ hk,Js m hm hm2,Zia m hm hm2,Zj5 m hm hm2 _ _ _ _ _ _ k hk,Zmw m hm hm2 _ _ _ _ _ k hk,wr4 (show k < 1000 by omega)]
theorem Zh3 (f : MF) : T9 (m : Int) (mf f) = some (Ak m f):=by
 unfold T9
 have h:=Zcq m (WU (m : Int)) (λs k=>(mf s.a,mf s.b,s.det,(k : Int))) (Zni m hm hm2) (λs=>by unfold WU; simp) 4 0 ⟨f,TG,1⟩ rfl
 have h2 : ZK (WU (m : Int)) (mf f,mf TG,1,0) = _:=h
 rw [jr,ob_,h2]
 unfold Ak
 cases HG m 4 0 ⟨f,TG,1⟩ <;> rfl
end
def X0 (l : List UInt8) (i b : Nat) : Bool:=(l.take i).any λx=>x.toNat == b
theorem kC (l : List UInt8) {i : Nat} (h : i < l.length) : (λb=>if b = l[i].toNat then true else X0 l i b) = X0 l (i + 1):=by
 funext b
 unfold X0
 rw [List.take_succ_eq_append_getElem h,List.any_append]
 by_cases hb : b = l[i].toNat
 ·subst hb; simp
 have : (l[i].toNat == b) = false:=by simpa using λe=>hb e.symm
 simp [hb,this]
theorem Zig (l : List UInt8) : ((List.range' 0 (l.length - 0)).any λi=>X0 l i (l.getD i 0).toNat) = !UZ l:=by
 rw [← Zeu,Bool.eq_iff_iff,QR,QR]
 refine exists_congr λi=>and_congr_right λ_=>and_congr_right λhi=>?_
 unfold X0
 rw [QR,List.any_eq_true]
 have e0 : l.getD i 0 = l[i]:=by simp [gd_,ge_ hi]
 rw [e0]
 constructor
 ·rintro ⟨x,hx,h⟩
  obtain ⟨k,hk,rfl⟩:=List.mem_iff_getElem.1 hx
  have hk2 : k < i ∧ k < l.length:=by simp at hk; omega
  refine ⟨k,Nat.zero_le _,hk2.1,?_⟩
  rw [ge_ hk2.2,ge_ hi]
  have h' : l[k].toNat = l[i].toNat:=by simpa using h
  simp [UInt8.toNat_inj.1 h']
 rintro ⟨k,_,hk,h⟩
 have hkl : k < l.length:=by omega
 refine ⟨l[k],List.mem_iff_getElem.2 ⟨k,by simp; omega,by simp⟩,?_⟩
 rw [ge_ hkl,ge_ hi] at h
 have : l[i] = l[k]:=by simpa using h
 simp [this]
theorem HN {n i : Nat} (v : Vector UInt8 n) (h : i < n) : ZP v (i : Int) = some (v.toList.getD i 0):=by
 rw [KF,Vector.getElem?_eq_getElem h]
 simp [gd_,h]
theorem VV {n i : Nat} (v : Vector UInt8 n) (h : i < n) : v.toList.getD i 0 = v.toList[i]'(by simpa using h):=by
 simp [gd_,h]
theorem jJ (n : Nat) (f : Nat → Bool) (x : UInt8) (h : x.toNat < n) : ZP (vf n f) (bI x) = some (f x.toNat):=Yh f h
theorem AR (x : UInt8) : (bI x).toNat = x.toNat:=rfl
theorem kH (n : Nat) (l : List UInt8) : Vector.replicate n false = vf n (X0 l 0):=by rw [JY]; rfl

theorem jO : ∀ (k l : List Nat),k.Nodup → (∀ x ∈ k,x ∈ l) → k.length ≤ l.length
 | [],_,_,_=>by simp
 | x :: k,l,h,hs=>by
  have hx:=hs x (by simp)
  obtain ⟨h1,h2⟩:=List.nodup_cons.1 h
  have:=jO k (l.erase x) h2 (λy hy=>by
   have hne : y ≠ x:=λe=>h1 (e ▸ hy)
   exact (List.mem_erase_of_ne hne).2 (hs y (by simp [hy])))
  rw [List.length_erase_of_mem hx] at this
  have hl : 0 < l.length:=List.length_pos_of_mem hx
  simp only [List.length_cons]; omega
theorem Zh5 : ∀ (l : List Nat),¬ l.Nodup → ∃ l' : List Nat,l'.length + 1 = l.length ∧ ∀ x ∈ l,x ∈ l'
 | [],h=>absurd List.nodup_nil h
 | x :: l,h=>by
  by_cases hx : x ∈ l
  ·exact ⟨l,by simp,λy hy=>by rcases List.mem_cons.1 hy with rfl | hy; exact hx; exact hy⟩
  ·have : ¬ l.Nodup:=λhn=>h (List.nodup_cons.2 ⟨hx,hn⟩)
   obtain ⟨l',h1,h2⟩:=Zh5 l this
   exact ⟨x :: l',by simp [h1],λy hy=>by
    rcases List.mem_cons.1 hy with rfl | hy
    ·simp
    ·simp [h2 y hy]⟩
theorem Zam (l : List Nat) (n : Nat) (hl : l.length = n) (hb : ∀ x ∈ l,x < n) : l.Nodup ↔ ∀ b,b < n → b ∈ l:=by
 constructor
 ·intro h b hbn
  refine Classical.byContradiction λhne=>?_
  have:=jO (b :: l) (List.range n) (List.nodup_cons.2 ⟨hne,h⟩) (λx hx=>by
   rcases List.mem_cons.1 hx with rfl | hx
   ·simpa using hbn
   ·simpa using hb x hx)
  simp at this; omega
 intro h
 refine Classical.byContradiction λhne=>?_
 obtain ⟨l',h1,h2⟩:=Zh5 l hne
 have:=jO (List.range n) l' List.nodup_range (λx hx=>h2 x (h x (by simpa using hx)))
 simp at this; omega
theorem kO (l : List UInt8) : (l.map UInt8.toNat).Nodup ↔ l.Nodup:=by
 unfold List.Nodup
 rw [List.pairwise_map]
 constructor <;> intro h <;> refine h.imp ?_
 ·intro a b hab e; exact hab (by rw [e])
 intro a b hab e; exact hab (UInt8.toNat_inj.1 e)

theorem Zr5 (p : V256) : JF p = some (UZ p.toList):=by
 unfold JF
 have hl : p.toList.length = 256:=by simp
 have:=HP (f:=QW p) (λi : Nat=>(vf 256 (X0 p.toList i),(i : Int))) (λi=>X0 p.toList i (p.toList.getD i 0).toNat) (λ_=>Fl.ex false) (e:=Fl.nx ()) 256 256 0 rfl (λi _ hi=>by
  unfold QW
  have hd : decide ((i : Int) < 256) = true:=by simp; omega
  have hx:=HN p hi
  have hs:=jJ 256 (X0 p.toList i) (p.toList.getD i 0) (UInt8.toNat_lt _)
  simp only [hd,if_true,hx,ob_,hs]
  have e:=kC p.toList (i:=i) (by simpa using hi)
  rw [← VV p hi] at e
  cases X0 p.toList i (p.toList.getD i 0).toNat
  ·simp only [bf_,if_false,ob_,AR,Jk,e,WN (show i < 9223372036854775807 by omega)]
  ·rfl) (by unfold QW; simp)
 have h2 : ZK (QW p) (vf 256 (X0 p.toList 0),0) = _:=this
 rw [kH 256 p.toList,h2]
 have h3:=Zig p.toList
 rw [hl] at h3
 cases hf : (List.range' 0 256).find? (λi=>X0 p.toList i (p.toList.getD i 0).toNat) with
 | none =>
  have h4 : ((List.range' 0 (256 - 0)).any λi=>X0 p.toList i (p.toList.getD i 0).toNat) = false:=by rw [List.any_eq_false]; exact List.find?_eq_none.1 hf
  rw [h4] at h3
  have : UZ p.toList = true:=by simpa using h3.symm
  rw [this]; rfl
 | some i =>
  have h4 : ((List.range' 0 (256 - 0)).any λi=>X0 p.toList i (p.toList.getD i 0).toNat) = true:=by rw [List.any_eq_true]; exact ⟨i,List.mem_of_find?_eq_some hf,List.find?_some (p:=λi=>X0 p.toList i (p.toList.getD i 0).toNat) hf⟩
  rw [h4] at h3
  have : UZ p.toList = false:=by simpa using h3.symm
  rw [this]; rfl
theorem Zgs (l : List Bool) (h : l.length < 9223372036854775807) (b : Bool) : XZ l b = some (l.contains b):=by
 unfold XZ VD
 have:=kX (f:=XF l b) l.length (λi=>b == l.getD i false) (λi=>(i : Int)) h (λi hi=>by
  unfold XF
  have e0 : l.getD i false = l[i]:=by simp [gd_,ge_ hi]
  simp only [Int.ofNat_lt,hi,decide_true,if_true,Yx,ge_ hi,ob_,e0]
  cases b == l[i] <;> rfl) (by unfold XF; simp) 0 (Nat.zero_le _)
 have h3 : ZK (XF l b) 0 = _:=this
 rw [h3]
 cases hf : (List.range' 0 (l.length - 0)).find? (λi=>b == l.getD i false) with
 | none =>
  have : l.contains b = false:=by
   rw [List.contains_eq_any_beq,List.any_eq_false]
   intro x hx
   obtain ⟨i,hi,rfl⟩:=List.mem_iff_getElem.1 hx
   have:=List.find?_eq_none.1 hf i (List.mem_range'_1.2 om_)
   simpa [gd_,ge_ hi] using this
  rw [this]; rfl
 | some i =>
  have hi:=List.mem_range'_1.1 (List.mem_of_find?_eq_some hf)
  have hi' : i < l.length:=by omega
  have h4:=List.find?_some hf
  have : l.contains b = true:=by
   rw [List.contains_eq_any_beq,List.any_eq_true]
   exact ⟨l[i],List.getElem_mem hi',by simpa [gd_,ge_ hi'] using h4⟩
  rw [this]
  simp [Fl.el]
theorem qK (p : V256) : VL p = some (UZ p.toList):=by
 unfold VL
 have hl : p.toList.length = 256:=by simp
 have:=Yr (f:=Ws p) (λi : Nat=>(vf 256 (X0 p.toList i),(i : Int))) 0 256 om_ (t:=vf 256 (X0 p.toList 256)) (λi _ hi=>by
  unfold Ws
  have hd : decide ((i : Int) < 256) = true:=by simp; omega
  have hx:=HN p hi
  have hs:=jJ 256 (X0 p.toList i) (p.toList.getD i 0) (UInt8.toNat_lt _)
  have e:=kC p.toList (i:=i) (by simpa using hi)
  rw [← VV p hi] at e
  simp only [hd,if_true,hx,ob_,hs,AR,Jk,e,WN (show i < 9223372036854775807 by omega)]) (by unfold Ws; simp)
 have h2 : ZK (Ws p) (vf 256 (X0 p.toList 0),0) = _:=this
 have e1 : slc (vf 256 (X0 p.toList 256)).toList (0 : Int) (256 : Int) = some (vf 256 (X0 p.toList 256)).toList:=by
  have:=KW (l:=(vf 256 (X0 p.toList 256)).toList) (i:=0) (j:=256) om_ (by simp)
  simp only [List.drop_zero] at this
  rw [List.take_of_length_le (by simp)] at this
  exact this
 rw [kH 256 p.toList,h2]
 have hlt : (vf 256 (X0 p.toList 256)).toList.length < 9223372036854775807:=by rw [Vector.length_toList]; omega
 rw [ob_,e1,ob_,Zgs _ hlt,ob_]
 refine congrArg some ?_
 rw [Bool.eq_iff_iff]
 have hp:=Zam (p.toList.map UInt8.toNat) 256 (by simp) (λx hx=>by obtain ⟨y,_,rfl⟩:=List.mem_map.1 hx; exact UInt8.toNat_lt y)
 rw [kO] at hp
 unfold UZ
 rw [decide_eq_true_iff,hp,Bool.not_eq_true',List.contains_eq_any_beq,List.any_eq_false]
 have hseen : ∀ b,X0 p.toList 256 b = true ↔ b ∈ p.toList.map UInt8.toNat:=λb=>by
  unfold X0
  rw [List.take_of_length_le om_,List.any_eq_true,List.mem_map]
  refine exists_congr λx=>and_congr_right λ_=>?_
  exact beq_iff_eq
 constructor
 ·intro h b hb
  rw [← hseen]
  have e : (vf 256 (X0 p.toList 256)).toList[b]? = some (X0 p.toList 256 b):=by rw [Vector.getElem?_toList]; exact J5 _ hb
  have:=h _ (List.mem_of_getElem? e)
  generalize X0 p.toList 256 b = q at this
  cases q
  ·exact absurd rfl this
  rfl
 intro h x hx
 obtain ⟨b,hb⟩:=List.mem_iff_getElem?.1 hx
 have hb' : b < 256:=by have:=(List.getElem?_eq_some_iff.1 hb).1; rwa [Vector.length_toList] at this
 rw [Vector.getElem?_toList,J5 _ hb',(hseen b).2 (h b hb')] at hb
 cases hb
 decide

def VA (p : V16) : Bool:=p.toList.all (λx=>decide (x < 16)) && UZ p.toList
def JL (l : List UInt8) (i : Nat) : Bool:=decide (16 ≤ (l.getD i 0).toNat)
theorem Zga (p : V16) : TT p = some (VA p):=by
 unfold TT
 have hl : p.toList.length = 16:=by simp
 have:=Za7 (f:=Ua p) 16 (JL p.toList) false om_ (λi hi=>by
  unfold Ua
  have hd : decide ((i : Int) < 16) = true:=by simp; omega
  have hx:=HN p hi
  simp only [hd,if_true,hx,ob_]
  unfold JL
  have : (p.toList.getD i 0 > 15) ↔ (16 ≤ (p.toList.getD i 0).toNat):=by rw [gt_iff_lt,UInt8.lt_iff_toNat_lt]; exact Iff.rfl
  simp only [this]
  split <;> rfl) (by unfold Ua; simp) 0 om_
 have h2 : ZK (Ua p) 0 = _:=this
 have e1 : slc p.toList (0 : Int) (16 : Int) = some p.toList:=by
  have:=KW (l:=p.toList) (i:=0) (j:=16) om_ (by simp)
  simp only [List.drop_zero] at this
  rw [List.take_of_length_le (by simp)] at this
  exact this
 have key : ((List.range' 0 (16 - 0)).any (JL p.toList)) = !(p.toList.all λx=>decide (x < 16)):=by
  rw [Bool.eq_iff_iff,QR,Bool.not_eq_true',List.all_eq_false]
  constructor
  ·rintro ⟨i,_,hi,h⟩
   refine ⟨p.toList[i],List.getElem_mem _,?_⟩
   unfold JL at h
   rw [VV p hi] at h
   simp only [decide_eq_true_eq,UInt8.lt_iff_toNat_lt] at h ⊢
   have : (16 : UInt8).toNat = 16:=rfl
   omega
  ·rintro ⟨x,hx,h⟩
   obtain ⟨i,hi,rfl⟩:=List.mem_iff_getElem.1 hx
   have hi' : i < 16:=by simpa using hi
   refine ⟨i,Nat.zero_le _,hi',?_⟩
   unfold JL
   rw [VV p hi']
   simp only [decide_eq_true_eq,UInt8.lt_iff_toNat_lt] at h ⊢
   have : (16 : UInt8).toNat = 16:=rfl
   omega
 rw [h2,key]
 unfold VA
 cases p.toList.all λx=>decide (x < 16)
 ·rfl
 simp [Fl.el,e1,HX p.toList om_]
theorem Zq7 (p : V16) : ((List.range' 0 (16 - 0)).any (JL p.toList)) = !(p.toList.all λx=>decide (x < 16)):=by
 rw [Bool.eq_iff_iff,QR,Bool.not_eq_true',List.all_eq_false]
 have h16 : (16 : UInt8).toNat = 16:=rfl
 have hl : p.toList.length = 16:=by simp
 constructor
 ·rintro ⟨i,_,hi,h⟩
  refine ⟨p.toList[i],List.getElem_mem _,?_⟩
  unfold JL at h
  rw [VV p hi] at h
  simp only [decide_eq_true_eq,UInt8.lt_iff_toNat_lt] at h ⊢
  omega
 rintro ⟨x,hx,h⟩
 obtain ⟨i,hi,rfl⟩:=List.mem_iff_getElem.1 hx
 have hi' : i < 16:=by simpa using hi
 refine ⟨i,Nat.zero_le _,hi',?_⟩
 unfold JL
 rw [VV p hi']
 simp only [decide_eq_true_eq,UInt8.lt_iff_toNat_lt] at h ⊢
 omega
theorem Zmo (p : V16) : Ko p = some (VA p):=by
 unfold Ko
 have hl : p.toList.length = 16:=by simp
 have h16 : (16 : UInt8).toNat = 16:=rfl
 have:=HP (f:=U7 p) (λi : Nat=>(vf 16 (X0 p.toList i),(i : Int))) (λi=>JL p.toList i || X0 p.toList i (p.toList.getD i 0).toNat) (λ_=>Fl.ex false) (e:=Fl.nx ()) 16 16 0 rfl (λi _ hi=>by
  unfold U7
  have hd : decide ((i : Int) < 16) = true:=by simp; omega
  have hx:=HN p hi
  simp only [hd,if_true,hx,ob_]
  unfold JL
  by_cases hf : 16 ≤ (p.toList.getD i 0).toNat
  ·have h1 : p.toList.getD i 0 ≥ 16:=by rw [ge_iff_le,UInt8.le_iff_toNat_le]; omega
   simp only [h1,decide_true,if_true,hf,Bool.true_or,ob_]
  ·have h1 : ¬ p.toList.getD i 0 ≥ 16:=by rw [ge_iff_le,UInt8.le_iff_toNat_le]; omega
   have hs:=jJ 16 (X0 p.toList i) (p.toList.getD i 0) om_
   have e:=kC p.toList (i:=i) (by simpa using hi)
   rw [← VV p hi] at e
   simp only [h1,decide_false,bf_,if_false,hf,Bool.false_or,ob_,hs]
   cases X0 p.toList i (p.toList.getD i 0).toNat
   ·simp only [bf_,if_false,ob_,AR,Jk,e,WN (show i < 9223372036854775807 by omega)]
   ·rfl) (by unfold U7; simp)
 have h2 : ZK (U7 p) (vf 16 (X0 p.toList 0),0) = _:=this
 rw [kH 16 p.toList,h2]
 have h3:=Zig p.toList
 rw [hl] at h3
 have h5 : ((List.range' 0 (16 - 0)).any λi=>JL p.toList i || X0 p.toList i (p.toList.getD i 0).toNat) = !VA p:=by
  have e : ((List.range' 0 (16 - 0)).any λi=>JL p.toList i || X0 p.toList i (p.toList.getD i 0).toNat) = ((List.range' 0 (16 - 0)).any (JL p.toList) || (List.range' 0 (16 - 0)).any λi=>X0 p.toList i (p.toList.getD i 0).toNat):=by
   induction List.range' 0 (16 - 0) with
   | nil=>rfl
   | cons x l ih=>simp only [List.any_cons,ih]; cases JL p.toList x <;> cases l.any (JL p.toList) <;> simp
  rw [e,Zq7,h3]
  unfold VA
  cases (p.toList.all λx=>decide (x < 16)) <;> cases UZ p.toList <;> rfl
 cases hf : (List.range' 0 16).find? (λi=>JL p.toList i || X0 p.toList i (p.toList.getD i 0).toNat) with
 | none =>
  have h4 : ((List.range' 0 (16 - 0)).any λi=>JL p.toList i || X0 p.toList i (p.toList.getD i 0).toNat) = false:=by rw [List.any_eq_false]; exact List.find?_eq_none.1 hf
  rw [h4] at h5
  have : VA p = true:=by simpa using h5.symm
  rw [this]; rfl
 | some i =>
  have h4 : ((List.range' 0 (16 - 0)).any λi=>JL p.toList i || X0 p.toList i (p.toList.getD i 0).toNat) = true:=by rw [List.any_eq_true]; exact ⟨i,List.mem_of_find?_eq_some hf,List.find?_some (p:=λi=>JL p.toList i || X0 p.toList i (p.toList.getD i 0).toNat) hf⟩
  rw [h4] at h5
  have : VA p = false:=by simpa using h5.symm
  rw [this]; rfl

def Ka (a : Mat) : MF:=λi j=>(a[i]?.getD default)[j]?.getD default
theorem jD (a : Mat) : a = mf (Ka a):=calc a = vf 4 (λi=>a[i]?.getD default):=Zk3 a
  _ = _:=W2 λi _=>Zk3 _
def Zdo (m : Nat) (a : Mat) : UInt8:=(Ak m (Ka a)).1
def jW (m : Nat) (a : Mat) : Mat:=(Ak m (Ka a)).2
def Z6 (c : GCipher) : Bool:=Yl c.Field && UZ c.Box.toList && VA c.Places && decide (1 ≤ c.Rounds ∧ c.Rounds ≤ 20) && (Zdo c.Field.toNat c.Mix != 0)
theorem Zid (m : Nat) (hm : m < 512) (hm2 : 256 ≤ m) (a : Mat) : Wj (m : Int) a = some (Zdo m a,jW m a):=by
 have:=Za6 m hm hm2 (Ka a)
 rw [← jD] at this
 exact this
theorem jz (m : Nat) (hm : m < 512) (hm2 : 256 ≤ m) (a : Mat) : V1 (m : Int) a = some (jW m a,Zdo m a != 0):=by
 have:=Zh3 m hm hm2 (Ka a)
 rw [← jD] at this
 unfold V1
 rw [this]; rfl
theorem Ziu (c : GCipher) : QK c = some (Z6 c):=by
 unfold QK Z6 TK
 rw [jL]
 cases hf : Yl c.Field
 ·rfl
 obtain ⟨m,hm,h1,h2⟩:=Ut hf
 simp only [hm,ob_,if_true,qK,Zid m h2 h1,Zga,TZ,tn_]
 cases UZ c.Box.toList <;> cases (Zdo m c.Mix != 0) <;> cases VA c.Places <;> simp
theorem Zq9 (c : GCipher) : JO c = some (Z6 c):=by
 unfold JO Z6
 rw [Zcw]
 cases hf : Yl c.Field
 ·rfl
 obtain ⟨m,hm,h1,h2⟩:=Ut hf
 simp only [hm,ob_,Bool.not_true,bf_,if_false,Zr5,Zmo,Zln,jz m h2 h1,tn_]
 cases UZ c.Box.toList <;> cases (Zdo m c.Mix != 0) <;> cases VA c.Places <;> cases decide (1 ≤ c.Rounds ∧ c.Rounds ≤ 20) <;> simp
theorem Ao {c : GCipher} (h : Z6 c = true) : ∃ m : Nat,c.Field = m ∧ 256 ≤ m ∧ m < 512:=by
 unfold Z6 at h
 simp only [Bool.and_eq_true] at h
 exact Ut h.1.1.1.1
theorem V4 {n : Nat} (L : Vector UInt8 n × Int → Option (Fl (Vector UInt8 n × Int) (Vector UInt8 n))) (f h : Nat → UInt8) (hn : n < 9223372036854775807) (m : Nat) (hm : m ≤ n) (h0 : ∀ j,j < m → h j = f j)
  (hL : ∀ i,m ≤ i → i < n → ∀ a : Nat → UInt8,(∀ j,j < i → a j = h j) → (∀ j,i ≤ j → a j = f j) → L (vf n a,(i : Int)) = some (.nx ((vf n a).setIfInBounds i (h i),wr ((i : Int) + 1))))
  (he : ∀ v,L (v,(n : Int)) = some (.ex v)) : ZK L (vf n f,(m : Int)) = some (vf n h):=by
 have k1 : (vf n λj=>if j < n then h j else f j) = vf n h:=W2 λj hj=>by rw [if_pos hj]
 have k0 : (vf n λj=>if j < m then h j else f j) = vf n f:=W2 λj hj=>by
  by_cases h1 : j < m
  ·rw [if_pos h1,h0 j h1]
  ·rw [if_neg h1]
 have:=Yr (f:=L) (λi : Nat=>(vf n λj=>if j < i then h j else f j,(i : Int))) m n hm (t:=vf n h) (λi hmi hi=>by
  rw [hL i hmi hi _ (λj hj=>by rw [if_pos hj]) (λj hj=>by rw [if_neg om_]),Jk,WN (show i < 9223372036854775807 by omega)]
  refine congrArg (λz=>some (Fl.nx (z,((i + 1 : Nat) : Int)))) (W2 λj hj=>?_)
  by_cases h1 : j = i
  ·subst h1; simp
  ·by_cases h2 : j < i
   ·rw [if_neg h1,if_pos h2,if_pos om_]
   ·rw [if_neg h1,if_neg h2,if_neg om_]) (by
  simp only [k1]
  exact he _)
 simp only [k0] at this
 exact this
def AB (b : V256) (x : UInt8) : UInt8:=b[x.toNat]'(UInt8.toNat_lt x)
theorem Hz (b : V256) (x : UInt8) : ZP b (bI x) = some (AB b x):=by
 have : ZP b ((x.toNat : Nat) : Int) = _:=KF b x.toNat
 rw [Vector.getElem?_eq_getElem (UInt8.toNat_lt x)] at this
 exact this
abbrev Blk:=V16
def bf (v : Blk) (i : Nat) : UInt8:=v[i]?.getD default
theorem Bp (v : Blk) : v = vf 16 (bf v):=Zk3 v
theorem yR {i : Nat} (h : i < 16) : decide ((i : Int) < 16) = true:=by simp; omega
def Bl (f g : Nat → UInt8) : Nat → UInt8:=λi=>f i ^^^ g i
theorem yX (f g : Nat → UInt8) : Um (vf 16 f) (vf 16 g) = some (vf 16 (Bl f g)):=by
 unfold Um
 have:=V4 (T0 (vf 16 g)) f (Bl f g) om_ 0 om_ (λj hj=>by omega) (λi _ hi a _ ha=>by
  unfold T0
  simp only [yR hi,if_true,Yh _ hi,ob_,tn_,ha i (Nat.le_refl _),Bl]) (λv=>by unfold T0; simp)
 have h2 : ZK (T0 (vf 16 g)) (vf 16 f,0) = _:=this
 rw [h2]; rfl
theorem Tm (f g : Nat → UInt8) : Yz (vf 16 f) (vf 16 g) = some (vf 16 (Bl f g)):=by
 unfold Yz
 have:=V4 (V7 (vf 16 g)) f (Bl f g) om_ 0 om_ (λj hj=>by omega) (λi _ hi a _ ha=>by
  unfold V7
  simp only [yR hi,if_true,Yh _ hi,ob_,tn_,ha i (Nat.le_refl _),Bl]) (λv=>by unfold V7; simp)
 have h2 : ZK (V7 (vf 16 g)) (vf 16 f,0) = _:=this
 rw [h2]; rfl
def BA (b : V256) (f : Nat → UInt8) : Nat → UInt8:=λi=>AB b (f i)
theorem Zit (b : V256) (f : Nat → UInt8) : QI b (vf 16 f) = some (vf 16 (BA b f)):=by
 unfold QI
 have:=V4 (Uz b) f (BA b f) om_ 0 om_ (λj hj=>by omega) (λi _ hi a _ ha=>by
  unfold Uz
  simp only [yR hi,if_true,Yh _ hi,ob_,tn_,ha i (Nat.le_refl _),Hz,BA]) (λv=>by unfold Uz; simp)
 have h2 : ZK (Uz b) (vf 16 f,0) = _:=this
 rw [h2]; rfl
def Jt (p : Blk) (f : Nat → UInt8) : Nat → UInt8:=λi=>f (bf p i).toNat
theorem B6 {p : Blk} (h : VA p = true) {i : Nat} (hi : i < 16) : (bf p i).toNat < 16:=by
 unfold VA at h
 simp only [Bool.and_eq_true,List.all_eq_true,decide_eq_true_eq] at h
 have e : bf p i = p[i]:=by unfold bf; rw [Vector.getElem?_eq_getElem hi]; rfl
 have:=h.1 p[i] (by simp)
 rw [UInt8.lt_iff_toNat_lt] at this
 rw [e]; exact this
theorem zN (p : Blk) {i : Nat} (h : i < 16) : ZP p (i : Int) = some (bf p i):=by
 rw [KF]; unfold bf; rw [Vector.getElem?_eq_getElem h]; rfl
theorem Zav (f : Nat → UInt8) {x : UInt8} (h : x.toNat < 16) : ZP (vf 16 f) (bI x) = some (f x.toNat):=Yh f h
theorem Zlx (p : Blk) (hp : VA p = true) (f : Nat → UInt8) : Kt p (vf 16 f) = some (vf 16 (Jt p f)):=by
 unfold Kt
 have:=V4 (Tb p (vf 16 f)) (λ_=>0) (Jt p f) om_ 0 om_ (λj hj=>by omega) (λi _ hi a _ ha=>by
  unfold Tb
  simp only [yR hi,if_true,Yh _ hi,zN _ hi,ob_,tn_,Zav f (B6 hp hi),Jt]) (λv=>by unfold Tb; simp)
 have h2 : ZK (Tb p (vf 16 f)) (vf 16 (λ_=>0),0) = _:=this
 rw [JY 16 (0 : UInt8),h2]; rfl
theorem v_move (p : Blk) (hp : VA p = true) (f : Nat → UInt8) : X3 p (vf 16 f) = some (vf 16 (Jt p f)):=by
 unfold X3
 have:=V4 (Xe p (vf 16 f)) (λ_=>0) (Jt p f) om_ 0 om_ (λj hj=>by omega) (λi _ hi a _ ha=>by
  unfold Xe
  simp only [yR hi,if_true,Yh _ hi,zN _ hi,ob_,tn_,Zav f (B6 hp hi),Jt]) (λv=>by unfold Xe; simp)
 have h2 : ZK (Xe p (vf 16 f)) (vf 16 (λ_=>0),0) = _:=this
 rw [JY 16 (0 : UInt8),h2]; rfl

def B0 (b : V256) (f : Nat → UInt8) (r : Int) : Nat → UInt8
 | 0=>f 0 ^^^ AB b (f 15 ^^^ Zz r)
 | i + 1=>f (i + 1) ^^^ AB b (B0 b f r i)
theorem Zme (b : V256) (f : Nat → UInt8) (r : Int) : Kq b (vf 16 f) r = some (vf 16 (B0 b f r)) := by
  unfold Kq
  have := V4 (U8 b r) f (B0 b f r) om_ 0 om_ (λj hj => by omega) (λi _ hi a hb ha => by
    unfold U8
    cases i with
    | zero =>
      have e1 : Int.tmod (wr (((0 : Nat) : Int) + 15)) 16 = ((15 : Nat) : Int) := by decide
      simp only [e1, yR hi, if_true, Yh a (show 15 < 16 by omega), ob_]
      have e2 : (((0 : Nat) : Int) == 0) = true := rfl
      simp only [e2, if_true, ob_, Hz, Yh a hi, tn_, ha 0 om_, ha 15 om_, B0]
    | succ i =>
      have e1 : Int.tmod (wr (((i + 1 : Nat) : Int) + 15)) 16 = ((i : Nat) : Int) := by
        rw [YY om_]
        have : (((i + 1 : Nat) : Int) + 15) = ((i + 16 : Nat) : Int) := by omega
        rw [this]
        have : Int.tmod ((i + 16 : Nat) : Int) 16 = (((i + 16) % 16 : Nat) : Int) := rfl
        rw [this]
        omega
      have e2 : (((i + 1 : Nat) : Int) == 0) = false := by have : ((i + 1 : Nat) : Int) ≠ 0 := by omega
                                                           simpa using this
      simp only [e1, e2, yR hi, if_true, Yh a (show i < 16 by omega), ob_, bf_, if_false, Hz, Yh a hi, tn_, ha (i + 1) (Nat.le_refl _), hb i om_, B0]) (λv => by unfold U8; simp)
  have h2 : ZK (U8 b r) (vf 16 f, 0) = _ := this
  rw [h2]; rfl
theorem Zmh (e : Ref Gengine) (f : Nat → UInt8) (r : Int) : Vj e (vf 16 f) r = some (vf 16 (B0 e.v.box f r)):=by
 unfold Vj
 have x0 : ZP (vf 16 f) (0 : Int) = some (f 0):=Yh f (show 0 < 16 by omega)
 have x15 : ZP (vf 16 f) (15 : Int) = some (f 15):=Yh f (show 15 < 16 by omega)
 have z : (0 : Int).toNat = 0:=rfl
 simp only [x0,x15,ob_,Hz,z,Jk]
 have:=V4 (Wb e) (λi=>if i = 0 then f 0 ^^^ AB e.v.box (f 15 ^^^ Zz r) else f i) (B0 e.v.box f r) om_ 1 om_ (λj hj=>by
  have : j = 0:=by omega
  subst this; simp [B0]) (λi h1 hi a hb ha=>by
  unfold Wb
  obtain ⟨i,rfl⟩ : ∃ k,i = k + 1:=⟨i - 1,by omega⟩
  have e1 : wr (((i + 1 : Nat) : Int) - 1) = ((i : Nat) : Int):=by rw [YY om_]; omega
  simp only [e1,yR hi,if_true,Yh a (show i < 16 by omega),Yh a hi,ob_,Hz,tn_,ha (i + 1) (Nat.le_refl _),hb i om_,B0]
  simp) (λv=>by unfold Wb; simp)
 have h2 : ZK (Wb e) (vf 16 (λi=>if i = 0 then f 0 ^^^ AB e.v.box (f 15 ^^^ Zz r) else f i),1) = _:=this
 rw [h2]; rfl
def jA (b : V256) (k : Nat → UInt8) : Nat → Nat → UInt8
 | 0=>k
 | r + 1=>B0 b (jA b k r) ((r + 1 : Nat) : Int)
def WR (b : V256) (k : Nat → UInt8) (n : Nat) : List Blk:=(List.range (n + 1)).map λr=>vf 16 (jA b k r)
theorem Zeo (b : V256) (k : Nat → UInt8) (n : Nat) : WR b k (n + 1) = WR b k n ++ [vf 16 (B0 b (jA b k n) ((n + 1 : Nat) : Int))]:=by
 unfold WR
 rw [List.range_succ,List.map_append]; rfl
theorem B1 (b : V256) (k : Nat → UInt8) (n : Nat) : (WR b k n).length = n + 1:=by simp [WR]
theorem BS (b : V256) (k : Nat → UInt8) {n r : Nat} (h : r ≤ n) : idx (WR b k n) (r : Int) = some (vf 16 (jA b k r)):=by
 rw [Yx]; unfold WR; rw [List.getElem?_map,List.getElem?_range om_]; rfl
theorem Zmu (c : GCipher) (k : Nat → UInt8) (n : Nat) (hn : n ≤ 1000) : Kh c (vf 16 k) (n : Int) = some (WR c.Box k n):=by
 unfold Kh
 have:=Yr (f:=U9 c (n : Int)) (λi : Nat=>(vf 16 (jA c.Box k (i - 1)),WR c.Box k (i - 1),(i : Int))) 1 (n + 1) om_ (t:=WR c.Box k n) (λi h1 hi=>by
  unfold U9
  obtain ⟨i,rfl⟩ : ∃ q,i = q + 1:=⟨i - 1,by omega⟩
  have e1 : decide (((i + 1 : Nat) : Int) ≤ (n : Int)) = true:=by simp; omega
  have e2 : app 16 (WR c.Box k i) [vf 16 (B0 c.Box (jA c.Box k i) ((i + 1 : Nat) : Int))] = _:=Xm (by rw [B1]; simp; omega)
  simp only [Nat.add_sub_cancel,e1,if_true,Zme,ob_,e2,WN (show i + 1 < 9223372036854775807 by omega),Zeo]
  rfl) (by
  unfold U9
  have e1 : decide (((n + 1 : Nat) : Int) ≤ (n : Int)) = false:=by simp; omega
  simp only [e1,bf_,if_false,Nat.add_sub_cancel])
 have h2 : ZK (U9 c (n : Int)) (vf 16 k,[vf 16 k],1) = _:=this
 rw [h2]; rfl
theorem Zo2 (e : Ref Gengine) (k : Nat → UInt8) (n : Nat) (hn : n ≤ 1000) : WA e (vf 16 k) (n : Int) = some (WR e.v.box k n):=by
 unfold WA
 have:=Yr (f:=Vb e (n : Int)) (λi : Nat=>(vf 16 (jA e.v.box k (i - 1)),WR e.v.box k (i - 1),(i : Int))) 1 (n + 1) om_ (t:=WR e.v.box k n) (λi h1 hi=>by
  unfold Vb
  obtain ⟨i,rfl⟩ : ∃ q,i = q + 1:=⟨i - 1,by omega⟩
  have e1 : decide (((i + 1 : Nat) : Int) ≤ (n : Int)) = true:=by simp; omega
  have e2 : app 16 (WR e.v.box k i) [vf 16 (B0 e.v.box (jA e.v.box k i) ((i + 1 : Nat) : Int))] = _:=Xm (by rw [B1]; simp; omega)
  simp only [Nat.add_sub_cancel,e1,if_true,Zmh,ob_,e2,WN (show i + 1 < 9223372036854775807 by omega),Zeo]
  rfl) (by
  unfold Vb
  have e1 : decide (((n + 1 : Nat) : Int) ≤ (n : Int)) = false:=by simp; omega
  simp only [e1,bf_,if_false,Nat.add_sub_cancel])
 have h2 : ZK (Vb e (n : Int)) (vf 16 k,[vf 16 k],1) = _:=this
 rw [h2]; rfl

def rowF (m : Nat) (a : MF) (f : Nat → UInt8) (c r : Nat) : UInt8:=((ZE m (a r 0) (f c) ^^^ ZE m (a r 1) (f (c + 1))) ^^^ ZE m (a r 2) (f (c + 2))) ^^^ ZE m (a r 3) (f (c + 3))
def TA (m : Nat) (a : MF) (f : Nat → UInt8) : Nat → UInt8:=λi=>rowF m a f (i / 4 * 4) (i % 4)
theorem Zqq (f : Nat → UInt8) (k : Nat) (x y : UInt8) : (λi=>if i = k then y else if i = k then x else f i) = λi=>if i = k then y else f i:=by
 funext i; by_cases h : i = k <;> simp [h]
theorem wr_at {c r : Nat} (hc : c < 4) (hr : r < 4) : wr (wr (4 * (c : Int)) + (r : Int)) = ((c * 4 + r : Nat) : Int):=by
 rw [YY (x:=4 * (c : Int)) om_,YY om_]; omega
theorem Zrg (m : Nat) (hm : m < 512) (hm2 : 256 ≤ m) (a : MF) (f g : Nat → UInt8) (c r : Nat) (hc : c < 4) (hr : r < 4) (s1 s2 : Blk × Int) (h1 : s1.2 = (c : Int)) (h2 : s2.2 = (r : Int)) (hg : g (c * 4 + r) = 0) :
  ZK (VU (m : Int) (mf a) (vf 16 f) s1 s2) (vf 16 g,0) = some (vf 16 λi=>if i = c * 4 + r then rowF m a f (c * 4) r else g i):=by
 have hcr : c * 4 + r < 16:=by omega
 have step : ∀ (j : Nat) (h : Nat → UInt8),j < 4 → VU (m : Int) (mf a) (vf 16 f) s1 s2 (vf 16 h,(j : Int)) = some (.nx (vf 16 (λi=>if i = c * 4 + r then h (c * 4 + r) ^^^ ZE m (a r j) (f (c * 4 + j)) else h i),((j + 1 : Nat) : Int))):=λj h hj=>by
  unfold VU
  simp only [h1,h2,lt4 hj,if_true,wr_at hc hr,wr_at hc hj,Yh _ hcr,VB _ hr,Yh _ hj,Yh f (show c * 4 + j < 16 by omega),ob_,Js m hm hm2,tn_,Jk,wr4 (show j < 1000 by omega)]
 have e0:=step 0 g om_
 have e1:=step 1 (λi=>if i = c * 4 + r then g (c * 4 + r) ^^^ ZE m (a r 0) (f (c * 4 + 0)) else g i) om_
 have e2:=step 2 (λi=>if i = c * 4 + r then (g (c * 4 + r) ^^^ ZE m (a r 0) (f (c * 4 + 0))) ^^^ ZE m (a r 1) (f (c * 4 + 1)) else g i) om_
 have e3:=step 3 (λi=>if i = c * 4 + r then ((g (c * 4 + r) ^^^ ZE m (a r 0) (f (c * 4 + 0))) ^^^ ZE m (a r 1) (f (c * 4 + 1))) ^^^ ZE m (a r 2) (f (c * 4 + 2)) else g i) om_
 have e4 : ∀ v : Blk,VU (m : Int) (mf a) (vf 16 f) s1 s2 (v,((4 : Nat) : Int)) = some (.ex v):=λv=>by unfold VU; simp
 simp only [if_true,Zqq] at e1 e2 e3
 have e0' : VU (m : Int) (mf a) (vf 16 f) s1 s2 (vf 16 g,0) = _:=e0
 rw [WM e0',WM e1,WM e2,WM e3,We (e4 _)]
 refine congrArg some (W2 λi _=>?_)
 by_cases h : i = c * 4 + r
 ·simp [h,hg,rowF]
 simp [h]
theorem Zoc (m : Nat) (hm : m < 512) (hm2 : 256 ≤ m) (a : MF) (f : Nat → UInt8) : Jd (m : Int) (mf a) (vf 16 f) = some (vf 16 (TA m a f)):=by
 unfold Jd
 -- after c columns and r rows of the next
 have inner : ∀ c : Nat,c < 4 → ∀ s1 : Blk × Int,s1.2 = (c : Int) → ZK (T8 (m : Int) (mf a) (vf 16 f) s1) (vf 16 (λi=>if i < c * 4 then TA m a f i else 0),0) = some (vf 16 λi=>if i < (c + 1) * 4 then TA m a f i else 0):=λc hc s1 h1=>by
  have k1 : (vf 16 λi=>if i < c * 4 + 4 then TA m a f i else 0) = vf 16 λi=>if i < (c + 1) * 4 then TA m a f i else 0:=by rw [show c * 4 + 4 = (c + 1) * 4 by omega]
  have:=Yr (f:=T8 (m : Int) (mf a) (vf 16 f) s1) (λr : Nat=>(vf 16 λi=>if i < c * 4 + r then TA m a f i else 0,(r : Int))) 0 4 om_ (t:=vf 16 λi=>if i < (c + 1) * 4 then TA m a f i else 0) (λr _ hr=>by
   unfold T8
   have h2:=Zrg m hm hm2 a f (λi=>if i < c * 4 + r then TA m a f i else 0) c r hc hr s1 (vf 16 λi=>if i < c * 4 + r then TA m a f i else 0,(r : Int)) h1 rfl (by simp)
   simp only [lt4 hr,if_true,h2,ob_,wr4 (show r < 1000 by omega)]
   refine congrArg (λz=>some (Fl.nx (z,((r + 1 : Nat) : Int)))) (W2 λi _=>?_)
   by_cases h : i = c * 4 + r
   ·subst h
    have q1 : (c * 4 + r) / 4 = c:=by omega
    have q2 : (c * 4 + r) % 4 = r:=by omega
    rw [if_pos rfl,if_pos om_]
    unfold TA; rw [q1,q2]
   ·by_cases h3 : i < c * 4 + r
    ·rw [if_neg h,if_pos h3,if_pos om_]
    ·rw [if_neg h,if_neg h3,if_neg om_]) (by
   unfold T8
   simp only [k1]
   simp)
  exact this
 have:=Yr (f:=TU (m : Int) (mf a) (vf 16 f)) (λc : Nat=>(vf 16 λi=>if i < c * 4 then TA m a f i else 0,(c : Int))) 0 4 om_ (t:=vf 16 (TA m a f)) (λc _ hc=>by
  unfold TU
  have h2:=inner c hc (vf 16 λi=>if i < c * 4 then TA m a f i else 0,(c : Int)) rfl
  simp only [lt4 hc,if_true,h2,ob_,wr4 (show c < 1000 by omega)]) (by
  unfold TU
  have : (vf 16 λi=>if i < 4 * 4 then TA m a f i else 0) = vf 16 (TA m a f):=W2 λi hi=>by rw [if_pos om_]
  simp only [this]
  simp)
 have e0 : (vf 16 λi=>if i < 0 * 4 then TA m a f i else 0) = vf 16 λ_=>(0 : UInt8):=W2 λi _=>by rw [if_neg om_]
 simp only [e0] at this
 have h2 : ZK (TU (m : Int) (mf a) (vf 16 f)) (vf 16 λ_=>(0 : UInt8),0) = _:=this
 rw [JY 16 (0 : UInt8),h2]; rfl

abbrev Tab:=Vector (Vector V256 4) 4
def km (m : Nat) (a : MF) : Tab:=vf 4 λi=>vf 4 λj=>vf 256 λx=>ZE m (a i j) (UInt8.ofNat x)
theorem Zqi (m : Nat) (a : MF) (i j : Nat) (x : UInt8) : ZP (vf 256 λx=>ZE m (a i j) (UInt8.ofNat x)) (bI x) = some (ZE m (a i j) x):=by
 rw [show bI x = ((x.toNat : Nat) : Int) from rfl,Yh _ (UInt8.toNat_lt x)]
 simp
theorem v_mix (m : Nat) (a : MF) (f : Nat → UInt8) : UF ⟨km m a⟩ (vf 16 f) = some (vf 16 (TA m a f)):=by
 unfold UF
 have i0 : ∀ (v : Vector V256 4),ZP v (0 : Int) = v[0]?:=λv=>KF v 0
 have i1 : ∀ (v : Vector V256 4),ZP v (1 : Int) = v[1]?:=λv=>KF v 1
 have i2 : ∀ (v : Vector V256 4),ZP v (2 : Int) = v[2]?:=λv=>KF v 2
 have i3 : ∀ (v : Vector V256 4),ZP v (3 : Int) = v[3]?:=λv=>KF v 3
 have inner : ∀ c : Nat,c < 4 → ∀ s1 : Blk × Int,s1.2 = ((c * 4 : Nat) : Int) → ZK (V9 ⟨km m a⟩ s1 (f (c * 4),f (c * 4 + 1),f (c * 4 + 2),f (c * 4 + 3))) (vf 16 (λi=>if i < c * 4 then TA m a f i else f i),0) = some (vf 16 λi=>if i < (c + 1) * 4 then TA m a f i else f i):=λc hc s1 h1=>by
  have k1 : (vf 16 λi=>if i < c * 4 + 4 then TA m a f i else f i) = vf 16 λi=>if i < (c + 1) * 4 then TA m a f i else f i:=by rw [show c * 4 + 4 = (c + 1) * 4 by omega]
  have:=Yr (f:=V9 ⟨km m a⟩ s1 (f (c * 4),f (c * 4 + 1),f (c * 4 + 2),f (c * 4 + 3))) (λr : Nat=>(vf 16 λi=>if i < c * 4 + r then TA m a f i else f i,(r : Int))) 0 4 om_ (t:=vf 16 λi=>if i < (c + 1) * 4 then TA m a f i else f i) (λr _ hr=>by
   unfold V9
   have e1 : wr (s1.2 + (r : Int)) = ((c * 4 + r : Nat) : Int):=by rw [h1,YY om_]; omega
   have et : ZP (km m a) (r : Int) = some (vf 4 λj=>vf 256 λx=>ZE m (a r j) (UInt8.ofNat x)):=Yh _ hr
   simp only [lt4 hr,if_true,et,i0,i1,i2,i3,J5 _ (show 0 < 4 by omega),J5 _ (show 1 < 4 by omega),J5 _ (show 2 < 4 by omega),J5 _ (show 3 < 4 by omega),Zqi,e1,Yh _ (show c * 4 + r < 16 by omega),ob_,tn_,Jk,wr4 (show r < 1000 by omega)]
   refine congrArg (λz=>some (Fl.nx (z,((r + 1 : Nat) : Int)))) (W2 λi _=>?_)
   by_cases h : i = c * 4 + r
   ·subst h
    have q1 : (c * 4 + r) / 4 = c:=by omega
    have q2 : (c * 4 + r) % 4 = r:=by omega
    rw [if_pos rfl,if_pos om_]
    unfold TA; rw [q1,q2]; rfl
   ·by_cases h3 : i < c * 4 + r
    ·rw [if_neg h,if_pos h3,if_pos om_]
    ·rw [if_neg h,if_neg h3,if_neg om_]) (by
   unfold V9
   simp only [k1]
   simp)
  exact this
 have:=Yr (f:=V8 ⟨km m a⟩) (λc : Nat=>(vf 16 λi=>if i < c * 4 then TA m a f i else f i,((c * 4 : Nat) : Int))) 0 4 om_ (t:=vf 16 (TA m a f)) (λc _ hc=>by
  unfold V8
  have hd : decide (((c * 4 : Nat) : Int) < ((vf 16 λi=>if i < c * 4 then TA m a f i else f i).toList.length : Int)) = true:=by rw [Vector.length_toList]; simp; omega
  have x0:=Yh (n:=16) (λi=>if i < c * 4 then TA m a f i else f i) (show c * 4 < 16 by omega)
  have x1:=Yh (n:=16) (λi=>if i < c * 4 then TA m a f i else f i) (show c * 4 + 1 < 16 by omega)
  have x2:=Yh (n:=16) (λi=>if i < c * 4 then TA m a f i else f i) (show c * 4 + 2 < 16 by omega)
  have x3:=Yh (n:=16) (λi=>if i < c * 4 then TA m a f i else f i) (show c * 4 + 3 < 16 by omega)
  have w1 : wr (((c * 4 : Nat) : Int) + 1) = ((c * 4 + 1 : Nat) : Int):=by rw [YY om_]; omega
  have w2 : wr (((c * 4 : Nat) : Int) + 2) = ((c * 4 + 2 : Nat) : Int):=by rw [YY om_]; omega
  have w3 : wr (((c * 4 : Nat) : Int) + 3) = ((c * 4 + 3 : Nat) : Int):=by rw [YY om_]; omega
  have w4 : wr (((c * 4 : Nat) : Int) + 4) = (((c + 1) * 4 : Nat) : Int):=by rw [YY om_]; omega
  rw [if_neg om_] at x0 x1 x2 x3
  have h2:=inner c hc (vf 16 λi=>if i < c * 4 then TA m a f i else f i,((c * 4 : Nat) : Int)) rfl
  simp only [hd,if_true,x0,w1,x1,w2,x2,w3,x3,ob_,h2,w4]) (by
  unfold V8
  have : (vf 16 λi=>if i < 4 * 4 then TA m a f i else f i) = vf 16 (TA m a f):=W2 λi hi=>by rw [if_pos om_]
  simp only [this]
  simp)
 have e0 : (vf 16 λi=>if i < 0 * 4 then TA m a f i else f i) = vf 16 f:=W2 λi _=>by rw [if_neg om_]
 simp only [e0] at this
 have h2 : ZK (V8 ⟨km m a⟩) (vf 16 f,0) = _:=this
 rw [h2]; rfl

def tb (g : Nat → Nat → Nat → UInt8) : Tab:=vf 4 λi=>vf 4 λj=>vf 256 (g i j)
theorem kL {g h : Nat → Nat → Nat → UInt8} (e : ∀ i,i < 4 → ∀ j,j < 4 → ∀ x,x < 256 → g i j x = h i j x) : tb g = tb h :=
 W2 λi hi=>W2 λj hj=>W2 λx hx=>e i hi j hj x hx
theorem Zsa (g : Nat → Nat → Nat → UInt8) {i : Nat} (hi : i < 4) : ZP (tb g) (i : Int) = some (vf 4 λj=>vf 256 (g i j)):=Yh _ hi
theorem Zo6 (g : Nat → Nat → Nat → UInt8) (i : Nat) {j : Nat} (hj : j < 4) : ZP (vf 4 λj=>vf 256 (g i j)) (j : Int) = some (vf 256 (g i j)):=Yh _ hj
theorem tb_set (g : Nat → Nat → Nat → UInt8) (i j : Nat) (h : Nat → UInt8) : (tb g).setIfInBounds i ((vf 4 λj=>vf 256 (g i j)).setIfInBounds j (vf 256 h)) = tb (λi' j'=>if i' = i ∧ j' = j then h else g i' j'):=by
 unfold tb
 rw [Jk,Jk]
 refine W2 λi' _=>?_
 by_cases h1 : i' = i
 ·subst h1
  rw [if_pos rfl]
  refine W2 λj' _=>?_
  by_cases h2 : j' = j
  ·subst h2; simp
  simp [h2]
 rw [if_neg h1]
 refine W2 λj' _=>?_
 simp [h1]
theorem Zrn (a b : Nat) (ha : a < 9223372036854775808) (hb : b < 9223372036854775808) : orI (a : Int) (b : Int) = ((a ||| b : Nat) : Int):=by
 unfold orI
 rw [BitVec.toNat_or,ko a ha,ko b hb]
 have : a ||| b < 2 ^ 63:=Nat.or_lt_two_pow ha hb
 exact YY om_
theorem VI (n : Nat) : Zz (n : Int) = UInt8.ofNat n:=by
 unfold Zz
 have : ((n : Int) % 256).toNat = n % 256:=by omega
 rw [this]
 apply UInt8.toNat_inj.1
 simp
theorem Zqn (g : Nat → Nat → Nat → UInt8) (i j : Nat) (h : Nat → UInt8) : (tb g).setIfInBounds i (vf 4 λj'=>if j' = j then vf 256 h else vf 256 (g i j')) = tb (λi' j'=>if i' = i ∧ j' = j then h else g i' j'):=by
 have:=tb_set g i j h
 rw [Jk] at this
 exact this
theorem Zo9 {p low : Nat} (h : low < 2 ^ p) : 2 ^ p ||| low = 2 ^ p + low:=by
 have:=Nat.two_pow_add_eq_or_of_lt h 1
 simpa using this.symm
theorem Zp9 {p low : Nat} (hp : p < 8) (h : low < 2 ^ p) : UInt8.ofNat (2 ^ p + low) = UInt8.ofNat (2 ^ p) ^^^ UInt8.ofNat low:=by
 apply UInt8.toNat_inj.1
 have h7 : 2 ^ p ≤ 2 ^ 7:=Nat.pow_le_pow_right om_ om_
 rw [UInt8.toNat_xor]
 simp only [UInt8.toNat_ofNat']
 rw [Nat.mod_eq_of_lt om_,Nat.mod_eq_of_lt om_,Nat.mod_eq_of_lt om_]
 rw [← Zo9 h]
 apply Nat.eq_of_testBit_eq
 intro i
 rw [Nat.testBit_or,Nat.testBit_xor,Nat.testBit_two_pow]
 by_cases hi : p = i
 ·subst hi
  rw [Nat.testBit_lt_two_pow h]; simp
 simp [hi]
section
variable (m : Nat) (hm : m < 512) (hm2 : 256 ≤ m) (a : MF)
include hm hm2
def A0 (m : Nat) (a : MF) (i j n : Nat) (g : Nat → Nat → Nat → UInt8) : Nat → Nat → Nat → UInt8:=λi' j'=>if i' = i ∧ j' = j then (λx=>if x < n then ZE m (a i j) (UInt8.ofNat x) else 0) else g i' j'
theorem Zoi (i j p : Nat) (hi : i < 4) (hj : j < 4) (hp : p < 8) (g : Nat → Nat → Nat → UInt8) (s0 s1 s2 : Tab × Int) (h0 : s0.2 = (i : Int)) (h1 : s1.2 = (j : Int)) (h2 : s2.2 = ((2 ^ p : Nat) : Int)) :
  ZK (Uw s0 s1 s2 (ZE m (a i j) (UInt8.ofNat (2 ^ p)))) (tb (A0 m a i j (2 ^ p) g),0) = some (tb (A0 m a i j (2 ^ (p + 1)) g)):=by
 have h7 : 2 ^ p ≤ 2 ^ 7:=Nat.pow_le_pow_right om_ om_
 have k1 : 2 ^ p + 2 ^ p = 2 ^ (p + 1):=by rw [Nat.pow_succ]; omega
 have:=Yr (f:=Uw s0 s1 s2 (ZE m (a i j) (UInt8.ofNat (2 ^ p)))) (λlow : Nat=>(tb (A0 m a i j (2 ^ p + low) g),(low : Int))) 0 (2 ^ p) (Nat.zero_le _) (t:=tb (A0 m a i j (2 ^ (p + 1)) g)) (λlow _ hl=>by
  unfold Uw
  have hd : decide ((low : Int) < ((2 ^ p : Nat) : Int)) = true:=by simp only [decide_eq_true_eq]; omega
  have ho : orI ((2 ^ p : Nat) : Int) (low : Int) = ((2 ^ p + low : Nat) : Int):=by rw [Zrn _ _ om_ om_,Zo9 hl]
  have eg : A0 m a i j (2 ^ p + low) g i j = λx=>if x < 2 ^ p + low then ZE m (a i j) (UInt8.ofNat x) else 0:=by simp [A0]
  simp only [h0,h1,h2,hd,if_true,Zsa _ hi,Zo6 _ i hj,eg,Yh _ (show low < 256 by omega),ho,Yh _ (show 2 ^ p + low < 256 by omega),ob_,tn_,Jk,WN (show low < 9223372036854775807 by omega)]
  rw [if_pos (show low < 2 ^ p + low from Nat.lt_add_of_pos_left (Nat.two_pow_pos p)),← Uc hm2 hm,← Zp9 hp hl]
  have:=Zqn (A0 m a i j (2 ^ p + low) g) i j (λx=>if x = 2 ^ p + low then ZE m (a i j) (UInt8.ofNat (2 ^ p + low)) else if x < 2 ^ p + low then ZE m (a i j) (UInt8.ofNat x) else 0)
  rw [this]
  refine congrArg (λz=>some (Fl.nx (z,((low + 1 : Nat) : Int)))) (kL λi' _ j' _ x _=>?_)
  unfold A0
  by_cases h : i' = i ∧ j' = j
  ·simp only [h,and_self,if_true]
   by_cases hx : x = 2 ^ p + low
   ·subst hx; simp
   ·by_cases hx2 : x < 2 ^ p + low
    ·rw [if_neg hx,if_pos hx2,if_pos om_]
    ·rw [if_neg hx,if_neg hx2,if_neg om_]
  ·simp only [h,if_false]) (by
  unfold Uw
  simp only [h2,k1]
  simp)
 exact this
theorem Zo8 (i j : Nat) (hi : i < 4) (hj : j < 4) (g : Nat → Nat → Nat → UInt8) (s0 s1 : Tab × Int) (h0 : s0.2 = (i : Int)) (h1 : s1.2 = (j : Int)) :
  ZK (UI (m : Int) s0 s1 (a i j)) (tb (A0 m a i j 1 g),1) = some (tb (A0 m a i j 256 g)):=by
 have:=Yr (f:=UI (m : Int) s0 s1 (a i j)) (λp : Nat=>(tb (A0 m a i j (2 ^ p) g),((2 ^ p : Nat) : Int))) 0 8 om_ (t:=tb (A0 m a i j 256 g)) (λp _ hp=>by
  unfold UI
  have h7 : 2 ^ p ≤ 2 ^ 7:=Nat.pow_le_pow_right om_ om_
  have hd : decide (((2 ^ p : Nat) : Int) < 256) = true:=by simp only [decide_eq_true_eq]; omega
  have hb : Zz ((2 ^ p : Nat) : Int) = UInt8.ofNat (2 ^ p):=by rw [VI]
  have hw : wr (((2 ^ p : Nat) : Int) * 2) = ((2 ^ (p + 1) : Nat) : Int):=by
   rw [Nat.pow_succ]
   generalize 2 ^ p = q at h7 ⊢
   rw [YY om_]; omega
  have h3:=Zoi m hm hm2 a i j p hi hj hp g s0 s1 (tb (A0 m a i j (2 ^ p) g),((2 ^ p : Nat) : Int)) h0 h1 rfl
  simp only [hd,if_true,hb,Uu m hm,ob_,h3,hw]) (by unfold UI; simp)
 exact this
theorem Zb7 (A : Mat) (hA : A = mf a) : U6 (m : Int) A = some ⟨km m a⟩:=by
 subst hA
 unfold U6
 let G : Nat → Nat → Nat → Nat → Nat → UInt8:=λr c i j x=>if i < r ∨ (i = r ∧ j < c) then ZE m (a i j) (UInt8.ofNat x) else 0
 have hGt : ∀ r c i j x,(i < r ∨ (i = r ∧ j < c)) → G r c i j x = ZE m (a i j) (UInt8.ofNat x):=λr c i j x h=>if_pos h
 have hGf : ∀ r c i j x,¬ (i < r ∨ (i = r ∧ j < c)) → G r c i j x = 0:=λr c i j x h=>if_neg h
 have hGe : ∀ r c r' c' i j x,((i < r ∨ (i = r ∧ j < c)) ↔ (i < r' ∨ (i = r' ∧ j < c'))) → G r c i j x = G r' c' i j x:=λr c r' c' i j x h=>by show (if _ then _ else _) = (if _ then _ else _); simp only [h]
 have z0 : ∀ i j,ZE m (a i j) (UInt8.ofNat 0) = 0:=λi j=>by rw [Y8 hm2 hm]; exact TE hm2 hm _
 have col : ∀ r : Nat,r < 4 → ∀ s0 : Tab × Int,s0.2 = (r : Int) → ZK (Uy (m : Int) s0 (vf 4 (a r))) (tb (G r 0),0) = some (tb (G (r + 1) 0)):=λr hr s0 h0=>by
  have k1 : tb (G r 4) = tb (G (r + 1) 0):=kL λi hi j hj x _=>by
   exact hGe _ _ _ _ _ _ _ om_
  have:=Yr (f:=Uy (m : Int) s0 (vf 4 (a r))) (λc : Nat=>(tb (G r c),(c : Int))) 0 4 om_ (t:=tb (G (r + 1) 0)) (λc _ hc=>by
   unfold Uy
   have e1 : tb (G r c) = tb (A0 m a r c 1 (G r c)):=kL λi _ j _ x _=>by
    unfold A0
    by_cases h : i = r ∧ j = c
    ·obtain ⟨rfl,rfl⟩:=h
     simp only [and_self,if_true]
     rw [hGf _ _ _ _ _ om_]
     by_cases hx : x < 1
     ·have : x = 0:=by omega
      subst this; rw [if_pos hx,z0]
     ·rw [if_neg hx]
    ·simp only [h,if_false]
   have e2 : tb (A0 m a r c 256 (G r c)) = tb (G r (c + 1)):=kL λi _ j _ x hx=>by
    unfold A0
    by_cases h : i = r ∧ j = c
    ·obtain ⟨rfl,rfl⟩:=h
     simp only [and_self,if_true,hx]
     rw [hGt _ _ _ _ _ om_]
    ·simp only [h,if_false]
     exact hGe _ _ _ _ _ _ _ om_
   have h3:=Zo8 m hm hm2 a r c hr hc (G r c) s0 (tb (G r c),(c : Int)) h0 rfl
   rw [← e1,e2] at h3
   simp only [lt4 hc,if_true,Yh _ hc,h3,ob_,wr4 (show c < 1000 by omega)]) (by
   unfold Uy
   simp only [k1]
   simp)
  exact this
 have kz : tb (G 0 0) = Vector.replicate 4 (Vector.replicate 4 (Vector.replicate 256 (0 : UInt8))):=by
  rw [JY 256 (0 : UInt8),JY 4,JY 4]
  exact kL λi _ j _ x _=>by
   exact hGf _ _ _ _ _ om_
 have k4 : tb (G 4 0) = km m a:=kL λi hi j _ x _=>by
  exact hGt _ _ _ _ _ om_
 have:=Yr (f:=Uv (m : Int) (mf a)) (λr : Nat=>(tb (G r 0),(r : Int))) 0 4 om_ (t:=km m a) (λr _ hr=>by
  unfold Uv
  have h3:=col r hr (tb (G r 0),(r : Int)) rfl
  simp only [lt4 hr,if_true,VB _ hr,h3,ob_,wr4 (show r < 1000 by omega)]) (by
  unfold Uv
  simp only [k4]
  simp)
 have h2 : ZK (Uv (m : Int) (mf a)) (tb (G 0 0),0) = _:=this
 rw [← kz,h2]; rfl
end

def Jz (n : Nat) (p : Vector UInt8 n) : Nat → Vector UInt8 n
 | 0=>Vector.replicate n 0
 | i + 1=>(Jz n p i).setIfInBounds (p.toList.getD i 0).toNat (Zz (i : Int))
theorem Zdd (p : V256) : UR p = some (Jz 256 p 256):=by
 unfold UR
 have:=Yr (f:=Va p) (λi : Nat=>(Jz 256 p i,(i : Int))) 0 256 om_ (t:=Jz 256 p 256) (λi _ hi=>by
  unfold Va
  have hd : decide ((i : Int) < 256) = true:=by simp; omega
  simp only [hd,if_true,HN p hi,Hz,ob_,AR,WN (show i < 9223372036854775807 by omega)]
  rfl) (by unfold Va; simp)
 have h2 : ZK (Va p) (Vector.replicate 256 0,0) = _:=this
 rw [h2]; rfl
theorem jy (p : Blk) {i : Nat} (h : i < 16) : p.toList.getD i 0 = bf p i:=by
 have h1:=HN p h
 rw [zN p h] at h1
 exact (Option.some.inj h1).symm
theorem jS (p : Blk) (hp : VA p = true) : Vk p = some (Jz 16 p 16):=by
 unfold Vk
 have:=Yr (f:=Wd p) (λi : Nat=>(Jz 16 p i,(i : Int))) 0 16 om_ (t:=Jz 16 p 16) (λi _ hi=>by
  unfold Wd
  have hlt:=B6 hp hi
  have hv : ZP (Jz 16 p i) (bI (bf p i)) = some (bf (Jz 16 p i) (bf p i).toNat):=zN _ hlt
  simp only [yR hi,if_true,zN p hi,hv,ob_,AR,WN (show i < 9223372036854775807 by omega)]
  rw [← jy p hi]
  rfl) (by unfold Wd; simp)
 have h2 : ZK (Wd p) (Vector.replicate 16 0,0) = _:=this
 rw [h2]; rfl

def Z9 (c : GCipher) : Gengine:=⟨c.Box,Jz 256 c.Box 256,c.Places,Jz 16 c.Places 16,⟨km c.Field.toNat (Ka c.Mix)⟩,⟨km c.Field.toNat (Ka (jW c.Field.toNat c.Mix))⟩,c.Rounds⟩
theorem KZ {c : GCipher} (h : Z6 c = true) : VA c.Places = true:=by
 unfold Z6 at h
 simp only [Bool.and_eq_true] at h
 exact h.1.1.2
theorem Zdc {c : GCipher} (h : Z6 c = true) : 1 ≤ c.Rounds ∧ c.Rounds ≤ 20:=by
 unfold Z6 at h
 simp only [Bool.and_eq_true,decide_eq_true_eq] at h
 exact h.1.2
theorem qg (c : GCipher) (h : Z6 c = true) : Ux c = some ⟨Z9 c⟩:=by
 obtain ⟨m,hm,h1,h2⟩:=Ao h
 have e : c.Field.toNat = m:=by omega
 unfold Ux Z9
 rw [e]
 simp only [hm,Zid m h2 h1,ob_,Zdd,jS _ (KZ h),Zb7 m h2 h1 (Ka c.Mix) c.Mix (jD _),Zb7 m h2 h1 (Ka (jW m c.Mix)) (jW m c.Mix) (jD _)]

def Hh (c : GCipher) (n r : Nat) (k f : Nat → UInt8) : Nat → UInt8 :=
 Bl (if r < n then TA c.Field.toNat (Ka c.Mix) (Jt c.Places (BA c.Box f)) else Jt c.Places (BA c.Box f)) k
def yt (c : GCipher) (k f : Nat → UInt8) (n : Nat) : Nat → Nat → UInt8
 | 0=>Bl f k
 | r + 1=>Hh c n (r + 1) (jA c.Box k (r + 1)) (yt c k f n r)
def Zau (c : GCipher) (k f : Nat → UInt8) (n : Nat) : Nat → UInt8:=yt c k f n n
theorem Zdh (c : GCipher) (h : Z6 c = true) (k f : Nat → UInt8) (n : Nat) (hn : n ≤ 1000) : Vy c (vf 16 k) (vf 16 f) (n : Int) = some (vf 16 (Zau c k f n)):=by
 obtain ⟨m,hm,h1,h2⟩:=Ao h
 have e : c.Field.toNat = m:=by omega
 have hp:=KZ h
 unfold Vy
 have i0 : idx (WR c.Box k n) (0 : Int) = some (vf 16 k):=BS c.Box k (Nat.zero_le n)
 simp only [Zmu c k n hn,ob_,i0,yX]
 have:=Yr (f:=W7 c (n : Int) (WR c.Box k n)) (λi : Nat=>(vf 16 (yt c k f n (i - 1)),(i : Int))) 1 (n + 1) om_ (t:=vf 16 (Zau c k f n)) (λi hi1 hi=>by
  unfold W7
  obtain ⟨r,rfl⟩ : ∃ q,i = q + 1:=⟨i - 1,by omega⟩
  have e1 : decide (((r + 1 : Nat) : Int) ≤ (n : Int)) = true:=by simp only [decide_eq_true_eq]; omega
  have YJ:=Zoc m h2 h1 (Ka c.Mix) (Jt c.Places (BA c.Box (yt c k f n r)))
  rw [← jD] at YJ
  simp only [Nat.add_sub_cancel,e1,if_true,Zit,ob_,Zlx c.Places hp,hm,YJ,BS c.Box k (show r + 1 ≤ n by omega),WN (show r + 1 < 9223372036854775807 by omega)]
  by_cases hr : r + 1 < n
  ·have e2 : decide (((r + 1 : Nat) : Int) < (n : Int)) = true:=by simp only [decide_eq_true_eq]; omega
   simp only [e2,if_true,ob_,yX,yt,Hh,hr,e]
  ·have e2 : decide (((r + 1 : Nat) : Int) < (n : Int)) = false:=by simp only [decide_eq_false_iff_not]; omega
   simp only [e2,bf_,if_false,ob_,yX,yt,Hh,hr]) (by
  unfold W7
  have e1 : decide (((n + 1 : Nat) : Int) ≤ (n : Int)) = false:=by simp only [decide_eq_false_iff_not]; omega
  simp only [e1,bf_,if_false,Nat.add_sub_cancel,Zau])
 have h3 : ZK (W7 c (n : Int) (WR c.Box k n)) (vf 16 (Bl f k),1) = _:=this
 rw [h3]; rfl
theorem Zj6 (e : Ref Gengine) (s : Blk × Int) (f : Nat → UInt8) (hs : s.1 = vf 16 f) : ZK (Xs e s) (vf 16 f,0) = some (vf 16 (BA e.v.box f)):=by
 have:=V4 (Xs e s) f (BA e.v.box f) om_ 0 om_ (λj hj=>by omega) (λi _ hi a _ ha=>by
  unfold Xs
  simp only [hs,yR hi,if_true,Yh _ hi,ob_,tn_,Hz,BA]) (λv=>by unfold Xs; simp)
 exact this
theorem Bc (c : GCipher) (h : Z6 c = true) (k f : Nat → UInt8) (n : Nat) (hn : n ≤ 1000) : Y9 ⟨Z9 c⟩ (WR c.Box k n) (vf 16 f) = some (vf 16 (Zau c k f n)):=by
 have hp:=KZ h
 unfold Y9
 have i0 : idx (WR c.Box k n) (0 : Int) = some (vf 16 k):=BS c.Box k (Nat.zero_le n)
 simp only [ob_,i0,Tm]
 have:=Yr (f:=Xp ⟨Z9 c⟩ (WR c.Box k n)) (λi : Nat=>(vf 16 (yt c k f n (i - 1)),(i : Int))) 1 (n + 1) om_ (t:=vf 16 (Zau c k f n)) (λi hi1 hi=>by
  unfold Xp
  obtain ⟨r,rfl⟩ : ∃ q,i = q + 1:=⟨i - 1,by omega⟩
  have e1 : decide (((r + 1 : Nat) : Int) < ((WR c.Box k n).length : Int)) = true:=by rw [B1]; simp only [decide_eq_true_eq]; omega
  have e3 : wr (((WR c.Box k n).length : Int) - 1) = (n : Int):=by rw [B1,YY om_]; omega
  have hb:=Zj6 ⟨Z9 c⟩ (vf 16 (yt c k f n r),((r + 1 : Nat) : Int)) (yt c k f n r) rfl
  have hmv:=v_move c.Places hp (BA c.Box (yt c k f n r))
  have YJ:=v_mix c.Field.toNat (Ka c.Mix) (Jt c.Places (BA c.Box (yt c k f n r)))
  have hsl : ∀ g : Nat → UInt8,slc (vf 16 g).toList (0 : Int) (16 : Int) = some (vf 16 g).toList:=λg=>by
   have:=KW (l:=(vf 16 g).toList) (i:=0) (j:=16) om_ (by simp)
   simp only [List.drop_zero] at this
   rw [List.take_of_length_le (by simp)] at this
   exact this
  have q1 : (Z9 c).box = c.Box:=rfl
  have q2 : (Z9 c).places = c.Places:=rfl
  have q3 : (Z9 c).mixer = ⟨km c.Field.toNat (Ka c.Mix)⟩:=rfl
  simp only [q1] at hb
  simp only [Nat.add_sub_cancel,e1,if_true,hb,ob_,q2,q3,hmv,e3,hsl,YJ,BS c.Box k (show r + 1 ≤ n by omega),WN (show r + 1 < 9223372036854775807 by omega)]
  by_cases hr : r + 1 < n
  ·have e2 : decide (((r + 1 : Nat) : Int) < (n : Int)) = true:=by simp only [decide_eq_true_eq]; omega
   simp only [e2,if_true,ob_,Tm,yt,Hh,hr]
  ·have e2 : decide (((r + 1 : Nat) : Int) < (n : Int)) = false:=by simp only [decide_eq_false_iff_not]; omega
   simp only [e2,bf_,if_false,ob_,Tm,yt,Hh,hr]) (by
  unfold Xp
  have e1 : decide (((n + 1 : Nat) : Int) < ((WR c.Box k n).length : Int)) = false:=by rw [B1]; simp only [decide_eq_false_iff_not]; omega
  simp only [e1,bf_,if_false,Nat.add_sub_cancel,Zau])
 have h3 : ZK (Xp ⟨Z9 c⟩ (WR c.Box k n)) (vf 16 (Bl f k),1) = _:=this
 rw [h3]; rfl
theorem jB (c : GCipher) (h : Z6 c = true) (k f : Nat → UInt8) : XI ⟨Z9 c⟩ (vf 16 k) (vf 16 f) = some (vf 16 (Zau c k f c.Rounds.toNat)):=by
 have hr:=Zdc h
 obtain ⟨n,hn⟩ : ∃ n : Nat,c.Rounds = n:=⟨c.Rounds.toNat,by omega⟩
 have e1 : (Z9 c).rounds = (n : Int):=hn
 have e2 : (Z9 c).box = c.Box:=rfl
 have hk:=Zo2 ⟨Z9 c⟩ k n om_
 rw [e2] at hk
 unfold XI
 simp only [e1,hk,ob_,Bc c h k f n om_,hn,tn_]
theorem Zny (c : GCipher) (k : Nat → UInt8) (n : Nat) (hn : n ≤ 1000) : WA ⟨Z9 c⟩ (vf 16 k) (n : Int) = some (WR c.Box k n):=Zo2 ⟨Z9 c⟩ k n hn
def Zb0 (a b : Blk) : Blk:=vf 16 (Bl (bf a) (bf b))
theorem Znm (a b : Blk) : Yz a b = some (Zb0 a b):=by
 have:=Tm (bf a) (bf b)
 rw [← Bp,← Bp] at this
 exact this
theorem Zlq (a b : Blk) : Um a b = some (Zb0 a b):=by
 have:=yX (bf a) (bf b)
 rw [← Bp,← Bp] at this
 exact this
def tab (n : Nat) (f : Nat → UInt8) : List UInt8:=(List.range n).map f
@[simp] theorem Zfj (n : Nat) (f : Nat → UInt8) : (tab n f).length = n:=by simp [tab]
theorem zB {n i : Nat} (f : Nat → UInt8) (h : i < n) : (tab n f)[i]? = some (f i):=by simp [tab,h]
theorem Zq4 (n i : Nat) (f : Nat → UInt8) (v : UInt8) : (tab n f).set i v = tab n (λj=>if j = i then v else f j):=by
 apply List.ext_getElem?
 intro j
 rw [List.getElem?_set]
 by_cases hj : j < n
 ·rw [zB _ hj,zB _ hj]
  by_cases h : i = j
  ·subst h; simp [hj]
  simp [h,Ne.symm h]
 rw [List.getElem?_eq_none os_,List.getElem?_eq_none os_]
 simp
 omega
theorem Zal {n : Nat} {f g : Nat → UInt8} (h : ∀ i,i < n → f i = g i) : tab n f = tab n g:=by
 unfold tab
 apply List.map_congr_left
 intro i hi
 exact h i (by simpa using hi)
theorem Znk (l : List UInt8) : l = tab l.length (λi=>l.getD i 0):=by
 apply List.ext_getElem?
 intro i
 by_cases h : i < l.length
 ·rw [zB _ h,ge_ h]; simp [gd_,ge_ h]
 rw [List.getElem?_eq_none om_,List.getElem?_eq_none os_]
theorem Zqz (n : Nat) : List.replicate n (0 : UInt8) = tab n (λ_=>0):=by
 apply List.ext_getElem?
 intro i
 by_cases h : i < n
 ·rw [zB _ h]; simp [h]
 rw [List.getElem?_eq_none os_,List.getElem?_eq_none os_]
theorem Zlo {l : List UInt8} {i : Nat} (h : i < l.length) : l[i]? = some (l.getD i 0):=by simp [gd_,ge_ h]
theorem mkS_ok {n : Nat} (h : n ≤ 140737488355328) (x : UInt8) : mkS 1 x (n : Int) = some (List.replicate n x):=by
 unfold mkS; rw [if_pos om_]; simp

section
variable (m : Nat) (p : List UInt8)
def Zbz (i : Nat) : Nat → UInt8
 | 0=>1
 | k + 1=>if k = i then Zbz i k else ZE m (Zbz i k) (p.getD i 0 ^^^ p.getD k 0)
def zR (x : UInt8) (i : Nat) : Nat → UInt8
 | 0=>1
 | k + 1=>if k = i then zR x i k else ZE m (zR x i k) (x ^^^ p.getD k 0)
def Zge (v : List UInt8) (i : Nat) : UInt8:=ZE m (v.getD i 0) (TH m (Zbz m p i p.length))
def HY (v : List UInt8) (x : UInt8) : Nat → UInt8
 | 0=>0
 | i + 1=>HY v x i ^^^ ZE m (zR m p x i p.length) (Zge m p v i)
end
def AD (m : Int) (l : List GShare) (t : Int) : Int:=if !Yl m then 1 else if JE l == 0 && !decide (1 ≤ t ∧ t ≤ 8) then 2 else JE l
theorem Zda (m : Int) (l : List GShare) (t : Int) (h : l.length ≤ 140737488355327) : UU m l t = some (AD m l t):=by
 unfold UU AD
 rw [jL,Ay l _ (λs=>!Qw s) om_ (λx _=>by unfold VR; rw [Zl5]; rfl),Zi3 l h]
 simp only [ob_]
 rw [HX _ os_,Zl7 l om_,z7]
 have ea : (l.any λs=>!Qw s) = !(l.all Qw):=by rw [List.any_eq_not_all_not]; simp
 simp only [ea,TZ,ob_]
 by_cases c0 : Yl m = true
 ·by_cases c1 : l.all Qw = true
  ·by_cases c2 : UZ (l.map (·.Place)) = true
   ·by_cases h1 : l.length < 1 ∨ 12 < l.length
    ·have e : ¬ ((1 : Int) ≤ l.length ∧ (l.length : Int) ≤ 12):=by omega
     have hc : JE l = 2:=by unfold JE; rw [c1,c2,if_neg (by simp),if_neg (by simp),if_pos h1]
     rw [hc]
     simp [c0,c1,c2,e]
    have e : ((1 : Int) ≤ l.length ∧ (l.length : Int) ≤ 12):=by omega
    by_cases c3 : Za8 l = true
    ·have hc : JE l = 0:=by unfold JE; rw [c1,c2,c3,if_neg (by simp),if_neg (by simp),if_neg h1,if_neg (by simp)]
     rw [hc]
     by_cases ht : 1 ≤ t ∧ t ≤ 8 <;> simp [c0,c1,c2,c3,e,ht]
    have c3 : Za8 l = false:=by simpa using c3
    have hc : JE l = 2:=by unfold JE; simp [c1,c2,c3]
    rw [hc]
    simp [c0,c1,c2,c3,e]
   have c2 : UZ (l.map (·.Place)) = false:=by simpa using c2
   have hc : JE l = 1:=by unfold JE; simp [c1,c2]
   rw [hc]
   simp [c0,c1,c2]
  have c1 : l.all Qw = false:=by simpa using c1
  have hc : JE l = 1:=by unfold JE; simp [c1]
  rw [hc]
  simp [c0,c1]
 have c0 : Yl m = false:=by simpa using c0
 simp [c0]
structure Good (l : List GShare) : Prop where
 share : ∀ s ∈ l,True ∧ s.Data.length ≤ 100
 diff : (l.map (·.Place)).Nodup
 len : 1 ≤ l.length ∧ l.length ≤ 13
 even : ∀ s ∈ l,s.Data.length = (l.headD default).Data.length
theorem Zko {l : List GShare} (h : JE l = 0) : Good l:=by
 unfold JE at h
 cases h1 : l.all Qw with
 | false=>simp [h1] at h
 | true =>
  cases h2 : UZ (l.map (·.Place)) with
  | false=>simp [h1,h2] at h
  | true =>
   by_cases h3 : l.length < 1 ∨ 12 < l.length
   ·rw [h1,h2,if_neg (by simp),if_neg (by simp),if_pos h3] at h; cases h
   ·cases h4 : Za8 l with
    | false=>simp [h1,h2,h4] at h
    | true =>
     refine ⟨λs hs=>?_,by simpa [UZ] using h2,by omega,λs hs=>?_⟩
     ·have:=List.all_eq_true.1 h1 s hs
      unfold Qw at this
      simp only [Bool.and_eq_true,decide_eq_true_eq] at this
      exact ⟨trivial,this.2⟩
     ·have:=List.all_eq_true.1 h4 s hs
      simpa using this
theorem Zmt {m : Int} {l : List GShare} {t : Int} (h : AD m l t = 0) : Yl m = true ∧ Good l ∧ 1 ≤ t ∧ t ≤ 8:=by
 unfold AD at h
 cases h1 : Yl m with
 | false=>simp [h1] at h
 | true =>
  cases h2 : JE l == 0 with
  | false =>
   simp [h1,h2] at h
   rw [h] at h2; simp at h2
  | true =>
   by_cases h3 : 1 ≤ t ∧ t ≤ 8
   ·exact ⟨rfl,Zko (by simpa using h2),h3⟩
   ·simp [h1,h2,h3] at h
theorem Good.take {l : List GShare} (h : Good l) {t : Nat} (h1 : 1 ≤ t) (h2 : t ≤ l.length) : Good (l.take t):=by
 have hd : (l.take t).headD default = l.headD default:=by
  cases l with
  | nil=>simp
  | cons x l=>cases t with
   | zero=>omega
   | succ t=>rfl
 refine ⟨λs hs=>h.share s (List.mem_of_mem_take hs),?_,by rw [List.length_take]; have:=h.len; omega,λs hs=>by rw [hd]; exact h.even s (List.mem_of_mem_take hs)⟩
 rw [List.map_take]
 exact (List.take_sublist _ _).nodup h.diff
theorem Good.at {l : List GShare} (h : Good l) {i : Nat} (hi : i < l.length) : l[i].Data.length = (l.headD default).Data.length:=h.even _ (List.getElem_mem hi)

def dataN (l : List GShare) : Nat:=(l.headD default).Data.length
def places (l : List GShare) : List UInt8:=l.map (·.Place)
def zi (l : List GShare) (j : Nat) : List UInt8:=l.map λs=>s.Data.getD j 0
def atC (m : Nat) (l : List GShare) (x : UInt8) : List UInt8:=tab (dataN l) λj=>HY m (places l) (zi l j) x l.length
theorem Zct (l : List GShare) : (places l).length = l.length:=by simp [places]
theorem yo (l : List GShare) {i : Nat} (h : i < l.length) : (places l).getD i 0 = l[i].Place:=by simp [places,gd_,h]
theorem Zki (l : List GShare) {i : Nat} (h : i < l.length) (j : Nat) : (zi l j).getD i 0 = l[i].Data.getD j 0:=by simp [zi,gd_,h]
def byR (m : Nat) (p : List UInt8) (x : UInt8) (i : Nat) : Nat → UInt8
 | 0=>1
 | k + 1=>if k = i then byR m p x i k else ZE m (byR m p x i k) (ZE m (x ^^^ p.getD k 0) (TH m (p.getD i 0 ^^^ p.getD k 0)))
section
variable {m : Nat} (h1 : 256 ≤ m) (h2 : m < 512)
include h1 h2
theorem Zj9 (p : List UInt8) (x : UInt8) (i : Nat) : ∀ k,byR m p x i k = ZE m (zR m p x i k) (TH m (Zbz m p i k))
 | 0=>by unfold byR zR Zbz; rw [Zld h1 h2,QX h1 h2]
 | k + 1=>by
  unfold byR zR Zbz
  split
  ·exact Zj9 p x i k
  ·rw [Zeg h1 h2,Zj9 p x i k,Bb h1 h2]
theorem Zaw (l : List GShare) (g : Good l) (x : UInt8) : Wr (m : Int) l x = some (atC m l x):=by
 have hl:=g.len
 have h0 : 0 < l.length:=by omega
 have hd0 : l[0].Data.length = dataN l:=g.at h0
 have hdn : dataN l ≤ 100:=by rw [← hd0]; exact (g.share _ (List.getElem_mem h0)).2
 unfold Wr
 simp only [Zar,ge_ h0,ob_,hd0]
 rw [mkS_ok om_,Zqz]
 simp only [ob_]
 have hby : ∀ i (hi : i < l.length),ZK (Wa (m : Int) l x l[i]) (1,0) = some (byR m (places l) x i l.length):=by
  intro i hi
  have h:=Yr (f:=Wa (m : Int) l x l[i]) (λk : Nat=>(byR m (places l) x i k,(k : Int))) 0 l.length (Nat.zero_le _) (t:=byR m (places l) x i l.length) (λk _ hk=>by
   unfold Wa
   simp only [Int.ofNat_lt,hk,decide_true,if_true,Yx,ge_ hk,ob_,Hk m h2,Uu m h2,WN (show k < 9223372036854775807 by omega)]
   by_cases c : k = i
   ·subst c
    simp [byR]
   ·have hne : l[k].Place ≠ l[i].Place:=by
     intro he
     exact c (Zdz g.diff (by simpa using hk) (by simpa using hi) (by simpa using he))
    have hb : (l[k].Place != l[i].Place) = true:=by simpa using hne
    rw [hb]
    simp only [if_true,ob_,byR,c,if_false,yo l hk,yo l hi]) (by unfold Wa; simp)
  exact h
 let sumV : Nat → Nat → UInt8:=λj i=>HY m (places l) (zi l j) x i
 have hterm : ∀ i (hi : i < l.length) j,HY m (places l) (zi l j) x (i + 1) = HY m (places l) (zi l j) x i ^^^ ZE m (l[i].Data.getD j 0) (byR m (places l) x i l.length):=by
  intro i hi j
  show HY m (places l) (zi l j) x i ^^^ ZE m (zR m (places l) x i (places l).length) (Zge m (places l) (zi l j) i) = _
  unfold Zge
  rw [Zki l hi,Zct,Zj9 h1 h2,← Y4 h1 h2,← Y4 h1 h2,Y8 h1 h2 (zR m (places l) x i l.length)]
 have hrow : ∀ i (hi : i < l.length),ZK (Wf (m : Int) l[i] (byR m (places l) x i l.length)) (0,tab (dataN l) (λj=>HY m (places l) (zi l j) x i)) = some (tab (dataN l) (λj=>HY m (places l) (zi l j) x (i + 1))):=by
  intro i hi
  have hdi : l[i].Data.length = dataN l:=g.at hi
  have h:=Yr (f:=Wf (m : Int) l[i] (byR m (places l) x i l.length)) (λn : Nat=>((n : Int),tab (dataN l) (λj=>if j < n then HY m (places l) (zi l j) x (i + 1) else HY m (places l) (zi l j) x i))) 0 (dataN l) (Nat.zero_le _) (t:=tab (dataN l) (λj=>HY m (places l) (zi l j) x (i + 1))) (λn _ hn=>by
   unfold Wf
   have hn1 : n < l[i].Data.length:=by omega
   simp only [Int.ofNat_lt,hn1,decide_true,if_true,Yx,WN (show n < 9223372036854775807 by omega),zB _ hn,Zlo hn1,Uu m h2,ob_,Zq4,tn_]
   congr 3
   apply Zal
   intro j hj
   by_cases c2 : j = n
   ·subst c2
    rw [if_pos rfl,if_neg (Nat.lt_irrefl j),if_pos (Nat.lt_succ_self j),hterm i hi]
   ·have d1 : (j < n + 1) ↔ (j < n):=by omega
    simp only [c2,if_false,d1]) (by
   unfold Wf
   rw [hdi]
   simp only [Int.ofNat_lt,Nat.lt_irrefl,decide_false,bf_,if_false]
   congr 2
   apply Zal
   intro j hj
   simp [hj])
  have e0 : tab (dataN l) (λj=>HY m (places l) (zi l j) x i) = tab (dataN l) (λj=>if j < 0 then HY m (places l) (zi l j) x (i + 1) else HY m (places l) (zi l j) x i):=by
   apply Zal
   intro j _
   simp
  rw [e0]
  exact h
 have h:=Yr (f:=Wc (m : Int) l x) (λi : Nat=>((i : Int),tab (dataN l) (λj=>HY m (places l) (zi l j) x i))) 0 l.length (Nat.zero_le _) (t:=atC m l x) (λi _ hi=>by
  unfold Wc
  simp only [Int.ofNat_lt,hi,decide_true,if_true,Yx,ge_ hi,ob_,WN (show i < 9223372036854775807 by omega)]
  rw [hby i hi]
  simp only [ob_]
  rw [hrow i hi]
  rfl) (by unfold Wc; simp [atC])
 have h3 : ZK (Wc (m : Int) l x) (0,tab (dataN l) (λ_=>0)) = _:=h
 rw [h3]; rfl
def Zjz (m : Nat) (l : List GShare) (t : Nat) : Bool:=!((List.range' t (l.length - t)).any λk=>!((l[k]?.map λs=>atC m (l.take t) s.Place == s.Data).getD true))
theorem v_fit (l : List GShare) (g : Good l) (t : Nat) (ht : 1 ≤ t) (ht8 : t ≤ 8) : TX (m : Int) l (t : Int) = some (Zjz m l t):=by
 have hl:=g.len
 unfold TX Zjz
 by_cases hlt : t ≤ l.length
 ·have h:=zF (f:=V3 (m : Int) l (t : Int)) l.length (λk=>!((l[k]?.map λs=>atC m (l.take t) s.Place == s.Data).getD true)) false om_ t hlt (λk hk1 hk=>by
   unfold V3
   have hs : slc l (0 : Int) (t : Int) = some (l.take t):=by have:=KW (l:=l) (i:=0) (j:=t) (Nat.zero_le _) hlt; simpa using this
   simp only [Int.ofNat_lt,hk,decide_true,if_true,Yx,ge_ hk,ob_,hs]
   rw [Zaw h1 h2 (l.take t) (g.take ht hlt)]
   simp only [ob_,js,Option.map_some,Option.getD_some]
   by_cases c : (atC m (l.take t) l[k].Place == l[k].Data) = true <;> simp [c]) (by unfold V3; simp)
  rw [h]
  cases (List.range' t (l.length - t)).any λk=>!((l[k]?.map λs=>atC m (l.take t) s.Place == s.Data).getD true) <;> rfl
 rw [We (t:=Fl.nx ())]
 ·have : l.length - t = 0:=by omega
  rw [this]; rfl
 unfold V3
 have : ¬ ((t : Int) < (l.length : Int)):=by omega
 simp [this]
end
def yn (m : Nat) (l : List GShare) (t : Nat) : Int:=if l.length < t then 4 else if !Zjz m l t then 5 else 0
def AQ (m : Nat) (l : List GShare) (t : Nat) (x : UInt8) : List UInt8 × Int:=if yn m l t != 0 then ([],yn m l t) else (atC m (l.take t) x,0)
section
variable {m : Nat} (h1 : 256 ≤ m) (h2 : m < 512)
include h1 h2
theorem Zm6 (l : List GShare) (g : Good l) (t : Nat) (ht : 1 ≤ t) (ht8 : t ≤ 8) (x : UInt8) : VX (m : Int) l (t : Int) x = some (AQ m l t x):=by
 unfold VX AQ yn
 rw [z7]
 simp only [ob_]
 by_cases c : l.length < t
 ·have c' : (l.length : Int) < (t : Int):=by omega
  simp [c,c']
 have c' : ¬ ((l.length : Int) < (t : Int)):=by omega
 simp only [c,c',decide_false,bf_,if_false]
 rw [v_fit h1 h2 l g t ht ht8]
 by_cases hf : Zjz m l t = true
 ·have hs : slc l (0 : Int) (t : Int) = some (l.take t):=by have:=KW (l:=l) (i:=0) (j:=t) (Nat.zero_le _) om_; simpa using this
  simp only [ob_,hf,Bool.not_true,bf_,if_false,hs,Zaw h1 h2 (l.take t) (g.take ht om_)]
  rfl
 have hf : Zjz m l t = false:=by simpa using hf
 simp [hf]
end
def Qf (m : Int) (l : List GShare) (t : Int) : List UInt8 × Int:=if AD m l t != 0 then ([],AD m l t) else AQ m.toNat l t.toNat 0
theorem yH (m : Int) (l : List GShare) (t : Int) (h : l.length ≤ 140737488355327) : UT m l t = some (Qf m l t):=by
 unfold UT Qf
 rw [Zda m l t h]
 simp only [ob_]
 by_cases hb : AD m l t = 0
 ·obtain ⟨hf,g,t1,t8⟩:=Zmt hb
  obtain ⟨n,rfl,n1,n2⟩:=Ut hf
  obtain ⟨u,rfl⟩:=Int.eq_ofNat_of_zero_le (show 0 ≤ t by omega)
  simp only [hb,bne_self_eq_false,bf_,if_false,tn_,Zm6 n1 n2 l g u om_ om_ 0,ob_]
 have : (AD m l t != 0) = true:=by simpa using hb
 rw [this]; rfl
theorem Znr {α : Type} (by_ : Nat) (z : α) (n : Nat) (h : n * by_ ≤ 140737488355328) (hby : 0 < by_) :
  ((if (decide ((n : Int) < 0)) = true then (none) else (some ()) : Option (Unit)).bind λ(_ : Unit)=>(if (decide ((wr ((n : Int) - (wr (0 - 0)))) > 0)) = true then ((mkS by_ z (wr ((n : Int) - (wr (0 - 0))))).bind λ(l14 : List α)=>(slc l14 (0 : Int) (0 : Int)).bind λ(l16 : List α)=>some l16) else (some ([])) : Option (List α)).bind λ(j6 : List α)=>some j6) = some []:=by
 have hn : n ≤ 140737488355328:=Nat.le_trans (Nat.le_mul_of_pos_right _ hby) h
 have e0 : wr (0 - 0) = 0:=by decide
 have e1 : wr ((n : Int) - (wr (0 - 0))) = (n : Int):=by rw [e0,YY om_]; omega
 have e2 : ¬ ((n : Int) < 0):=by omega
 rw [e1]
 simp only [e2,decide_false,bf_,if_false,ob_]
 by_cases h3 : (n : Int) > 0
 ·have hm : mkS by_ z (n : Int) = some (List.replicate n z):=by
   have h4 : ((n * by_ : Nat) : Int) ≤ 140737488355328:=by omega
   rw [Int.natCast_mul] at h4
   unfold mkS
   rw [if_pos ⟨by omega,h4⟩,tn_]
  have hs : slc (List.replicate n z) (0 : Int) (0 : Int) = some []:=by
   have:=KW (l:=List.replicate n z) (i:=0) (j:=0) (Nat.le_refl _) (Nat.zero_le _)
   simpa using this
  simp [h3,hm,hs]
 have h4 : decide ((n : Int) > 0) = false:=by simp only [decide_eq_false_iff_not]; exact h3
 simp only [h4,bf_,if_false,ob_]
theorem Ze9 {α : Type} (by_ : Nat) (p0 : List (List α)) (L0 : Int × Int → Option (Fl (Int × Int) Int)) (L1 : Int × List α → Option (Fl (Int × List α) (List α)))
  (h0 : ∀ s,L0 s = if (decide (s.1 < (p0.length : Int))) = true then (((idx p0 s.1).bind λ(x : List α)=>(if (decide ((wr (s.2 + (x.length : Int))) < 0)) = true then (none) else (some ()) : Option (Unit)).bind λ(_ : Unit)=>some (wr (s.2 + (x.length : Int))) : Option (Int)).bind λ(j : Int)=>some (Fl.nx (wr (s.1 + 1),j))) else (some (Fl.ex s.2)))
  (h1 : ∀ s,L1 s = if (decide (s.1 < (p0.length : Int))) = true then ((idx p0 s.1).bind λ(x : List α)=>(app by_ s.2 x).bind λ(_ : List α)=>some (Fl.nx (wr (s.1 + 1),(s.2 ++ x)))) else (some (Fl.ex s.2)))
  (hl : p0.flatten.length * by_ ≤ 140737488355328) (hby : 0 < by_) (hn : p0.length < 9223372036854775807) :
  ZK L0 (0,0) = some (p0.flatten.length : Int) ∧ ZK L1 (0,[]) = some p0.flatten:=by
 have hlen : p0.flatten.length ≤ 140737488355328:=Nat.le_trans (Nat.le_mul_of_pos_right _ hby) hl
 have hstep : ∀ i (hi : i < p0.length),(p0.take (i + 1)).flatten = (p0.take i).flatten ++ p0[i]:=λi hi=>by
  rw [List.take_succ_eq_append_getElem hi,List.flatten_append]; simp
 have hle : ∀ i,(p0.take i).flatten.length ≤ p0.flatten.length:=λi=>by
  have : p0.flatten = (p0.take i).flatten ++ (p0.drop i).flatten:=by rw [← List.flatten_append,List.take_append_drop]
  rw [this,List.length_append]; omega
 constructor
 ·have:=Yr (f:=L0) (λi : Nat=>((i : Int),((p0.take i).flatten.length : Int))) 0 p0.length (Nat.zero_le _) (t:=(p0.flatten.length : Int)) (λi _ hi=>by
   have hs:=congrArg List.length (hstep i hi)
   rw [List.length_append] at hs
   have h3:=hle (i + 1)
   have e1 : wr (((p0.take i).flatten.length : Int) + (p0[i].length : Int)) = ((p0.take (i + 1)).flatten.length : Int):=by rw [YY om_]; omega
   have e2 : ¬ (((p0.take (i + 1)).flatten.length : Int) < 0):=by omega
   rw [h0]
   simp only [Int.ofNat_lt,hi,decide_true,if_true,Yx,ge_ hi,ob_,e1,e2,decide_false,bf_,if_false,WN (show i < 9223372036854775807 by omega)]) (by
   rw [h0]; simp)
  exact this
 have:=Yr (f:=L1) (λi : Nat=>((i : Int),(p0.take i).flatten)) 0 p0.length (Nat.zero_le _) (t:=p0.flatten) (λi _ hi=>by
  have hs:=congrArg List.length (hstep i hi)
  rw [List.length_append] at hs
  have h3:=hle (i + 1)
  have hap : app by_ (p0.take i).flatten p0[i] = some ((p0.take i).flatten ++ p0[i]):=Xm (by
   have : ((p0.take i).flatten.length + p0[i].length) * by_ ≤ p0.flatten.length * by_:=Nat.mul_le_mul_right _ om_
   omega)
  rw [h1]
  simp only [Int.ofNat_lt,hi,decide_true,if_true,Yx,ge_ hi,ob_,hap,WN (show i < 9223372036854775807 by omega),hstep i hi]) (by
  rw [h1]; simp)
 exact this
def yA (k : Nat) (b : UInt8) : UInt8:=shlB b (k : Int) ||| qn b ((8 - k : Nat) : Int)
theorem v_rot1 (b : UInt8) : Xd b 1 = some (yA 1 b):=by
 have e1 : wru (BitVec.ofInt 64 (IntKind.u64.wrap 1) &&& BitVec.ofInt 64 7).toNat = 1:=by decide +kernel
 have e2 : IntKind.u64.wrap (8 - 1) = 7:=by decide +kernel
 have e3 : XM 1 = some ():=rfl
 have e4 : XM 7 = some ():=rfl
 unfold Xd
 simp only [e1,e2,e3,e4,ob_]
 rfl
theorem v_rot4 (b : UInt8) : Xd b 4 = some (yA 4 b):=by
 have e1 : wru (BitVec.ofInt 64 (IntKind.u64.wrap 4) &&& BitVec.ofInt 64 7).toNat = 4:=by decide +kernel
 have e2 : IntKind.u64.wrap (8 - 4) = 4:=by decide +kernel
 have e3 : XM 4 = some ():=rfl
 unfold Xd
 simp only [e1,e2,e3,ob_]
 rfl
def Zci (k : Nat) (b : UInt8) : UInt8:=Zz (Zin (orI (BJ (bI b) (k : Int)) (Qp (BJ (bI b) (k : Int)) 8)) 255)
theorem Zbu {p : UInt8 → Bool} (h : ((List.range 256).all λn=>p (UInt8.ofNat n)) = true) (b : UInt8) : p b = true:=by
 have:=List.all_eq_true.1 h b.toNat (by simpa using UInt8.toNat_lt b)
 simpa using this
theorem turn0 (b : UInt8) : Zci 0 b = b:=by
 have:=Zbu (p:=λb=>Zci 0 b == b) (by decide +kernel) b
 simpa using this
theorem turn1 (b : UInt8) : Zci 1 b = yA 1 b:=by
 have:=Zbu (p:=λb=>Zci 1 b == yA 1 b) (by decide +kernel) b
 simpa using this
theorem turn4 (b : UInt8) : Zci 4 b = yA 4 b:=by
 have:=Zbu (p:=λb=>Zci 4 b == yA 4 b) (by decide +kernel) b
 simpa using this
theorem Zew (b : UInt8) (k : Nat) (h : k < 64) : VY b (k : Int) = some (Zci k b):=by
 have e1 : IntKind.u64.wrap (k : Int) = (k : Int):=Zj3 k om_
 unfold VY
 rw [e1]
 have e2 : XM (k : Int) = some ():=by unfold XM; rw [if_pos om_]
 rw [e2]; rfl
def Zbb (x : UInt8) : UInt8:=((TH 285 x ^^^ yA 1 (TH 285 x)) ^^^ yA 4 (TH 285 x)) ^^^ 90
def YP (n : Int) : GCipher:=⟨285,vf 256 λx=>Zbb (UInt8.ofNat x),mf λi j=>TH 285 (UInt8.ofNat (i ^^^ (4 + j))),vf 16 λi=>UInt8.ofNat ((13 * i + 4) % 16),n⟩
theorem Zf4 {i : Nat} (h : i < 256) : decide ((i : Int) < 256) = true:=by simp; omega
theorem qV (L : V256 × Int → Option (Fl (V256 × Int) V256)) (h : Nat → UInt8) (hL : ∀ i : Nat,i < 256 → ∀ a : Nat → UInt8,L (vf 256 a,(i : Int)) = some (.nx ((vf 256 a).setIfInBounds i (h i),wr ((i : Int) + 1))))
  (he : ∀ v,L (v,256) = some (.ex v)) : ZK L (Vector.replicate 256 0,0) = some (vf 256 h):=by
 rw [JY]
 exact V4 L (λ_=>0) h om_ 0 om_ (λj hj=>by omega) (λi _ hi a _ _=>hL i hi a) he
theorem Zgw (E : UInt8 → Option UInt8) (hE : ∀ a,E a = some (TH 285 a)) (L1 : Mat × Int → Mat × Int → Option (Fl (Mat × Int) Mat)) (L0 : Mat × Int → Option (Fl (Mat × Int) Mat))
  (h1 : ∀ s t,L1 s t = if (decide (t.2 < 4)) = true then ((E (Zz (BY s.2 (wr (4 + t.2))))).bind λr=>(ZP t.1 s.2).bind λx=>(ZP x t.2).bind λ_=>some (Fl.nx ((t.1.setIfInBounds (s.2).toNat (x.setIfInBounds (t.2).toNat r)),wr (t.2 + 1)))) else (some (Fl.ex t.1)))
  (h0 : ∀ s,L0 s = if (decide (s.2 < 4)) = true then ((ZK (L1 s) (s.1,0) : Option Mat).bind λj=>some (Fl.nx (j,wr (s.2 + 1)))) else (some (Fl.ex s.1))) :
  ZK L0 (Vector.replicate 4 (Vector.replicate 4 (0 : UInt8)),0) = some (mf λi j=>TH 285 (UInt8.ofNat (i ^^^ (4 + j)))):=by
 have inner : ∀ (i : Nat) (hi : i < 4) (g : MF),ZK (L1 (mf g,(i : Int))) (mf g,0) = some (mf λr c=>if r = i then TH 285 (UInt8.ofNat (i ^^^ (4 + c))) else g r c):=by
  intro i hi g
  have:=Yr (f:=L1 (mf g,(i : Int))) (λj : Nat=>(mf λr c=>if r = i ∧ c < j then TH 285 (UInt8.ofNat (i ^^^ (4 + c))) else g r c,(j : Int))) 0 4 om_ (t:=mf λr c=>if r = i then TH 285 (UInt8.ofNat (i ^^^ (4 + c))) else g r c) (λj _ hj=>by
   have e1 : wr (4 + (j : Int)) = ((4 + j : Nat) : Int):=by rw [YY om_]; omega
   rw [h1]
   simp only [lt4 hj,if_true,e1,B7 i (4 + j) om_ om_,VI,hE,ob_,VB _ hi,Yh _ hj,tn_,Jk,Aj,wr4 (show j < 1000 by omega)]
   refine congrArg (λz=>some (Fl.nx (z,((j + 1 : Nat) : Int)))) (Vs λr _ c _=>?_)
   by_cases hr : r = i
   ·subst hr
    by_cases hc : c = j
    ·subst hc; simp
    ·by_cases hc2 : c < j
     ·simp [hc,hc2,show c < j + 1 by omega]
     ·simp [hc,hc2,show ¬ c < j + 1 by omega]
   ·simp [hr]) (by
   rw [h1]
   simp only [show decide (((4 : Nat) : Int) < 4) = false from rfl,bf_,if_false]
   refine congrArg (λz=>some (Fl.ex z)) (Vs λr _ c hc=>?_)
   by_cases hr : r = i <;> simp [hr,hc])
  have e0 : (mf λr c=>if r = i ∧ c < 0 then TH 285 (UInt8.ofNat (i ^^^ (4 + c))) else g r c) = mf g:=Vs λr _ c _=>by simp
  simp only [e0] at this
  exact this
 have:=Yr (f:=L0) (λi : Nat=>(mf λr c=>if r < i then TH 285 (UInt8.ofNat (r ^^^ (4 + c))) else 0,(i : Int))) 0 4 om_ (t:=mf λi j=>TH 285 (UInt8.ofNat (i ^^^ (4 + j)))) (λi _ hi=>by
  rw [h0]
  simp only [lt4 hi,if_true,inner i hi,ob_,wr4 (show i < 1000 by omega)]
  refine congrArg (λz=>some (Fl.nx (z,((i + 1 : Nat) : Int)))) (Vs λr _ c _=>?_)
  by_cases hr : r = i
  ·subst hr; simp
  ·by_cases hc2 : r < i
   ·simp [hr,hc2,show r < i + 1 by omega]
   ·simp [hr,hc2,show ¬ r < i + 1 by omega]) (by
  rw [h0]
  simp only [show decide (((4 : Nat) : Int) < 4) = false from rfl,bf_,if_false]
  exact congrArg (λz=>some (Fl.ex z)) (Vs λr hr c hc=>by simp [hr]))
 have e0 : (mf λr c=>if r < 0 then TH 285 (UInt8.ofNat (r ^^^ (4 + c))) else 0) = mf λ_ _=>0:=Vs λr _ c _=>by simp
 simp only [e0] at this
 rw [qP]
 exact this
theorem Zbg (L : Blk × Int → Option (Fl (Blk × Int) Blk))
  (hL : ∀ s,L s = if (decide (s.2 < 16)) = true then ((ZP s.1 s.2).bind λ_=>some (Fl.nx ((s.1.setIfInBounds (s.2).toNat (Zz (Int.tmod (wr ((wr (13 * s.2)) + 4)) 16))),wr (s.2 + 1)))) else (some (Fl.ex s.1))) :
  ZK L (Vector.replicate 16 0,0) = some (vf 16 λi=>UInt8.ofNat ((13 * i + 4) % 16)):=by
 rw [JY]
 exact V4 L (λ_=>0) (λi=>UInt8.ofNat ((13 * i + 4) % 16)) om_ 0 om_ (λj hj=>by omega) (λi _ hi a _ _=>by
  have e1 : wr (13 * (i : Int)) = 13 * (i : Int):=YY om_
  have e2 : wr (13 * (i : Int) + 4) = ((13 * i + 4 : Nat) : Int):=by rw [YY om_]; omega
  have e3 : Int.tmod ((13 * i + 4 : Nat) : Int) 16 = (((13 * i + 4) % 16 : Nat) : Int):=by rw [Int.tmod_eq_emod_of_nonneg om_]; omega
  rw [hL]
  simp only [yR hi,if_true,Yh _ hi,ob_,e1,e2,e3,VI,tn_]) (λv=>by rw [hL]; simp)
theorem zV (n : Int) : Vr n = some (YP n):=by
 have hinv : ∀ a,Y3 285 a = some (TH 285 a):=λa=>Hk 285 om_ a
 have h1:=qV Uh (λx=>Zbb (UInt8.ofNat x)) (λi hi a=>by
  unfold Uh
  simp only [Zf4 hi,if_true,VI,hinv,v_rot1,v_rot4,ob_,Yh _ hi,tn_]
  rfl) (λv=>by unfold Uh; simp)
 have h2:=Zgw (Y3 285) hinv TO TQ (λs t=>by unfold TO; rfl) (λs=>by unfold TQ; rfl)
 have h3:=Zbg TN (λs=>by unfold TN; rfl)
 unfold Vr YP
 simp only [h1,h2,h3,ob_]
theorem Zob (L : UInt8 × UInt8 × Int → Option (Fl (UInt8 × UInt8 × Int) UInt8)) (T : UInt8 → UInt8 → Option UInt8) (hT : ∀ a b,T a b = some (ZE 285 a b))
  (hL : ∀ s,L s = if (decide (s.2.2 > 0)) = true then (((if ((Int.tmod s.2.2 2) == 1) = true then ((T s.1 s.2.1).bind λr=>some r) else (some s.1) : Option UInt8).bind λj24=>(T s.2.1 s.2.1).bind λr32=>some (j24,r32) : Option (UInt8 × UInt8)).bind λj21=>some (Fl.nx (j21.1,j21.2,wr (Int.tdiv s.2.2 2)))) else (some (Fl.ex s.1))) :
  ∀ (f k : Nat) (a o : UInt8),k < 2 ^ f → f ≤ 62 → ZK L (o,a,(k : Int)) = some (B8 285 f a k o):=by
 intro f
 induction f with
 | zero =>
  intro k a o hk _
  have : k = 0:=by simpa using hk
  subst this
  exact We (by rw [hL]; simp [B8])
 | succ f ih =>
  intro k a o hk hf
  by_cases h0 : k = 0
  ·subst h0
   exact We (by rw [hL]; simp [B8])
  ·have hlt : k < 9223372036854775808:=Nat.lt_of_lt_of_le hk (Nat.pow_le_pow_right (by omega : 0 < 2) (by omega : f + 1 ≤ 63))
   have hst : L (o,a,(k : Int)) = some (.nx (if k % 2 = 1 then ZE 285 o a else o,ZE 285 a a,((k / 2 : Nat) : Int))):=by
    rw [hL]
    have c1 : (k : Int) > 0:=by omega
    have e3 : ((((k % 2 : Nat) : Int)) == 1) = decide (k % 2 = 1):=by
     rw [Bool.eq_iff_iff,beq_iff_eq,decide_eq_true_eq]; omega
    simp only [c1,decide_true,if_true,Zot,Zkj,hT,e3,ob_,Zdx (k / 2) om_]
    by_cases c2 : k % 2 = 1 <;> simp [c2]
   rw [WM hst,ih (k / 2) _ _ (by rw [Nat.pow_succ] at hk; omega) om_]
   conv=>rhs; unfold B8
   rw [if_neg h0]
theorem Zi6 : Wx 285 254 = some (vf 256 λx=>TH 285 (UInt8.ofNat x)):=by
 have hp:=Zob (XS 285) (YO 285) (Js 285 om_ om_) (λs=>by unfold XS; rfl)
 have hp2 : ∀ a,ZK (XS 285) (1,a,254) = some (TH 285 a):=λa=>hp 8 254 a 1 om_ om_
 have h1:=qV (WF 285 254) (λx=>TH 285 (UInt8.ofNat x)) (λi hi a=>by
  unfold WF
  simp only [Zf4 hi,if_true,VI,hp2,ob_,Yh _ hi,tn_]) (λv=>by unfold WF; simp)
 unfold Wx
 simp only [h1,ob_]
def rots (x : UInt8) : UInt8:=((90 ^^^ x) ^^^ yA 1 x) ^^^ yA 4 x
theorem Zbo : Xy ([0,1,4] : List Int) 90 = some (vf 256 λx=>rots (UInt8.ofNat x)):=by
 have t0 : ∀ b,VY b 0 = some b:=λb=>by have:=Zew b 0 om_; rw [turn0] at this; exact this
 have t1 : ∀ b,VY b 1 = some (yA 1 b):=λb=>by have:=Zew b 1 om_; rw [turn1] at this; exact this
 have t4 : ∀ b,VY b 4 = some (yA 4 b):=λb=>by have:=Zew b 4 om_; rw [turn4] at this; exact this
 have w1 : wr 1 = 1:=by decide
 have w2 : wr 2 = 2:=by decide
 have w3 : wr 3 = 3:=by decide
 have hin : ∀ (s : V256 × Int),ZK (YB [0,1,4] s) (90,0) = some (rots (Zz s.2)):=by
  intro s
  rw [WM (f:=YB [0,1,4] s) (s:=(90,0)) (s':=(90 ^^^ Zz s.2,1)) (by unfold YB; simp [t0,w1,idx])]
  rw [WM (f:=YB [0,1,4] s) (s':=((90 ^^^ Zz s.2) ^^^ yA 1 (Zz s.2),2)) (by unfold YB; simp [t1,w2,idx])]
  rw [WM (f:=YB [0,1,4] s) (s':=(((90 ^^^ Zz s.2) ^^^ yA 1 (Zz s.2)) ^^^ yA 4 (Zz s.2),3)) (by unfold YB; simp [t4,w3,idx])]
  exact We (by unfold YB; simp; rfl)
 have h1:=qV (XE [0,1,4] 90) (λx=>rots (UInt8.ofNat x)) (λi hi a=>by
  unfold XE
  simp only [Zf4 hi,if_true,hin,VI,ob_,Yh _ hi,tn_]) (λv=>by unfold XE; simp)
 unfold Xy
 simp only [h1,ob_]
theorem Zm5 (f g : Nat → UInt8) : VE (vf 256 f) (vf 256 g) = some (vf 256 λx=>g (f x).toNat):=by
 have hv : ∀ x : UInt8,ZP (vf 256 g) (bI x) = some (g x.toNat):=λx=>Yh g (UInt8.toNat_lt x)
 have h1:=qV (Vf (vf 256 f) (vf 256 g)) (λx=>g (f x).toNat) (λi hi a=>by
  unfold Vf
  simp only [Zf4 hi,if_true,ob_,Yh _ hi,hv,tn_]) (λv=>by unfold Vf; simp)
 unfold VE
 simp only [h1,ob_]
theorem Zje (x : UInt8) : rots (UInt8.ofNat (TH 285 x).toNat) = Zbb x:=by
 rw [UInt8.ofNat_toNat]
 unfold rots Zbb
 ac_rfl
theorem Zjt (n : Int) : QA n = some (YP n):=by
 have hinv : ∀ a,Un 285 a = some (TH 285 a):=λa=>Zia 285 om_ om_ a
 have h2:=Zgw (Un 285) hinv KC KH (λs t=>by unfold KC; rfl) (λs=>by unfold KH; rfl)
 have h3:=Zbg KG (λs=>by unfold KG; rfl)
 unfold QA YP
 simp only [Zi6,Zbo,Zm5,Zje,h2,h3,ob_]

theorem Zfn {α : Type} (n : Nat) (f : Nat → α) : (vf n f).toList = (List.range n).map f:=by
 apply List.ext_getElem
 ·simp
 intro i h1 h2
 simp at h1
 rw [Vector.getElem_toList,Hr f h1]; simp
theorem Zna : UZ ((List.range 256).map λx=>Zbb (UInt8.ofNat x)) = true:=by decide +kernel
theorem Zih : VA (vf 16 λi=>UInt8.ofNat ((13 * i + 4) % 16)) = true:=by
 unfold VA
 rw [Zfn]
 decide +kernel
theorem Zg0 : Yl 285 = true:=by decide +kernel
theorem Zmn : (Zdo 285 (mf λi j=>TH 285 (UInt8.ofNat (i ^^^ (4 + j)))) != 0) = true:=by decide +kernel
theorem jE (n : Int) (h : 1 ≤ n ∧ n ≤ 20) : Z6 (YP n) = true:=by
 unfold Z6 YP
 simp only [Zfn,Zna,Zih,Zg0,Bool.true_and,h,decide_true,Bool.and_true,and_self]
 exact Zmn
theorem Ar (p0 : List (List UInt8)) (hl : p0.flatten.length ≤ 140737488355328) (hn : p0.length < 9223372036854775807) : YE p0 = some p0.flatten:=by
 obtain ⟨a1,a2⟩:=Ze9 1 p0 (WX p0) (WT p0) (λs=>by unfold WX; rfl) (λs=>by unfold WT; rfl) om_ om_ hn
 have hg : XX (p0.flatten.length : Int) = some []:=by
  unfold XX
  exact Znr 1 _ _ om_ om_
 unfold YE
 simp only [a1,a2,hg,ob_]
theorem Qb (l : List UInt8) (h : l.length ≤ 140737488355328) : Z4 l = some l:=by
 unfold Z4
 rw [Xm os_]; rfl
theorem Zmr (l : List UInt8) (h : l.length ≤ 140737488355328) : Kk l = some l:=by
 unfold Kk
 rw [Xm os_]; rfl
theorem Zad {l : List UInt8} {n : Nat} (h : n ≤ l.length) : JS n l = some (vf n λj=>l.getD j 0):=by
 unfold JS
 rw [dif_pos h]
 refine congrArg some (Bm λi hi=>?_)
 rw [Hr _ hi,gd_,ge_ om_]
 simp
theorem Zgh {l : List UInt8} {i j : Nat} (h : i ≤ j) (h2 : j ≤ l.length) : ∃ r,slc l (i : Int) (j : Int) = some r ∧ r.length = j - i ∧ ∀ k,k < j - i → r.getD k 0 = l.getD (i + k) 0:=by
 refine ⟨_,KW h h2,by simp; omega,λk hk=>?_⟩
 rw [gd_,gd_,List.getElem?_drop,List.getElem?_take,if_pos om_]

def beL (n : Int) : Nat → List UInt8
 | 0=>[]
 | k + 1=>Zz (Qp n ((8 * k : Nat) : Int)) :: beL n k
theorem je (n : Int) : ∀ k,(beL n k).length = k
 | 0=>rfl
 | k + 1=>by rw [beL,List.length_cons,je n k]
theorem Zqx (n : Int) (L : List UInt8 × Int → Option (Fl (List UInt8 × Int) (List UInt8))) (K : Nat)
  (hL : ∀ (k : Nat) (acc : List UInt8),k < K → acc.length ≤ 100000000 → L (acc,(k : Int)) = some (.nx (acc ++ [Zz (Qp n ((8 * k : Nat) : Int))],(k : Int) - 1))) (he : ∀ acc,L (acc,-1) = some (.ex acc)) :
  ∀ (k : Nat) (acc : List UInt8),k ≤ K → acc.length + k ≤ 100000000 → ZK L (acc,(k : Int) - 1) = some (acc ++ beL n k):=by
 intro k
 induction k with
 | zero=>intro acc _ _; rw [show ((0 : Nat) : Int) - 1 = -1 from rfl,We (he acc)]; simp [beL]
 | succ k ih =>
  intro acc hk hl
  have e : ((k + 1 : Nat) : Int) - 1 = (k : Int):=by omega
  rw [e,WM (hL k acc om_ om_),ih _ om_ os_]
  simp [beL]
theorem AW (n : Int) (m : Nat) (hm : m ≤ 100) : XU n (m : Int) = some (beL n m):=by
 have h:=Zqx n (Tn n) 100 (λk acc hk hl=>by
  unfold Tn
  have e1 : wr (8 * (k : Int)) = ((8 * k : Nat) : Int):=by rw [YY om_]; omega
  have e2 : XM ((8 * k : Nat) : Int) = some ():=by unfold XM; rw [if_pos om_]
  have e3 : wr ((k : Int) - 1) = (k : Int) - 1:=YY om_
  have e4 : decide ((k : Int) ≥ 0) = true:=by simp
  simp only [e1,e2,e3,e4,if_true,ob_]
  rw [Xm os_]; rfl) (λacc=>by unfold Tn; simp) m [] hm os_
 have e : wr ((m : Int) - 1) = (m : Int) - 1:=YY om_
 unfold XU
 rw [e,h]; rfl
def Jj (n : Nat) : Nat:=(24 - n % 16) % 16
def Zc1 (d : List UInt8) : List UInt8:=((d ++ [128]) ++ List.replicate (Jj (d.length + 1)) 0) ++ beL (d.length : Int) 8
theorem Znl (d : List UInt8) : ∃ n,(Zc1 d).length = 16 * n ∧ n ≤ d.length + 2:=by
 have : (Zc1 d).length = d.length + 1 + Jj (d.length + 1) + 8:=by simp [Zc1,je]; omega
 refine ⟨(d.length + 1 + Jj (d.length + 1) + 8) / 16,?_,?_⟩
 ·rw [this]; unfold Jj; omega
 unfold Jj; omega
theorem Znp (L : List UInt8 → Option (Fl (List UInt8) (List UInt8))) (hL : ∀ s,L s = if ((Int.tmod (s.length : Int) 16) != 8) = true then ((app 1 s ([0] : List UInt8)).bind λ(_ : List UInt8)=>some (Fl.nx (s ++ ([0] : List UInt8)))) else (some (Fl.ex s)))
  (l : List UInt8) (hl : l.length ≤ 100000000) : ZK L l = some (l ++ List.replicate (Jj l.length) 0):=by
 have ht : ∀ n : Nat,Int.tmod (n : Int) 16 = ((n % 16 : Nat) : Int):=λn=>by rw [Int.tmod_eq_emod_of_nonneg om_]; omega
 have:=Yr (f:=L) (λi : Nat=>l ++ List.replicate i 0) 0 (Jj l.length) (Nat.zero_le _) (t:=l ++ List.replicate (Jj l.length) 0) (λi _ hi=>by
  rw [hL,ht]
  have hz : Jj l.length < 16:=by unfold Jj; omega
  have e : ((((l ++ List.replicate i 0).length % 16 : Nat) : Int) != 8) = true:=by
   simp only [List.length_append,List.length_replicate,bne_iff_ne,ne_eq]
   unfold Jj at hi; omega
  rw [e,if_pos rfl,Xm os_]
  simp [List.replicate_succ']) (by
  rw [hL,ht]
  have e : ((((l ++ List.replicate (Jj l.length) 0).length % 16 : Nat) : Int) != 8) = false:=by
   simp only [List.length_append,List.length_replicate,bne_eq_false_iff_eq]
   unfold Jj; omega
  rw [e]; rfl)
 simpa using this
theorem Zfs (d : List UInt8) (h : d.length ≤ 10000000) : Tr d = some (Zc1 d):=by
 have h1:=Znp Qm (λs=>by unfold Qm; rfl) (d ++ [128]) os_
 have h2:=AW (d.length : Int) 8 om_
 have h3 : XU (d.length : Int) 8 = some (beL (d.length : Int) 8):=h2
 have hz : Jj (d.length + 1) < 16:=by unfold Jj; omega
 have e : (d ++ [128]).length = d.length + 1:=by simp
 rw [e] at h1
 unfold Tr Zc1
 rw [Qb d om_,ob_,Xm os_,ob_,h1,ob_,h3,ob_,Xm (by simp [je]; omega)]
 rfl
def Zd9 (l : List UInt8) (i : Nat) : Blk:=vf 16 λj=>l.getD (16 * i + j) 0
def XQ (l : List UInt8) (n : Nat) : List Blk:=(List.range n).map (Zd9 l)
theorem Vg (l : List UInt8) (n : Nat) : (XQ l n).length = n:=by simp [XQ]
theorem jv (l : List UInt8) (n : Nat) : XQ l (n + 1) = XQ l n ++ [Zd9 l n]:=by simp [XQ,List.range_succ]
theorem yg (l : List UInt8) (n : Nat) (hl : l.length = 16 * n) (hn : n ≤ 100000000) : Ub l = some (XQ l n):=by
 have:=Yr (f:=UE l) (λi : Nat=>(XQ l i,((16 * i : Nat) : Int))) 0 n (Nat.zero_le _) (t:=XQ l n) (λi _ hi=>by
  unfold UE
  have e1 : wr (((16 * i : Nat) : Int) + 16) = ((16 * (i + 1) : Nat) : Int):=by rw [YY om_]; omega
  have e2 : decide (((16 * i : Nat) : Int) < (l.length : Int)) = true:=by simp; omega
  obtain ⟨r,r1,r2,r3⟩:=Zgh (l:=l) (i:=16 * i) (j:=16 * (i + 1)) om_ om_
  have e3 : JS 16 r = some (Zd9 l i):=by
   rw [Zad om_]
   exact congrArg some (W2 λj hj=>r3 j om_)
  simp only [e1,e2,if_true,r1,e3,ob_]
  rw [Xm (by rw [Vg]; simp; omega),jv]; rfl) (by
  unfold UE
  have e2 : decide (((16 * n : Nat) : Int) < (l.length : Int)) = false:=by simp; omega
  simp only [e2,bf_,if_false])
 have h2 : ZK (UE l) ([],0) = _:=this
 unfold Ub
 rw [h2]; rfl
abbrev Dig:=V32
def df (v : Dig) (i : Nat) : UInt8:=v[i]?.getD default
theorem vf_df (v : Dig) : v = vf 32 (df v):=Zk3 v
def Zcx : Dig:=vf 32 λi=>UInt8.ofNat (17 * i)
theorem lt32 {i : Nat} (h : i < 32) : decide ((i : Int) < 32) = true:=by simp; omega
theorem Zrz : VS = some Zcx:=by
 have h:=V4 Wu (λ_=>0) (λi=>UInt8.ofNat (17 * i)) om_ 0 om_ (λj hj=>by omega) (λi _ hi a _ _=>by
  unfold Wu
  have e1 : wr (17 * (i : Int)) = ((17 * i : Nat) : Int):=by rw [YY om_]; omega
  simp only [lt32 hi,if_true,Yh _ hi,ob_,e1,VI,tn_]) (λv=>by unfold Wu; simp)
 have h2 : ZK Wu (Vector.replicate 32 0,0) = some Zcx:=by rw [JY]; exact h
 unfold VS
 rw [h2]; rfl
def hiF (s : Nat → UInt8) : Nat → UInt8:=λi=>s (16 + i)
def Zp1 (f g : Nat → UInt8) : Nat → UInt8:=λi=>if i < 16 then f i else g (i - 16)
def Zk5 (c : GCipher) (k a : Nat → UInt8) : Nat → UInt8:=Bl (Zau c k a c.Rounds.toNat) a
def absC (c : GCipher) (s m : Nat → UInt8) : Nat → UInt8 :=
 Zp1 (Zk5 c (hiF s) (Bl s m)) (Zk5 c (Zk5 c (hiF s) (Bl s m)) (Bl (hiF s) m))
theorem Zpi (c : GCipher) (h : Z6 c = true) (s m : Nat → UInt8) : WI ⟨Z9 c⟩ (vf 32 s) (vf 16 m) = some (vf 32 (absC c s m)):=by
 have g1 : ∀ {n : Nat} (f : Nat → UInt8) (k : Nat),k < n → (vf n f).toList.getD k 0 = f k:=λf k hk=>by
  rw [Zfn,gd_,List.getElem?_map,List.getElem?_range hk]; rfl
 have hl : ∀ {n : Nat} (f : Nat → UInt8),(vf n f).toList.length = n:=λf=>by simp
 have cut : ∀ {n : Nat} (f : Nat → UInt8) (i j : Nat),i ≤ j → j ≤ n → ∃ r,slc (vf n f).toList (i : Int) (j : Int) = some r ∧ r.length = j - i ∧ JS (j - i) r = some (vf (j - i) λk=>f (i + k)) ∧ ∀ k,k < j - i → r.getD k 0 = f (i + k):=by
  intro n f i j hij hjn
  obtain ⟨r,r1,r2,r3⟩:=Zgh (l:=(vf n f).toList) (i:=i) (j:=j) hij (by rw [hl]; exact hjn)
  have r4 : ∀ k,k < j - i → r.getD k 0 = f (i + k):=λk hk=>by rw [r3 k hk,g1 f (i + k) om_]
  refine ⟨r,r1,r2,?_,r4⟩
  rw [Zad om_]
  exact congrArg some (W2 r4)
 obtain ⟨l,l1,l2,l3,l4⟩:=cut (n:=32) s 0 16 om_ om_
 obtain ⟨l',l1',l2',l3',l4'⟩:=cut (n:=32) s 16 32 om_ om_
 have a1 : slc (vf 32 s).toList (0 : Int) (16 : Int) = some l:=l1
 have a2 : slc (vf 32 s).toList (16 : Int) (32 : Int) = some l':=l1'
 have a3 : JS 16 l = some (vf 16 s):=by
  have : JS 16 l = some (vf 16 λk=>s (0 + k)):=l3
  rw [this]; exact congrArg some (W2 λk _=>by rw [Nat.zero_add])
 have a4 : JS 16 l' = some (vf 16 (hiF s)):=l3'
 have join : ∀ f g : Nat → UInt8,((slc (vf 16 f).toList (0 : Int) (16 : Int)).bind λ(l56 : (List UInt8))=>(slc (vf 16 g).toList (0 : Int) (16 : Int)).bind λ(l59 : (List UInt8))=>(YE ([l56,l59] : (List (List UInt8)))).bind λ(r64 : (List UInt8))=>(JS 32 r64).bind λ(x67 : V32)=>some x67 : Option (V32)) = some (vf 32 (Zp1 f g)):=by
  intro f g
  obtain ⟨p,p1,p2,_,p4⟩:=cut (n:=16) f 0 16 om_ om_
  obtain ⟨q,q1,q2,_,q4⟩:=cut (n:=16) g 0 16 om_ om_
  have b1 : slc (vf 16 f).toList (0 : Int) (16 : Int) = some p:=p1
  have b2 : slc (vf 16 g).toList (0 : Int) (16 : Int) = some q:=q1
  have b3 : YE [p,q] = some (p ++ q):=by
   have:=Ar [p,q] os_ (by simp)
   simpa using this
  rw [b1,ob_,b2,ob_,b3,ob_,Zad os_,ob_]
  refine congrArg some (W2 λk hk=>?_)
  unfold Zp1
  rw [gd_]
  by_cases h1 : k < 16
  ·rw [if_pos h1,List.getElem?_append_left om_,← gd_,p4 k om_,Nat.zero_add]
  ·rw [if_neg h1,List.getElem?_append_right om_,← gd_,q4 (k - p.length) om_,Nat.zero_add,show p.length = 16 from p2]
 have in1 : ∀ k a : Nat → UInt8,((XI ⟨Z9 c⟩ (vf 16 k) (vf 16 a)).bind λ(r34 : V16)=>(Yz r34 (vf 16 a)).bind λ(r36 : V16)=>some r36 : Option V16) = some (vf 16 (Zk5 c k a)):=λk a=>by
  rw [jB c h,ob_,Tm,ob_]; rfl
 unfold WI
 rw [a1,ob_,a3,ob_,a2,ob_,a4,ob_,Tm,ob_,in1,ob_,Tm,ob_,in1,ob_,join,ob_]
 rfl

def absV (c : GCipher) (s : Dig) (m : Blk) : Dig:=vf 32 (absC c (df s) (bf m))
theorem Zrr (c : GCipher) (h : Z6 c = true) (s : Dig) (m : Blk) : WI ⟨Z9 c⟩ s m = some (absV c s m):=by
 have h1:=Zpi c h (df s) (bf m)
 rw [← vf_df,← Bp] at h1
 exact h1
def zS (c : GCipher) (d : List UInt8) : Dig:=(XQ (Zc1 d) ((Zc1 d).length / 16)).foldl (absV c) Zcx
theorem HR (c : GCipher) (h : Z6 c = true) (ps : List (List UInt8)) (hl : ps.flatten.length ≤ 10000000) (hn : ps.length < 9223372036854775807) : YC ⟨Z9 c⟩ ps = some (zS c ps.flatten):=by
 obtain ⟨n,n1,n2⟩:=Znl ps.flatten
 have e : (Zc1 ps.flatten).length / 16 = n:=by omega
 have h1:=T7 (f:=Wo ⟨Z9 c⟩ (XQ (Zc1 ps.flatten) n)) (XQ (Zc1 ps.flatten) n) (λ(b : Dig) i=>(b,i)) (absV c) Zcx (t:=zS c ps.flatten) (by rw [Vg]; omega) (λi hi=>by
  unfold Wo
  simp only [Int.ofNat_lt,hi,decide_true,if_true,Yx,ge_ hi,ob_,Zrr c h _ _]) (by
  unfold Wo zS
  rw [e]; simp)
 unfold YC
 rw [Zrz,ob_,Ar ps om_ hn,ob_,Zfs _ hl,ob_,yg _ n n1 om_,ob_]
 have h2 : ZK (Wo ⟨Z9 c⟩ (XQ (Zc1 ps.flatten) n)) (Zcx,0) = _:=h1
 rw [h2]; rfl
def Ze7 (d : Dig) (e : GEvent) : List UInt8:=((d.toList ++ [Zz e.Kind]) ++ beL e.Number 4) ++ e.Tag.toList
def Zgv (c : GCipher) (d : Dig) (e : GEvent) : Dig:=zS c (Ze7 d e)
def z9 (c : GCipher) (l : List GEvent) : Dig:=l.foldl (Zgv c) (zS c (List.replicate 32 0))
theorem Zbj : Z6 (YP 4) = true:=jE 4 om_
theorem Zi1 : Z6 (YP 8) = true:=jE 8 om_
theorem Zfy (n : Int) (h : 1 ≤ n ∧ n ≤ 20) : Qr n = some ⟨Z9 (YP n)⟩:=by
 unfold Qr
 rw [zV,ob_,qg _ (jE n h)]; rfl
theorem QV : Xn = some ⟨Z9 (YP 4)⟩:=by
 unfold Xn
 rw [Zfy 4 om_]; rfl
theorem jj (d : Dig) : slc d.toList (0 : Int) (32 : Int) = some d.toList:=by
 have h1 : slc d.toList ((0 : Nat) : Int) ((32 : Nat) : Int) = _:=KW (Nat.zero_le _) (by simp)
 have h2 : slc d.toList (0 : Int) (32 : Int) = _:=h1
 rw [h2,List.drop_zero,List.take_of_length_le (by simp)]
theorem BF (c : GCipher) (h : Z6 c = true) (l : List GEvent) (hl : l.length < 9223372036854775807) : Wz ⟨Z9 c⟩ l = some (z9 c l):=by
 have hm : mkS 1 (0 : UInt8) 32 = some (List.replicate 32 0):=by unfold mkS; rw [if_pos om_]; rfl
 have h0:=HR c h [List.replicate 32 0] (by simp) (by simp)
 have e0 : ([List.replicate 32 0] : List (List UInt8)).flatten = List.replicate 32 0:=by simp
 rw [e0] at h0
 have h1:=T7 (f:=W8 ⟨Z9 c⟩ l) l (λ(b : Dig) i=>(b,i)) (Zgv c) (zS c (List.replicate 32 0)) (t:=z9 c l) hl (λi hi=>by
  unfold W8
  have hb : XU l[i].Number 4 = some (beL l[i].Number 4):=AW _ 4 om_
  have hd:=HR c h [((l.take i).foldl (Zgv c) (zS c (List.replicate 32 0))).toList,[Zz l[i].Kind],beL l[i].Number 4,l[i].Tag.toList] (by simp [je]) (by simp)
  have ed : ([((l.take i).foldl (Zgv c) (zS c (List.replicate 32 0))).toList,[Zz l[i].Kind],beL l[i].Number 4,l[i].Tag.toList] : List (List UInt8)).flatten = Ze7 ((l.take i).foldl (Zgv c) (zS c (List.replicate 32 0))) l[i]:=by simp [Ze7]
  rw [ed] at hd
  simp only [Int.ofNat_lt,hi,decide_true,if_true,Yx,ge_ hi,ob_,jj,hb,hd]
  rfl) (by unfold W8 z9; simp)
 unfold Wz
 rw [hm,ob_,h0,ob_]
 have h2 : ZK (W8 ⟨Z9 c⟩ l) (zS c (List.replicate 32 0),0) = _:=h1
 rw [h2]; rfl
def Yb (key : Blk) : GVault:=⟨[key],1,[],[],z9 (YP 4) []⟩
theorem Ax (key : Blk) : QB key = some (Yb key):=by
 unfold QB
 rw [QV,ob_,BF _ Zbj [] (by simp)]; rfl
def Bf (k : Blk) (b : UInt8) : Blk:=vf 16 λi=>bf k i ^^^ b
theorem Zlp (b : UInt8) (L : Blk × Int → Option (Fl (Blk × Int) Blk)) (hL : ∀ s,L s = if (decide (s.2 < 16)) = true then ((ZP s.1 s.2).bind λx=>(ZP s.1 s.2).bind λ_=>some (Fl.nx ((s.1.setIfInBounds (s.2).toNat (x ^^^ b)),wr (s.2 + 1)))) else (some (Fl.ex s.1))) (k : Blk) :
  ZK L (k,0) = some (Bf k b):=by
 have h:=V4 L (bf k) (λi=>bf k i ^^^ b) om_ 0 om_ (λj hj=>by omega) (λi _ hi a _ ha=>by
  rw [hL]
  simp only [yR hi,if_true,Yh _ hi,ob_,tn_,ha i (Nat.le_refl _)]) (λv=>by rw [hL]; simp)
 rw [← Bp] at h
 exact h
theorem Af (k : Blk) (b : UInt8) : WV k b = some (Bf k b).toList:=by
 have hs : ∀ v : Blk,slc v.toList (0 : Int) (16 : Int) = some v.toList:=λv=>by
  have h1 : slc v.toList ((0 : Nat) : Int) ((16 : Nat) : Int) = _:=KW (Nat.zero_le _) (by simp)
  have h2 : slc v.toList (0 : Int) (16 : Int) = _:=h1
  rw [h2,List.drop_zero,List.take_of_length_le (by simp)]
 unfold WV
 rw [Zlp b (Qn b) (λs=>by unfold Qn; rfl),ob_,hs]; rfl
theorem Zl9 {n : Nat} (v : Vector UInt8 n) : JS n v.toList = some v:=by
 unfold JS
 rw [dif_pos (by simp)]
 refine congrArg some (Bm λi hi=>?_)
 simp
def Jc (l : List Blk) : List UInt8:=(l.map λb=>b.toList).flatten
def tagC (c : GCipher) (key : Blk) (d : List UInt8) : Dig:=zS c ((Bf key 165).toList ++ (zS c ((Bf key 90).toList ++ d)).toList)
theorem v_tag (c : GCipher) (h : Z6 c = true) (key : Blk) (ps : List (List UInt8)) (hl : ps.flatten.length ≤ 1000000) (hn : ps.length < 9223372036854775807) : V6 ⟨Z9 c⟩ key ps = some (tagC c key ps.flatten):=by
 have e1 : ([(Bf key 90).toList,ps.flatten] : List (List UInt8)).flatten = (Bf key 90).toList ++ ps.flatten:=by simp
 have d1:=HR c h [(Bf key 90).toList,ps.flatten] (by rw [e1,List.length_append,Vector.length_toList]; omega) (by simp)
 rw [e1] at d1
 have d2:=HR c h [(Bf key 165).toList,(zS c ((Bf key 90).toList ++ ps.flatten)).toList] (by simp) (by simp)
 have e2 : ([(Bf key 165).toList,(zS c ((Bf key 90).toList ++ ps.flatten)).toList] : List (List UInt8)).flatten = (Bf key 165).toList ++ (zS c ((Bf key 90).toList ++ ps.flatten)).toList:=by simp
 rw [e2] at d2
 unfold V6
 rw [Af,ob_,Ar ps om_ hn,ob_,d1,ob_,Af,ob_,jj,ob_,d2]
 rfl
def Y6 (v : GVault) (n : Int) : Int:=match v.Records.findIdx? (λr=>r.Number == n) with | some i=>(i : Int) | none=>-1
theorem Zr0 (v : GVault) (n : Int) (h : v.Records.length < 9223372036854775807) : UL v n = some (Y6 v n):=by
 unfold UL Yf
 rw [zH v.Records _ (λr=>r.Number == n) _ (λs=>by unfold Yu; rfl) h (λx _=>rfl)]
 rfl
theorem BM {v : GVault} {n : Int} (h : ¬ Y6 v n < 0) : ∃ i : Nat,Y6 v n = i ∧ ∃ hi : i < v.Records.length,v.Records[i].Number = n:=by
 unfold Y6 at h ⊢
 cases hf : v.Records.findIdx? (λr=>r.Number == n) with
 | none=>rw [hf] at h; simp at h
 | some i =>
  obtain ⟨hi,hq,_⟩:=List.findIdx?_eq_some_iff_getElem.1 hf
  exact ⟨i,rfl,hi,by simpa using hq⟩
def Zkz (v : GVault) (n : Int) : Int × Int:=if YW v then (if Y6 v n < 0 then (0,4) else (Y6 v n,0)) else (0,1)
theorem z4 (v : GVault) (hb : Wt.ln v) (n : Int) : Vu v n = some (Zkz v n):=by
 unfold Vu Zkz
 rw [JA v hb,ob_]
 cases hv : YW v with
 | false=>rfl
 | true =>
  have hs:=Kn hv
  simp only [Bool.not_true,bf_,if_false,if_true]
  rw [Zr0 v n om_,ob_]
  by_cases h : Y6 v n < 0 <;> simp [h]
theorem BN {v : GVault} (h : YW v = true) {r : GRecord} (hr : r ∈ v.Records) : 0 ≤ r.Version ∧ r.Version ≤ (v.Keys.length : Int) - 1 ∧ r.Label.length ≤ 32 ∧ r.Body.length ≤ 200:=by
 unfold YW at h
 simp only [Bool.and_eq_true,Bool.not_eq_true',List.any_eq_false,List.mem_range'_1] at h
 obtain ⟨i,hi,rfl⟩:=List.mem_iff_getElem.1 hr
 have:=h.1.2 i om_
 unfold Zcj j0 at this
 rw [ge_ hi] at this
 simp only [Bool.or_eq_true,Bool.not_eq_true',decide_eq_true_eq,decide_eq_false_iff_not,not_or,Classical.not_not] at this
 omega

def Q6 (v : GVault) (n : Int) : Blk:=v.Keys.getD n.toNat default
theorem Zlg {v : GVault} {n : Int} (h0 : 0 ≤ n) (h1 : n ≤ (v.Keys.length : Int) - 1) : idx v.Keys n = some (Q6 v n):=by
 have e : n = ((n.toNat : Nat) : Int):=by omega
 have hl : n.toNat < v.Keys.length:=by omega
 rw [e,Yx]
 unfold Q6
 rw [tn_,gd_,ge_ hl]; rfl
def Za1 (r : GRecord) : List UInt8:=((((beL r.Number 4 ++ [Zz r.Version]) ++ r.Nonce.toList) ++ [Zz (r.Label.length : Int)]) ++ r.Label) ++ r.Body
def Ui (v : GVault) (r : GRecord) : Dig:=tagC (YP 4) (Bf (Q6 v r.Version) 129) (Za1 r)
theorem Zf1 (v : Blk) : slc v.toList (0 : Int) (16 : Int) = some v.toList:=by
 have h1 : slc v.toList ((0 : Nat) : Int) ((16 : Nat) : Int) = _:=KW (Nat.zero_le _) (by simp)
 have h2 : slc v.toList (0 : Int) (16 : Int) = _:=h1
 rw [h2,List.drop_zero,List.take_of_length_le (by simp)]
theorem qR (v : GVault) (r : GRecord) (h : 0 ≤ r.Version ∧ r.Version ≤ (v.Keys.length : Int) - 1) (hl : r.Label.length ≤ 1000) (hb : r.Body.length ≤ 1000) : Xg ⟨Z9 (YP 4)⟩ v r = some (Ui v r):=by
 have hbe : XU r.Number 4 = some (beL r.Number 4):=AW _ 4 om_
 have ht:=v_tag (YP 4) Zbj (Bf (Q6 v r.Version) 129) [beL r.Number 4,[Zz r.Version],r.Nonce.toList,[Zz (r.Label.length : Int)],r.Label,r.Body] (by simp [je]; omega) (by simp)
 have e : ([beL r.Number 4,[Zz r.Version],r.Nonce.toList,[Zz (r.Label.length : Int)],r.Label,r.Body] : List (List UInt8)).flatten = Za1 r:=by simp [Za1]
 rw [e] at ht
 unfold Xg
 rw [Zlg h.1 h.2,ob_,Af,ob_,Zl9,ob_,hbe,ob_,Zf1,ob_,ht]
 rfl
def WQ (v : GVault) (n : Int) : GRecord:=v.Records.getD (Y6 v n).toNat ⟨0,0,default,[],[],default⟩
theorem Zdv {v : GVault} {n : Int} (h : ¬ Y6 v n < 0) : idx v.Records (Y6 v n) = some (WQ v n) ∧ WQ v n ∈ v.Records:=by
 obtain ⟨i,e,hi,_⟩:=BM h
 unfold WQ
 rw [e,Yx,tn_,gd_,ge_ hi]
 exact ⟨rfl,List.getElem_mem hi⟩
def jT (d : List UInt8) : Dig:=zS (YP 8) d
def Ze2 (c : GCipher) (key nonce : Blk) (j : Nat) : List UInt8:=(tagC c key (nonce.toList ++ [UInt8.ofNat (j / 256),UInt8.ofNat j])).toList
def Zaq (c : GCipher) (key nonce : Blk) (k : Nat) : List UInt8:=((List.range k).map (Ze2 c key nonce)).flatten
theorem Zef (c : GCipher) (key nonce : Blk) (k : Nat) : Zaq c key nonce (k + 1) = Zaq c key nonce k ++ Ze2 c key nonce k:=by
 unfold Zaq
 rw [List.range_succ,List.map_append,List.flatten_append]; simp
theorem zd (c : GCipher) (key nonce : Blk) : ∀ k,(Zaq c key nonce k).length = 32 * k
 | 0=>rfl
 | k + 1=>by rw [Zef,List.length_append,zd c key nonce k]; simp [Ze2]; omega
def HD (c : GCipher) (key nonce : Blk) (n : Nat) : List UInt8:=(Zaq c key nonce ((n + 31) / 32)).take n
theorem Hf (c : GCipher) (key nonce : Blk) (n : Nat) : (HD c key nonce n).length = n:=by
 unfold HD
 rw [List.length_take,zd]; omega
theorem Zh1 (c : GCipher) (key nonce : Blk) (n : Nat) (hn : n ≤ 100000) (L : Int × List UInt8 → Option (Fl (Int × List UInt8) (List UInt8)))
  (hL : ∀ (j : Nat) (out : List UInt8),j ≤ 100000 → out.length ≤ 1000000 → L ((j : Int),out) = if (decide ((out.length : Int) < (n : Int))) = true then some (Fl.nx (((j + 1 : Nat) : Int),out ++ Ze2 c key nonce j)) else some (Fl.ex out)) :
  ((ZK L (0,[]) : Option (List UInt8)).bind λj=>slc j (0 : Int) (n : Int)) = some (HD c key nonce n):=by
 have:=Yr (f:=L) (λj : Nat=>((j : Int),Zaq c key nonce j)) 0 ((n + 31) / 32) (Nat.zero_le _) (t:=Zaq c key nonce ((n + 31) / 32)) (λj _ hj=>by
  have hlen:=zd c key nonce j
  have e : decide (((Zaq c key nonce j).length : Int) < (n : Int)) = true:=by rw [hlen]; simp only [decide_eq_true_eq]; omega
  rw [hL j _ om_ om_,e,if_pos rfl,Zef]) (by
  have hlen:=zd c key nonce ((n + 31) / 32)
  have e : decide (((Zaq c key nonce ((n + 31) / 32)).length : Int) < (n : Int)) = false:=by rw [hlen]; simp only [decide_eq_false_iff_not]; omega
  rw [hL _ _ om_ om_,e]; rfl)
 have h2 : ZK L (0,[]) = _:=this
 rw [h2,ob_]
 have h3 : slc (Zaq c key nonce ((n + 31) / 32)) ((0 : Nat) : Int) (n : Int) = _:=KW (Nat.zero_le _) (by rw [zd]; omega)
 have h4 : slc (Zaq c key nonce ((n + 31) / 32)) (0 : Int) (n : Int) = _:=h3
 rw [h4,List.drop_zero]; rfl
theorem Zof (c : GCipher) (h : Z6 c = true) (key nonce : Blk) (n : Nat) (hn : n ≤ 100000) : VT ⟨Z9 c⟩ key nonce (n : Int) = some (HD c key nonce n):=by
 have h1:=Zh1 c key nonce n hn (Wq ⟨Z9 c⟩ key nonce (n : Int)) (λj out hj ho=>by
  have e1 : Zz (Qp (j : Int) 8) = UInt8.ofNat (j / 256):=by
   have:=Zhz j 8 om_
   rw [Nat.shiftRight_eq_div_pow] at this
   have h2 : Qp (j : Int) 8 = ((j / 2 ^ 8 : Nat) : Int):=this
   rw [h2,VI]
  have ht:=v_tag c h key [nonce.toList,[UInt8.ofNat (j / 256),UInt8.ofNat j]] (by simp) (by simp)
  have ef : ([nonce.toList,[UInt8.ofNat (j / 256),UInt8.ofNat j]] : List (List UInt8)).flatten = nonce.toList ++ [UInt8.ofNat (j / 256),UInt8.ofNat j]:=by simp
  rw [ef] at ht
  unfold Wq
  simp only [Zf1,ob_,e1,VI,ht,jj,WN (show j < 9223372036854775807 by omega)]
  split
  ·rw [Xm os_]; rfl
  ·rfl)
 unfold VT
 rw [show (ZK (Wq ⟨Z9 c⟩ key nonce (n : Int)) (0,([] : List UInt8)) : Option (List UInt8)).bind (λj7=>(slc j7 (0 : Int) (n : Int)).bind λl46=>(Z4 l46).bind λr48=>some r48) = ((ZK (Wq ⟨Z9 c⟩ key nonce (n : Int)) (0,([] : List UInt8)) : Option (List UInt8)).bind (λj7=>slc j7 (0 : Int) (n : Int))).bind (λl46=>(Z4 l46).bind λr48=>some r48) from (Option.bind_assoc _ _ _).symm,h1,ob_,Qb _ (by rw [Hf]; omega)]
 rfl
def KM (a b : List UInt8) : List UInt8:=List.zipWith (λx y=>x ^^^ y) a b
theorem HL {a b : List UInt8} (h : b.length = a.length) : (KM a b).length = a.length:=by simp [KM,h]
theorem Zn9 {a b : List UInt8} {i : Nat} (ha : i < a.length) (hb : i < b.length) (h : i < (KM a b).length) : (KM a b)[i] = a[i] ^^^ b[i]:=by simp [KM]
theorem yp (v : GVault) (r : GRecord) (d : List UInt8) (h : 0 ≤ r.Version ∧ r.Version ≤ (v.Keys.length : Int) - 1) (hd : d.length ≤ 100000) :
  Xk ⟨Z9 (YP 4)⟩ v r d = some (KM d (HD (YP 4) (Q6 v r.Version) r.Nonce d.length)):=by
 unfold Xk
 rw [Qb d om_,ob_,Zlg h.1 h.2,ob_,Zof (YP 4) Zbj _ _ _ hd,ob_,ob_]
 generalize hs : HD (YP 4) (Q6 v r.Version) r.Nonce d.length = s
 have hsl : s.length = d.length:=by rw [← hs,Hf]
 have hxl:=HL hsl
 have:=Yr (f:=X1 (s,(s.length : Int),0)) (λi : Nat=>((i : Int),(KM d s).take i ++ d.drop i)) 0 d.length (Nat.zero_le _) (t:=KM d s) (λi _ hi=>by
  have h1 : i < s.length:=by omega
  have h2 : i < (KM d s).length:=by omega
  have h3 : ((KM d s).take i ++ d.drop i)[i]? = some d[i]:=by
   rw [List.getElem?_append_right os_,List.length_take,List.getElem?_drop]
   have e : i + (i - min i (KM d s).length) = i:=by omega
   rw [e,ge_ hi]
  have h4 : ((KM d s).take i ++ d.drop i).set i (d[i] ^^^ s[i]) = (KM d s).take (i + 1) ++ d.drop (i + 1):=by
   rw [List.set_append_right _ _ os_,List.drop_eq_getElem_cons hi]
   have e : i - ((KM d s).take i).length = 0:=by simp; omega
   rw [e,List.set_cons_zero,List.take_succ_eq_append_getElem h2,Zn9 hi h1 h2,List.append_assoc]; rfl
  unfold X1
  simp only [Int.ofNat_lt,h1,decide_true,if_true,Yx,ge_ h1,h3,ob_,tn_,h4,WN (show i < 9223372036854775807 by omega)]) (by
  have e : (KM d s).take d.length ++ d.drop d.length = KM d s:=by rw [List.take_of_length_le om_,List.drop_length,List.append_nil]
  unfold X1
  simp only [hsl,Int.ofNat_lt,Nat.lt_irrefl,decide_false,bf_,if_false,e])
 have h2 : ZK (X1 (s,(s.length : Int),0)) (0,d) = _:=this
 rw [h2]; rfl
def BB (v : GVault) (r : GRecord) : List UInt8:=KM r.Body (HD (YP 4) (Q6 v r.Version) r.Nonce r.Body.length)
def BV (v : GVault) (n : Int) : List UInt8 × Int:=if YW v then (if Y6 v n < 0 then ([],4) else if Ui v (WQ v n) = (WQ v n).Tag then (BB v (WQ v n),0) else ([],5)) else ([],1)
theorem yO (v : GVault) (hb : Wt.ln v) (n : Int) : Tl v n = some (BV v n):=by
 unfold Tl BV
 rw [z4 v hb,ob_]
 unfold Zkz
 cases hv : YW v with
 | false=>rfl
 | true =>
  simp only [if_true]
  by_cases h : Y6 v n < 0
  ·simp [h]
  ·obtain ⟨h1,h2⟩:=Zdv h
   obtain ⟨a1,a2,a3,a4⟩:=BN hv h2
   simp only [h,if_false,bne_self_eq_false,bf_]
   rw [QV,ob_,h1,ob_,qR v _ ⟨a1,a2⟩ om_ om_,ob_,ob_]
   by_cases ht : Ui v (WQ v n) = (WQ v n).Tag
   ·simp only [ht,decide_true,Bool.not_true,bf_,if_false,if_true]
    rw [yp v _ _ ⟨a1,a2⟩ om_]; rfl
   ·simp [ht]
theorem Zfb (l : List Blk) (h : l.length ≤ 1000000) : YV l = some l:=by
 unfold YV
 rw [Xm os_]; rfl
theorem Zfl (l : List GEvent) (h : l.length ≤ 1000000) : YU l = some l:=by
 unfold YU
 rw [Xm os_]; rfl
theorem Zn3 (l : List GRecord) : l.map (λr=>(⟨r.Number,r.Version,r.Nonce,r.Label,r.Body,r.Tag⟩ : GRecord)) = l:=by
 induction l with
 | nil=>rfl
 | cons r l ih=>rw [List.map_cons,ih]
def Zft (v : GVault) : Prop:=v.Keys.length ≤ 1000 ∧ v.Events.length ≤ 1000 ∧ v.Records.length ≤ 1000 ∧ ∀ r ∈ v.Records,r.Label.length ≤ 1000000 ∧ r.Body.length ≤ 1000000
theorem Ze6 (v : GVault) (h : Zft v) : WB v = some v:=by
 obtain ⟨h1,h2,h3,h4⟩:=h
 have hl:=Zg8 (f:=Ue v) v.Records (λr=>(⟨r.Number,r.Version,r.Nonce,r.Label,r.Body,r.Tag⟩ : GRecord)) (t:=v.Records) om_ (λi hi=>by
  obtain ⟨a1,a2⟩:=h4 _ (List.getElem_mem hi)
  unfold Ue
  simp only [Int.ofNat_lt,hi,decide_true,if_true,Yx,ge_ hi,ob_,Qb _ (show v.Records[i].Label.length ≤ 140737488355328 by omega),Qb _ (show v.Records[i].Body.length ≤ 140737488355328 by omega)]
  rw [Xm os_]; rfl) (by
  unfold Ue
  rw [Zn3]; simp)
 unfold WB
 rw [Zfb _ om_,ob_,Zfl _ om_,ob_,hl]; rfl
theorem jc {v : GVault} (h : YW v = true) (hb : ∀ r ∈ v.Records,r.Label.length ≤ 1000000 ∧ r.Body.length ≤ 1000000) : Zft v:=by
 obtain ⟨h1,h2,h3,h4,h5,h6⟩:=Kn h
 exact ⟨by omega,by omega,by omega,hb⟩
def TC (v : GVault) (e : GEvent) : GVault:=⟨v.Keys,v.Next,v.Records,v.Events ++ [e],z9 (YP 4) (v.Events ++ [e])⟩
theorem Zfo (v : GVault) (e : GEvent) (h : v.Events.length ≤ 1000) : Xf ⟨Z9 (YP 4)⟩ v e = some (TC v e):=by
 unfold Xf
 rw [Xm os_,ob_,BF _ Zbj _ os_]; rfl
theorem qq (l : List Blk) (h : l.length < 9223372036854775807) (b : Blk) : YF l b = some (l.any λx=>decide (b = x)):=by
 unfold YF Xz
 rw [zH l (λx=>some (decide (b = x))) (λx=>decide (b = x)) (Xv l b) (λs=>by
  unfold Xv
  by_cases hs : (decide (s < (l.length : Int))) = true
  ·rw [if_pos hs,if_pos hs]
   cases idx l s <;> rfl
  ·rw [if_neg hs,if_neg hs]) h (λx _=>rfl)]
 simp only [ob_,Zbs]
def Aw : GVault:=⟨[],0,[],[],Vector.replicate 32 0⟩
def kR (v : GVault) : Bool:=v.Keys.length == 8 || v.Events.length == 60
def rotC (v : GVault) (key : Blk) : GVault × Int :=
 if YW v then (if v.Keys.any (λx=>decide (key = x)) then (Aw,5) else if kR v then (Aw,3) else
  (TC ⟨v.Keys ++ [key],v.Next,v.Records,v.Events,v.Head⟩ ⟨3,(v.Keys.length : Int),Vector.replicate 32 0⟩,0)) else (Aw,1)
theorem Zlr (v : GVault) : (if ((v.Keys.length : Int) == 8) = true then (some true) else (some ((v.Events.length : Int) == 60)) : Option Bool) = some (kR v):=by
 unfold kR
 have e1 : ((v.Keys.length : Int) == 8) = (v.Keys.length == 8):=by rw [Bool.eq_iff_iff,beq_iff_eq,beq_iff_eq]; omega
 have e2 : ((v.Events.length : Int) == 60) = (v.Events.length == 60):=by rw [Bool.eq_iff_iff,beq_iff_eq,beq_iff_eq]; omega
 rw [e1,e2]
 cases v.Keys.length == 8 <;> rfl
theorem kw (v : GVault) (hb : Wt.ln v) (key : Blk) : T2 v key = some (rotC v key):=by
 unfold T2 rotC
 rw [JA v hb,ob_]
 cases hv : YW v with
 | false=>rfl
 | true =>
  obtain ⟨h1,h2,h3,h4,h5,h6⟩:=Kn hv
  have hsm : Zft v:=jc hv (λr hr=>by
   unfold YW at hv
   simp only [Bool.and_eq_true,Bool.not_eq_true',List.any_eq_false,List.mem_range'_1] at hv
   obtain ⟨i,hi,rfl⟩:=List.mem_iff_getElem.1 hr
   have:=hv.1.2 i om_
   unfold Zcj j0 at this
   rw [ge_ hi] at this
   simp only [Bool.or_eq_true,Bool.not_eq_true',decide_eq_true_eq,decide_eq_false_iff_not,not_or,Classical.not_not] at this
   omega)
  simp only [Bool.not_true,bf_,if_false,if_true]
  rw [qq v.Keys om_,ob_]
  cases v.Keys.any (λx=>decide (key = x)) with
  | true=>rfl
  | false =>
   simp only [bf_,if_false]
   rw [Zlr,ob_]
   cases kR v with
   | true=>rfl
   | false =>
    simp only [bf_,if_false]
    rw [Ze6 v hsm,ob_,Xm os_,ob_,QV,ob_]
    have hlen : Z3 v.Keys = some (v.Keys.length : Int):=rfl
    have hn : ∀ e,Xf ⟨Z9 (YP 4)⟩ ⟨v.Keys ++ [key],v.Next,v.Records,v.Events,v.Head⟩ e = some (TC ⟨v.Keys ++ [key],v.Next,v.Records,v.Events,v.Head⟩ e):=λe=>Zfo _ e (show v.Events.length ≤ 1000 by omega)
    rw [hlen,ob_,hn]
    rfl
def Bv (data : List UInt8) (cs : List (List UInt8)) (i : Nat) : List UInt8:=data.getD i 0 :: cs.map (·.getD i 0)
def Q1 (m : Nat) (data : List UInt8) (cs : List (List UInt8)) (p : UInt8) : GShare:=⟨p,tab data.length λi=>Q9 m (Bv data cs i) p⟩
def BG (cs : List (List UInt8)) (n : Nat) : Bool:=decide (cs.length ≤ 7) && cs.all λc=>c.length == n
def zK (m : Int) (data : List UInt8) (cs : List (List UInt8)) (ps : List UInt8) : List GShare × Int :=
 if !Yl m then ([],1) else if 100 < data.length ∨ BG cs data.length = false ∨ ps.length < 1 ∨ 12 < ps.length then ([],2) else if !HF ps then ([],5) else (ps.map (Q1 m.toNat data cs),0)
theorem len_ne (n : Nat) (c : List UInt8) : ((c.length : Int) != (n : Int)) = !(c.length == n):=by
 by_cases h : c.length = n
 ·subst h; simp
 have : ¬ ((c.length : Int) = (n : Int)):=by omega
 have e1 : (c.length == n) = false:=by simpa using h
 have e2 : ((c.length : Int) != (n : Int)) = true:=by simpa using this
 rw [e1,e2]; rfl
theorem kg (cs : List (List UInt8)) (n : Nat) (h : cs.length < 9223372036854775807) : Vo cs (n : Int) = some (BG cs n):=by
 unfold Vo
 have e2 : decide ((cs.length : Int) ≤ 7) = decide (cs.length ≤ 7):=by rw [decide_eq_decide]; omega
 have hc : Xw cs (λz0=>WG z0 (n : Int)) = some (cs.any λc=>(c.length : Int) != (n : Int)):=by
  unfold Xw Ww
  rw [zH cs _ (λc=>(c.length : Int) != (n : Int)) _ (λs=>by unfold VK; rfl) h (λx _=>rfl)]
  simp only [ob_,Zbs]
 have e : (cs.any λc=>(c.length : Int) != (n : Int)) = !cs.all λc=>c.length == n:=by
  rw [List.any_eq_not_all_not]
  simp only [len_ne,Bool.not_not]
 rw [hc,e,e2]
 unfold BG
 by_cases c : cs.length ≤ 7 <;> simp [c]
theorem Zlw {m : Nat} (h2 : m < 512) (x y : UInt8) : Za0 (m : Int) x y = ZE m x y:=by
 have:=kP (m : Int) x y
 rw [Uu m h2] at this
 exact (Option.some.inj this).symm
theorem Zpc {n : Nat} (f : Nat → UInt8) (i : Nat) (h : i < n) : (tab n f).take i ++ [f i] = (tab n f).take (i + 1):=by
 rw [List.take_succ_eq_append_getElem (by simpa using h)]
 simp [tab]
section
variable {m : Nat} (h1 : 256 ≤ m) (h2 : m < 512)
include h1 h2
omit h1 in
theorem Zrl (l : List UInt8) (x : UInt8) (h : l.length ≤ 140737488351232) : UW (m : Int) l x = some (Q9 m l x):=by
 unfold UW
 rw [if_pos h,List.foldl_reverse]
 congr 1
 unfold Q9
 congr 1
 funext a acc
 unfold Zdq
 rw [Zlw h2]
omit h1 in
theorem Zr8 (data : List UInt8) (cs : List (List UInt8)) (ps : List UInt8) (hd : data.length ≤ 100) (hc : BG cs data.length = true) (hp : ps.length ≤ 12) :
  UK (m : Int) data cs ps = some (ps.map (Q1 m data cs)):=by
 unfold BG at hc
 simp only [Bool.and_eq_true,decide_eq_true_eq,List.all_eq_true,beq_iff_eq] at hc
 obtain ⟨hc1,hc2⟩:=hc
 unfold UK
 have h:=Yr (f:=W4 (m : Int) data cs ps) (λi : Nat=>((i : Int),(ps.take i).map (Q1 m data cs))) 0 ps.length (Nat.zero_le _) (t:=ps.map (Q1 m data cs)) (λi _ hi=>by
  unfold W4
  have hin:=Yr (f:=Vc (m : Int) data cs ps[i]) (λj : Nat=>((tab data.length λq=>Q9 m (Bv data cs q) ps[i]).take j,(j : Int))) 0 data.length (Nat.zero_le _) (t:=tab data.length λq=>Q9 m (Bv data cs q) ps[i]) (λj _ hj=>by
   unfold Vc
   have hin2:=Yr (f:=W5 cs ((tab data.length λq=>Q9 m (Bv data cs q) ps[i]).take j,(j : Int))) (λk : Nat=>([data.getD j 0] ++ (cs.take k).map (·.getD j 0),(k : Int))) 0 cs.length (Nat.zero_le _) (t:=Bv data cs j) (λk _ hk=>by
    unfold W5
    have hl:=hc2 cs[k] (List.getElem_mem hk)
    have hj' : j < cs[k].length:=by omega
    simp only [Int.ofNat_lt,hk,decide_true,if_true,Yx,ge_ hk,ob_,ge_ hj',WN (show k < 9223372036854775807 by omega)]
    rw [Xm os_]
    simp only [ob_]
    rw [List.take_succ_eq_append_getElem hk,List.map_append,List.append_assoc]
    simp [gd_,ge_ hj']) (by unfold W5; simp [Bv])
   have hg : data[j]? = some (data.getD j 0):=Zlo hj
   simp only [Int.ofNat_lt,hj,decide_true,if_true,Yx,hg,ob_,WN (show j < 9223372036854775807 by omega)]
   have hin2' : ZK (W5 cs ((tab data.length λq=>Q9 m (Bv data cs q) ps[i]).take j,(j : Int))) ([data.getD j 0],0) = some (Bv data cs j):=hin2
   rw [hin2']
   simp only [ob_]
   rw [Zrl h2 _ _ (by simp [Bv]; omega)]
   simp only [ob_]
   rw [Xm os_]
   simp only [ob_]
   rw [Zpc _ _ hj]) (by unfold Vc; simp [List.take_of_length_le])
  simp only [Int.ofNat_lt,hi,decide_true,if_true,Yx,ge_ hi,ob_,WN (show i < 9223372036854775807 by omega)]
  have hin' : ZK (Vc (m : Int) data cs ps[i]) ([],0) = some (tab data.length λq=>Q9 m (Bv data cs q) ps[i]):=hin
  rw [hin']
  simp only [ob_]
  rw [Xm os_]
  simp only [ob_]
  rw [List.take_succ_eq_append_getElem hi,List.map_append]
  rfl) (by unfold W4; simp)
 have h3 : ZK (W4 (m : Int) data cs ps) (0,[]) = _:=h
 rw [h3]; rfl
end
theorem qD (m : Int) (data : List UInt8) (cs : List (List UInt8)) (ps : List UInt8) (hc : cs.length ≤ 1048576) (hp : ps.length ≤ 1048576) : Qx m data cs ps = some (zK m data cs ps):=by
 unfold Qx zK Qg
 rw [jL]
 cases hf : Yl m with
 | false=>simp
 | true =>
  obtain ⟨n,rfl,h1,h2⟩:=Ut hf
  simp only [ob_,Bool.not_true,bf_,if_false,kg cs data.length om_,TZ]
  by_cases c1 : 100 < data.length
  ·have : ((data.length : Int) > 100):=by omega
   simp [c1,this]
  have d1 : ¬ ((data.length : Int) > 100):=by omega
  simp only [c1,d1,decide_false,bf_,if_false,false_or]
  cases c2 : BG cs data.length with
  | false=>simp
  | true =>
   by_cases c3 : ps.length < 1 ∨ 12 < ps.length
   ·have : ¬ (1 ≤ (ps.length : Int) ∧ (ps.length : Int) ≤ 12):=by omega
    simp only [this,decide_false,Bool.not_true,Bool.not_false,bf_,if_false,if_true,ob_,reduceCtorEq,false_or,c3]
   ·have d3 : 1 ≤ (ps.length : Int) ∧ (ps.length : Int) ≤ 12:=by omega
    simp only [d3,and_self,decide_true,Bool.not_true,bf_,if_false,ob_,reduceCtorEq,false_or,c3]
    rw [Zc9 ps om_]
    cases HF ps with
    | false=>simp
    | true =>
     simp only [ob_,Bool.not_true,bf_,if_false,Zr8 h2 data cs ps om_ c2 om_,tn_]
theorem Zfx (p : Blk) : ∀ k,k ≤ 16 → ∀ i,i < 16 → (bf (Jz 16 p k) i).toNat < 16
 | 0,_,i,hi=>by
  have : bf (Jz 16 p 0) i = 0:=by
   unfold bf Jz
   rw [Vector.getElem?_replicate,if_pos hi]; rfl
  rw [this]; decide
 | k + 1,hk,i,hi=>by
  have ih:=Zfx p k om_ i hi
  have hb : (Zz (k : Int)).toNat < 16:=by
   rw [VI]
   simp only [UInt8.toNat_ofNat']
   omega
  unfold bf at ih ⊢
  rw [Jz,Vector.getElem?_setIfInBounds]
  split
  ·rw [if_pos om_]; exact hb
  ·exact ih
theorem Zkp (p : Blk) (hp : ∀ i,i < 16 → (bf p i).toNat < 16) (f : Nat → UInt8) : X3 p (vf 16 f) = some (vf 16 (Jt p f)):=by
 unfold X3
 have:=V4 (Xe p (vf 16 f)) (λ_=>0) (Jt p f) om_ 0 om_ (λj hj=>by omega) (λi _ hi a _ ha=>by
  unfold Xe
  simp only [yR hi,if_true,Yh _ hi,zN _ hi,ob_,tn_,Zav f (hp i hi),Jt]) (λv=>by unfold Xe; simp)
 have h2 : ZK (Xe p (vf 16 f)) (vf 16 (λ_=>0),0) = _:=this
 rw [JY 16 (0 : UInt8),h2]; rfl
def BR (c : GCipher) (n r : Nat) (k f : Nat → UInt8) : Nat → UInt8 :=
 BA (Jz 256 c.Box 256) (Jt (Jz 16 c.Places 16) (if r < n then TA c.Field.toNat (Ka (jW c.Field.toNat c.Mix)) (Bl f k) else Bl f k))
def Zfk (c : GCipher) (k f : Nat → UInt8) (n : Nat) : Nat → Nat → UInt8
 | 0=>f
 | i + 1=>BR c n (n - i) (jA c.Box k (n - i)) (Zfk c k f n i)
def Zhu (c : GCipher) (k f : Nat → UInt8) (n : Nat) : Nat → UInt8:=Bl (Zfk c k f n n) k
theorem Zcd (e : Ref Gengine) (f : Nat → UInt8) : ZK (Xt e (vf 16 f)) (vf 16 f,0) = some (vf 16 (BA e.v.backBox f)):=by
 have:=V4 (Xt e (vf 16 f)) f (BA e.v.backBox f) om_ 0 om_ (λj hj=>by omega) (λi _ hi a _ ha=>by
  unfold Xt
  simp only [yR hi,if_true,Yh _ hi,ob_,tn_,Hz,BA]) (λv=>by unfold Xt; simp)
 exact this
theorem Zbx (c : GCipher) (k f : Nat → UInt8) (n : Nat) (hn : n ≤ 1000) : XB ⟨Z9 c⟩ (WR c.Box k n) (vf 16 f) = some (vf 16 (Zhu c k f n)):=by
 unfold XB
 have i0 : idx (WR c.Box k n) (0 : Int) = some (vf 16 k):=BS c.Box k (Nat.zero_le n)
 have e3 : wr (((WR c.Box k n).length : Int) - 1) = (n : Int):=by rw [B1,YY om_]; omega
 simp only [ob_,i0,e3]
 have:=Yr (f:=Xu ⟨Z9 c⟩ (WR c.Box k n)) (λi : Nat=>(vf 16 (Zfk c k f n i),((n - i : Nat) : Int))) 0 n om_ (t:=vf 16 (Zfk c k f n n)) (λi _ hi=>by
  unfold Xu
  have e1 : decide (((n - i : Nat) : Int) > 0) = true:=by simp only [decide_eq_true_eq]; omega
  have YJ:=v_mix c.Field.toNat (Ka (jW c.Field.toNat c.Mix)) (Bl (Zfk c k f n i) (jA c.Box k (n - i)))
  have e4 : wr (((n - i : Nat) : Int) - 1) = ((n - (i + 1) : Nat) : Int):=by rw [YY om_]; omega
  have hsl : ∀ g : Nat → UInt8,slc (vf 16 g).toList (0 : Int) (16 : Int) = some (vf 16 g).toList:=λg=>by
   have:=KW (l:=(vf 16 g).toList) (i:=0) (j:=16) om_ (by simp)
   simp only [List.drop_zero] at this
   rw [List.take_of_length_le (by simp)] at this
   exact this
  have q1 : (Z9 c).backBox = Jz 256 c.Box 256:=rfl
  have q2 : (Z9 c).backPlaces = Jz 16 c.Places 16:=rfl
  have q3 : (Z9 c).backMixer = ⟨km c.Field.toNat (Ka (jW c.Field.toNat c.Mix))⟩:=rfl
  simp only [e1,if_true,BS c.Box k (show n - i ≤ n by omega),Tm,ob_,e3,e4,q2,q3,hsl,YJ]
  by_cases hr : n - i < n
  ·have e2 : decide (((n - i : Nat) : Int) < (n : Int)) = true:=by simp only [decide_eq_true_eq]; omega
   simp only [e2,if_true,ob_,Zkp _ (Zfx c.Places 16 (Nat.le_refl _)),Zcd,q1,Zfk,BR,hr]
  ·have e2 : decide (((n - i : Nat) : Int) < (n : Int)) = false:=by simp only [decide_eq_false_iff_not]; omega
   simp only [e2,bf_,if_false,ob_,Zkp _ (Zfx c.Places 16 (Nat.le_refl _)),Zcd,q1,Zfk,BR,hr]) (by
  unfold Xu
  have e1 : decide (((n - n : Nat) : Int) > 0) = false:=by simp only [decide_eq_false_iff_not]; omega
  simp only [e1,bf_,if_false])
 have h3 : ZK (Xu ⟨Z9 c⟩ (WR c.Box k n)) (vf 16 f,(n : Int)) = _:=this
 rw [h3]
 simp only [ob_,Tm,Zhu]

def powP (m : Nat) : Nat → Nat → Nat → Nat → Nat
 | 0,_,_,o=>o
 | f + 1,a,k,o=>if k = 0 then o else powP m f (opP m 8 a a) (k / 2) (if k % 2 = 1 then opP m 8 a o else o)
theorem Zll {m : Nat} (h1 : 256 ≤ m) (h2 : m < 512) : ∀ (f k : Nat) (a o : UInt8),(B8 m f a k o).toNat = powP m f a.toNat k o.toNat
 | 0,_,_,_=>rfl
 | f + 1,k,a,o=>by
  unfold B8 powP
  by_cases h : k = 0
  ·rw [if_pos h,if_pos h]
  ·rw [if_neg h,if_neg h,Zll h1 h2 f,Vp m h1 h2]
   by_cases hk : k % 2 = 1
   ·rw [if_pos hk,if_pos hk,Vp m h1 h2]
   ·rw [if_neg hk,if_neg hk]
def Zhm (m g : Nat) : Nat → Nat → List Nat
 | 0,_=>[]
 | n + 1,x=>x :: Zhm m g n (opP m 8 g x)
def orP (l : List Nat) (acc : Nat) : Nat:=l.foldl (λacc p=>acc ||| (1 <<< p)) acc
def Zpn (m g : Nat) : Bool:=opP m 8 (powP m 8 g 254 1) g == 1 && decide (g < 256) && orP (Zhm m g 255 1) 0 == 2 ^ 256 - 2
def gens : List (Nat × Nat):=[(283,3),(285,2),(299,2),(301,2),(313,3),(319,3),(333,2),(351,2),(355,2),(357,2),(361,2),(369,2),(375,3),(379,9),(391,2),(395,6),(397,2),(415,3),(419,3),(425,2),(433,6),(445,7),(451,2),(463,2),(471,7),(477,6),(487,2),(499,6),(501,2),(505,3)]
theorem Zi8 : (gens.all λq=>Zpn q.1 q.2) = true:=by decide +kernel
theorem Zpg : ((List.range' 256 256).all λm=>(List.range' 2 30).any (yV m) || gens.any λq=>q.1 == m) = true:=by decide +kernel
theorem Zpo : ((List.range' 1 255).all λa=>(2 ^ 256 - 2).testBit a) = true:=by decide +kernel
theorem Zke : ∀ (l : List Nat) (acc a : Nat),(orP l acc).testBit a = true → acc.testBit a = true ∨ a ∈ l
 | [],_,_,h=>.inl h
 | p :: l,acc,a,h=>by
  rcases Zke l (acc ||| (1 <<< p)) a h with h | h
  ·rw [Nat.testBit_or,Nat.one_shiftLeft,Nat.testBit_two_pow,Bool.or_eq_true] at h
   rcases h with h | h
   ·exact .inl h
   ·exact .inr (by rw [← of_decide_eq_true h]; exact List.mem_cons_self)
  ·exact .inr (List.mem_cons_of_mem _ h)
theorem Zee {m : Nat} (h1 : 256 ≤ m) (h2 : m < 512) (g : UInt8) (hg : ZE m g (TH m g) = 1) : ∀ (n : Nat) (x : UInt8),ZE m x (TH m x) = 1 → ∀ y ∈ Zhm m g.toNat n x.toNat,∃ z : UInt8,y = z.toNat ∧ ZE m z (TH m z) = 1
 | 0,_,_,_,hy=>by cases hy
 | n + 1,x,hx,y,hy=>by
  rw [Zhm] at hy
  rcases List.mem_cons.1 hy with rfl | hy
  ·exact ⟨x,rfl,hx⟩
  ·rw [← Vp m h1 h2] at hy
   refine Zee h1 h2 g hg n (ZE m x g) ?_ y hy
   rw [Zeg h1 h2,Bb h1 h2,hx,hg,QX h1 h2]
theorem ke {m : Nat} (hf : Yl (m : Int) = true) {a : UInt8} (ha : a ≠ 0) : ZE m a (TH m a) = 1:=by
 obtain ⟨m',e,h1,h2⟩:=Ut hf
 have e : m = m':=by omega
 subst e
 have h:=List.all_eq_true.1 Zpg m (List.mem_range'_1.2 om_)
 have hr : (List.range' 2 30).any (yV m) = false:=by
  unfold Yl at hf
  simp only [Bool.and_eq_true,tn_] at hf
  simpa using hf.2
 rw [hr,Bool.false_or] at h
 obtain ⟨q,hq,hm⟩:=List.any_eq_true.1 h
 have hm : q.1 = m:=by simpa using hm
 have hc:=List.all_eq_true.1 Zi8 q hq
 rw [hm] at hc
 unfold Zpn at hc
 simp only [Bool.and_eq_true,beq_iff_eq,decide_eq_true_eq] at hc
 obtain ⟨⟨c1,c2⟩,c3⟩:=hc
 have eg : (UInt8.ofNat q.2).toNat = q.2:=by simp only [UInt8.toNat_ofNat']; omega
 have hg : ZE m (UInt8.ofNat q.2) (TH m (UInt8.ofNat q.2)) = 1:=by
  apply UInt8.toNat_inj.1
  rw [Vp m h1 h2]
  unfold TH
  rw [Zll h1 h2,eg]
  exact c1
 have ha0 : a.toNat ≠ 0:=λe=>ha (UInt8.toNat_inj.1 (by rw [e]; rfl))
 have hlt:=a.toNat_lt
 have hb:=List.all_eq_true.1 Zpo a.toNat (List.mem_range'_1.2 om_)
 rw [← c3] at hb
 rcases Zke _ _ _ hb with h | h
 ·simp at h
 have h : a.toNat ∈ Zhm m (UInt8.ofNat q.2).toNat 255 (1 : UInt8).toNat:=by rw [eg]; exact h
 obtain ⟨z,hz,hzg⟩:=Zee h1 h2 _ hg 255 1 (by rw [Zld h1 h2,QX h1 h2]) _ h
 have : a = z:=UInt8.toNat_inj.1 hz
 rw [this]; exact hzg


theorem Ziv {a b : UInt8} (h : a ≠ b) : a ^^^ b ≠ 0:=λe=>h (by
 have : (a ^^^ b) ^^^ b = 0 ^^^ b:=by rw [e]
 rwa [UInt8.xor_assoc,UInt8.xor_self,UInt8.xor_zero,UInt8.zero_xor] at this)
theorem Zhs {m : Nat} (hf : Yl (m : Int) = true) (h1 : 256 ≤ m) (h2 : m < 512) {a b : UInt8} (ha : a ≠ 0) (h : ZE m a b = 0) : b = 0:=by
 have e : ZE m (ZE m (TH m a) a) b = b:=by rw [Y8 h1 h2 (TH m a) a,ke hf ha,QX h1 h2]
 rw [Y4 h1 h2,h,Y8 h1 h2,TE h1 h2] at e
 exact e.symm
def KK (m : Nat) : Nat → (UInt8 → UInt8) → Prop
 | 0,g=>∀ x,g x = 0
 | n + 1,g=>∃ c h,KK m n h ∧ ∀ x,g x = c ^^^ ZE m x (h x)
theorem zl {m n : Nat} {g g' : UInt8 → UInt8} (h : ∀ x,g x = g' x) (hg : KK m n g) : KK m n g':=by
 have : g = g':=funext h
 exact this ▸ hg
section
variable {m : Nat} (h1 : 256 ≤ m) (h2 : m < 512)
include h1 h2
theorem Tu (a : UInt8) : ZE m a 0 = 0:=by rw [Y8 h1 h2,TE h1 h2]
theorem zD : ∀ n,KK m n (λ_=>0)
 | 0=>λ_=>rfl
 | n + 1=>⟨0,λ_=>0,zD n,λx=>by rw [Tu h1 h2]; rfl⟩
theorem jf : ∀ {n : Nat} {g g' : UInt8 → UInt8},KK m n g → KK m n g' → KK m n (λx=>g x ^^^ g' x)
 | 0,_,_,a,b=>λx=>by show _ ^^^ _ = (0 : UInt8); rw [a x,b x]; rfl
 | n + 1,_,_,⟨c,h,ph,e⟩,⟨c',h',ph',e'⟩=>⟨c ^^^ c',λx=>h x ^^^ h' x,jf ph ph',λx=>by dsimp only; rw [e x,e' x,Uc h1 h2]; ac_rfl⟩
theorem yw (k : UInt8) : ∀ {n : Nat} {g : UInt8 → UInt8},KK m n g → KK m n (λx=>ZE m k (g x))
 | 0,_,a=>λx=>by show ZE m k _ = 0; rw [a x,Tu h1 h2]
 | n + 1,_,⟨c,h,ph,e⟩=>⟨ZE m k c,λx=>ZE m k (h x),yw k ph,λx=>by dsimp only; rw [e x,Uc h1 h2,← Y4 h1 h2,← Y4 h1 h2,Y8 h1 h2 k x]⟩
theorem Zjo (k : UInt8) (n : Nat) : KK m (n + 1) (λ_=>k):=⟨k,λ_=>0,zD h1 h2 n,λx=>by rw [Tu h1 h2,UInt8.xor_zero]⟩
theorem Zer : ∀ {n : Nat} {g : UInt8 → UInt8},KK m n g → KK m (n + 1) g
 | 0,_,a=>zl (λx=>(a x).symm) (zD h1 h2 1)
 | n + 1,_,⟨c,h,ph,e⟩=>⟨c,h,Zer ph,e⟩
theorem Zil {n : Nat} {g : UInt8 → UInt8} (hg : KK m n g) (p : UInt8) : KK m (n + 1) (λx=>ZE m (g x) (x ^^^ p)) :=
 zl (λx=>by rw [Uc h1 h2,Y8 h1 h2 (g x) x,Y8 h1 h2 (g x) p]) (jf h1 h2 (g:=λx=>ZE m x (g x)) (g':=λx=>ZE m p (g x)) ⟨0,g,hg,λx=>(UInt8.zero_xor).symm⟩ (Zer h1 h2 (yw h1 h2 p hg)))
theorem Zgq : ∀ {n : Nat} {g : UInt8 → UInt8},KK m (n + 1) g → ∀ a,∃ q,KK m n q ∧ ∀ x,g x = g a ^^^ ZE m (x ^^^ a) (q x)
 | 0,g,⟨c,h,ph,e⟩,a=>⟨λ_=>0,λ_=>rfl,λx=>by rw [e x,e a,ph x,ph a,Tu h1 h2,Tu h1 h2,Tu h1 h2,UInt8.xor_zero,UInt8.xor_zero]⟩
 | n + 1,g,⟨c,h,ph,e⟩,a=>by
  obtain ⟨q,pq,eq⟩:=Zgq ph a
  refine ⟨λx=>h a ^^^ ZE m x (q x),⟨h a,q,pq,λ_=>rfl⟩,λx=>?_⟩
  have e3 : ZE m x (ZE m (x ^^^ a) (q x)) = ZE m (x ^^^ a) (ZE m x (q x)):=by rw [← Y4 h1 h2,← Y4 h1 h2,Y8 h1 h2 x]
  have e4 : ZE m (x ^^^ a) (h a) = ZE m x (h a) ^^^ ZE m a (h a):=HO h1 h2 _ _ _
  rw [e x,e a,eq x,Uc h1 h2,e3]
  show _ = (c ^^^ ZE m a (h a)) ^^^ ZE m (x ^^^ a) (h a ^^^ ZE m x (q x))
  rw [Uc h1 h2,e4]
  generalize ZE m a (h a) = A
  generalize ZE m x (h a) = X
  generalize ZE m (x ^^^ a) (ZE m x (q x)) = Q
  have : (c ^^^ A) ^^^ ((X ^^^ A) ^^^ Q) = (c ^^^ (X ^^^ Q)) ^^^ (A ^^^ A):=by ac_rfl
  rw [this,UInt8.xor_self,UInt8.xor_zero]
theorem Zei (hf : Yl (m : Int) = true) : ∀ (l : List UInt8) {g : UInt8 → UInt8},KK m l.length g → l.Nodup → (∀ p ∈ l,g p = 0) → ∀ x,g x = 0
 | [],_,a,_,_=>a
 | p :: l,g,a,hn,hz=>by
  obtain ⟨q,pq,eq⟩:=Zgq h1 h2 a p
  have hp : g p = 0:=hz p (List.mem_cons_self ..)
  rw [List.nodup_cons] at hn
  have hq:=Zei hf l pq hn.2 (λy hy=>by
   have:=eq y
   rw [hz y (List.mem_cons_of_mem _ hy),hp,UInt8.zero_xor] at this
   exact Zhs hf h1 h2 (Ziv (a:=y) (b:=p) λe=>hn.1 (e ▸ hy)) this.symm)
  intro x
  rw [eq x,hp,hq x,Tu h1 h2]; rfl
theorem qc : ∀ (l : List UInt8),KK m l.length (Q9 m l)
 | []=>λ_=>rfl
 | a :: l=>⟨a,Q9 m l,qc l,λx=>by show ZE m (Q9 m l x) x ^^^ a = _; rw [Y8 h1 h2,UInt8.xor_comm]⟩
end
def Vn (m : Nat) (u x : Nat → UInt8) : UInt8:=((ZE m (u 0) (x 0) ^^^ ZE m (u 1) (x 1)) ^^^ ZE m (u 2) (x 2)) ^^^ ZE m (u 3) (x 3)
theorem qY (m : Nat) (a : MF) (f : Nat → UInt8) (c r : Nat) : rowF m a f c r = Vn m (a r) (λj=>f (c + j)):=rfl
theorem BP {m : Nat} {u u' x x' : Nat → UInt8} (h : ∀ j,j < 4 → u j = u' j) (hx : ∀ j,j < 4 → x j = x' j) : Vn m u x = Vn m u' x':=by
 unfold Vn
 rw [h 0 om_,h 1 om_,h 2 om_,h 3 om_,hx 0 om_,hx 1 om_,hx 2 om_,hx 3 om_]
theorem Zq8 (a b c d p q r s : UInt8) : (((a ^^^ p) ^^^ (b ^^^ q)) ^^^ (c ^^^ r)) ^^^ (d ^^^ s) = (((a ^^^ b) ^^^ c) ^^^ d) ^^^ (((p ^^^ q) ^^^ r) ^^^ s):=by ac_rfl
theorem BX (a b : UInt8) : (a ^^^ b) ^^^ b = a:=by rw [UInt8.xor_assoc,UInt8.xor_self,UInt8.xor_zero]
section
variable {m : Nat} (h1 : 256 ≤ m) (h2 : m < 512)
theorem Zck (f : MF) (i k r : Nat) (x : Nat → UInt8) : Vn m (Kd f i k r) x = if r = k then Vn m (f i) x else if r = i then Vn m (f k) x else Vn m (f r) x:=by
 by_cases h : r = k
 ·simp only [Vn,Kd,if_pos h]
 by_cases h' : r = i
 ·simp only [Vn,Kd,if_neg h,if_pos h']
 simp only [Vn,Kd,if_neg h,if_neg h']
include h1 h2
theorem kf (f : MF) (k r : Nat) (q : UInt8) (x : Nat → UInt8) : Vn m (Q4 m f k q r) x = if r = k then ZE m q (Vn m (f k) x) else Vn m (f r) x:=by
 by_cases h : r = k
 ·simp only [Vn,Q4,if_pos h]
  rw [Uc h1 h2,Uc h1 h2,Uc h1 h2,Y8 h1 h2 (f k 0) q,Y8 h1 h2 (f k 1) q,Y8 h1 h2 (f k 2) q,Y8 h1 h2 (f k 3) q,
   Y4 h1 h2,Y4 h1 h2,Y4 h1 h2,Y4 h1 h2]
 simp only [Vn,Q4,if_neg h]
theorem Zbn (A g : MF) (k r : Nat) (x : Nat → UInt8) : Vn m (WP m A g k r) x = if r = k then Vn m (g k) x else Vn m (g r) x ^^^ ZE m (A r k) (Vn m (g k) x):=by
 by_cases h : r = k
 ·subst h; simp only [Vn,WP,if_true]
 simp only [Vn,WP,if_neg h]
 rw [Uc h1 h2,Uc h1 h2,Uc h1 h2,HO h1 h2,HO h1 h2,HO h1 h2,HO h1 h2,
  Y4 h1 h2,Y4 h1 h2,Y4 h1 h2,Y4 h1 h2]
 exact Zq8 _ _ _ _ _ _ _ _
theorem Zbw {u : Nat → UInt8} {r : Nat} (hr : r < 4) (hu : ∀ c,c < 4 → u c = TG r c) (x : Nat → UInt8) : Vn m u x = x r:=by
 rw [BP (u':=TG r) (x':=x) hu (λ_ _=>rfl)]
 have : r = 0 ∨ r = 1 ∨ r = 2 ∨ r = 3:=by omega
 unfold Vn TG
 rcases this with rfl | rfl | rfl | rfl <;> simp [QX h1 h2,TE h1 h2]
end
structure RedGood (m : Nat) (a A B : MF) (E : (Nat → UInt8) → Nat → UInt8) : Prop where
 p1 : ∀ x r,r < 4 → Vn m (B r) (λi=>Vn m (a i) x) = Vn m (A r) x
 p2 : ∀ y r,r < 4 → E (λi=>Vn m (B i) y) r = y r
 p3 : ∀ z z',(∀ i,i < 4 → z i = z' i) → ∀ r,r < 4 → E z r = E z' r
section
variable {m : Nat} (h1 : 256 ≤ m) (h2 : m < 512) {a A B : MF} {E : (Nat → UInt8) → Nat → UInt8}
theorem Zm0 (h : RedGood m a A B E) {i k : Nat} (hi : i < 4) (hk : k < 4) : ∃ E',RedGood m a (Kd A i k) (Kd B i k) E':=by
 refine ⟨λz=>E λr=>if r = k then z i else if r = i then z k else z r,λx r hr=>?_,λy r hr=>?_,λz z' hz r hr=>?_⟩
 ·rw [Zck,Zck]
  by_cases c1 : r = k
  ·rw [if_pos c1,if_pos c1,h.p1 x i hi]
  by_cases c2 : r = i
  ·rw [if_neg c1,if_neg c1,if_pos c2,if_pos c2,h.p1 x k hk]
  rw [if_neg c1,if_neg c1,if_neg c2,if_neg c2,h.p1 x r hr]
 ·have : (λr=>if r = k then Vn m (Kd B i k i) y else if r = i then Vn m (Kd B i k k) y else Vn m (Kd B i k r) y) = λr=>Vn m (B r) y:=by
   funext r
   simp only [Zck,if_true]
   by_cases c1 : r = k
   ·by_cases c3 : i = k
    ·simp [c1,c3]
    ·simp [c1,c3]
   ·by_cases c2 : r = i
    ·simp [c2]
     intro h'; simp [h']
    ·simp [c1,c2]
  show E _ r = y r
  rw [this]
  exact h.p2 y r hr
 refine h.p3 _ _ (λj hj=>?_) r hr
 show (if j = k then z i else if j = i then z k else z j) = if j = k then z' i else if j = i then z' k else z' j
 rw [hz i hi,hz k hk,hz j hj]
include h1 h2
theorem Zja (h : RedGood m a A B E) {k : Nat} (hk : k < 4) {p q : UInt8} (hpq : ZE m p q = 1) : ∃ E',RedGood m a (Q4 m A k q) (Q4 m B k q) E':=by
 refine ⟨λz=>E λr=>if r = k then ZE m p (z k) else z r,λx r hr=>?_,λy r hr=>?_,λz z' hz r hr=>?_⟩
 ·rw [kf h1 h2,kf h1 h2,h.p1 x k hk,h.p1 x r hr]
 ·have : (λr=>if r = k then ZE m p (Vn m (Q4 m B k q k) y) else Vn m (Q4 m B k q r) y) = λr=>Vn m (B r) y:=by
   funext r
   simp only [kf h1 h2,if_true]
   by_cases c1 : r = k
   ·rw [if_pos c1,← Y4 h1 h2,hpq,QX h1 h2,c1]
   ·rw [if_neg c1,if_neg c1]
  show E _ r = y r
  rw [this]
  exact h.p2 y r hr
 refine h.p3 _ _ (λj hj=>?_) r hr
 show (if j = k then ZE m p (z k) else z j) = if j = k then ZE m p (z' k) else z' j
 rw [hz k hk,hz j hj]
theorem Zl0 (h : RedGood m a A B E) {k : Nat} (hk : k < 4) : ∃ E',RedGood m a (WP m A A k) (WP m A B k) E':=by
 refine ⟨λz=>E λr=>if r = k then z k else z r ^^^ ZE m (A r k) (z k),λx r hr=>?_,λy r hr=>?_,λz z' hz r hr=>?_⟩
 ·rw [Zbn h1 h2,Zbn h1 h2,h.p1 x k hk,h.p1 x r hr]
 ·have : (λr=>if r = k then Vn m (WP m A B k k) y else Vn m (WP m A B k r) y ^^^ ZE m (A r k) (Vn m (WP m A B k k) y)) = λr=>Vn m (B r) y:=by
   funext r
   simp only [Zbn h1 h2,if_true]
   by_cases c1 : r = k
   ·rw [if_pos c1,c1]
   ·rw [if_neg c1,if_neg c1,BX]
  show E _ r = y r
  rw [this]
  exact h.p2 y r hr
 refine h.p3 _ _ (λj hj=>?_) r hr
 show (if j = k then z k else z j ^^^ ZE m (A j k) (z k)) = if j = k then z' k else z' j ^^^ ZE m (A j k) (z' k)
 rw [hz k hk,hz j hj]
end
def Zfg (A : MF) (k : Nat) : Prop:=∀ r c,r < 4 → c < k → A r c = TG r c
theorem Zox {f : MF} {k : Nat} (h : K8 f k ≠ 4) : k ≤ K8 f k ∧ K8 f k < 4 ∧ f (K8 f k) k ≠ 0:=by
 unfold K8 at h ⊢
 cases hf : (List.range' k (4 - k)).find? λi=>!(f i k == 0) with
 | none=>rw [hf] at h; exact absurd rfl h
 | some i =>
  have h3:=List.mem_range'_1.1 (List.mem_of_find?_eq_some hf)
  have h4:=List.find?_some hf
  simp only [Option.getD_some]
  exact ⟨by omega,by omega,by simpa using h4⟩
theorem Zf5 {m : Nat} (hf : Yl (m : Int) = true) {a : MF} {s s' : Red} {k : Nat} (hk : k < 4) {E : (Nat → UInt8) → Nat → UInt8} (hs : HE m s k = some s') (hg : RedGood m a s.a s.b E) (hc : Zfg s.a k) :
  ∃ E',RedGood m a s'.a s'.b E' ∧ Zfg s'.a (k + 1):=by
 obtain ⟨m',e,h1,h2⟩:=Ut hf
 have e : m = m':=by omega
 subst e
 unfold HE at hs
 by_cases h4 : K8 s.a k = 4
 ·simp [h4] at hs
 obtain ⟨q1,q2,q3⟩:=Zox h4
 simp only [h4,if_false] at hs
 have hs:=Option.some.inj hs
 generalize K8 s.a k = i at *
 obtain ⟨E1,g1⟩:=Zm0 hg q2 hk
 have hp : Kd s.a i k k k = s.a i k:=by simp [Kd]
 have hpq:=ke hf (a:=Kd s.a i k k k) (by rw [hp]; exact q3)
 obtain ⟨E2,g2⟩:=Zja h1 h2 g1 hk hpq
 obtain ⟨E3,g3⟩:=Zl0 h1 h2 g2 hk
 subst hs
 refine ⟨E3,g3,λr c hr hcl=>?_⟩
 have z1 : ∀ r c,r < 4 → c < k → Kd s.a i k r c = TG r c:=λr c hr hcl=>by
  unfold Kd
  by_cases c1 : r = k
  ·rw [if_pos c1,hc i c q2 hcl]; unfold TG; rw [if_neg om_,if_neg om_]
  ·by_cases c2 : r = i
   ·rw [if_neg c1,if_pos c2,hc k c hk hcl]; unfold TG; rw [if_neg om_,if_neg om_]
   ·rw [if_neg c1,if_neg c2,hc r c hr hcl]
 have z2 : ∀ r c,r < 4 → c < k → Q4 m (Kd s.a i k) k (TH m (Kd s.a i k k k)) r c = TG r c:=λr c hr hcl=>by
  unfold Q4
  by_cases c1 : r = k
  ·rw [if_pos c1,z1 k c hk hcl]; unfold TG; rw [if_neg om_,if_neg om_,TE h1 h2]
  ·rw [if_neg c1,z1 r c hr hcl]
 have z3 : Q4 m (Kd s.a i k) k (TH m (Kd s.a i k k k)) k k = 1:=by
  unfold Q4; rw [if_pos rfl]; exact hpq
 generalize Q4 m (Kd s.a i k) k (TH m (Kd s.a i k k k)) = f2 at *
 show WP m f2 f2 k r c = TG r c
 unfold WP
 by_cases c3 : c = k
 ·subst c3
  by_cases c1 : r = c
  ·rw [if_pos c1,c1,z3]; unfold TG; rw [if_pos rfl]
  rw [if_neg c1,z3,Zj1 h1 h2,UInt8.xor_self]; unfold TG; rw [if_neg c1]
 have hcl' : c < k:=by omega
 by_cases c1 : r = k
 ·rw [if_pos c1,z2 r c hr hcl']
 have : f2 k c = 0:=by rw [z2 k c hk hcl']; unfold TG; rw [if_neg om_]
 rw [if_neg c1,z2 r c hr hcl',this,Y8 h1 h2,TE h1 h2,UInt8.xor_zero]
theorem kY {m : Nat} (hf : Yl (m : Int) = true) {a : MF} : ∀ (n k : Nat) (s s' : Red) (E : (Nat → UInt8) → Nat → UInt8),k + n = 4 → HG m n k s = some s' → RedGood m a s.a s.b E → Zfg s.a k →
  ∃ E',RedGood m a s'.a s'.b E' ∧ Zfg s'.a 4
 | 0,k,s,s',E,hn,hs,hg,hc=>by
  cases hs
  have : k = 4:=by omega
  subst this
  exact ⟨E,hg,hc⟩
 | n + 1,k,s,s',E,hn,hs,hg,hc=>by
  unfold HG at hs
  obtain ⟨s1,h1,h2⟩:=Option.bind_eq_some_iff.1 hs
  obtain ⟨E1,g1,c1⟩:=Zf5 hf om_ h1 hg hc
  exact kY hf n (k + 1) s1 s' E1 om_ h2 g1 c1
theorem Zqt (f : MF) {i j : Nat} (hi : i < 4) (hj : j < 4) : Ka (mf f) i j = f i j:=by
 unfold Ka mf
 rw [J5 _ hi,Option.getD_some,J5 _ hj,Option.getD_some]
theorem Zml {m : Nat} (hf : Yl (m : Int) = true) (a : Mat) (hd : Zdo m a ≠ 0) (y : Nat → UInt8) {r : Nat} (hr : r < 4) :
  Vn m (Ka a r) (λi=>Vn m (Ka (jW m a) i) y) = y r:=by
 obtain ⟨m',e,h1,h2⟩:=Ut hf
 have e : m = m':=by omega
 subst e
 unfold Zdo at hd
 unfold jW
 unfold Ak at hd ⊢
 cases hs : HG m 4 0 ⟨Ka a,TG,1⟩ with
 | none=>rw [hs] at hd; exact absurd rfl hd
 | some s =>
  obtain ⟨E,hg,hc⟩:=kY hf (a:=Ka a) 4 0 ⟨Ka a,TG,1⟩ s (λz=>z) rfl hs
   ⟨λx r hr=>Zbw h1 h2 hr (λ_ _=>rfl) _,λy r hr=>Zbw h1 h2 hr (λ_ _=>rfl) y,λz z' hz r hr=>hz r hr⟩ (λr c hr hc=>absurd hc (Nat.not_lt_zero c))
  have e1 : Vn m (Ka a r) (λi=>Vn m (Ka (mf s.b) i) y) = Vn m (Ka a r) (λi=>Vn m (s.b i) y) :=
   BP (λ_ _=>rfl) λi hi=>BP (λj hj=>Zqt s.b hi hj) (λ_ _=>rfl)
  show Vn m (Ka a r) (λi=>Vn m (Ka (mf s.b) i) y) = y r
  rw [e1]
  -- z = B y; B (a z) = A z = z
  have e2 : ∀ i,i < 4 → Vn m (s.b i) (λj=>Vn m (Ka a j) (λi=>Vn m (s.b i) y)) = Vn m (s.b i) y:=λi hi=>by
   rw [hg.p1 _ i hi]
   exact Zbw h1 h2 hi (λc hcl=>hc i c hi hcl) _
  have e3:=hg.p3 _ _ e2 r hr
  rw [hg.p2 (λj=>Vn m (Ka a j) (λi=>Vn m (s.b i) y)) r hr,hg.p2 y r hr] at e3
  exact e3
theorem Zek {m : Nat} {a : MF} {f g : Nat → UInt8} (h : ∀ i,i < 16 → f i = g i) {i : Nat} (hi : i < 16) : TA m a f i = TA m a g i:=by
 unfold TA
 rw [qY,qY]
 exact BP (λ_ _=>rfl) λj hj=>h _ om_
theorem Zrx {m : Nat} (hf : Yl (m : Int) = true) (a : Mat) (hd : Zdo m a ≠ 0) (f : Nat → UInt8) (i : Nat) : TA m (Ka a) (TA m (Ka (jW m a)) f) i = f i:=by
 unfold TA
 rw [qY]
 have e : Vn m (Ka a (i % 4)) (λj=>rowF m (Ka (jW m a)) f ((i / 4 * 4 + j) / 4 * 4) ((i / 4 * 4 + j) % 4)) = Vn m (Ka a (i % 4)) (λj=>Vn m (Ka (jW m a) j) (λl=>f (i / 4 * 4 + l))) :=
  BP (λ_ _=>rfl) λj hj=>by
   have e1 : (i / 4 * 4 + j) / 4 * 4 = i / 4 * 4:=by omega
   have e2 : (i / 4 * 4 + j) % 4 = j:=by omega
   rw [e1,e2,qY]
 rw [e,Zml hf a hd _ (Nat.mod_lt _ om_)]
 show f (i / 4 * 4 + i % 4) = f i
 rw [show i / 4 * 4 + i % 4 = i by omega]

theorem Zah {l : List UInt8} (h : UZ l = true) : l.Nodup:=of_decide_eq_true h
theorem Zha {p : Blk} (h : VA p = true) : UZ p.toList = true:=by
 unfold VA at h
 simp only [Bool.and_eq_true] at h
 exact h.2
theorem Zl2 {i : Nat} (h : i < 256) : (Zz (i : Int)).toNat = i:=by
 rw [VI]
 simp only [UInt8.toNat_ofNat']
 omega
theorem kJ (n : Nat) (hn : n ≤ 256) (p : Vector UInt8 n) : ∀ k,k ≤ n → ∀ x,x < n → (∃ i,i < k ∧ (p.toList.getD i 0).toNat = x) → ∃ i,i < k ∧ ((Jz n p k)[x]?.getD 0).toNat = i ∧ (p.toList.getD i 0).toNat = x
 | 0,_,x,_,⟨i,h,_⟩=>absurd h (Nat.not_lt_zero i)
 | k + 1,hk,x,hx,⟨i,hi,hp⟩=>by
  by_cases c : (p.toList.getD k 0).toNat = x
  ·refine ⟨k,by omega,?_,c⟩
   rw [Jz,Vector.getElem?_setIfInBounds,if_pos c,if_pos (by omega),Option.getD_some,Zl2 (by omega)]
  ·have : i ≠ k:=λe=>c (e ▸ hp)
   obtain ⟨j,h1,h2,h3⟩:=kJ n hn p k om_ x hx ⟨i,by omega,hp⟩
   refine ⟨j,by omega,?_,h3⟩
   rw [Jz,Vector.getElem?_setIfInBounds,if_neg c]
   exact h2
theorem Zor (b : V256) (h : UZ b.toList = true) (x : UInt8) : AB b (AB (Jz 256 b 256) x) = x:=by
 have hn : b.toList.Nodup:=Zah h
 have hs:=(Zam (b.toList.map UInt8.toNat) 256 (by simp) (λy hy=>by
  obtain ⟨z,_,rfl⟩:=List.mem_map.1 hy
  exact z.toNat_lt)).1 ((kO _).2 hn) x.toNat x.toNat_lt
 obtain ⟨z,hz,ez⟩:=List.mem_map.1 hs
 obtain ⟨i,hi,e⟩:=List.mem_iff_getElem.1 hz
 have hi' : i < 256:=by simpa using hi
 obtain ⟨j,h1,h2,h3⟩:=kJ 256 om_ b 256 om_ x.toNat x.toNat_lt ⟨i,hi',by rw [VV b hi',e,ez]⟩
 have e1 : (AB (Jz 256 b 256) x).toNat = j:=by
  rw [← h2,Vector.getElem?_eq_getElem x.toNat_lt]; rfl
 have e2 : AB b (AB (Jz 256 b 256) x) = b[j]:=by
  unfold AB at e1 ⊢
  simp only [e1]
 rw [e2]
 apply UInt8.toNat_inj.1
 rw [← h3,VV b h1]
 simp
theorem Zjm (p : Blk) (hp : VA p = true) {i : Nat} (hi : i < 16) : (bf (Jz 16 p 16) (bf p i).toNat).toNat = i:=by
 have hlt:=B6 hp hi
 obtain ⟨j,h1,h2,h3⟩:=kJ 16 om_ p 16 om_ (bf p i).toNat hlt ⟨i,hi,by rw [jy p hi]⟩
 rw [jy p h1] at h3
 have e : (bf (Jz 16 p 16) (bf p i).toNat).toNat = j:=by
  rw [← h2]; unfold bf; rfl
 rw [e]
 have hn : p.toList.Nodup:=Zah (Zha hp)
 have e3 : p.toList[j]'(by simpa using h1) = p.toList[i]'(by simpa using hi):=by
  have e4:=UInt8.toNat_inj.1 h3
  rw [← jy p h1,← jy p hi,VV p h1,VV p hi] at e4
  exact e4
 exact (List.getElem_inj hn).1 e3

theorem Ziy {c : GCipher} (h : Z6 c = true) : Zdo c.Field.toNat c.Mix ≠ 0:=by
 unfold Z6 at h
 simp only [Bool.and_eq_true] at h
 simpa using h.2
theorem Zai {c : GCipher} (h : Z6 c = true) : Yl ((c.Field.toNat : Nat) : Int) = true:=by
 obtain ⟨m,hm,h1,h2⟩:=Ao h
 have e : ((c.Field.toNat : Nat) : Int) = c.Field:=by omega
 rw [e]
 unfold Z6 at h
 simp only [Bool.and_eq_true] at h
 exact h.1.1.1.1
theorem Zjs {c : GCipher} (h : Z6 c = true) : UZ c.Box.toList = true:=by
 unfold Z6 at h
 simp only [Bool.and_eq_true] at h
 exact h.1.1.1.2
theorem Zh4 {c : GCipher} (h : Z6 c = true) (n r : Nat) (k : Nat → UInt8) {f g : Nat → UInt8} (hfg : ∀ i,i < 16 → f i = g i) {i : Nat} (hi : i < 16) : Hh c n r k f i = Hh c n r k g i:=by
 have hp:=KZ h
 have e : ∀ i,i < 16 → Jt c.Places (BA c.Box f) i = Jt c.Places (BA c.Box g) i:=λi hi=>by
  unfold Jt BA
  rw [hfg _ (B6 hp hi)]
 unfold Hh Bl
 by_cases c1 : r < n
 ·rw [if_pos c1,if_pos c1,Zek e hi]
 rw [if_neg c1,if_neg c1,e i hi]
theorem Zix {c : GCipher} (h : Z6 c = true) (n r : Nat) (k g : Nat → UInt8) {i : Nat} (hi : i < 16) : Hh c n r k (BR c n r k g) i = g i:=by
 have hp:=KZ h
 have e : ∀ (q : Nat → UInt8) i,i < 16 → Jt c.Places (BA c.Box (BA (Jz 256 c.Box 256) (Jt (Jz 16 c.Places 16) q))) i = q i:=λq i hi=>by
  unfold Jt BA
  rw [Zor c.Box (Zjs h)]
  show q (bf (Jz 16 c.Places 16) (bf c.Places i).toNat).toNat = q i
  rw [Zjm c.Places hp hi]
 unfold Hh BR Bl
 by_cases c1 : r < n
 ·simp only [if_pos c1]
  rw [Zek (e _) hi,Zrx (Zai h) c.Mix (Ziy h)]
  exact BX _ _
 simp only [if_neg c1]
 rw [e _ i hi]
 exact BX _ _
theorem Zlj {c : GCipher} (h : Z6 c = true) (k f : Nat → UInt8) (n : Nat) : ∀ r,r ≤ n → ∀ i,i < 16 → yt c k (Zhu c k f n) n r i = Zfk c k f n (n - r) i
 | 0,_,i,_=>BX _ _
 | r + 1,hr,i,hi=>by
  have ih:=Zlj h k f n r om_
  have e1 : n - r = (n - (r + 1)) + 1:=by omega
  have e2 : n - (n - (r + 1)) = r + 1:=by omega
  show Hh c n (r + 1) (jA c.Box k (r + 1)) (yt c k (Zhu c k f n) n r) i = _
  rw [Zh4 h n (r + 1) _ ih hi,e1]
  show Hh c n (r + 1) (jA c.Box k (r + 1)) (BR c n (n - (n - (r + 1))) (jA c.Box k (n - (n - (r + 1)))) (Zfk c k f n (n - (r + 1)))) i = _
  rw [e2]
  exact Zix h n (r + 1) _ _ hi
theorem Zhd {c : GCipher} (h : Z6 c = true) (k : Nat → UInt8) (b : Blk) (n : Nat) : vf 16 (Zau c k (Zhu c k (bf b) n) n) = b:=by
 conv=>rhs; rw [Bp b]
 refine W2 λi hi=>?_
 have:=Zlj h k (bf b) n n (Nat.le_refl _) i hi
 rw [Nat.sub_self] at this
 exact this
theorem Zv {α β : Type} {o : Option α} {f : α → Option β} {P : α → Prop} {Q : β → Prop} (h : ∃ r,o = some r ∧ P r) (k : ∀ r,P r → ∃ q,f r = some q ∧ Q q) : ∃ q,(o.bind f) = some q ∧ Q q:=by
 obtain ⟨r,e,hr⟩:=h
 rw [e,ob_]
 exact k r hr
theorem yU {α β : Type} {x : α} {f : α → Option β} {Q : β → Prop} (k : ∃ q,f x = some q ∧ Q q) : ∃ q,((some x).bind f) = some q ∧ Q q:=k
theorem Tz {β : Type} {c : Prop} [Decidable c] {a b : Option β} {Q : β → Prop} (h1 : c → ∃ q,a = some q ∧ Q q) (h2 : ¬ c → ∃ q,b = some q ∧ Q q) : ∃ q,(if c then a else b) = some q ∧ Q q:=by
 by_cases h : c
 ·rw [if_pos h]; exact h1 h
 rw [if_neg h]; exact h2 h
theorem Q8 {σ ρ : Type} {f : σ → Option (Fl σ ρ)} (I : Nat → σ → Prop) {R : ρ → Prop} (n : Nat) (h : ∀ i s,i < n → I i s → ∃ q,f s = some q ∧ ∃ s',q = .nx s' ∧ I (i + 1) s') (he : ∀ s,I n s → ∃ q,f s = some q ∧ ∃ r,q = .ex r ∧ R r) :
  ∀ (k i : Nat) (s : σ),i + k = n → I i s → ∃ r,ZK f s = some r ∧ R r
 | 0,i,s,hk,hi=>by
  have : i = n:=by omega
  subst this
  obtain ⟨q,e,r,rfl,hr⟩:=he s hi
  exact ⟨r,We e,hr⟩
 | k + 1,i,s,hk,hi=>by
  obtain ⟨q,e,s',rfl,hs⟩:=h i s om_ hi
  rw [WM e]
  exact Q8 I n h he k (i + 1) s' om_ hs
theorem XO {α : Type} {n : Nat} (v : Vector α n) {i : Int} (h : 0 ≤ i ∧ i < n) : ∃ x,ZP v i = some x ∧ True:=by
 obtain ⟨k,rfl⟩:=Int.eq_ofNat_of_zero_le h.1
 exact ⟨v[k]'om_,by rw [KF,Vector.getElem?_eq_getElem om_],trivial⟩
theorem HJ {α : Type} (l : List α) {i : Int} (h : 0 ≤ i ∧ i < l.length) : ∃ x,idx l i = some x ∧ x ∈ l:=by
 obtain ⟨k,rfl⟩:=Int.eq_ofNat_of_zero_le h.1
 have hk : k < l.length:=by omega
 exact ⟨l[k],by rw [Yx,ge_ hk],List.getElem_mem hk⟩
theorem Zph {α : Type} {o : Option α} {x : α} (h : o = some x) : ∃ r,o = some r ∧ True:=⟨x,h,trivial⟩

def Wy (s : Int × Int) : Prop:=0 ≤ s.1 ∧ s.1 ≤ 4096
section
variable {p : List UInt8} (hp : p.length ≤ 4096) {s : Int × Int} (hs : Wy s)
theorem Zcz (a : BitVec 64) : ∃ m : Nat,m ≤ 16777215 ∧ IntKind.i64.wrap (wru (a &&& BitVec.ofInt 64 16777215).toNat) = (m : Int):=by
 have h : (a &&& BitVec.ofInt 64 16777215).toNat ≤ 16777215:=by
  rw [BitVec.toNat_and]
  exact Nat.le_trans Nat.and_le_right (by decide)
 refine ⟨_,h,?_⟩
 generalize (a &&& BitVec.ofInt 64 16777215).toNat = m at *
 have e : wru (m : Int) = (m : Int):=Zj3 m om_
 rw [e]
 exact YY om_
include hp hs
theorem Y2 {n : Int} (hn : 1 ≤ n) : ∃ r,ZQ p s n = some r ∧ (Wy r.1 ∧ 0 ≤ r.2 ∧ r.2 < n):=by
 unfold ZQ
 obtain ⟨m,hm,em⟩:=Zcz (BitVec.ofInt 64 (Qp (IntKind.u64.wrap ((IntKind.u64.wrap (s.2 * 6364136223846793005)) + 1442695040888963407)) 33))
 rw [em]
 have hz : Bu n = some ():=by unfold Bu; rw [if_pos om_]
 obtain ⟨h1,h2⟩:=hs
 rw [if_neg od_]
 refine Zv (P:=λj=>(0 ≤ j.1 ∧ j.1 ≤ 4096) ∧ 0 ≤ j.2) (yU (Tz (λhc=>?_) (λ_=>⟨_,rfl,⟨h1,h2⟩,by omega⟩))) λj hj=>?_
 ·have hc : s.1 < (p.length : Int):=of_decide_eq_true hc
  refine Zv (P:=λx=>0 ≤ x) (Zv (HJ p ⟨h1,hc⟩) λx _=>⟨_,rfl,?_⟩) λx hx=>⟨_,rfl,?_,hx⟩
  ·have hb:=x.toNat_lt
   show 0 ≤ wr ((m : Int) + (x.toNat : Int))
   rw [YY om_]; omega
  show 0 ≤ wr (s.1 + 1) ∧ wr (s.1 + 1) ≤ 4096
  rw [YY om_]; omega
 rw [hz]
 refine ⟨_,rfl,hj.1,?_,?_⟩
 ·exact Int.tmod_nonneg _ hj.2
 exact Int.tmod_lt_of_pos _ om_
theorem H4 {l : List Int} (hl : 1 ≤ l.length) : ∃ r,X8 p s l = some r ∧ (Wy r.1 ∧ r.2 ∈ l):=by
 unfold X8
 exact Zv (Y2 hp hs om_) λr hr=>Zv (HJ l hr.2) λx hx=>⟨_,rfl,hr.1,hx⟩
theorem Zmg {l : List UInt8} (hl : 1 ≤ l.length) : ∃ r,QG p s l = some r ∧ Wy r.1:=by
 unfold QG
 exact Zv (Y2 hp hs om_) λr hr=>Zv (HJ l hr.2) λx hx=>⟨_,rfl,hr.1⟩
theorem Zf9 : ∃ r,Vv p s = some r ∧ Wy r.1:=by
 unfold Vv
 exact Zv (Y2 hp hs om_) λr hr=>Zv (Y2 hp hr.1 om_) λr hr=>Zv (Y2 hp hr.1 om_) λr hr=>Zv (H4 hp hr.1 (by simp)) λr hr=>⟨_,rfl,hr.1⟩
theorem Zds : ∃ r,W6 p s = some r ∧ Wy r.1:=by
 unfold W6
 refine Zv (Y2 hp hs om_) λr hr=>Tz (λ_=>?_) (λ_=>?_)
 ·exact Zv (Y2 hp hr.1 om_) λr hr=>Zv (Zf9 hp hr.1) λq hq=>Zv (XO _ hr.2) λx _=>⟨_,rfl,hq⟩
 refine Zv (P:=λj=>Wy j.2) (Q8 (λi t=>t.2.2.2 = (i : Int) ∧ Wy (t.2.1,t.2.2.1)) 16 (λi t hi ht=>?_) (λt ht=>?_) 16 0 _ rfl ⟨rfl,hr.1⟩) λj hj=>⟨_,rfl,hj⟩
 ·unfold Tg
  obtain ⟨t1,t2⟩:=ht
  rw [if_pos od_]
  exact Zv (Y2 hp t2 om_) λr hr=>Zv (XO _ om_) λx _=>⟨_,rfl,_,rfl,by show wr (t.2.2.2 + 1) = _; rw [t1,YY om_]; omega,hr.1⟩
 unfold Tg
 obtain ⟨t1,t2⟩:=ht
 rw [if_neg od_]
 exact ⟨_,rfl,_,rfl,t2⟩
end
theorem Zgx {p : List UInt8} (hp : p.length ≤ 4096) : ∃ r,T1 p = some r ∧ Wy r:=by
 unfold T1
 refine Zv (P:=λ_=>True) (Q8 (λi t=>t.2 = (i : Int)) p.length (λi t hi ht=>?_) (λt ht=>?_) p.length 0 _ om_ rfl) λj _=>⟨_,rfl,by show (0 : Int) ≤ 0; omega,by show (0 : Int) ≤ 4096; omega⟩
 ·unfold Jh
  rw [if_pos od_]
  have h1 : decide (t.2 < 4096) = true:=by simp only [decide_eq_true_eq]; omega
  rw [h1]
  exact yU (Tz (λ_=>Zv (HJ p om_) λx _=>⟨_,rfl,_,rfl,by show wr (t.2 + 1) = _; rw [ht,YY om_]; omega⟩) λh=>absurd rfl h)
 unfold Jh
 rw [if_neg od_]
 exact ⟨_,rfl,_,rfl,trivial⟩

theorem Zjl : ∃ r,T5 = some r ∧ (1 ≤ r.length ∧ ∀ x ∈ r,Yl x = true):=by
 unfold T5
 have h285 : Yl 285 = true:=by decide +kernel
 refine Zv (Q8 (λi t=>t.2 = ((256 + i : Nat) : Int) ∧ t.1.length ≤ i ∧ (29 < i → 1 ≤ t.1.length) ∧ ∀ x ∈ t.1,Yl x = true) 256 (λi t hi ht=>?_) (λt ht=>?_) 256 0 _ rfl ⟨rfl,Nat.zero_le _,λh=>absurd h om_,λx hx=>by cases hx⟩) λj hj=>⟨_,rfl,hj⟩
 ·obtain ⟨t1,t2,t3,t4⟩:=ht
  unfold Q5
  rw [if_pos od_,Zcw,ob_]
  have e1 : wr (t.2 + 1) = ((256 + (i + 1) : Nat) : Int):=by rw [t1,YY om_]; omega
  cases hf : Yl t.2
  ·refine ⟨_,rfl,_,rfl,e1,by show t.1.length ≤ i + 1; omega,λh=>?_,t4⟩
   refine t3 ?_
   rcases Nat.lt_or_ge 29 i with h5 | h5
   ·exact h5
   have : i = 29:=by omega
   subst this
   rw [t1] at hf
   exact absurd h285 (by rw [show (285 : Int) = ((256 + 29 : Nat) : Int) from rfl,hf]; decide)
  have ha : app 8 t.1 ([t.2] : List Int) = _:=Xm (by simp only [List.length_singleton]; omega)
  rw [if_pos rfl,ha]
  refine ⟨_,rfl,_,rfl,e1,by show (t.1 ++ [t.2]).length ≤ i + 1; simp; omega,λ_=>by show 1 ≤ (t.1 ++ [t.2]).length; simp,λx hx=>?_⟩
  rcases List.mem_append.1 hx with h | h
  ·exact t4 x h
  rw [List.mem_singleton.1 h]; exact hf
 obtain ⟨t1,t2,t3,t4⟩:=ht
 unfold Q5
 rw [if_neg od_]
 exact ⟨_,rfl,_,rfl,t3 om_,t4⟩
section
variable {p : List UInt8} (hp : p.length ≤ 4096) {s : Int × Int} (hs : Wy s)
include hp hs
theorem jP : ∃ r,Wi p s = some r ∧ (Wy r.1 ∧ Yl r.2 = true):=by
 unfold Wi
 have h285 : Yl 285 = true:=by decide +kernel
 refine Zv Zjl λl hl=>Zv (P:=λj=>Wy (j.1,j.2.1) ∧ Yl j.2.2 = true) ?_ λj hj=>⟨_,rfl,hj⟩
 refine Zv (Y2 hp hs om_) λr hr=>Zv (HJ l hr.2) λx hx=>Zv (Y2 hp hr.1 om_) λr hr=>Zv (HJ l hr.2) λy hy=>Zv (H4 hp hr.1 (by simp)) λr hr=>⟨_,rfl,hr.1,?_⟩
 show Yl r.2 = true
 have:=hr.2
 simp only [List.mem_cons,List.not_mem_nil,or_false] at this
 rcases this with e | e | e <;> rw [e]
 ·exact h285
 ·exact hl.2 x hx
 exact hl.2 y hy
end

theorem jw {n : Nat} (hn : n < 1000000) (L : Vector UInt8 n × Int → Option (Fl (Vector UInt8 n × Int) (Vector UInt8 n))) (hL : ∀ (i : Nat) v,i < n → ∃ q,L (v,(i : Int)) = some q ∧ ∃ x,q = .nx ((v.setIfInBounds i x),wr ((i : Int) + 1)))
  (he : ∀ v,L (v,(n : Int)) = some (.ex v)) (v : Vector UInt8 n) : ∃ r,ZK L (v,0) = some r ∧ True:=by
 refine Q8 (λi t=>t.2 = (i : Int)) n (λi t hi ht=>?_) (λt ht=>?_) n 0 _ om_ rfl
 ·obtain ⟨t1,t2⟩:=t
  simp only at ht
  subst ht
  obtain ⟨q,e,x,rfl⟩:=hL i t1 hi
  exact ⟨_,e,_,rfl,by show wr ((i : Int) + 1) = _; rw [YY om_]; omega⟩
 obtain ⟨t1,t2⟩:=t
 simp only at ht
 subst ht
 exact ⟨_,he t1,_,rfl,trivial⟩
theorem Zfc {i : Nat} (h : i < 256) : (decide ((i : Int) < 256)) = true:=by simp only [decide_eq_true_eq]; omega
theorem v256 (v : V256) {i : Nat} (h : i < 256) : ∃ x,ZP v (i : Int) = some x ∧ True:=XO v om_
theorem vbyte (v : V256) (b : UInt8) : ∃ x,ZP v (bI b) = some x ∧ True:=⟨_,Hz v b,trivial⟩
theorem Zgo : ∃ r,TS = some r ∧ True:=by
 unfold TS
 refine Zv (jw om_ QD (λi v hi=>?_) (λv=>by unfold QD; rfl) _) λj _=>⟨_,rfl,trivial⟩
 unfold QD
 rw [if_pos (Zfc hi)]
 exact Zv (v256 v hi) λx _=>⟨_,rfl,_,rfl⟩
theorem Zns (a b : V256) : ∃ r,VE a b = some r ∧ True:=by
 unfold VE
 refine Zv (jw om_ (Vf a b) (λi v hi=>?_) (λv=>by unfold Vf; rfl) _) λj _=>⟨_,rfl,trivial⟩
 unfold Vf
 rw [if_pos (Zfc hi)]
 exact Zv (v256 a hi) λx _=>Zv (vbyte b x) λy _=>Zv (v256 v hi) λz _=>⟨_,rfl,_,rfl⟩
theorem AS {m : Nat} (h1 : 256 ≤ m) (h2 : m < 512) : ∀ (f k : Nat) (a o : UInt8),k < 2 ^ f → f ≤ 62 → ∃ r,ZK (XS (m : Int)) (o,a,(k : Int)) = some r ∧ True
 | 0,k,a,o,hk,_=>by
  have : k = 0:=by simpa using hk
  subst this
  exact ⟨_,We (t:=o) (by unfold XS; rfl),trivial⟩
 | f + 1,k,a,o,hk,hf=>by
  by_cases h0 : k = 0
  ·subst h0
   exact ⟨_,We (t:=o) (by unfold XS; rfl),trivial⟩
  ·have hlt : k < 2 ^ 62:=Nat.lt_of_lt_of_le hk (Nat.pow_le_pow_right om_ om_)
   have e2 : wr (Int.tdiv (k : Int) 2) = ((k / 2 : Nat) : Int):=by
    have : Int.tdiv (k : Int) 2 = ((k / 2 : Nat) : Int):=rfl
    rw [this,YY om_]
   have hk2 : k / 2 < 2 ^ f:=by rw [Nat.pow_succ] at hk; omega
   have step : ∃ o',XS (m : Int) (o,a,(k : Int)) = some (.nx (o',ZE m a a,((k / 2 : Nat) : Int))):=by
    unfold XS
    have e1 : decide ((k : Int) > 0) = true:=by simp only [decide_eq_true_eq]; omega
    simp only [e1,if_true,Js m h2 h1,ob_,e2]
    by_cases hc : (Int.tmod (k : Int) 2 == 1) = true
    ·exact ⟨ZE m o a,by simp only [hc,if_true,ob_]⟩
    ·exact ⟨o,by simp only [hc,if_false,ob_]; rfl⟩
   obtain ⟨o',hst⟩:=step
   rw [WM hst]
   exact AS h1 h2 f (k / 2) _ o' hk2 om_
theorem Zea {m k : Int} (hm : Yl m = true) (hk : 0 ≤ k ∧ k ≤ 254) : ∃ r,Wx m k = some r ∧ True:=by
 obtain ⟨n,rfl,h1,h2⟩:=Ut hm
 obtain ⟨k,rfl⟩:=Int.eq_ofNat_of_zero_le hk.1
 unfold Wx
 refine Zv (jw om_ (WF (n : Int) (k : Int)) (λi v hi=>?_) (λv=>by unfold WF; rfl) _) λj _=>⟨_,rfl,trivial⟩
 unfold WF
 rw [if_pos (Zfc hi)]
 exact Zv (AS h1 h2 8 k _ _ om_ om_) λx _=>Zv (v256 v hi) λz _=>⟨_,rfl,_,rfl⟩
theorem Zhi (l : List Int) (hl : l.length < 1000 ∧ ∀ x ∈ l,0 ≤ x ∧ x < 8) (b : UInt8) : ∃ r,Xy l b = some r ∧ True:=by
 unfold Xy
 refine Zv (jw om_ (XE l b) (λi v hi=>?_) (λv=>by unfold XE; rfl) _) λj _=>⟨_,rfl,trivial⟩
 unfold XE
 rw [if_pos (Zfc hi)]
 refine Zv (P:=λ_=>True) (Q8 (λi t=>t.2 = (i : Int)) l.length (λi t hi ht=>?_) (λt ht=>?_) l.length 0 _ om_ rfl) λx _=>Zv (v256 v hi) λz _=>⟨_,rfl,_,rfl⟩
 ·unfold YB
  rw [if_pos od_]
  refine Zv (HJ l om_) λx hx=>?_
  obtain ⟨k,rfl⟩:=Int.eq_ofNat_of_zero_le (hl.2 x hx).1
  rw [Zew _ k (by have:=(hl.2 _ hx).2; omega)]
  exact ⟨_,rfl,_,rfl,by show wr (t.2 + 1) = _; rw [ht,YY om_]; omega⟩
 unfold YB
 rw [if_neg od_]
 exact ⟨_,rfl,_,rfl,trivial⟩
section
variable {p : List UInt8} (hp : p.length ≤ 4096) {s : Int × Int} (hs : Wy s)
include hp hs
theorem Zgg : ∃ r,Tp p s = some r ∧ Wy r.1:=by
 unfold Tp
 refine Zv Zgo λb _=>Zv (P:=λj=>Wy (j.2.1,j.2.2)) (Q8 (λi t=>t.2.2.2 = ((255 - i : Nat) : Int) ∧ Wy (t.2.1,t.2.2.1)) 255 (λi t hi ht=>?_) (λt ht=>?_) 255 0 _ rfl ⟨rfl,hs⟩) λj hj=>⟨_,rfl,hj⟩
 ·obtain ⟨t1,t2⟩:=ht
  unfold Qo
  rw [if_pos od_]
  have e : wr (t.2.2.2 + 1) = t.2.2.2 + 1:=YY om_
  refine Zv (Y2 hp t2 om_) λr hr=>?_
  exact Zv (XO _ om_) λx _=>Zv (XO _ om_) λy _=>Zv (XO _ om_) λz _=>Zv (XO _ om_) λz _=>⟨_,rfl,_,rfl,by show wr (t.2.2.2 - 1) = _; rw [t1,YY om_]; omega,hr.1⟩
 obtain ⟨t1,t2⟩:=ht
 unfold Qo
 rw [if_neg od_]
 exact ⟨_,rfl,_,rfl,t2⟩
theorem Zqv : ∃ r,Kz p s = some r ∧ Wy r.1:=by
 unfold Kz
 refine Zv (Y2 hp hs om_) λr hr=>Tz (λ_=>?_) λ_=>Tz (λ_=>?_) λ_=>Tz (λ_=>?_) λ_=>Tz (λ_=>?_) λ_=>?_
 ·refine Zv (jP hp hr.1) λr hr=>Zv (Zea hr.2 om_) λb _=>Zv (Y2 hp hr.1 om_) λr hr=>Zv (Zhi [0,1,4] (by simp) _) λc _=>Zv (Zns b c) λd _=>⟨_,rfl,hr.1⟩
 ·refine Zv (jP hp hr.1) λq hq=>Zv (H4 hp hq.1 (by simp)) λr hr=>?_
  have hk : 0 ≤ r.2 ∧ r.2 ≤ 254:=by
   have:=hr.2
   simp only [List.mem_cons,List.not_mem_nil,or_false] at this
   omega
  exact Zv (Zea hq.2 hk) λb _=>⟨_,rfl,hr.1⟩
 ·exact Zv (Y2 hp hr.1 om_) λr hr=>Zv (Zhi [0,2,5] (by simp) _) λc _=>⟨_,rfl,hr.1⟩
 ·exact Zv Zgo λb _=>Zv (Y2 hp hr.1 om_) λr hr=>Zv (Y2 hp hr.1 om_) λq hq=>Zv (XO _ hr.2) λx _=>Zv (XO _ hq.2) λx _=>Zv (XO _ hr.2) λx _=>Zv (XO _ hq.2) λx _=>⟨_,rfl,hq.1⟩
 exact Zv (Zgg hp hr.1) λr hr=>⟨_,rfl,hr⟩

theorem Zi4 : ∃ r,Ki p s = some r ∧ Wy r.1:=by
 unfold Ki
 refine Zv (Y2 hp hs om_) λr hr=>Zv (H4 hp hr.1 (by simp)) λr hr=>Zv (Zph (Zjt _)) λc _=>Zv (Y2 hp hr.1 om_) λr hr=>Tz (λ_=>⟨_,rfl,hr.1⟩) λ_=>?_
 refine Zv (jP hp hr.1) λf hf=>Zv (Zqv hp hf.1) λb hb=>Zv (Y2 hp hb om_) λr hr=>?_
 obtain ⟨k,hk⟩:=Int.eq_ofNat_of_zero_le hr.2.1
 refine Zv (P:=λj=>Wy (j.2.1,j.2.2)) (Q8 (λi t=>t.2.2.2 = ((k - i : Nat) : Int) ∧ Wy (t.2.1,t.2.2.1)) k (λi t hi ht=>?_) (λt ht=>?_) k 0 _ om_ ⟨hk,hr.1⟩) λj hj=>?_
 ·obtain ⟨t1,t2⟩:=ht
  unfold Jf
  rw [if_pos od_]
  exact Zv (Y2 hp t2 om_) λr1 hr1=>Zv (Y2 hp hr1.1 om_) λr2 hr2=>Zv (Y2 hp hr2.1 om_) λr3 hr3=>Zv (XO _ hr1.2) λx _=>Zv (XO _ hr2.2) λy _=>⟨_,rfl,_,rfl,by show wr (t.2.2.2 - 1) = _; rw [t1,YY om_]; omega,hr3.1⟩
 ·obtain ⟨t1,t2⟩:=ht
  unfold Jf
  rw [if_neg od_]
  exact ⟨_,rfl,_,rfl,t2⟩
 obtain ⟨m,em,h1,h2⟩:=Ut hf.2
 refine Zv (P:=λj=>Wy (j.2.1,j.2.2)) (Zv (Zph (by rw [em]; exact jz m h2 h1 _)) λq _=>Tz (λ_=>Zv (Y2 hp hj om_) λr hr=>⟨_,rfl,hr.1⟩) λ_=>⟨_,rfl,hj⟩) λj hj=>?_
 exact Zv (Y2 hp hj om_) λr1 h1=>Zv (Y2 hp h1.1 om_) λr2 h2=>Zv (XO _ h1.2) λx _=>Zv (XO _ h2.2) λx _=>Zv (XO _ h1.2) λx _=>Zv (XO _ h2.2) λx _=>⟨_,rfl,h2.1⟩
theorem Zl8 : ∃ r,Qy p s = some r ∧ Wy r.1:=by
 unfold Qy
 have z : ∀ {n : Nat},2 ≤ n → (0 : Int) ≤ 0 ∧ (0 : Int) < n:=λh=>by omega
 have o : ∀ {n : Nat},2 ≤ n → (0 : Int) ≤ 1 ∧ (1 : Int) < n:=λh=>by omega
 refine Zv (Zi4 hp hs) λc hc=>Zv (P:=λj=>Wy (j.2.2.2.2.2.1,j.2.2.2.2.2.2)) ?_ λj hj=>⟨_,rfl,hj⟩
 refine Zv (Y2 hp hc om_) λr hr=>Zv (P:=λj=>Wy (j.2.2.2.2.2.1,j.2.2.2.2.2.2)) (Tz (λ_=>?_) λ_=>Tz (λ_=>?_) λ_=>Tz (λ_=>?_) λ_=>Tz (λ_=>?_) λ_=>Tz (λ_=>?_) λ_=>?_) λj hj=>⟨_,rfl,hj⟩
 ·exact Zv (H4 hp hr.1 (by simp)) λr hr=>⟨_,rfl,hr.1⟩
 ·exact Zv (XO _ (o om_)) λx _=>Zv (XO _ (z om_)) λx _=>⟨_,rfl,hr.1⟩
 ·exact Zv (XO _ (o om_)) λx _=>Zv (XO _ (z om_)) λx _=>⟨_,rfl,hr.1⟩
 ·exact Zv (Zmg hp hr.1 (by simp)) λr hr=>Zv (XO _ (z om_)) λx _=>Zv (XO _ (z om_)) λx _=>Zv (XO _ (o om_)) λx _=>⟨_,rfl,hr⟩
 ·exact Zv (H4 hp hr.1 (by simp)) λr hr=>⟨_,rfl,hr.1⟩
 exact ⟨_,rfl,hr.1⟩
end
theorem Zm3 {p : List UInt8} (hp : p.length ≤ 4096) : ∃ r,Qs p = some r ∧ True:=by
 unfold Qs
 exact Zv (Zgx hp) λs hs=>Zv (Zl8 hp hs) λc hc=>Zv (Zds hp hc) λa ha=>Zv (Zds hp ha) λb hb=>⟨_,rfl,trivial⟩
def zg (v : GVault) (nonce : Blk) : Bool:=v.Records.any λr=>(r.Version == (v.Keys.length : Int) - 1) && decide (r.Nonce = nonce)
theorem Zf3 {v : GVault} (h : v.Keys.length ≤ 1000) : wr ((v.Keys.length : Int) - 1) = (v.Keys.length : Int) - 1:=YY om_
theorem Zch (v : GVault) (nonce : Blk) (hk : v.Keys.length ≤ 1000) (hr : v.Records.length ≤ 1000) : Wp v nonce = some (zg v nonce):=by
 have h1 : ∀ z,Xc z v nonce = some ((z.Version == (v.Keys.length : Int) - 1) && decide (z.Nonce = nonce)):=λz=>by
  have hlen : Z3 v.Keys = some (v.Keys.length : Int):=rfl
  unfold Xc
  rw [hlen,ob_,Zf3 hk]
  cases z.Version == (v.Keys.length : Int) - 1 <;> rfl
 unfold Wp YM Yf
 rw [zH v.Records (λz=>Xc z v nonce) (λz=>(z.Version == (v.Keys.length : Int) - 1) && decide (z.Nonce = nonce)) (Yu v.Records (λz0=>Xc z0 v nonce)) (λs=>by
  unfold Yu
  rfl) om_ (λx _=>h1 x)]
 simp only [ob_,Zbs]
 rfl
def H1 (v : GVault) (ver : Int) (nonce : Blk) (data : List UInt8) : List UInt8:=KM data (HD (YP 4) (Q6 v ver) nonce data.length)
theorem Ap (v : GVault) (ver : Int) (nonce : Blk) (data : List UInt8) : (H1 v ver nonce data).length = data.length:=HL (Hf _ _ _ _)
def TL (v : GVault) (n ver : Int) (nonce : Blk) (label data : List UInt8) : GRecord:=⟨n,ver,nonce,label,H1 v ver nonce data,Ui v ⟨n,ver,nonce,label,H1 v ver nonce data,Vector.replicate 32 0⟩⟩
theorem Zju (v : GVault) (r : GRecord) (t : Dig) : Ui v ⟨r.Number,r.Version,r.Nonce,r.Label,r.Body,t⟩ = Ui v r:=rfl
def Zdn (v : GVault) : Bool:=(v.Records.length == 12) || (v.Events.length == 60) || (v.Next == 1000000)
theorem Zn6 (v : GVault) : (if ((v.Records.length : Int) == 12) = true then (some true) else (if ((v.Events.length : Int) == 60) = true then (some true) else (some (v.Next == 1000000))) : Option Bool) = some (Zdn v):=by
 unfold Zdn
 have e1 : ((v.Records.length : Int) == 12) = (v.Records.length == 12):=by rw [Bool.eq_iff_iff,beq_iff_eq,beq_iff_eq]; omega
 have e2 : ((v.Events.length : Int) == 60) = (v.Events.length == 60):=by rw [Bool.eq_iff_iff,beq_iff_eq,beq_iff_eq]; omega
 rw [e1,e2]
 cases v.Records.length == 12 <;> cases v.Events.length == 60 <;> rfl
def AX (label data : List UInt8) : Bool:=decide (32 < label.length) || decide (200 < data.length)
theorem Zjd (label data : List UInt8) : (if (decide ((data.length : Int) > 200)) = true then (some true) else (some (decide ((label.length : Int) > 32))) : Option Bool) = some (AX label data):=by
 unfold AX
 have e1 : decide ((label.length : Int) > 32) = decide (32 < label.length):=by rw [Bool.eq_iff_iff]; simp only [decide_eq_true_eq]; omega
 have e2 : decide ((data.length : Int) > 200) = decide (200 < data.length):=by rw [Bool.eq_iff_iff]; simp only [decide_eq_true_eq]; omega
 rw [e1,e2]
 cases decide (32 < label.length) <;> cases decide (200 < data.length) <;> rfl
def jt (v : GVault) (r : GRecord) : GVault:=⟨v.Keys,v.Next + 1,v.Records ++ [r],v.Events,v.Head⟩
def Zd7 (v : GVault) (label data : List UInt8) (nonce : Blk) : GVault × Int × Int :=
 if YW v then (if AX label data then (Aw,0,2) else if zg v nonce then (Aw,0,5) else if Zdn v then (Aw,0,3) else
  (TC (jt v (TL v v.Next ((v.Keys.length : Int) - 1) nonce label data)) ⟨1,v.Next,(TL v v.Next ((v.Keys.length : Int) - 1) nonce label data).Tag⟩,v.Next,0)) else (Aw,0,1)
theorem Zb8 {label data : List UInt8} (h : AX label data = false) : label.length ≤ 32 ∧ data.length ≤ 200:=by
 unfold AX at h
 simp only [Bool.or_eq_false_iff,decide_eq_false_iff_not] at h
 omega
theorem Zho {v : GVault} (hv : YW v = true) : Zft v:=jc hv λr hr=>by
 obtain ⟨_,_,h1,h2⟩:=BN hv hr
 omega
theorem Zh6 (v : GVault) (n ver : Int) (nonce : Blk) (label data : List UInt8) (t : Dig) (b : List UInt8) (h : 0 ≤ ver ∧ ver ≤ (v.Keys.length : Int) - 1) (hl : label.length ≤ 32) (hd : data.length ≤ 200) :
  WJ ⟨Z9 (YP 4)⟩ v ⟨n,ver,nonce,label,b,t⟩ data = some (TL v n ver nonce label data):=by
 unfold WJ
 rw [yp v ⟨n,ver,nonce,label,b,t⟩ data h om_,ob_]
 have hb:=Ap v ver nonce data
 have ht : Xg ⟨Z9 (YP 4)⟩ v ⟨n,ver,nonce,label,H1 v ver nonce data,t⟩ = some (Ui v ⟨n,ver,nonce,label,H1 v ver nonce data,t⟩):=qR v _ h (show label.length ≤ 1000 by omega) (show (H1 v ver nonce data).length ≤ 1000 by omega)
 show (Xg ⟨Z9 (YP 4)⟩ v ⟨n,ver,nonce,label,H1 v ver nonce data,t⟩).bind _ = _
 rw [ht]; rfl
theorem AC (v : GVault) (hb : Wt.ln v) (label data : List UInt8) (nonce : Blk) : Qv v label data nonce = some (Zd7 v label data nonce):=by
 unfold Qv Zd7
 rw [JA v hb,ob_]
 cases hv : YW v with
 | false=>rfl
 | true =>
  obtain ⟨h1,h2,h3,h4,h5,h6⟩:=Kn hv
  simp only [Bool.not_true,bf_,if_false,if_true]
  rw [Zjd,ob_]
  cases hlg : AX label data with
  | true=>rfl
  | false =>
   obtain ⟨k1,k2⟩:=Zb8 hlg
   simp only [bf_,if_false]
   rw [Zch v nonce om_ om_,ob_]
   cases zg v nonce with
   | true=>rfl
   | false =>
    simp only [bf_,if_false]
    rw [Zn6,ob_]
    cases Zdn v with
    | true=>rfl
    | false =>
     have hlen : Z3 v.Keys = some (v.Keys.length : Int):=rfl
     simp only [bf_,if_false]
     rw [QV,ob_,Ze6 v (Zho hv),ob_,hlen,ob_,Qb label om_,ob_,Zf3 om_,
      Zh6 v _ _ _ _ _ _ _ ⟨by omega,by omega⟩ k1 k2,ob_,Xm os_,ob_,YY om_]
     have hn : ∀ e,Xf ⟨Z9 (YP 4)⟩ (jt v (TL v v.Next ((v.Keys.length : Int) - 1) nonce label data)) e = some (TC (jt v (TL v v.Next ((v.Keys.length : Int) - 1) nonce label data)) e):=λe=>Zfo _ e (show v.Events.length ≤ 1000 by omega)
     have:=hn ⟨1,(TL v v.Next ((v.Keys.length : Int) - 1) nonce label data).Number,(TL v v.Next ((v.Keys.length : Int) - 1) nonce label data).Tag⟩
     unfold jt at this
     rw [this]
     rfl
def Jl (v : GVault) (i : Nat) (r : GRecord) : GVault:=⟨v.Keys,v.Next,v.Records.set i r,v.Events,v.Head⟩
def YD (v : GVault) (n : Int) (nonce : Blk) : GRecord:=TL v n ((v.Keys.length : Int) - 1) nonce (WQ v n).Label (BB v (WQ v n))
def Zht (v : GVault) (n : Int) (nonce : Blk) : GVault × Int :=
 if YW v then (if Y6 v n < 0 then (Aw,4) else if Ui v (WQ v n) = (WQ v n).Tag then (if zg v nonce then (Aw,5) else if v.Events.length == 60 then (Aw,3) else
  (TC (Jl v (Y6 v n).toNat (YD v n nonce)) ⟨4,n,(YD v n nonce).Tag⟩,0)) else (Aw,5)) else (Aw,1)
theorem Zri (v : GVault) : ((v.Events.length : Int) == 60) = (v.Events.length == 60):=by rw [Bool.eq_iff_iff,beq_iff_eq,beq_iff_eq]; omega
theorem Zed (v : GVault) (r : GRecord) : (BB v r).length = r.Body.length:=HL (Hf _ _ _ _)
theorem jC {v : GVault} {n : Int} (h : ¬ Y6 v n < 0) : ∃ i : Nat,Y6 v n = i ∧ i < v.Records.length ∧ v.Records[i]? = some (WQ v n) ∧ (WQ v n).Number = n:=by
 obtain ⟨i,h1,h2,h3⟩:=BM h
 refine ⟨i,h1,h2,?_,?_⟩
 ·unfold WQ
  rw [h1,tn_,gd_,ge_ h2]; rfl
 unfold WQ
 rw [h1,tn_,gd_,ge_ h2]; exact h3
theorem qv (v : GVault) (hb : Wt.ln v) (n : Int) (nonce : Blk) : QL v n nonce = some (Zht v n nonce):=by
 unfold QL Zht
 rw [z4 v hb,ob_]
 unfold Zkz
 cases hv : YW v with
 | false=>rfl
 | true =>
  obtain ⟨h1,h2,h3,h4,h5,h6⟩:=Kn hv
  simp only [if_true]
  by_cases hp : Y6 v n < 0
  ·simp only [if_pos hp]; rfl
  ·simp only [if_neg hp]
   obtain ⟨i,p1,p2,p3,p4⟩:=jC hp
   have hmem : WQ v n ∈ v.Records:=List.mem_of_getElem? p3
   obtain ⟨q1,q2,q3,q4⟩:=BN hv hmem
   have hlen : Z3 v.Keys = some (v.Keys.length : Int):=rfl
   simp only [bne_self_eq_false,bf_,if_false]
   rw [QV,ob_,Ze6 v (Zho hv),ob_,p1,Yx,p3,ob_,qR v _ ⟨q1,q2⟩ om_ om_,ob_,Zch v nonce om_ om_,ob_]
   by_cases ht : Ui v (WQ v n) = (WQ v n).Tag
   ·simp only [ht,decide_true,Bool.not_true,bf_,if_false,if_true,ob_]
    cases zg v nonce with
    | true=>rfl
    | false =>
     simp only [bf_,if_false,Zri]
     cases (v.Events.length == 60) with
     | true=>rfl
     | false =>
      simp only [bf_,if_false]
      have hs : Xk ⟨Z9 (YP 4)⟩ v (WQ v n) (WQ v n).Body = some (BB v (WQ v n)):=yp v _ _ ⟨q1,q2⟩ om_
      have hpl:=Zed v (WQ v n)
      have hse:=Zh6 v (WQ v n).Number ((v.Keys.length : Int) - 1) nonce (WQ v n).Label (BB v (WQ v n)) (WQ v n).Tag (WQ v n).Body ⟨by omega,by omega⟩ q3 om_
      rw [hs,ob_,hlen,ob_,Zf3 om_,ob_]
      simp only []
      rw [hse]
      simp only [ob_,tn_,p4]
      have hset : (v.Records.set i (YD v n nonce))[i]? = some (YD v n nonce):=by rw [List.getElem?_set_self p2]
      have hn : ∀ e,Xf ⟨Z9 (YP 4)⟩ (Jl v i (YD v n nonce)) e = some (TC (Jl v i (YD v n nonce)) e):=λe=>Zfo _ e (show v.Events.length ≤ 1000 by omega)
      have:=hn ⟨4,n,(YD v n nonce).Tag⟩
      unfold Jl at this
      unfold YD at hset this
      rw [Yx,hset,ob_,this]
      rfl
   ·simp only [ht,decide_false,Bool.not_false,if_true,if_false,ob_]; rfl
theorem Zhc {v : GVault} {n : Int} (nonce : Blk) (hv : YW v = true) (hp : ¬ Y6 v n < 0) : (YD v n nonce).Label.length ≤ 32 ∧ (YD v n nonce).Body.length ≤ 200:=by
 obtain ⟨i,p1,p2,p3,p4⟩:=jC hp
 obtain ⟨q1,q2,q3,q4⟩:=BN hv (List.mem_of_getElem? p3)
 have hbl:=Ap v ((v.Keys.length : Int) - 1) nonce (BB v (WQ v n))
 have hpl:=Zed v (WQ v n)
 exact ⟨q3,by show (H1 v ((v.Keys.length : Int) - 1) nonce (BB v (WQ v n))).length ≤ 200; omega⟩
theorem Zq6 {p : List UInt8} (hn : p.Nodup) {i j : Nat} (hi : i < p.length) (hj : j < p.length) (h : i ≠ j) : p.getD i 0 ≠ p.getD j 0:=by
 rw [gd_,gd_,ge_ hi,ge_ hj]
 exact λe=>h (Zdz hn hi hj e)
section
variable {m : Nat} (h1 : 256 ≤ m) (h2 : m < 512)
include h1 h2
theorem Zh2 (p : List UInt8) (i : Nat) : ∀ k,KK m (if i < k then k else k + 1) (λx=>zR m p x i k)
 | 0=>Zjo h1 h2 1 0
 | k + 1=>by
  have ih:=Zh2 p i k
  by_cases h : k = i
  ·subst h
   rw [if_pos om_]
   rw [if_neg om_] at ih
   exact zl (λx=>by unfold zR; rw [if_pos rfl]; cases k <;> rfl) ih
  ·have:=Zil h1 h2 ih (p.getD k 0)
   have e : (if i < k then k else k + 1) + 1 = if i < k + 1 then k + 1 else k + 1 + 1:=by
    by_cases c : i < k
    ·rw [if_pos c,if_pos om_]
    ·rw [if_neg c,if_neg om_]
   rw [← e]
   exact zl (λx=>by rw [zR,if_neg h]) this
theorem Zib (p v : List UInt8) : ∀ i,i ≤ p.length → KK m p.length (λx=>HY m p v x i)
 | 0,_=>zD h1 h2 _
 | i + 1,h=>by
  have hn:=Zh2 h1 h2 p i p.length
  rw [if_pos om_] at hn
  exact zl (λx=>by rw [HY,Y8 h1 h2 (zR m p x i p.length)]) (jf h1 h2 (Zib p v i om_) (yw h1 h2 (Zge m p v i) hn))
theorem Zb9 {p : List UInt8} {i j : Nat} (hij : i ≠ j) : ∀ k,j < k → zR m p (p.getD j 0) i k = 0
 | k + 1,h=>by
  unfold zR
  by_cases c : k = i
  ·rw [if_pos c]; exact Zb9 hij k (by omega)
  ·rw [if_neg c]
   by_cases d : k = j
   ·subst d; rw [UInt8.xor_self,Tu h1 h2]
   ·rw [Zb9 hij k (by omega),TE h1 h2]
omit h1 h2 in
theorem Zkr (p : List UInt8) (i : Nat) : ∀ k,zR m p (p.getD i 0) i k = Zbz m p i k
 | 0=>rfl
 | k + 1=>by
  unfold zR Zbz
  rw [Zkr p i k]
theorem Zi7 (hf : Yl (m : Int) = true) {p : List UInt8} (hn : p.Nodup) {i : Nat} (hi : i < p.length) : ∀ k,k ≤ p.length → Zbz m p i k ≠ 0
 | 0,_=>by unfold Zbz; decide
 | k + 1,h=>by
  unfold Zbz
  by_cases c : k = i
  ·rw [if_pos c]; exact Zi7 hf hn hi k (by omega)
  ·rw [if_neg c]
   exact λe=>Ziv (Zq6 hn hi (by omega) (Ne.symm c)) (Zhs hf h1 h2 (Zi7 hf hn hi k (by omega)) e)
theorem Zpw (hf : Yl (m : Int) = true) {p : List UInt8} (hn : p.Nodup) (v : List UInt8) {j : Nat} (hj : j < p.length) : ∀ i,i ≤ p.length → HY m p v (p.getD j 0) i = if j < i then v.getD j 0 else 0
 | 0,_=>by rw [if_neg (by omega)]; rfl
 | i + 1,h=>by
  unfold HY
  rw [Zpw hf hn v hj i (by omega)]
  by_cases c : i = j
  ·subst c
   rw [if_neg (by omega),if_pos (by omega),Zkr,Zge,Y8 h1 h2 (v.getD i 0),← Y4 h1 h2,ke hf (Zi7 h1 h2 hf hn (by omega) _ (Nat.le_refl _)),QX h1 h2,UInt8.zero_xor]
  ·rw [Zb9 h1 h2 c _ hj,TE h1 h2,UInt8.xor_zero]
   by_cases d : j < i
   ·rw [if_pos d,if_pos (by omega)]
   ·rw [if_neg d,if_neg (by omega)]
theorem Znt (hf : Yl (m : Int) = true) {p : List UInt8} (hn : p.Nodup) {v : List UInt8} {g : UInt8 → UInt8} (hg : KK m p.length g) (hv : ∀ j,j < p.length → v.getD j 0 = g (p.getD j 0)) (x : UInt8) : HY m p v x p.length = g x:=by
 have h:=Zei h1 h2 hf p (jf h1 h2 (Zib h1 h2 p v _ (Nat.le_refl _)) hg) hn (λq hq=>by
  obtain ⟨j,hj,rfl⟩:=List.getElem_of_mem hq
  have e : p[j] = p.getD j 0:=by rw [gd_,ge_ hj]; rfl
  show HY m p v p[j] p.length ^^^ g p[j] = 0
  rw [e,Zpw h1 h2 hf hn v hj _ (Nat.le_refl _),if_pos hj,hv j hj,UInt8.xor_self]) x
 have h : HY m p v x p.length ^^^ g x = 0:=h
 by_cases c : HY m p v x p.length = g x
 ·exact c
 exact absurd h (Ziv c)
end

structure OnPoly (m t N : Nat) (l : List GShare) (g : Nat → UInt8 → UInt8) : Prop where
 deg : ∀ k,KK m t (g k)
 data : ∀ s ∈ l,s.Data = tab N (λk=>g k s.Place)
theorem Zmb (l : List GShare) {t : Nat} (h : 1 ≤ t) : (l.take t).headD default = l.headD default:=by
 cases l with
 | nil=>simp
 | cons x l=>cases t with
  | zero=>omega
  | succ t=>rfl
theorem Ziw (l : List GShare) {t : Nat} (h : 1 ≤ t) : dataN (l.take t) = dataN l:=by unfold dataN; rw [Zmb l h]
theorem OnPoly.dataN {m t N : Nat} {l : List GShare} {g : Nat → UInt8 → UInt8} (h : OnPoly m t N l g) (hl : 0 < l.length) : dataN l = N:=by
 cases l with
 | nil=>simp at hl
 | cons s l =>
  show s.Data.length = N
  rw [h.data s (List.mem_cons_self ..),Zfj]
section
variable {m : Nat} (h1 : 256 ≤ m) (h2 : m < 512)
include h1 h2
theorem OnPoly.at {t N : Nat} {l : List GShare} {g : Nat → UInt8 → UInt8} (hf : Yl (m : Int) = true) (h : OnPoly m t N l g) (gd : Good l) (ht : 1 ≤ t) (hl : t ≤ l.length) (x : UInt8) : atC m (l.take t) x = tab N λk=>g k x:=by
 have hlen : (l.take t).length = t:=by rw [List.length_take]; omega
 have hnd : (places (l.take t)).Nodup:=(gd.take ht hl).diff
 unfold atC
 rw [Ziw l ht,h.dataN om_]
 refine Zal λk hk=>?_
 have hpl : (places (l.take t)).length = (l.take t).length:=Zct _
 rw [← hpl]
 refine Znt h1 h2 hf hnd (by rw [hpl,hlen]; exact h.deg k) (λj hj=>?_) x
 rw [hpl] at hj
 have hm : (l.take t)[j] ∈ l:=List.mem_of_mem_take (List.getElem_mem hj)
 rw [yo _ hj,Zki _ hj,h.data _ hm,gd_,zB _ hk]
 rfl
theorem OnPoly.fit {t N : Nat} {l : List GShare} {g : Nat → UInt8 → UInt8} (hf : Yl (m : Int) = true) (h : OnPoly m t N l g) (gd : Good l) (ht : 1 ≤ t) (hl : t ≤ l.length) : Zjz m l t = true:=by
 unfold Zjz
 rw [Bool.not_eq_true',List.any_eq_false]
 intro k hk
 rw [List.mem_range'_1] at hk
 have hk2 : k < l.length:=by omega
 rw [ge_ hk2,Option.map_some,Option.getD_some,h.at h1 h2 hf gd ht hl,← h.data _ (List.getElem_mem hk2)]
 simp
end
theorem OnPoly.made {m : Nat} (h1 : 256 ≤ m) (h2 : m < 512) (data : List UInt8) (cs : List (List UInt8)) (ps : List UInt8) : OnPoly m (cs.length + 1) data.length (ps.map (Q1 m data cs)) (λk x=>Q9 m (Bv data cs k) x):=by
 refine ⟨λk=>?_,λs hs=>?_⟩
 ·have:=qc h1 h2 (Bv data cs k)
  rwa [show (Bv data cs k).length = cs.length + 1 by simp [Bv]] at this
 obtain ⟨p,hp,rfl⟩:=List.mem_map.1 hs
 rfl
theorem Zqo {m : Nat} (h1 : 256 ≤ m) (h2 : m < 512) (a : UInt8) (l : List UInt8) : Q9 m (a :: l) 0 = a:=by
 show ZE m (Q9 m l 0) 0 ^^^ a = a
 rw [Tu h1 h2,UInt8.zero_xor]
theorem Zf8 (m : Nat) (data : List UInt8) (cs : List (List UInt8)) (ps : List UInt8) : places (ps.map (Q1 m data cs)) = ps:=by
 unfold places
 rw [List.map_map]
 exact List.map_id'' (λ_=>rfl) ps

theorem Zfh {m : Nat} (h1 : 256 ≤ m) (h2 : m < 512) (hf : Yl (m : Int) = true) {t N : Nat} {l : List GShare} {g : Nat → UInt8 → UInt8} (h : OnPoly m t N l g) (hc : JE l = 0) (ht : 1 ≤ t ∧ t ≤ 8) (hl : t ≤ l.length) : Qf (m : Int) l (t : Int) = (tab N λk=>g k 0,0):=by
 have gd:=Zko hc
 have hb : AD (m : Int) l (t : Int) = 0:=by
  unfold AD
  rw [hf,hc]
  simp; omega
 unfold Qf
 rw [hb]
 simp only [bne_self_eq_false,bf_,if_false,tn_]
 have hr : yn m l t = 0:=by
  unfold yn
  rw [if_neg om_,h.fit h1 h2 hf gd ht.1 hl]; rfl
 unfold AQ
 rw [hr,h.at h1 h2 hf gd ht.1 hl]
 rfl
theorem Ag {k : Int} (h : 0 ≤ k) (h' : k ≤ 100000) : wr (k + 1) = k + 1:=YY om_
theorem Zqw {k : Int} (h : 0 ≤ k) (h' : k ≤ 100000) : wr (k - 1) = k - 1:=YY om_
theorem pos_ok {k : Int} (h : 0 < k) : (decide (k > 0)) = true:=by simpa using h
theorem pos_no {k : Int} (h : ¬ 0 < k) : ¬ (decide (k > 0)) = true:=by simpa using h
theorem kS {a b : Int} (h : a < b) : (decide (a < b)) = true:=by simpa using h
theorem kV {a b : Int} (h : ¬ a < b) : ¬ (decide (a < b)) = true:=by simpa using h
section
variable {p : List UInt8} (hp : p.length ≤ 4096) {s : Int × Int} (hs : Wy s)
include hp hs
theorem Zm9 {n : Nat} (hn : n ≤ 1000) : ∃ r,Ug p s (n : Int) = some r ∧ (Wy r.1 ∧ r.2.length ≤ n):=by
 unfold Ug
 have a5 : 0 ≤ (if (5 : Int) < (n : Int) then 5 else (n : Int)) ∧ (if (5 : Int) < (n : Int) then 5 else (n : Int)) ≤ n:=by split <;> omega
 have a40 : 0 ≤ (if (40 : Int) < (n : Int) then 40 else (n : Int)) ∧ (if (40 : Int) < (n : Int) then 40 else (n : Int)) ≤ n:=by split <;> omega
 rw [Ag a5.1 om_,Ag a40.1 om_,Ag (k:=(n : Int)) om_ om_]
 refine Zv (Y2 hp hs om_) λr3 q3=>Zv (Y2 hp q3.1 om_) λr5 q5=>Zv (Y2 hp q5.1 om_) λr7 q7=>Zv (H4 hp q7.1 (by simp)) λr q=>?_
 obtain ⟨k,ek,hk⟩ : ∃ k : Nat,r.2 = k ∧ k ≤ n:=by
  have h0:=q3.2; have h1:=q5.2; have h2:=q7.2
  have h3:=q.2
  simp only [List.mem_cons,List.not_mem_nil,or_false] at h3
  exact ⟨r.2.toNat,by rcases h3 with e | e | e <;> omega,by rcases h3 with e | e | e <;> omega⟩
 refine Zv (P:=λj=>Wy (j.1,j.2.1) ∧ j.2.2.length ≤ n) (Q8 (λi t=>t.2.2.2 = ((k - i : Nat) : Int) ∧ t.2.2.1.length = i ∧ Wy (t.1,t.2.1)) k (λi t hi ht=>?_) (λt ht=>?_) k 0 _ om_ ⟨ek,rfl,q.1⟩) λj hj=>⟨_,rfl,hj⟩
 ·obtain ⟨t1,t2,t3⟩:=ht
  unfold Tv
  rw [if_pos (pos_ok om_)]
  refine Zv (Zf9 hp t3) λr hr=>?_
  have ha : app 1 t.2.2.1 ([r.2] : List UInt8) = _:=Xm (by simp only [List.length_singleton]; omega)
  rw [ha]
  exact ⟨_,rfl,_,rfl,by show wr (t.2.2.2 - 1) = _; rw [t1,Zqw om_ om_]; omega,by simp; omega,hr⟩
 obtain ⟨t1,t2,t3⟩:=ht
 unfold Tv
 rw [if_neg (pos_no om_)]
 exact ⟨_,rfl,_,rfl,t3,by show t.2.2.1.length ≤ n; omega⟩
end
section
variable {p : List UInt8} (hp : p.length ≤ 4096)
include hp
theorem Znz (n : Int) : ∃ r,Hb p n = some r ∧ Wy r:=by
 unfold Hb
 refine Zv (P:=λ_=>True) (Q8 (λi t=>t.2 = (i : Int)) p.length (λi t hi ht=>?_) (λt ht=>?_) p.length 0 _ om_ rfl) λj _=>⟨_,rfl,by show (0 : Int) ≤ 0; omega,by show (0 : Int) ≤ 4096; omega⟩
 ·unfold HB
  rw [if_pos (kS om_)]
  exact Zv (HJ p om_) λx _=>⟨_,rfl,_,rfl,by show wr (t.2 + 1) = _; rw [ht,Ag om_ om_]; omega⟩
 unfold HB
 rw [if_neg (kV om_)]
 exact ⟨_,rfl,_,rfl,trivial⟩
variable {s : Int × Int} (hs : Wy s)
include hs
theorem BO {n : Int} (hn : 1 ≤ n) : ∃ r,XC p s n = some r ∧ (Wy r.1 ∧ 0 ≤ r.2 ∧ r.2 < n):=by
 unfold XC
 obtain ⟨m,hm,em⟩:=Zcz (BitVec.ofInt 64 (Qp (IntKind.u64.wrap ((IntKind.u64.wrap (s.2 * 6364136223846793005)) + 1442695040888963407)) 33))
 rw [em]
 have hz : Bu n = some ():=by unfold Bu; rw [if_pos om_]
 obtain ⟨h1,h2⟩:=hs
 rw [if_neg od_]
 refine Zv (P:=λj=>(0 ≤ j.1 ∧ j.1 ≤ 4096) ∧ 0 ≤ j.2) (yU (Tz (λhc=>?_) (λ_=>⟨_,rfl,⟨h1,h2⟩,by omega⟩))) λj hj=>?_
 ·have hc : s.1 < (p.length : Int):=of_decide_eq_true hc
  refine Zv (P:=λx=>0 ≤ x) (Zv (HJ p ⟨h1,hc⟩) λx _=>⟨_,rfl,?_⟩) λx hx=>⟨_,rfl,?_,hx⟩
  ·have hb:=x.toNat_lt
   show 0 ≤ wr ((m : Int) + (x.toNat : Int))
   rw [YY om_]; omega
  show 0 ≤ wr (s.1 + 1) ∧ wr (s.1 + 1) ≤ 4096
  rw [YY om_]; omega
 rw [hz]
 refine ⟨_,rfl,hj.1,?_,?_⟩
 ·exact Int.tmod_nonneg _ hj.2
 exact Int.tmod_lt_of_pos _ om_
end
theorem X2 {α β : Type} {o : Option α} {r : α} {f : α → Option β} {x : Option β} (h : o = some r) (k : f r = x) : o.bind f = x:=by rw [h]; exact k
theorem ju {β : Type} {o : Option Bool} {A B x : Option β} (h : o = some false) (k : B = x) : (o.bind λj=>if j = true then A else B) = x:=by rw [h]; exact k
theorem Zrw {l : List GShare} {N : Nat} (h0 : ∀ s ∈ l,s.Place ≠ 0) (hd : UZ (places l) = true) (hl : 1 ≤ l.length ∧ l.length ≤ 12) (hN : ∀ s ∈ l,s.Data.length = N) (h100 : N ≤ 100) : JE l = 0:=by
 have e1 : l.all Qw = true:=List.all_eq_true.2 λs hs=>by
  unfold Qw
  have:=h0 s hs
  have:=hN s hs
  simp only [Bool.and_eq_true,bne_iff_ne,decide_eq_true_eq]
  exact ⟨h0 s hs,by omega⟩
 have e2 : Za8 l = true:=List.all_eq_true.2 λs hs=>by
  have hh : (l.headD default).Data.length = N:=by
   cases l with
   | nil=>cases hs
   | cons x l=>exact hN x (List.mem_cons_self ..)
  rw [hh,hN s hs]; simp
 unfold JE
 have hd : UZ (l.map (·.Place)) = true:=hd
 rw [e1,e2,hd,if_neg (by decide),if_neg (by decide),if_neg om_,if_neg (by decide)]
theorem OnPoly.len {m t N : Nat} {l : List GShare} {g : Nat → UInt8 → UInt8} (h : OnPoly m t N l g) : ∀ s ∈ l,s.Data.length = N:=λs hs=>by rw [h.data s hs,Zfj]
theorem Zmq {m : Nat} {data : List UInt8} {cs : List (List UInt8)} {ps : List UInt8} (hd : data.length ≤ 100) (hp : 1 ≤ ps.length ∧ ps.length ≤ 12) (hg : HF ps = true) : JE (ps.map (Q1 m data cs)) = 0:=by
 unfold HF at hg
 rw [Bool.and_eq_true,Bool.not_eq_true'] at hg
 refine Zrw (N:=data.length) (λs hs=>?_) (by rw [Zf8]; exact hg.2) (by rw [List.length_map]; exact hp) (λs hs=>?_) hd
 ·obtain ⟨p,h,rfl⟩:=List.mem_map.1 hs
  intro e
  have e : p = 0:=e
  subst e
  have:=List.contains_iff_mem.2 h
  rw [hg.1] at this; cases this
 obtain ⟨p,h,rfl⟩:=List.mem_map.1 hs
 simp [Q1]
theorem Zhp (l : List UInt8) : (tab l.length λk=>l.getD k 0) = l:=(Znk l).symm
theorem Zh0 {m : Nat} (h1 : 256 ≤ m) (h2 : m < 512) (hf : Yl (m : Int) = true) {data : List UInt8} {cs : List (List UInt8)} {ps : List UInt8} (hd : data.length ≤ 100) (hL : BG cs data.length = true) (hp : 1 ≤ ps.length ∧ ps.length ≤ 12) (hg : HF ps = true) :
  Qf (m : Int) (ps.map (Q1 m data cs)) ((cs.length + 1 : Nat) : Int) = if ps.length < cs.length + 1 then ([],4) else (data,0):=by
 have hcs : cs.length ≤ 7:=by
  unfold BG at hL
  simp only [Bool.and_eq_true,decide_eq_true_eq] at hL
  exact hL.1
 have hc:=Zmq (m:=m) (cs:=cs) hd hp hg
 by_cases c : ps.length < cs.length + 1
 ·rw [if_pos c]
  have hb : AD (m : Int) (ps.map (Q1 m data cs)) ((cs.length + 1 : Nat) : Int) = 0:=by
   unfold AD
   rw [hf,hc]
   simp; omega
  unfold Qf
  rw [hb]
  simp only [bne_self_eq_false,bf_,if_false,tn_]
  have hr : yn m (ps.map (Q1 m data cs)) (cs.length + 1) = 4:=by
   unfold yn
   rw [if_pos (by rw [List.length_map]; exact c)]
  unfold AQ
  rw [hr]; rfl
 rw [if_neg c,Zfh h1 h2 hf (OnPoly.made h1 h2 data cs ps) hc om_ (by rw [List.length_map]; omega)]
 refine congrArg (·,(0 : Int)) ?_
 rw [← Zhp data]
 rw [Zfj]
 refine Zal λk _=>?_
 rw [Zhp]
 exact Zqo h1 h2 _ _
theorem bf_vf (f : Nat → UInt8) {j : Nat} (h : j < 16) : bf (vf 16 f) j = f j:=by
 unfold bf
 rw [J5 _ h]; rfl
section
variable {p : List UInt8} (hp : p.length ≤ 4096)
include hp
theorem Zbt {s : Int × Int} (hs : Wy s) : ∃ r,QY p s = some r ∧ Wy r.1:=by
 unfold QY
 refine Zv (P:=λj=>Wy (j.2.1,j.2.2)) (Q8 (λi t=>t.2.2.2 = (i : Int) ∧ Wy (t.2.1,t.2.2.1)) 16 (λi t hi ht=>?_) (λt ht=>?_) 16 0 _ rfl ⟨rfl,hs⟩) λj hj=>⟨_,rfl,hj⟩
 ·obtain ⟨t1,t2⟩:=ht
  unfold JH
  rw [if_pos (kS om_)]
  exact Zv (BO hp t2 om_) λr hr=>Zv (XO _ om_) λx _=>⟨_,rfl,_,rfl,by show wr (t.2.2.2 + 1) = _; rw [t1,Ag om_ om_]; omega,hr.1⟩
 obtain ⟨t1,t2⟩:=ht
 unfold JH
 rw [if_neg (kV om_)]
 exact ⟨_,rfl,_,rfl,t2⟩
end
abbrev hH : Ghasher:=⟨⟨Z9 (YP 8)⟩⟩
def Zks (a b : Dig) : Dig:=jT (([1] ++ a.toList) ++ b.toList)
theorem za (a b : Dig) : WD hH a b = some (Zks a b):=by
 unfold WD
 have:=HR (YP 8) Zi1 [[1],a.toList,b.toList] (by simp) (by simp)
 rw [jj,ob_,jj,ob_,this]
 simp [Zks,jT]
theorem AU : Vz = some hH:=by
 unfold Vz
 rw [Zfy 8 om_]; rfl
theorem Zq0 : YC ⟨Z9 (YP 8)⟩ ([] : List (List UInt8)) = some (jT []):=HR (YP 8) Zi1 [] (by simp) (by simp)

theorem jh {l : List Dig} {k : Nat} (h : k ≤ l.length) : slc l (0 : Int) (k : Int) = some (l.take k):=by
 have : slc l ((0 : Nat) : Int) (k : Int) = _:=KW (Nat.zero_le _) h
 exact this
theorem Zat {l : List Dig} {k : Nat} (h : k ≤ l.length) : slc l (k : Int) (l.length : Int) = some (l.drop k):=by
 rw [KW h (Nat.le_refl _),List.take_length]
theorem Zkw {α : Type} {l : List α} {i : Nat} (h : i ≤ l.length) : slc l (0 : Int) (i : Int) = some (l.take i):=by
 unfold slc; rw [if_pos om_]; simp
theorem Zsf {α : Type} {l : List α} {i : Nat} (h : i ≤ l.length) : slc l (i : Int) (l.length : Int) = some (l.drop i):=by
 unfold slc; rw [if_pos om_]; simp
def hv (c : UInt8) : Option UInt8:=if 48 ≤ c.toNat ∧ c.toNat ≤ 57 then some (c - 48) else if 97 ≤ c.toNat ∧ c.toNat ≤ 102 then some (c - 97 + 10) else none
def byN (n : Int) (s : Dig × Bool) (e : GEvent) : Dig × Bool:=if e.Number = n then (if e.Kind = 1 ∨ (e.Kind = 4 ∧ s.2 = true) then (e.Tag,true) else if e.Kind = 2 then (s.1,false) else s) else s
def Hw (m : List (Int × Dig)) (e : GEvent) : List (Int × Dig):=if e.Kind = 1 ∨ (e.Kind = 4 ∧ (X7 m e.Number).isSome = true) then KR m e.Number e.Tag else if e.Kind = 2 then HU m e.Number else m
def byC (l : List GEvent) (n : Int) : Dig × Bool:=l.foldl (byN n) (Vector.replicate 32 0,false)
def Uo (l : List GEvent) : List (Int × Dig):=l.foldl Hw []
theorem Zi2 (l : List GEvent) (h : l.length < 9223372036854775807) : QF l = some (Uo l):=by
 unfold QF
 have:=T7 (f:=T3 l) l (λb i=>(b,i)) Hw [] (t:=Uo l) h (λi hi=>by
  have hlt : ((i : Int) < (l.length : Int)):=by omega
  have hx : idx l ((i : Nat) : Int) = some l[i]:=by rw [Yx,ge_ hi]
  generalize (l.take i).foldl Hw [] = m
  unfold T3 Hw
  simp only [hlt,decide_true,if_true,hx,ob_]
  by_cases h2 : l[i].Kind = 1
  ·simp [h2]
  ·by_cases h4 : l[i].Kind = 4
   ·cases hm : (X7 m l[i].Number).isSome <;> simp [h4,hm]
   ·by_cases h3 : l[i].Kind = 2 <;> simp [h2,h3,h4]) (by
  unfold T3 Uo
  simp)
 rw [this]; rfl
theorem B5 (k k' : Int) (x : Dig) : ∀ m : List (Int × Dig),X7 (KR m k x) k' = if k = k' then some x else X7 m k'
 | []=>by by_cases h : k = k' <;> simp [KR,X7,h]
 | p :: m=>by
  by_cases h : p.1 = k
  ·by_cases h2 : k = k'
   ·simp [KR,X7,h,h2]
   ·have : ¬ p.1 = k':=λe=>h2 (h.symm.trans e)
    simp [KR,X7,h,h2]
  ·have ih:=B5 k k' x m
   by_cases h2 : p.1 = k'
   ·have h3 : ¬ k = k':=λe=>h (h2.trans e.symm)
    rw [KR,if_neg h,X7,if_pos h2,if_neg h3,X7,if_pos h2]
   ·simp only [KR,X7,h,h2,if_false,ih]
theorem y5 (k : Int) : ∀ m : List (Int × Dig),(X7 m k).isSome = true ↔ k ∈ m.map (·.1)
 | []=>by simp [X7]
 | p :: m=>by
  by_cases h : p.1 = k
  ·simp [X7,h]
  ·have : ¬ k = p.1:=λe=>h e.symm
   simp only [X7,h,if_false,y5 k m,List.map_cons,List.mem_cons,this,false_or]
theorem ka (k k' : Int) : ∀ m : List (Int × Dig),(m.map (·.1)).Nodup → X7 (HU m k) k' = if k = k' then none else X7 m k'
 | [],_=>by simp [HU,X7]
 | p :: m,hn=>by
  obtain ⟨n1,n2⟩:=List.nodup_cons.1 hn
  by_cases h : p.1 = k
  ·by_cases h2 : k = k'
   ·have : X7 m k' = none:=by
     have h3 : ¬ (X7 m k').isSome = true:=λq=>n1 (by show p.1 ∈ _; rw [h,h2]; exact (y5 k' m).1 q)
     simpa using h3
    simp [HU,h,h2,this]
   ·have : ¬ p.1 = k':=λe=>h2 (h.symm.trans e)
    simp [HU,X7,h,h2]
  ·have ih:=ka k k' m n2
   by_cases h2 : p.1 = k'
   ·have h3 : ¬ k = k':=λe=>h (h2.trans e.symm)
    rw [HU,if_neg h,X7,if_pos h2,if_neg h3,X7,if_pos h2]
   ·simp only [HU,X7,h,h2,if_false,ih]
theorem yZ (k : Int) (x : Dig) : ∀ m : List (Int × Dig),(KR m k x).map (·.1) = if k ∈ m.map (·.1) then m.map (·.1) else m.map (·.1) ++ [k]
 | []=>by simp [KR]
 | p :: m=>by
  by_cases h : p.1 = k
  ·simp [KR,h]
  ·have h' : ¬ k = p.1:=λe=>h e.symm
   simp only [KR,h,if_false,List.map_cons,yZ k x m,List.mem_cons,h',false_or]
   split <;> simp
theorem jd (k : Int) : ∀ m : List (Int × Dig),((HU m k).map (·.1)).Sublist (m.map (·.1))
 | []=>by simp [HU]
 | p :: m=>by
  by_cases h : p.1 = k
  ·simp [HU,h]
  ·simp only [HU,h,if_false,List.map_cons]
   exact (jd k m).cons_cons _
theorem Zhb {m : List (Int × Dig)} (h : (m.map (·.1)).Nodup) (e : GEvent) : ((Hw m e).map (·.1)).Nodup:=by
 unfold Hw
 split
 ·rw [yZ]
  split
  ·exact h
  rename_i hk
  exact List.nodup_append.2 ⟨h,by simp,λa ha b hb=>by simp at hb; subst hb; exact λe=>hk (e ▸ ha)⟩
 split
 ·exact h.sublist (jd _ _)
 exact h
theorem Zmc (m : List (Int × Dig)) (e : GEvent) : (Hw m e).length ≤ m.length + 1:=by
 have h1 : ∀ k x,(KR m k x).length ≤ m.length + 1:=λk x=>by
  have:=congrArg List.length (yZ k x m)
  rw [List.length_map] at this
  rw [this]; split <;> simp
 have h2 : ∀ k,(HU m k).length ≤ m.length:=λk=>by
  have:=(jd k m).length_le
  simpa using this
 unfold Hw
 split
 ·exact h1 _ _
 split
 ·exact Nat.le_succ_of_le (h2 _)
 omega
theorem Zpd (l : List GEvent) : (Uo l).length ≤ l.length:=by
 unfold Uo
 suffices H : ∀ (l : List GEvent) (m : List (Int × Dig)),(l.foldl Hw m).length ≤ m.length + l.length by simpa using H l []
 intro l
 induction l with
 | nil=>intro m; simp
 | cons e l ih =>
  intro m
  have:=ih (Hw m e)
  have h2:=Zmc m e
  simp only [List.foldl_cons,List.length_cons]; omega
theorem Zl1 (l : List GEvent) : ∀ n ∈ (Uo l).map (·.1),∃ e ∈ l,e.Number = n:=by
 unfold Uo
 suffices H : ∀ (l : List GEvent) (m : List (Int × Dig)),∀ n ∈ (l.foldl Hw m).map (·.1),n ∈ m.map (·.1) ∨ ∃ e ∈ l,e.Number = n by
  intro n hn
  rcases H l [] n hn with h | h
  ·simp at h
  ·exact h
 intro l
 induction l with
 | nil=>intro m n hn; exact .inl hn
 | cons e l ih =>
  intro m n hn
  rcases ih (Hw m e) n hn with h | ⟨x,hx,h⟩
  ·unfold Hw at h
   split at h
   ·rw [yZ] at h
    split at h
    ·exact .inl h
    ·rcases List.mem_append.1 h with h | h
     ·exact .inl h
     ·simp at h; exact .inr ⟨e,by simp,h.symm⟩
   ·split at h
    ·exact .inl ((jd _ _).subset h)
    ·exact .inl h
  ·exact .inr ⟨x,by simp [hx],h⟩
theorem Zkv (l : List GEvent) (n : Int) : (byC l n).2 = (X7 (Uo l) n).isSome ∧ ((byC l n).2 = true → X7 (Uo l) n = some (byC l n).1):=by
 unfold byC Uo
 suffices H : ∀ (l : List GEvent) (s : Dig × Bool) (m : List (Int × Dig)),(m.map (·.1)).Nodup → (s.2 = (X7 m n).isSome ∧ (s.2 = true → X7 m n = some s.1)) →
   ((l.foldl (byN n) s).2 = (X7 (l.foldl Hw m) n).isSome ∧ ((l.foldl (byN n) s).2 = true → X7 (l.foldl Hw m) n = some (l.foldl (byN n) s).1)) from H l _ _ (by simp) ⟨rfl,λh=>by cases h⟩
 intro l
 induction l with
 | nil=>intro s m _ h; exact h
 | cons e l ih =>
  intro s m hm h
  refine ih _ _ (Zhb hm e) ?_
  unfold byN Hw
  by_cases h1 : e.Number = n
  ·rw [if_pos h1,h1,← h.1]
   by_cases h2 : e.Kind = 1 ∨ (e.Kind = 4 ∧ s.2 = true)
   ·rw [if_pos h2,if_pos h2,B5]; simp
   ·rw [if_neg h2,if_neg h2]
    by_cases h3 : e.Kind = 2
    ·rw [if_pos h3,if_pos h3,ka _ _ _ hm]; simp
    ·rw [if_neg h3,if_neg h3]; exact h
  ·rw [if_neg h1]
   split
   ·rw [B5,if_neg h1]; exact h
   ·split
    ·rw [ka _ _ _ hm,if_neg h1]; exact h
    ·exact h
def zO (n : Int) : List Int → List Int
 | []=>[n]
 | x :: r=>if x < n then x :: zO n r else if x = n then x :: r else n :: x :: r
theorem Zbh (n k : Int) : ∀ l : List Int,k ∈ zO n l ↔ k = n ∨ k ∈ l
 | []=>by simp [zO]
 | x :: r=>by
  unfold zO
  split
  ·simp only [List.mem_cons,Zbh n k r]; exact ⟨λh=>by rcases h with h | h | h <;> simp [h],λh=>by rcases h with h | h | h <;> simp [h]⟩
  ·split
   ·rename_i h; subst h; simp
   ·simp
theorem Zle {n : Int} : ∀ {l : List Int},l.Pairwise (· < ·) → (zO n l).Pairwise (· < ·)
 | [],_=>by simp [zO]
 | x :: r,h=>by
  obtain ⟨h1,h2⟩:=List.pairwise_cons.1 h
  unfold zO
  split
  ·rename_i hx
   refine List.pairwise_cons.2 ⟨λk hk=>?_,Zle h2⟩
   rcases (Zbh n k r).1 hk with rfl | hk
   ·exact hx
   ·exact h1 k hk
  ·split
   ·exact h
   ·rename_i hx hn
    refine List.pairwise_cons.2 ⟨λk hk=>?_,h⟩
    rcases List.mem_cons.1 hk with rfl | hk
    ·omega
    ·have:=h1 k hk; omega
theorem Zgb (n : Int) : ∀ l : List Int,(zO n l).length ≤ l.length + 1
 | []=>by simp [zO]
 | x :: r=>by
  unfold zO
  have:=Zgb n r
  split
  ·simp only [List.length_cons]; omega
  ·split <;> simp
def yM (v : GVault) : List Int:=v.Events.foldl (λl e=>zO e.Number l) (v.Records.map (·.Number))
theorem Zaf (l : List Int) (hs : l.Pairwise (· ≤ ·)) : ∀ m,m ≤ l.length → (Lib.compactUpTo l.toArray m).Pairwise (· < ·) ∧ ∀ x,x ∈ Lib.compactUpTo l.toArray m ↔ ∃ j,j < m ∧ l[j]? = some x
 | 0,_=>⟨by simp [Lib.compactUpTo],λx=>by simp [Lib.compactUpTo]⟩
 | m + 1,hm=>by
  obtain ⟨h1,h2⟩:=Zaf l hs m om_
  have hml : m < l.length:=by omega
  have hg : l.toArray[m]! = l[m]:=by simp [getElem!_pos,hml]
  have hle : ∀ i j (hi : i < l.length) (hj : j < l.length),i < j → l[i] ≤ l[j]:=λi j hi hj hij=>List.pairwise_iff_getElem.1 hs i j hi hj hij
  have e : Lib.compactUpTo l.toArray (m + 1) = Lib.compactUpTo l.toArray m ++ (if Lib.keeps l.toArray m then [l[m]] else []):=by
   unfold Lib.compactUpTo
   rw [List.range_succ,List.filter_append,List.map_append]
   congr 1
   by_cases hk : Lib.keeps l.toArray m = true
   ·simp [hk,hml]
   ·simp [hk]
  rw [e]
  by_cases hk : Lib.keeps l.toArray m = true
  ·rw [if_pos hk]
   refine ⟨List.pairwise_append.2 ⟨h1,by simp,λa ha b hb=>?_⟩,λx=>?_⟩
   ·simp at hb; subst hb
    obtain ⟨j,hj,hx⟩:=(h2 a).1 ha
    obtain ⟨hjl,rfl⟩:=List.getElem?_eq_some_iff.1 hx
    unfold Lib.keeps at hk
    simp only [decide_eq_true_eq] at hk
    rcases hk with h0 | hk
    ·omega
    ·have hg1 : l.toArray[m - 1]! = l[m - 1]:=by
      have : m - 1 < l.length:=by omega
      simp [getElem!_pos,this]
     rw [hg,hg1] at hk
     have a1:=hle (m - 1) m om_ hml om_
     have a2 : l[j] ≤ l[m - 1]:=by
      rcases Nat.lt_or_ge j (m - 1) with h | h
      ·exact hle j (m - 1) hjl om_ h
      ·have : j = m - 1:=by omega
       subst this; exact Int.le_refl _
     omega
   ·rw [List.mem_append,h2]
    constructor
    ·rintro (⟨j,hj,hx⟩ | hx)
     ·exact ⟨j,by omega,hx⟩
     ·simp at hx; exact ⟨m,by omega,by rw [ge_ hml,hx]⟩
    ·rintro ⟨j,hj,hx⟩
     rcases Nat.lt_or_ge j m with h | h
     ·exact .inl ⟨j,h,hx⟩
     ·have : j = m:=by omega
      subst this
      rw [ge_ hml] at hx
      exact .inr (by simpa using (Option.some.inj hx).symm)
  ·rw [if_neg hk,List.append_nil]
   refine ⟨h1,λx=>?_⟩
   rw [h2]
   constructor
   ·rintro ⟨j,hj,hx⟩; exact ⟨j,by omega,hx⟩
   ·rintro ⟨j,hj,hx⟩
    rcases Nat.lt_or_ge j m with h | h
    ·exact ⟨j,h,hx⟩
    ·have : j = m:=by omega
     subst this
     unfold Lib.keeps at hk
     simp only [decide_eq_true_eq,not_or,Classical.not_not] at hk
     have hg1 : l.toArray[j - 1]! = l[j - 1]:=by
      have : j - 1 < l.length:=by omega
      simp [getElem!_pos,this]
     rw [hg,hg1] at hk
     refine ⟨j - 1,by omega,?_⟩
     rw [ge_ hml] at hx
     rw [ge_ om_,← hk.2,← hx]
theorem Zde (l : List Int) (hs : l.Pairwise (· ≤ ·)) : (Lib.compact l).Pairwise (· < ·) ∧ ∀ x,x ∈ Lib.compact l ↔ x ∈ l:=by
 obtain ⟨h1,h2⟩:=Zaf l hs l.length (Nat.le_refl _)
 refine ⟨h1,λx=>(h2 x).trans ?_⟩
 rw [List.mem_iff_getElem?]
 constructor
 ·rintro ⟨j,_,h⟩; exact ⟨j,h⟩
 rintro ⟨j,h⟩; exact ⟨j,(List.getElem?_eq_some_iff.1 h).1,h⟩
theorem Zhw (l : List Int) : (Ur l).Pairwise (· ≤ ·) ∧ ∀ x,x ∈ Ur l ↔ x ∈ l:=by
 have t : ∀ a b c : Int,decide (a ≤ b) = true → decide (b ≤ c) = true → decide (a ≤ c) = true:=λa b c h1 h2=>by simp at *; omega
 have tot : ∀ a b : Int,(decide (a ≤ b) || decide (b ≤ a)) = true:=λa b=>by simp; omega
 have s1:=List.pairwise_mergeSort t tot l
 exact ⟨s1.imp λh=>by simpa using h,λx=>(List.mergeSort_perm l _).mem_iff⟩
theorem Zqb {l m : List Int} (h1 : l.Pairwise (· < ·)) (h2 : m.Pairwise (· < ·)) (h : ∀ x,x ∈ l ↔ x ∈ m) : l = m:=by
 have n1 : l.Nodup:=h1.imp λh=>Int.ne_of_lt h
 have n2 : m.Nodup:=h2.imp λh=>Int.ne_of_lt h
 exact ((List.perm_ext_iff_of_nodup n1 n2).2 h).eq_of_pairwise (λa b _ _ h3 h4=>by omega) h1 h2
theorem Zfm {v : GVault} (h : YW v = true) : (v.Records.map (·.Number)).Pairwise (· < ·):=by
 unfold YW at h
 simp only [Bool.and_eq_true,Bool.not_eq_true',List.any_eq_false,List.mem_range'_1] at h
 have hb:=h.1.2
 have step : ∀ i (h1 : i + 1 < v.Records.length),v.Records[i].Number < v.Records[i + 1].Number:=λi h1=>by
  have:=hb (i + 1) om_
  unfold Zcj at this
  rw [ge_ h1] at this
  simp only [Bool.or_eq_true,decide_eq_true_eq,not_or] at this
  have h2:=this.1.1
  simp only [HZ,ge_ (show i < v.Records.length by omega),Option.map_some,Option.getD_some] at h2
  omega
 have all : ∀ j i (hj : j < v.Records.length) (hi : i < v.Records.length),i < j → v.Records[i].Number < v.Records[j].Number:=by
  intro j
  induction j with
  | zero=>intro i _ _ h; omega
  | succ j ih =>
   intro i hj hi hij
   have h1:=step j hj
   rcases Nat.lt_or_ge i j with h2 | h2
   ·have:=ih i om_ hi h2; omega
   ·have : i = j:=by omega
    subst this; exact h1
 rw [List.pairwise_iff_getElem]
 intro i j hi hj hij
 rw [List.length_map] at hi hj
 rw [List.getElem_map,List.getElem_map]
 exact all j i hj hi hij
theorem Zjj {v : GVault} (h : YW v = true) : (yM v).Pairwise (· < ·) ∧ ∀ x,x ∈ yM v ↔ x ∈ v.Records.map (·.Number) ∨ ∃ e ∈ v.Events,e.Number = x:=by
 unfold yM
 suffices H : ∀ (l : List GEvent) (a : List Int),a.Pairwise (· < ·) → (l.foldl (λl e=>zO e.Number l) a).Pairwise (· < ·) ∧ ∀ x,x ∈ l.foldl (λl e=>zO e.Number l) a ↔ x ∈ a ∨ ∃ e ∈ l,e.Number = x from H _ _ (Zfm h)
 intro l
 induction l with
 | nil=>intro a ha; exact ⟨ha,λx=>by simp⟩
 | cons e l ih =>
  intro a ha
  obtain ⟨h1,h2⟩:=ih (zO e.Number a) (Zle ha)
  refine ⟨h1,λx=>(h2 x).trans ?_⟩
  rw [Zbh]
  constructor
  ·rintro ((rfl | hx) | ⟨q,hq,hx⟩)
   ·exact .inr ⟨e,by simp,rfl⟩
   ·exact .inl hx
   ·exact .inr ⟨q,by simp [hq],hx⟩
  ·rintro (hx | ⟨q,hq,hx⟩)
   ·exact .inl (.inr hx)
   ·rcases List.mem_cons.1 hq with rfl | hq
    ·exact .inl (.inl hx.symm)
    ·exact .inr ⟨q,hq,hx⟩
theorem Zqa {v : GVault} (hr : v.Records.length ≤ 12) (he : v.Events.length ≤ 60) : (yM v).length ≤ 72:=by
 unfold yM
 have H : ∀ (l : List GEvent) (a : List Int),(l.foldl (λl e=>zO e.Number l) a).length ≤ a.length + l.length:=by
  intro l
  induction l with
  | nil=>intro a; simp
  | cons e l ih =>
   intro a
   have h1:=ih (zO e.Number a)
   have h2:=Zgb e.Number a
   simp only [List.foldl_cons,List.length_cons]; omega
 have:=H v.Events (v.Records.map (·.Number))
 rw [List.length_map] at this; omega
def Hx (l : List GRecord) : List (Int × Dig):=l.foldl (λm r=>KR m r.Number r.Tag) []
theorem Zcm (n : Int) : ∀ (l : List GRecord) (m : List (Int × Dig)),(∀ r ∈ l,r.Number ≠ n) → X7 (l.foldl (λm r=>KR m r.Number r.Tag) m) n = X7 m n
 | [],_,_=>rfl
 | r :: l,m,h=>by
  rw [List.foldl_cons,Zcm n l _ (λq hq=>h q (by simp [hq])),B5,if_neg (h r (by simp))]
theorem Zfz : ∀ (l : List GRecord) (m : List (Int × Dig)) (r : GRecord),(l.map (·.Number)).Nodup → r ∈ l → X7 (l.foldl (λm r=>KR m r.Number r.Tag) m) r.Number = some r.Tag
 | q :: l,m,r,hn,hr=>by
  obtain ⟨n1,n2⟩:=List.nodup_cons.1 hn
  rw [List.foldl_cons]
  rcases List.mem_cons.1 hr with rfl | hr
  ·rw [Zcm _ l _ (λx hx e=>n1 (List.mem_map.2 ⟨x,hx,e⟩)),B5,if_pos rfl]
  ·exact Zfz l _ r n2 hr
def AY (v : GVault) (n : Int) : Bool:=((byC v.Events n).2 != decide (Y6 v n ≥ 0)) || ((byC v.Events n).2 && !decide ((WQ v n).Tag = (byC v.Events n).1))
def kl (told held : List (Int × Dig)) (n : Int) : Bool:=!(X7 told n).isSome || (!(X7 held n).isSome || !decide ((X7 told n).getD (Vector.replicate 32 0) = (X7 held n).getD (Vector.replicate 32 0)))
theorem Zik {v : GVault} (h : YW v = true) (n : Int) : (X7 (Hx v.Records) n).isSome = decide (Y6 v n ≥ 0) ∧ (Y6 v n ≥ 0 → X7 (Hx v.Records) n = some (WQ v n).Tag):=by
 have hnd : (v.Records.map (·.Number)).Nodup:=(Zfm h).imp λh=>Int.ne_of_lt h
 by_cases hp : Y6 v n < 0
 ·have hno : ∀ r ∈ v.Records,r.Number ≠ n:=by
   intro r hr he
   unfold Y6 at hp
   cases hf : v.Records.findIdx? (λr=>r.Number == n) with
   | none =>
    have:=List.findIdx?_eq_none_iff.1 hf r hr
    simp [he] at this
   | some i=>rw [hf] at hp; simp at hp; omega
  have e : X7 (Hx v.Records) n = none:=by unfold Hx; rw [Zcm n _ _ hno]; rfl
  have hp' : ¬ Y6 v n ≥ 0:=by omega
  exact ⟨by rw [e]; simp [hp'],λq=>absurd q hp'⟩
 obtain ⟨i,e1,hi,e2⟩:=BM hp
 have h1:=(Zdv hp).2
 have h2 : (WQ v n).Number = n:=by
  unfold WQ
  rw [e1,tn_,gd_,ge_ hi]; exact e2
 have h3:=Zfz v.Records [] (WQ v n) hnd h1
 rw [h2] at h3
 have hp' : Y6 v n ≥ 0:=by omega
 have h4 : X7 (Hx v.Records) n = some (WQ v n).Tag:=h3
 exact ⟨by rw [h4]; simp [hp'],λ_=>h4⟩
end Go.Proofs.YtfhhlkkhcoaapaaGreat
