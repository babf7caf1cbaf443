/- Plain laws, no program in sight. -/
import Derived.Test.YtkajmkegelcfjaaGreatC3
set_option linter.unusedVariables false
set_option linter.unusedSimpArgs false
set_option maxRecDepth 20000
set_option maxHeartbeats 400000
namespace Go.Proofs.YtkajmkegelcfjaaGreat
open Go
open Flat (enc)
theorem YS {i : Nat} (h : i < 9223372036854775807) : wr ((i : Int) + 1) = ((i + 1 : Nat) : Int):=by
 rw [XB (by omega)]; rfl

section
variable {S T : Type} {f : S → Option (Fl S T)}
theorem Zan (g : Nat → S) (m n : Nat) (hmn : m ≤ n) (h : ∀ i, m ≤ i → i < n → f (g i) = some (.nx (g (i + 1)))) : ZK f (g m) = ZK f (g n) := by
  induction n with
  | zero => have : m = 0 := by omega
            subst this; rfl
  | succ n ih =>
    rcases Nat.lt_or_ge m (n + 1) with h1 | h1
    · rw [ih (by omega) (fun i h2 h3 => h i h2 (by omega)), Wy (h n (by omega) (by omega))]
    · have : m = n + 1 := by omega
      subst this; rfl
theorem Z5 (g : Nat → S) (m n : Nat) (hmn : m ≤ n) {t : T} (h : ∀ i,m ≤ i → i < n → f (g i) = some (.nx (g (i + 1)))) (he : f (g n) = some (.ex t)) : ZK f (g m) = some t:=by
 rw [Zan g m n hmn h,X2 he]
theorem Qt (g : Nat → S) (p : Nat → Bool) (t : Nat → T) {e : T} (n : Nat) : ∀ (k m : Nat),m + k = n → (∀ i,m ≤ i → i < n → f (g i) = some (if p i then .ex (t i) else .nx (g (i + 1)))) → f (g n) = some (.ex e) →
  ZK f (g m) = some (((List.range' m k).find? p).elim e t)
 | 0,m,hk,_,he=>by
  have : m = n:=by omega
  subst this
  rw [X2 he]; rfl
 | k + 1,m,hk,h,he=>by
  have h1:=h m (Nat.le_refl _) (by omega)
  rw [List.range'_succ,List.find?_cons]
  cases hp : p m with
  | true=>rw [hp] at h1; rw [X2 h1]; rfl
  | false =>
   rw [hp] at h1
   rw [Wy h1,Qt g p t n k (m + 1) (by omega) (fun i h2 h3=>h i (by omega) h3) he]
end

theorem BK {T : Type} {f : Int → Option (Fl Int (Fl Unit T))} (p : Nat → Bool) {t : T} {n m : Nat} (hm : m ≤ n)
  (h : ∀ i,m ≤ i → i < n → f (i : Int) = some (if p i then .ex (.ex t) else .nx ((i + 1 : Nat) : Int))) (he : f (n : Int) = some (.ex (.nx ()))) :
  ZK f (m : Int) = some (if (List.range' m (n - m)).any p then .ex t else .nx ()):=by
 rw [Qt (fun i : Nat=>(i : Int)) p (fun _=>.ex t) n (n - m) m (by omega) h he]
 cases hf : (List.range' m (n - m)).find? p with
 | none =>
  have : (List.range' m (n - m)).any p = false:=by
   rw [List.any_eq_false]
   rw [List.find?_eq_none] at hf
   exact hf
  rw [this]; rfl
 | some i =>
  have : (List.range' m (n - m)).any p = true:=by
   rw [List.any_eq_true]
   exact ⟨i,List.mem_of_find?_eq_some hf,List.find?_some hf⟩
  rw [this]; rfl
theorem V3 {p : Nat → Bool} {m n : Nat} : (List.range' m (n - m)).any p = true ↔ ∃ i,m ≤ i ∧ i < n ∧ p i = true:=by
 rw [List.any_eq_true]
 simp only [List.mem_range'_1]
 constructor
 ·rintro ⟨i,⟨h1,h2⟩,h3⟩; exact ⟨i,h1,by omega,h3⟩
 ·rintro ⟨i,h1,h2,h3⟩; exact ⟨i,⟨h1,by omega⟩,h3⟩
theorem qr {α : Type} {q : α → Bool} {l : List α} {p : Nat → Bool} (hp : ∀ i (h : i < l.length),p i = q l[i]) : (List.range' 0 (l.length - 0)).any p = l.any q:=by
 rw [Bool.eq_iff_iff,V3,List.any_eq_true]
 constructor
 ·rintro ⟨i,_,h,h3⟩; exact ⟨l[i],List.getElem_mem h,by rw [← hp i h]; exact h3⟩
 ·rintro ⟨x,hx,h⟩
  obtain ⟨i,hi,rfl⟩:=List.mem_iff_getElem.1 hx
  exact ⟨i,Nat.zero_le _,hi,by rw [hp i hi]; exact h⟩

theorem HB {T α : Type} {f : Int → Option (Fl Int (Fl Unit T))} (l : List α) (q : α → Bool) {t : T} (hl : l.length < 9223372036854775807)
  (h : ∀ i (hi : i < l.length),f (i : Int) = some (if q l[i] then .ex (.ex t) else .nx (wr ((i : Int) + 1)))) (he : f (l.length : Int) = some (.ex (.nx ()))) :
  ZK f 0 = some (if l.any q then .ex t else .nx ()):=by
 have:=BK (f:=f) (fun i=>if hi : i < l.length then q l[i] else false) (t:=t) (n:=l.length) (m:=0) (Nat.zero_le _) (fun i _ hi=>by
  rw [h i hi,YS (by omega)]; simp [hi]) he
 rw [qr (q:=q) (fun i hi=>by simp [hi])] at this
 exact this

class Wt (α : Type) [Dat α] where
 wt : α → Nat
 ln : α → Prop
 bdln : ∀ x,Dat.bd x → ln x
 wtln : ∀ x,wt x ≤ 1048576 → ln x
instance : Wt Int:=⟨fun _=>0,fun _=>True,fun _ _=>trivial,fun _ _=>trivial⟩
instance : Wt UInt8:=⟨fun _=>0,fun _=>True,fun _ _=>trivial,fun _ _=>trivial⟩
instance : Wt Bool:=⟨fun _=>0,fun _=>True,fun _ _=>trivial,fun _ _=>trivial⟩
instance : Wt Str:=⟨fun s=>s.l.length,fun s=>s.l.length ≤ 9223372036854775807,fun _ h=>h,fun _ h=>by omega⟩
instance {n : Nat} : Wt (Vector UInt8 n):=⟨fun _=>0,fun _=>True,fun _ _=>trivial,fun _ _=>trivial⟩
instance {n m : Nat} : Wt (Vector (Vector UInt8 m) n):=⟨fun _=>0,fun _=>True,fun _ _=>trivial,fun _ _=>trivial⟩
theorem Za1 {α : Type} {f : α → Nat} {l : List α} {x : α} (h : x ∈ l) : f x ≤ (l.map f).sum:=by
 induction l with
 | nil=>cases h
 | cons y l ih =>
  rw [List.map_cons,List.sum_cons]
  rcases List.mem_cons.1 h with rfl | h
  ·omega
  ·have:=ih h; omega
instance {α : Type} [Dat α] [Wt α] : Wt (List α):=⟨fun l=>l.length + (l.map Wt.wt).sum,fun l=>l.length ≤ 9223372036854775807 ∧ ∀ x ∈ l,Wt.ln x,fun _ h=>⟨h.1,fun x hx=>Wt.bdln x (h.2 x hx)⟩,
 fun l h=>⟨by omega,fun x hx=>Wt.wtln x (by have:=Za1 (f:=Wt.wt) hx; omega)⟩⟩
instance {α β : Type} [Dat α] [Dat β] [Wt α] [Wt β] : Wt (α × β):=⟨fun x=>Wt.wt x.1 + Wt.wt x.2,fun x=>Wt.ln x.1 ∧ Wt.ln x.2,fun x h=>⟨Wt.bdln x.1 h.1,Wt.bdln x.2 h.2⟩,fun x h=>⟨Wt.wtln x.1 (by omega),Wt.wtln x.2 (by omega)⟩⟩
@[simp] theorem Xx {α : Type} (l : List α) (i : Nat) : idx l (i : Int) = l[i]?:=by unfold idx; simp
@[simp] theorem kU {α : Type} (l : List α) : idx l (0 : Int) = l[0]?:=Xx l 0
theorem H8 {T : Type} {f : Int → Option (Fl Int (Fl Unit T))} (n : Nat) (p : Nat → Bool) (t : Nat → T) (hn : n < 9223372036854775807)
  (h : ∀ i,i < n → f (i : Int) = some (if p i then .ex (.ex (t i)) else .nx (wr ((i : Int) + 1)))) (he : f (n : Int) = some (.ex (.nx ()))) (m : Nat) (hm : m ≤ n) :
  ZK f (m : Int) = some (match (List.range' m (n - m)).find? p with | some i=>.ex (t i) | none=>.nx ()):=by
 rw [Qt (fun i : Nat=>(i : Int)) p (fun i=>.ex (t i)) n (n - m) m (by omega) (fun i _ hi=>by rw [h i hi,YS (by omega)]) he]
 cases (List.range' m (n - m)).find? p <;> rfl
theorem zZ {T : Type} {f : Int → Option (Fl Int (Fl Unit T))} (n : Nat) (p : Nat → Bool) (t : T) (hn : n < 9223372036854775807)
  (h : ∀ i,i < n → f (i : Int) = some (if p i then .ex (.ex t) else .nx (wr ((i : Int) + 1)))) (he : f (n : Int) = some (.ex (.nx ()))) (m : Nat) (hm : m ≤ n) :
  ZK f (m : Int) = some (if (List.range' m (n - m)).any p then .ex t else .nx ()) :=
 BK p hm (fun i _ hi=>by rw [h i hi,YS (by omega)]) he
theorem HC {T : Type} {f : Int → Option (Fl Int (Fl Unit T))} (n : Nat) (p : Nat → Bool) (t : T) (hn : n < 9223372036854775807) (m : Nat) (hm : m ≤ n)
  (h : ∀ i,m ≤ i → i < n → f (i : Int) = some (if p i then .ex (.ex t) else .nx (wr ((i : Int) + 1)))) (he : f (n : Int) = some (.ex (.nx ()))) :
  ZK f (m : Int) = some (if (List.range' m (n - m)).any p then .ex t else .nx ()) :=
 BK p hm (fun i hmi hi=>by rw [h i hmi hi,YS (by omega)]) he
theorem Ke {α β S T : Type} {f : S → Option (Fl S T)} (l : List α) (pack : β → Int → S) (g : β → α → β) (b0 : β) {t : T} (hn : l.length < 9223372036854775807)
  (h : ∀ i (hi : i < l.length),f (pack ((l.take i).foldl g b0) (i : Int)) = some (.nx (pack (g ((l.take i).foldl g b0) l[i]) (wr ((i : Int) + 1))))) (he : f (pack (l.foldl g b0) (l.length : Int)) = some (.ex t)) :
  ZK f (pack b0 0) = some t:=by
 have:=Z5 (f:=f) (fun i : Nat=>pack ((l.take i).foldl g b0) (i : Int)) 0 l.length (Nat.zero_le _) (t:=t) (fun i _ hi=>by
  rw [h i hi,YS (by omega)]
  congr 3
  rw [List.take_succ_eq_append_getElem hi,List.foldl_append]; rfl) (by rw [List.take_length]; exact he)
 simpa using this
theorem JM {α : Type} {by_ : Nat} {l m : List α} (h : (l.length + m.length) * by_ ≤ 140737488355328) : app by_ l m = some (l ++ m):=by unfold app; rw [if_pos h]
theorem KZ {α : Type} {l : List α} {i j : Nat} (h : i ≤ j) (h2 : j ≤ l.length) : slc l (i : Int) (j : Int) = some ((l.take j).drop i):=by
 unfold slc; rw [if_pos (by omega)]; simp

theorem BE {α : Type} {n : Nat} {v w : Vector α n} (h : ∀ i (hi : i < n),v[i] = w[i]) : v = w:=Vector.ext h
@[simp] theorem US {α : Type} {n : Nat} (v : Vector α n) (i : Nat) : ZB v (i : Int) = v[i]?:=by unfold ZB; simp
theorem Qu (n a b : Int) : Y2 n a b = some (decide (a ≤ n ∧ n ≤ b)):=by
 unfold Y2
 by_cases h1 : a ≤ n <;> by_cases h2 : n ≤ b <;> simp [h1,h2]
theorem Hx (n a b : Int) : XL n a b = some (decide (a ≤ n ∧ n ≤ b)):=by
 unfold XL
 by_cases h1 : a ≤ n <;> by_cases h2 : n ≤ b <;> simp [h1,h2]
theorem jm {α : Type} (l : List α) (p : α → Option Bool) (q : α → Bool) (L : Int → Option (Fl Int (Fl Unit Int)))
  (hL : ∀ s,L s = if (decide (s < (l.length : Int))) = true then ((idx l s).bind fun x=>((p x)).bind fun r=>if r = true then (some (Fl.ex (Fl.ex s))) else (some (Fl.nx (wr (s + 1))))) else (some (Fl.ex (Fl.nx ()))))
  (hl : l.length < 9223372036854775807) (hp : ∀ x ∈ l,p x = some (q x)) :
  ((ZK L 0 : Option (Fl Unit Int)).bind fun j1=>j1.el (fun _=>some (-1)) (fun r=>some r)) = some (match l.findIdx? q with | some i=>(i : Int) | none=>-1):=by
 have h:=H8 (f:=L) l.length (fun i=>(l[i]?.map q).getD false) (fun i=>(i : Int)) hl (fun i hi=>by
  rw [hL]
  simp only [Int.ofNat_lt,hi,decide_true,if_true,Xx,List.getElem?_eq_getElem hi,Option.bind_some,Option.map_some,Option.getD_some,hp _ (List.getElem_mem hi)]
  split <;> rfl) (by rw [hL]; simp) 0 (Nat.zero_le _)
 have h3 : ZK L 0 = _:=h
 rw [h3]
 have key : (List.range' 0 (l.length - 0)).find? (fun i=>(l[i]?.map q).getD false) = l.findIdx? q:=by
  rw [Nat.sub_zero,← List.range_eq_range']
  clear h h3 hL hp hl
  induction l with
  | nil=>rfl
  | cons x l ih =>
   rw [List.length_cons,List.range_succ_eq_map,List.find?_cons,List.findIdx?_cons]
   simp only [List.getElem?_cons_zero,Option.map_some,Option.getD_some]
   cases q x with
   | true=>rfl
   | false =>
    simp only [Bool.false_eq_true,if_false]
    rw [List.find?_map,← ih]
    congr 1
 rw [key]
 cases l.findIdx? q <;> rfl
theorem has_of {α : Type} (l : List α) (q : α → Bool) : decide ((match l.findIdx? q with | some i=>(i : Int) | none=>-1) ≥ 0) = l.any q:=by
 rw [Bool.eq_iff_iff,decide_eq_true_eq]
 cases h : l.findIdx? q with
 | none =>
  have:=List.findIdx?_eq_none_iff.1 h
  simp
  exact this
 | some i =>
  have h2:=List.findIdx?_eq_some_iff_getElem.1 h
  obtain ⟨hi,hq,_⟩:=h2
  simp
  exact ⟨_,List.getElem_mem hi,hq⟩
theorem HS (a : Nat) (h : a < 9223372036854775808) : (BitVec.ofInt 64 (a : Int)).toNat = a:=by
 rw [BitVec.toNat_ofInt]
 omega
theorem Kf (a b : Nat) (ha : a < 9223372036854775808) (hb : b < 9223372036854775808) : Jn (a : Int) (b : Int) = ((a ^^^ b : Nat) : Int):=by
 unfold Jn
 rw [BitVec.toNat_xor,HS a ha,HS b hb]
 have : a ^^^ b < 2 ^ 63:=Nat.xor_lt_two_pow ha hb
 exact XB (by omega)
theorem kQ (a b : Nat) (ha : a < 9223372036854775808) (hb : b < 9223372036854775808) : andI (a : Int) (b : Int) = ((a &&& b : Nat) : Int):=by
 unfold andI
 rw [BitVec.toNat_and,HS a ha,HS b hb]
 have : a &&& b < 2 ^ 63:=Nat.and_lt_two_pow _ hb
 exact XB (by omega)
theorem K3 (a i : Nat) (hi : i ≤ 63) (h : a <<< i < 9223372036854775808) : K0 (a : Int) (i : Int) = ((a <<< i : Nat) : Int):=by
 unfold K0
 rw [show min ((i : Int)).toNat 64 = i by omega]
 have : ((a : Int) * 2 ^ i) = ((a <<< i : Nat) : Int):=by rw [Nat.shiftLeft_eq]; simp
 rw [this]
 generalize a <<< i = x at h ⊢
 exact XB (by omega)
theorem kZ (a i : Nat) (hi : i ≤ 63) : Kh (a : Int) (i : Int) = ((a >>> i : Nat) : Int):=by
 unfold Kh
 rw [show min ((i : Int)).toNat 64 = i by omega,Nat.shiftRight_eq_div_pow,Int.fdiv_eq_ediv_of_nonneg _ (by exact_mod_cast Nat.zero_le _)]
 simp
theorem zu (a i : Nat) : ((a >>> i) &&& 1 = 1) ↔ a.testBit i = true:=by
 rw [Nat.testBit,Nat.and_comm]
 have h:=Nat.and_one_is_mod (a >>> i)
 rw [Nat.and_comm] at h
 rw [h]
 rcases Nat.mod_two_eq_zero_or_one (a >>> i) with h | h <;> simp [h]
theorem kP (a : Nat) : Int.tmod (a : Int) 2 = ((a % 2 : Nat) : Int):=by
 rw [Int.tmod_eq_emod_of_nonneg (by omega)]; simp
theorem jk (a : Nat) : Int.tdiv (a : Int) 2 = ((a / 2 : Nat) : Int):=by
 rw [Int.tdiv_eq_ediv_of_nonneg (by omega)]; simp
theorem A0 (a : Nat) (h : a < 9223372036854775808) : wr (a : Int) = (a : Int):=XB (by omega)
theorem yP (a : Nat) (h : a < 9223372036854775808) : IntKind.u64.wrap (a : Int) = (a : Int):=by
 simp only [IntKind.wrap,IntKind.bits,IntKind.signed]
 simp
 omega

def YM (m deg : Nat) : Nat → Nat → Nat
 | 0,a=>a
 | k + 1,a=>YM m deg k (if a.testBit (deg + k) then a ^^^ (m <<< k) else a)
theorem Ky {m k n : Nat} (h : m < 2 ^ n) : m <<< k < 2 ^ (n + k):=by
 rw [Nat.shiftLeft_eq,Nat.pow_add]
 exact Nat.mul_lt_mul_of_pos_right h (Nat.two_pow_pos _)
theorem HO {a n : Nat} (h : a < 2 ^ (n + 1)) (hb : a.testBit n = false) : a < 2 ^ n:=by
 apply Nat.lt_pow_two_of_testBit
 intro i hi
 rcases Nat.eq_or_lt_of_le hi with rfl | hi
 ·exact hb
 ·exact Nat.testBit_lt_two_pow (Nat.lt_of_lt_of_le h (Nat.pow_le_pow_right (by omega) hi))
theorem jy {m d : Nat} (h1 : 2 ^ d ≤ m) (h2 : m < 2 ^ (d + 1)) : m.testBit d = true:=by
 rw [Nat.testBit,Nat.shiftRight_eq_div_pow]
 have : m / 2 ^ d = 1:=by
  apply Nat.div_eq_of_lt_le
  ·simpa using h1
  ·rw [Nat.pow_succ] at h2; omega
 rw [this]; rfl
theorem jl {m d k a : Nat} (h1 : 2 ^ d ≤ m) (h2 : m < 2 ^ (d + 1)) (ha : a < 2 ^ (d + (k + 1))) (hb : a.testBit (d + k) = true) : a ^^^ (m <<< k) < 2 ^ (d + k):=by
 have hm : m <<< k < 2 ^ (d + (k + 1)):=by have:=Ky (k:=k) h2; rwa [show d + 1 + k = d + (k + 1) by omega] at this
 refine HO (Nat.xor_lt_two_pow (by rwa [show d + k + 1 = d + (k + 1) by omega]) (by rwa [show d + k + 1 = d + (k + 1) by omega])) ?_
 rw [Nat.testBit_xor,hb,Nat.testBit_shiftLeft]
 simp [jy h1 h2]
theorem J9 {m d : Nat} (h1 : 2 ^ d ≤ m) (h2 : m < 2 ^ (d + 1)) : ∀ (k a : Nat),a < 2 ^ (d + k) → YM m d k a < 2 ^ d
 | 0,a,h=>by simpa [YM] using h
 | k + 1,a,h=>by
  unfold YM
  cases hb : a.testBit (d + k) with
  | true=>simp only [if_true]; exact J9 h1 h2 k _ (jl h1 h2 h hb)
  | false=>simp only [Bool.false_eq_true,if_false]; exact J9 h1 h2 k a (HO h hb)
theorem Qs (m d : Nat) : ∀ (k a b : Nat),YM m d k (a ^^^ b) = YM m d k a ^^^ YM m d k b
 | 0,_,_=>rfl
 | k + 1,a,b=>by
  simp only [YM]
  rw [Nat.testBit_xor]
  cases a.testBit (d + k) <;> cases b.testBit (d + k) <;> simp only [Bool.xor_false,Bool.false_xor,Bool.xor_self,Bool.xor_true,Bool.not_false,Bool.not_true,Bool.false_eq_true,if_true,if_false]
  ·exact Qs m d k a b
  ·rw [Nat.xor_assoc]; exact Qs m d k a _
  ·rw [← Qs m d k]; congr 1; rw [Nat.xor_assoc,Nat.xor_comm b,← Nat.xor_assoc]
  ·rw [← Qs m d k]; congr 1
   rw [Nat.xor_assoc,← Nat.xor_assoc (m <<< k),Nat.xor_comm (m <<< k) b,Nat.xor_assoc,Nat.xor_self,Nat.xor_zero]
theorem UO {m d : Nat} : ∀ (k a : Nat),a < 2 ^ d → YM m d k a = a
 | 0,_,_=>rfl
 | k + 1,a,h=>by
  unfold YM
  rw [Nat.testBit_lt_two_pow (Nat.lt_of_lt_of_le h (Nat.pow_le_pow_right (by omega) (by omega)))]
  simp only [Bool.false_eq_true,if_false]
  exact UO k a h
theorem HN {m d k a : Nat} (h : a < 2 ^ (d + k)) : YM m d (k + 1) a = YM m d k a:=by
 conv=>lhs; unfold YM
 rw [Nat.testBit_lt_two_pow h]; rfl
theorem QX (m d : Nat) : ∀ (k x : Nat),YM m d (k + 1) (x <<< 1) = (if ((YM m d k x) <<< 1).testBit d then ((YM m d k x) <<< 1) ^^^ m else (YM m d k x) <<< 1)
 | 0,x=>by simp [YM]
 | k + 1,x=>by
  conv=>lhs; unfold YM
  conv=>rhs; unfold YM
  have e : (x <<< 1).testBit (d + (k + 1)) = x.testBit (d + k):=by
   rw [Nat.testBit_shiftLeft]
   have : d + (k + 1) ≥ 1:=by omega
   simp only [this,decide_true,Bool.true_and]
   congr 1
  rw [e]
  cases x.testBit (d + k) with
  | false=>simp only [Bool.false_eq_true,if_false]; exact QX m d k x
  | true =>
   simp only [if_true]
   have e2 : x <<< 1 ^^^ m <<< (k + 1) = (x ^^^ m <<< k) <<< 1:=by
    rw [Nat.shiftLeft_xor_distrib,← Nat.shiftLeft_add]
   rw [e2]
   exact QX m d k _

def Kd (n : Nat) : Nat:=if n = 0 then 0 else n.log2 + 1
theorem kj (n : Nat) (h : 0 < n) : Kd n = Kd (n / 2) + 1:=by
 unfold Kd
 rw [if_neg (by omega)]
 by_cases h2 : n / 2 = 0
 ·have : n = 1:=by omega
  subst this; rfl
 ·rw [if_neg h2]
  conv=>lhs; rw [Nat.log2_def]
  rw [if_pos (by omega)]
theorem BC {n p : Nat} (h1 : 2 ^ p ≤ n) (h2 : n < 2 ^ (p + 1)) : Kd n = p + 1:=by
 have h0 : n ≠ 0:=by have:=Nat.two_pow_pos p; omega
 unfold Kd
 rw [if_neg h0,(Nat.log2_eq_iff h0).2 ⟨h1,h2⟩]
theorem Zam {n p : Nat} (h : n < 2 ^ p) : Kd n ≤ p:=by
 unfold Kd
 split
 ·omega
 ·rename_i h0
  have:=(Nat.log2_lt h0).2 h
  omega
theorem Jb (n : Nat) (h : n < 9223372036854775808) : X9 (n : Int) = some ((Kd n : Nat) : Int):=by
 have key : ∀ (f n c : Nat),n < 2 ^ f → f ≤ 63 → c + f ≤ 1000 → ZK Xg ((n : Int),(c : Int)) = some ((c + Kd n : Nat) : Int):=by
  intro f
  induction f with
  | zero =>
   intro n c hn _ _
   have : n = 0:=by simpa using hn
   subst this
   rw [X2 (t:=(c : Int))]
   ·simp [Kd]
   ·unfold Xg; simp
  | succ f ih =>
   intro n c hn hf hc
   by_cases h0 : n = 0
   ·subst h0
    rw [X2 (t:=(c : Int))]
    ·simp [Kd]
    ·unfold Xg; simp
   ·have hp : 0 < n:=by omega
    have hlt : n < 9223372036854775808:=Nat.lt_of_lt_of_le hn (Nat.pow_le_pow_right (by omega : 0 < 2) hf)
    have hst : Xg ((n : Int),(c : Int)) = some (.nx (((n / 2 : Nat) : Int),((c + 1 : Nat) : Int))):=by
     unfold Xg
     have : (n : Int) > 0:=by omega
     simp only [this,decide_true,if_true,jk]
     rw [A0 _ (by omega),YS (by omega)]
    rw [Wy hst,ih (n / 2) (c + 1) (by rw [Nat.pow_succ] at hn; omega) (by omega) (by omega),kj n hp]
    congr 2; omega
 unfold X9
 have:=key 63 n 0 h (by omega) (by omega)
 have h2 : ZK Xg ((n : Int),0) = _:=this
 rw [h2]
 simp
theorem jM (a b d k : Nat) (hd : d ≤ 20) (hk : k ≤ 20) (h1 : 2 ^ d ≤ b) (h2 : b < 2 ^ (d + 1)) (ha : a < 2 ^ (d + k)) : UC (a : Int) (b : Int) = some ((YM b d k a : Nat) : Int):=by
 have big : ∀ n,n ≤ 62 → ∀ x : Nat,x < 2 ^ n → x < 9223372036854775808:=fun n hn x hx=>Nat.lt_of_lt_of_le hx (Nat.pow_le_pow_right (by omega : 0 < 2) (by omega : n ≤ 63))
 have key : ∀ (k a : Nat),k ≤ 20 → a < 2 ^ (d + k) → ZK (Vk (b : Int) ((d + 1 : Nat) : Int)) ((a : Int),((Kd a : Nat) : Int)) = some ((YM b d k a : Nat) : Int):=by
  intro k
  induction k with
  | zero =>
   intro a _ ha
   have hl:=Zam (p:=d) ha
   rw [X2 (t:=(a : Int))]
   ·rfl
   ·unfold Vk
    have : ¬ (((Kd a : Nat) : Int) ≥ ((d + 1 : Nat) : Int)):=by omega
    simp only [this,decide_false,Bool.false_eq_true,if_false]
  | succ k ih =>
   intro a hk ha
   cases hb : a.testBit (d + k) with
   | false =>
    have ha':=HO (by rwa [show d + k + 1 = d + (k + 1) by omega]) hb
    rw [ih a (by omega) ha',HN ha']
   | true =>
    have hge : 2 ^ (d + k) ≤ a:=Nat.ge_two_pow_of_testBit hb
    have hl : Kd a = d + k + 1:=BC hge (by rwa [show d + k + 1 = d + (k + 1) by omega])
    have hx:=jl h1 h2 ha hb
    have hshl : b <<< k < 2 ^ (d + 1 + k):=Ky h2
    have hst : Vk (b : Int) ((d + 1 : Nat) : Int) ((a : Int),((Kd a : Nat) : Int)) = some (.nx (((a ^^^ b <<< k : Nat) : Int),((Kd (a ^^^ b <<< k) : Nat) : Int))):=by
     unfold Vk
     have c1 : ((Kd a : Nat) : Int) ≥ ((d + 1 : Nat) : Int):=by rw [hl]; omega
     have c2 : IntKind.u64.wrap (wr (((Kd a : Nat) : Int) - ((d + 1 : Nat) : Int))) = ((k : Nat) : Int):=by
      rw [hl,show ((d + k + 1 : Nat) : Int) - ((d + 1 : Nat) : Int) = ((k : Nat) : Int) by omega,A0 _ (by omega),yP _ (by omega)]
     simp only [c1,decide_true,if_true,c2]
     have c3 : XE ((k : Nat) : Int) = some ():=by unfold XE; rw [if_pos (by omega)]
     rw [c3,K3 b k (by omega) (big _ (by omega) _ hshl),Kf a _ (big _ (by omega) _ ha) (big _ (by omega) _ hshl)]
     simp only [Option.bind_some]
     rw [Jb _ (big _ (by omega) _ hx)]
     rfl
    rw [Wy hst,ih _ (by omega) hx]
    conv=>rhs; unfold YM
    rw [hb]; rfl
 unfold UC
 rw [Jb b (big _ (by omega) _ h2),Jb a (big _ (by omega) _ ha)]
 simp only [Option.bind_some]
 rw [BC h1 h2,key k a hk ha]
 rfl
theorem ql (a m d : Nat) (hd : d ≤ 15) (ha : a < 2 ^ 16) (hm : m < 2 ^ 20) : UA (a : Int) (m : Int) (d : Int) = some ((YM m d (16 - d) a : Nat) : Int):=by
 have key : ∀ (k a : Nat),d + k ≤ 16 → a < 2 ^ 40 → ZK (UY (m : Int) (d : Int)) ((a : Int),((d + k : Nat) : Int) - 1) = some ((YM m d k a : Nat) : Int):=by
  intro k
  induction k with
  | zero =>
   intro a _ _
   rw [X2 (t:=(a : Int))]
   ·rfl
   ·unfold UY
    have : ¬ (((d + 0 : Nat) : Int) - 1 ≥ (d : Int)):=by omega
    simp only [this,decide_false,Bool.false_eq_true,if_false]
  | succ k ih =>
   intro a hk ha
   have e0 : ((d + (k + 1) : Nat) : Int) - 1 = ((d + k : Nat) : Int):=by omega
   have hsh : m <<< k < 2 ^ (20 + k):=Ky hm
   have hsh2 : m <<< k < 2 ^ 40:=Nat.lt_of_lt_of_le hsh (Nat.pow_le_pow_right (by omega) (by omega))
   have hst : UY (m : Int) (d : Int) ((a : Int),((d + (k + 1) : Nat) : Int) - 1) = some (.nx (((if a.testBit (d + k) then a ^^^ (m <<< k) else a : Nat) : Int),((d + k : Nat) : Int) - 1)):=by
    rw [e0]
    unfold UY
    have c1 : ((d + k : Nat) : Int) ≥ (d : Int):=by omega
    have c2 : XE ((d + k : Nat) : Int) = some ():=by unfold XE; rw [if_pos (by omega)]
    have c3 : wr (((d + k : Nat) : Int) - (d : Int)) = ((k : Nat) : Int):=by rw [show ((d + k : Nat) : Int) - (d : Int) = ((k : Nat) : Int) by omega,A0 _ (by omega)]
    have c4 : XE ((k : Nat) : Int) = some ():=by unfold XE; rw [if_pos (by omega)]
    have c5 : wr (((d + k : Nat) : Int) - 1) = ((d + k : Nat) : Int) - 1:=XB (by omega)
    simp only [c1,decide_true,if_true,c2,c3,c4,c5,Option.bind_some]
    have c6 : andI (Kh (a : Int) ((d + k : Nat) : Int)) 1 = (((a >>> (d + k)) &&& 1 : Nat) : Int):=by
     rw [kZ a (d + k) (by omega)]
     exact kQ _ 1 (Nat.lt_of_le_of_lt (Nat.shiftRight_le _ _) (by omega)) (by omega)
    rw [c6,K3 m k (by omega) (by omega),Kf a _ (by omega) (by omega)]
    cases hb : a.testBit (d + k) with
    | true =>
     have:=(zu a (d + k)).2 hb
     rw [this]; rfl
    | false =>
     have : ¬ ((a >>> (d + k)) &&& 1 = 1):=fun h=>by rw [(zu a (d + k)).1 h] at hb; cases hb
     have h2 : (((((a >>> (d + k)) &&& 1 : Nat) : Int)) == 1) = false:=by
      rw [beq_eq_false_iff_ne]; omega
     rw [h2]; rfl
   rw [Wy hst,ih _ (by omega) ?_]
   ·conv=>rhs; unfold YM
   ·split
    ·exact Nat.xor_lt_two_pow ha hsh2
    ·exact ha
 unfold UA
 have:=key (16 - d) a (by omega) (by omega)
 rw [show ((d + (16 - d) : Nat) : Int) - 1 = 15 by omega] at this
 rw [this]; rfl

def Hk : Nat → Nat → Nat → Nat
 | 0,_,_=>0
 | n + 1,a,b=>(if b % 2 = 1 then a else 0) ^^^ Hk n (a <<< 1) (b / 2)
theorem HG : ∀ (n a : Nat),Hk n a 0 = 0
 | 0,_=>rfl
 | n + 1,a=>by simp [Hk,HG n]
theorem jr : ∀ (n a b p : Nat),a < 2 ^ p → Hk n a b < 2 ^ (p + n)
 | 0,_,_,_,_=>by simp [Hk]; exact Nat.two_pow_pos _
 | n + 1,a,b,p,h=>by
  unfold Hk
  have h1 : a <<< 1 < 2 ^ (p + 1):=Ky h
  have h2:=jr n (a <<< 1) (b / 2) (p + 1) h1
  rw [show p + 1 + n = p + (n + 1) by omega] at h2
  refine Nat.xor_lt_two_pow ?_ h2
  have h3 : 2 ^ p ≤ 2 ^ (p + (n + 1)):=Nat.pow_le_pow_right (by omega) (by omega)
  have h4:=Nat.two_pow_pos (p + (n + 1))
  split <;> omega
def prC : Nat → Nat → Nat → Nat
 | 0,_,_=>0
 | i + 1,a,b=>prC i a b ^^^ (if b.testBit i then a <<< i else 0)
theorem yC : ∀ (n a b : Nat),prC (n + 1) a b = (if b % 2 = 1 then a else 0) ^^^ prC n (a <<< 1) (b / 2)
 | 0,a,b=>by
  simp only [prC,Nat.zero_xor,Nat.xor_zero,Nat.shiftLeft_zero]
  have : b.testBit 0 = decide (b % 2 = 1):=by simp [Nat.testBit_zero]
  rw [this]; simp
 | n + 1,a,b=>by
  conv=>lhs; unfold prC
  rw [yC n a b]
  conv=>rhs; unfold prC
  rw [← Nat.xor_assoc]
  congr 1
  rw [Nat.testBit_succ,← Nat.shiftLeft_add,Nat.add_comm 1 n]
theorem qv : ∀ (n a b : Nat),prC n a b = Hk n a b
 | 0,_,_=>rfl
 | n + 1,a,b=>by rw [yC,qv n]; rfl
theorem jd (a b : Nat) (h : a < 256) : ∀ i,i ≤ 8 → prC i a b < 2 ^ 16
 | 0,_=>by simp [prC]
 | i + 1,hi=>by
  unfold prC
  have h1 : a <<< i < 2 ^ (8 + i):=Ky h
  have h2 : 2 ^ (8 + i) ≤ 2 ^ 16:=Nat.pow_le_pow_right (by omega) (by omega)
  refine Nat.xor_lt_two_pow (jd a b h i (by omega)) ?_
  split
  ·omega
  ·omega
def ZL (m : Nat) (a b : UInt8) : UInt8:=ZH ((YM m 8 8 (Hk 8 a.toNat b.toNat) : Nat) : Int)
theorem U8 (m : Nat) (hm : m < 512) (a b : UInt8) : Yd (m : Int) a b = some (ZL m a b):=by
 have ha : a.toNat < 256:=a.toNat_lt
 have hb : b.toNat < 256:=b.toNat_lt
 have h:=Z5 (f:=XS a b) (fun i : Nat=>(((prC i a.toNat b.toNat : Nat) : Int),(i : Int))) 0 8 (Nat.zero_le _) (t:=((prC 8 a.toNat b.toNat : Nat) : Int)) (fun i _ hi=>by
  unfold XS
  have c1 : ((i : Int) < 8):=by omega
  have c2 : XE (i : Int) = some ():=by unfold XE; rw [if_pos (by omega)]
  have c3 : prC i a.toNat b.toNat < 2 ^ 16:=jd _ _ ha i (by omega)
  have c4 : a.toNat <<< i < 2 ^ (8 + i):=Ky ha
  have c5 : 2 ^ (8 + i) ≤ 2 ^ 16:=Nat.pow_le_pow_right (by omega) (by omega)
  have c6 : (((B8 b (i : Int)) &&& 1) == 1) = b.toNat.testBit i:=by
   have e1 : (B8 b (i : Int)).toNat = b.toNat >>> i:=by
    unfold B8 ZH
    rw [show min ((i : Int)).toNat 8 = i by omega,Int.fdiv_eq_ediv_of_nonneg _ (by exact_mod_cast Nat.zero_le _)]
    have : ((b.toNat : Int) / 2 ^ i) = ((b.toNat >>> i : Nat) : Int):=by rw [Nat.shiftRight_eq_div_pow]; simp
    rw [this]
    have h3 : b.toNat >>> i ≤ b.toNat:=Nat.shiftRight_le _ _
    generalize b.toNat >>> i = q at h3 ⊢
    have h4 : (((q : Nat) : Int) % 256).toNat = q:=by omega
    rw [h4]
    simp
    omega
   rw [Bool.eq_iff_iff,beq_iff_eq,← zu,← UInt8.toNat_inj,UInt8.toNat_and,e1]
   simp
  simp only [c1,decide_true,if_true,c2,Option.bind_some,c6,YS (show i < 9223372036854775807 by omega)]
  rw [K3 _ i (by omega) (by omega),Kf _ _ (by omega) (by omega)]
  cases hbit : b.toNat.testBit i with
  | true=>simp [prC,hbit]
  | false=>simp [prC,hbit]) (by unfold XS; simp)
 have h2 : ZK (XS a b) (0,0) = _:=h
 unfold Yd
 rw [h2]
 simp only [Option.bind_some]
 have h3:=ql (prC 8 a.toNat b.toNat) m 8 (by omega) (jd _ _ ha 8 (by omega)) (by omega)
 have h4 : UA ((prC 8 a.toNat b.toNat : Nat) : Int) (m : Int) 8 = _:=h3
 rw [h4,qv]
 rfl
theorem Te (m : Nat) (hm : m < 512) (hm2 : 256 ≤ m) (a b : UInt8) : Ye (m : Int) a b = some (ZL m a b):=by
 have ha : a.toNat < 256:=a.toNat_lt
 have hb : b.toNat < 256:=b.toNat_lt
 have h1 : 2 ^ 8 ≤ m:=hm2
 have h2 : m < 2 ^ (8 + 1):=hm
 have hR : ∀ i,i ≤ 8 → YM m 8 8 (a.toNat <<< i) < 256:=fun i hi=>J9 h1 h2 8 _ (by
  have:=Ky (k:=i) (show a.toNat < 2 ^ 8 from ha)
  exact Nat.lt_of_lt_of_le this (Nat.pow_le_pow_right (by omega) (by omega)))
 have hdbl : ∀ i,i ≤ 7 → YM m 8 8 (a.toNat <<< (i + 1)) = if 256 ≤ (YM m 8 8 (a.toNat <<< i)) * 2 then (YM m 8 8 (a.toNat <<< i)) * 2 ^^^ m else (YM m 8 8 (a.toNat <<< i)) * 2:=by
  intro i hi
  have hx : a.toNat <<< i < 2 ^ (8 + 7):=Nat.lt_of_lt_of_le (Ky (show a.toNat < 2 ^ 8 from ha)) (Nat.pow_le_pow_right (by omega) (by omega))
  have e : a.toNat <<< (i + 1) = (a.toNat <<< i) <<< 1:=by rw [← Nat.shiftLeft_add]
  rw [e,QX m 8 7,← HN hx]
  have hlt:=hR i (by omega)
  generalize YM m 8 8 (a.toNat <<< i) = y at hlt ⊢
  have e2 : y <<< 1 = y * 2:=by rw [Nat.shiftLeft_eq]
  rw [e2]
  have e3 : (y * 2).testBit 8 = decide (256 ≤ y * 2):=by
   by_cases hy : 256 ≤ y * 2
   ·rw [jy (d:=8) hy (by omega)]; simp [hy]
   ·rw [Nat.testBit_lt_two_pow (by omega : y * 2 < 2 ^ 8)]; simp [hy]
  rw [e3]
  by_cases hy : 256 ≤ y * 2 <;> simp [hy]
 have key : ∀ (n i o r : Nat),i + n ≤ 8 → r < 2 ^ n → o < 256 → ZK (Xu (m : Int)) ((o : Int),((YM m 8 8 (a.toNat <<< i) : Nat) : Int),(r : Int)) = some ((o ^^^ YM m 8 8 (Hk n (a.toNat <<< i) r) : Nat) : Int):=by
  intro n
  induction n with
  | zero =>
   intro i o r _ hr ho
   have : r = 0:=by simpa using hr
   subst this
   rw [X2 (t:=(o : Int))]
   ·rw [HG,UO 8 0 (by omega),Nat.xor_zero]
   ·unfold Xu; simp
  | succ n ih =>
   intro i o r hi hr ho
   by_cases h0 : r = 0
   ·subst h0
    rw [X2 (t:=(o : Int))]
    ·rw [HG,UO 8 0 (by omega),Nat.xor_zero]
    ·unfold Xu; simp
   ·have hy:=hR i (by omega)
    have hst : Xu (m : Int) ((o : Int),((YM m 8 8 (a.toNat <<< i) : Nat) : Int),(r : Int)) = some (.nx (((o ^^^ YM m 8 8 (if r % 2 = 1 then a.toNat <<< i else 0) : Nat) : Int),((YM m 8 8 (a.toNat <<< (i + 1)) : Nat) : Int),((r / 2 : Nat) : Int))):=by
     rw [hdbl i (by omega)]
     unfold Xu
     have c1 : (r : Int) > 0:=by omega
     have hr2 : r < 512:=Nat.lt_of_lt_of_le hr (Nat.le_trans (Nat.pow_le_pow_right (by omega) (by omega : n + 1 ≤ 9)) (by omega))
     simp only [c1,decide_true,if_true,kP,jk]
     have e1 : wr (((YM m 8 8 (a.toNat <<< i) : Nat) : Int) * 2) = (((YM m 8 8 (a.toNat <<< i)) * 2 : Nat) : Int):=by rw [XB (by omega)]; omega
     have e2 : wr ((r / 2 : Nat) : Int) = ((r / 2 : Nat) : Int):=A0 _ (by omega)
     rw [e1,e2,Kf _ _ (by omega) (by omega),Kf _ _ (by omega) (by omega)]
     have e3 : ((((r % 2 : Nat) : Int)) == 1) = decide (r % 2 = 1):=by
      rw [Bool.eq_iff_iff,beq_iff_eq,decide_eq_true_eq]; omega
     rw [e3]
     have e4 : decide ((((YM m 8 8 (a.toNat <<< i)) * 2 : Nat) : Int) ≥ 256) = decide (256 ≤ (YM m 8 8 (a.toNat <<< i)) * 2):=by rw [decide_eq_decide]; omega
     rw [e4]
     have e5 : YM m 8 8 0 = 0:=UO 8 0 (by omega)
     by_cases c2 : r % 2 = 1 <;> by_cases c3 : 256 ≤ (YM m 8 8 (a.toNat <<< i)) * 2 <;> simp only [c2,c3,decide_true,decide_false,Bool.false_eq_true,if_true,if_false,Option.bind_some,e5,Nat.xor_zero]
    rw [Wy hst,ih (i + 1) _ (r / 2) (by omega) (by rw [Nat.pow_succ] at hr; omega) ?_]
    ·conv=>rhs; unfold Hk
     rw [Qs,Nat.xor_assoc,Nat.shiftLeft_add]
    ·refine Nat.xor_lt_two_pow (n:=8) ho ?_
     split
     ·exact hR i (by omega)
     ·rw [UO 8 0 (by omega)]; omega
 have:=key 8 0 0 b.toNat (by omega) hb (by omega)
 rw [Nat.shiftLeft_zero,UO 8 a.toNat ha,Nat.zero_xor] at this
 have h3 : ZK (Xu (m : Int)) (0,bI a,bI b) = _:=this
 unfold Ye
 rw [h3]
 rfl

def Kb (m : Nat) : Nat → UInt8 → Nat → UInt8 → UInt8
 | 0,_,_,o=>o
 | f + 1,a,k,o=>if k = 0 then o else Kb m f (ZL m a a) (k / 2) (if k % 2 = 1 then ZL m o a else o)
theorem ym (m : Nat) (L : UInt8 × Int × UInt8 → Option (Fl (UInt8 × Int × UInt8) UInt8)) (T : UInt8 → UInt8 → Option UInt8) (hT : ∀ a b,T a b = some (ZL m a b))
  (hL : ∀ s,L s = if (decide (s.2.1 > 0)) = true then (((if ((Int.tmod s.2.1 2) == 1) = true then ((T s.2.2 s.1).bind fun r=>some r) else (some s.2.2) : Option UInt8).bind fun j12=>(T s.1 s.1).bind fun r20=>some (r20,j12) : Option (UInt8 × UInt8)).bind fun j9=>some (Fl.nx (j9.1,wr (Int.tdiv s.2.1 2),j9.2))) else (some (Fl.ex s.2.2))) :
  ∀ (f k : Nat) (a o : UInt8),k < 2 ^ f → f ≤ 62 → ZK L (a,(k : Int),o) = some (Kb m f a k o):=by
 intro f
 induction f with
 | zero =>
  intro k a o hk _
  have : k = 0:=by simpa using hk
  subst this
  exact X2 (by rw [hL]; simp [Kb])
 | succ f ih =>
  intro k a o hk hf
  by_cases h0 : k = 0
  ·subst h0
   exact X2 (by rw [hL]; simp [Kb])
  ·have hlt : k < 9223372036854775808:=Nat.lt_of_lt_of_le hk (Nat.pow_le_pow_right (by omega : 0 < 2) (by omega : f + 1 ≤ 63))
   have hst : L (a,(k : Int),o) = some (.nx (ZL m a a,((k / 2 : Nat) : Int),if k % 2 = 1 then ZL m o a else o)):=by
    rw [hL]
    have c1 : (k : Int) > 0:=by omega
    have e3 : ((((k % 2 : Nat) : Int)) == 1) = decide (k % 2 = 1):=by
     rw [Bool.eq_iff_iff,beq_iff_eq,decide_eq_true_eq]; omega
    simp only [c1,decide_true,if_true,kP,jk,hT,e3,Option.bind_some,A0 (k / 2) (by omega)]
    by_cases c2 : k % 2 = 1 <;> simp [c2]
   rw [Wy hst,ih (k / 2) _ _ (by rw [Nat.pow_succ] at hk; omega) (by omega)]
   conv=>rhs; unfold Kb
   rw [if_neg h0]
theorem AN (m : Nat) (hm : m < 512) (a : UInt8) (k f : Nat) (hk : k < 2 ^ f) (hf : f ≤ 62) : Wf (m : Int) a (k : Int) = some (Kb m f a k 1):=by
 unfold Wf
 rw [ym m (VK (m : Int)) _ (U8 m hm) (fun s=>by unfold VK; rfl) f k a 1 hk hf]; rfl
theorem yV (m : Nat) (hm : m < 512) (hm2 : 256 ≤ m) (a : UInt8) (k f : Nat) (hk : k < 2 ^ f) (hf : f ≤ 62) : Vt (m : Int) a (k : Int) = some (Kb m f a k 1):=by
 unfold Vt
 rw [ym m (UT (m : Int)) _ (Te m hm hm2) (fun s=>by unfold UT; rfl) f k a 1 hk hf]; rfl
def Ui (m : Nat) (a : UInt8) : UInt8:=Kb m 8 a 254 1
theorem KI (m : Nat) (hm : m < 512) (a : UInt8) : Yo (m : Int) a = some (Ui m a):=by
 unfold Yo
 have:=AN m hm a 254 8 (by omega) (by omega)
 have h2 : Wf (m : Int) a 254 = _:=this
 rw [h2]; rfl
theorem yc (m : Nat) (hm : m < 512) (hm2 : 256 ≤ m) (a : UInt8) : WT (m : Int) a = some (Ui m a):=by
 unfold WT
 have:=yV m hm hm2 a 254 8 (by omega) (by omega)
 have h2 : Vt (m : Int) a 254 = _:=this
 rw [h2]; rfl

def JX (m d : Nat) : Bool:=YM d (Kd d - 1) (16 - (Kd d - 1)) m == 0
def YQ (m : Int) : Bool:=decide (256 ≤ m ∧ m ≤ 511) && !((List.range' 2 30).any (JX m.toNat))
theorem B7 (m : Int) : Vp m = some (YQ m):=by
 unfold Vp YQ
 rw [Hx]
 by_cases hm : 256 ≤ m ∧ m ≤ 511
 ·obtain ⟨n,rfl⟩:=Int.eq_ofNat_of_zero_le (show 0 ≤ m by omega)
  have hn : n < 512:=by omega
  have h:=HC (f:=WX (n : Int)) 32 (JX n) false (by omega) 2 (by omega) (fun d h2 hd=>by
   unfold WX
   have c1 : (d : Int) < 32:=by omega
   have hp : ∃ p,p ≤ 4 ∧ 2 ^ p ≤ d ∧ d < 2 ^ (p + 1):=by
    refine ⟨d.log2,?_,Nat.log2_self_le (by omega),Nat.lt_log2_self⟩
    have:=(Nat.log2_lt (n:=d) (by omega)).2 (show d < 2 ^ 5 by omega)
    omega
   obtain ⟨p,h3,h4,h5⟩:=hp
   have hl:=BC h4 h5
   rw [jM n d p (16 - p) (by omega) (by omega) h4 h5 (by rw [show p + (16 - p) = 16 by omega]; omega)]
   simp only [c1,decide_true,if_true,Option.bind_some]
   unfold JX
   rw [hl,show p + 1 - 1 = p by omega]
   generalize YM d p (16 - p) n = q
   have : ((((q : Nat) : Int)) == 0) = (q == 0):=by rw [Bool.eq_iff_iff,beq_iff_eq,beq_iff_eq]; omega
   rw [this]
   cases q == 0 <;> simp) (by unfold WX; simp)
  have h2 : ZK (WX (n : Int)) 2 = _:=h
  rw [h2]
  simp only [hm,decide_true,and_self,Bool.not_true,Bool.false_eq_true,if_false,Option.bind_some,Bool.true_and,Int.toNat_natCast]
  cases (List.range' 2 30).any (JX n) <;> rfl
 ·simp [hm]
theorem kG (m : Int) : UJ m = some (YQ m):=by
 unfold UJ YQ
 rw [Qu]
 by_cases hm : 256 ≤ m ∧ m ≤ 511
 ·obtain ⟨n,rfl⟩:=Int.eq_ofNat_of_zero_le (show 0 ≤ m by omega)
  have hn : n < 512:=by omega
  have inner : ∀ p : Nat,p ≤ 4 → ZK (Vn (n : Int) (p : Int)) ((2 ^ p : Nat) : Int) = some (if (List.range' (2 ^ p) (2 ^ p)).any (JX n) then Fl.ex false else Fl.nx ()):=by
   intro p hp
   have c2 : XE (p : Int) = some ():=by unfold XE; rw [if_pos (by omega)]
   have hpow : 2 ^ p ≤ 2 ^ 4:=Nat.pow_le_pow_right (by omega) hp
   have hpp:=Nat.two_pow_pos p
   have c3 : K0 2 (p : Int) = ((2 ^ (p + 1) : Nat) : Int):=by
    have:=K3 2 p (by omega) (by rw [Nat.shiftLeft_eq]; omega)
    rw [Nat.shiftLeft_eq] at this
    rw [show (2 : Int) = ((2 : Nat) : Int) from rfl,this,Nat.pow_succ,Nat.mul_comm]
   have h:=HC (f:=Vn (n : Int) (p : Int)) (2 ^ (p + 1)) (JX n) false (by rw [Nat.pow_succ]; omega) (2 ^ p) (by rw [Nat.pow_succ]; omega) (fun d h4 h5=>by
    unfold Vn
    have c1 : (d : Int) < ((2 ^ (p + 1) : Nat) : Int):=by omega
    have hd : d < 32:=by rw [Nat.pow_succ] at h5; omega
    have hl:=BC h4 h5
    rw [c2,c3,ql n d p (by omega) (by omega) (by omega)]
    simp only [c1,decide_true,if_true,Option.bind_some]
    unfold JX
    rw [hl,show p + 1 - 1 = p by omega]
    generalize YM d p (16 - p) n = q
    have : ((((q : Nat) : Int)) == 0) = (q == 0):=by rw [Bool.eq_iff_iff,beq_iff_eq,beq_iff_eq]; omega
    rw [this]
    cases q == 0 <;> simp) (by
     unfold Vn
     rw [c2,c3]; simp)
   rw [show 2 ^ (p + 1) - 2 ^ p = 2 ^ p by rw [Nat.pow_succ]; omega] at h
   exact h
  have h:=HC (f:=Vo (n : Int)) 5 (fun p=>(List.range' (2 ^ p) (2 ^ p)).any (JX n)) false (by omega) 1 (by omega) (fun p _ hp=>by
   unfold Vo
   have c1 : (p : Int) ≤ 4:=by omega
   have c2 : XE (p : Int) = some ():=by unfold XE; rw [if_pos (by omega)]
   have c3 : K0 1 (p : Int) = ((2 ^ p : Nat) : Int):=by
    have hpow : 2 ^ p ≤ 2 ^ 4:=Nat.pow_le_pow_right (by omega) (by omega)
    have:=K3 1 p (by omega) (by rw [Nat.shiftLeft_eq]; omega)
    rw [Nat.shiftLeft_eq,Nat.one_mul] at this
    exact this
   rw [c2,c3,inner p (by omega)]
   simp only [c1,decide_true,if_true,Option.bind_some]
   cases (List.range' (2 ^ p) (2 ^ p)).any (JX n) <;> rfl) (by unfold Vo; simp)
  have h2 : ZK (Vo (n : Int)) 1 = _:=h
  rw [h2]
  have e : ((List.range' 1 (5 - 1)).any fun p=>(List.range' (2 ^ p) (2 ^ p)).any (JX n)) = (List.range' 2 30).any (JX n):=by
   have e1 : List.range' 2 30 = List.range' 2 2 ++ (List.range' 4 4 ++ (List.range' 8 8 ++ List.range' 16 16)):=by decide
   have e2 : List.range' 1 (5 - 1) = [1,2,3,4]:=by decide
   rw [e1,e2]
   simp only [List.any_append,List.any_cons,List.any_nil,Bool.or_false,Nat.reducePow]
  rw [e]
  simp only [hm,decide_true,and_self,Bool.not_true,Bool.false_eq_true,if_false,Option.bind_some,Bool.true_and,Int.toNat_natCast]
  cases (List.range' 2 30).any (JX n) <;> rfl
 ·simp [hm]
theorem Tk {m : Int} (h : YQ m = true) : ∃ n : Nat,m = n ∧ 256 ≤ n ∧ n < 512:=by
 unfold YQ at h
 simp only [Bool.and_eq_true,decide_eq_true_eq] at h
 exact ⟨m.toNat,by omega,by omega,by omega⟩
def WR (l : List UInt8) : Bool:=decide l.Nodup
theorem A4 (l : List UInt8) : ((List.range' 0 (l.length - 0)).any fun i=>(List.range' 0 (i - 0)).any fun k=>l[i]? == l[k]?) = !WR l:=by
 rw [Bool.eq_iff_iff,V3]
 rw [WR,Bool.not_eq_true',decide_eq_false_iff_not]
 unfold List.Nodup
 rw [List.pairwise_iff_getElem]
 simp only [V3,beq_iff_eq]
 constructor
 ·rintro ⟨i,_,hi,k,_,hk,h⟩ hn
  have hk' : k < l.length:=by omega
  rw [List.getElem?_eq_getElem hi,List.getElem?_eq_getElem hk'] at h
  exact hn k i hk' hi hk (by simpa using h.symm)
 ·intro h
  simp only [Classical.not_forall,ne_eq,Decidable.not_not] at h
  obtain ⟨k,i,hk,hi,hki,h⟩:=h
  exact ⟨i,Nat.zero_le _,hi,k,Nat.zero_le _,hki,by rw [List.getElem?_eq_getElem hi,List.getElem?_eq_getElem hk,h]⟩
theorem AM (l : List UInt8) (c : UInt8) : decide (indexByte l c ≥ 0) = l.contains c:=by
 induction l with
 | nil=>rfl
 | cons b l ih =>
  have hge:=Lib.indexByte_ge l c
  show decide (Lib.indexByte (b :: l) c ≥ 0) = _
  unfold Lib.indexByte
  rw [List.contains_cons,← ih]
  by_cases hb : b = c
  ·subst hb; simp
  ·have hb' : (c == b) = false:=by simpa using fun h=>hb h.symm
   simp only [beq_eq_false_iff_ne.2 hb,hb',Bool.false_eq_true,if_false,Bool.false_or]
   rw [decide_eq_decide]
   show _ ↔ Lib.indexByte l c ≥ 0
   by_cases h1 : Lib.indexByte l c = -1
   ·simp [h1]
   ·rw [if_neg (by simpa using h1)]; omega
theorem Aj (l : List UInt8) (h : l.length < 9223372036854775807) : WL l = some (WR l):=by
 unfold WL
 have:=zZ (f:=Xv l) l.length (fun i=>(l.take i).any fun x=>l[i]? == some x) false h (fun i hi=>by
  unfold Xv
  have e1 : slc l (0 : Int) (i : Int) = some (l.take i):=by have:=KZ (l:=l) (i:=0) (j:=i) (Nat.zero_le _) (by omega); simpa using this
  simp only [Int.ofNat_lt,hi,decide_true,if_true,Xx,List.getElem?_eq_getElem hi,Option.bind_some,e1]
  unfold Us
  simp only [Option.bind_some,AM]
  have e2 : (l.take i).contains l[i] = (l.take i).any fun x=>some l[i] == some x:=by
   rw [Bool.eq_iff_iff]; simp [List.any_eq_true]
  rw [e2]
  split <;> rfl) (by unfold Xv; simp) 0 (Nat.zero_le _)
 have h3 : ZK (Xv l) 0 = _:=this
 have key : ((List.range' 0 (l.length - 0)).any fun i=>(l.take i).any fun x=>l[i]? == some x) = !WR l:=by
  rw [← A4,Bool.eq_iff_iff,V3,V3]
  refine exists_congr fun i=>and_congr_right fun _=>and_congr_right fun hi=>?_
  rw [V3,List.any_eq_true]
  constructor
  ·rintro ⟨x,hx,h⟩
   obtain ⟨k,hk,rfl⟩:=List.mem_iff_getElem.1 hx
   have hk2 : k < i ∧ k < l.length:=by simp at hk; omega
   exact ⟨k,Nat.zero_le _,hk2.1,by rw [List.getElem?_eq_getElem hk2.2]; simpa using h⟩
  ·rintro ⟨k,_,hk,h⟩
   have hkl : k < l.length:=by omega
   refine ⟨l[k],List.mem_iff_getElem.2 ⟨k,by simp; omega,by simp⟩,?_⟩
   rw [List.getElem?_eq_getElem hkl] at h; exact h
 rw [h3,key]
 cases WR l <;> simp [Fl.el]
theorem jU {α : Type} {l : List α} (h : l.Nodup) {i j : Nat} (hi : i < l.length) (hj : j < l.length) (e : l[i] = l[j]) : i = j:=by
 unfold List.Nodup at h
 rw [List.pairwise_iff_getElem] at h
 rcases Nat.lt_trichotomy i j with h1 | h1 | h1
 ·exact absurd e (h i j hi hj h1)
 ·exact h1
 ·exact absurd e.symm (h j i hj hi h1)
def dbl (m y : Nat) : Nat:=if (y <<< 1).testBit 8 then (y <<< 1) ^^^ m else y <<< 1
theorem z2 (a b c d : Nat) : (a ^^^ b) ^^^ (c ^^^ d) = (a ^^^ c) ^^^ (b ^^^ d):=by
 rw [Nat.xor_assoc,Nat.xor_assoc,← Nat.xor_assoc b,← Nat.xor_assoc c,Nat.xor_comm b c]
theorem jo (m x y : Nat) : dbl m (x ^^^ y) = dbl m x ^^^ dbl m y:=by
 unfold dbl
 rw [Nat.shiftLeft_xor_distrib,Nat.testBit_xor]
 cases (x <<< 1).testBit 8 <;> cases (y <<< 1).testBit 8 <;> simp only [Bool.xor_false,Bool.false_xor,Bool.xor_self,Bool.xor_true,Bool.not_false,Bool.not_true,Bool.false_eq_true,if_true,if_false]
 ·rw [Nat.xor_assoc]
 ·rw [Nat.xor_assoc,Nat.xor_assoc,Nat.xor_comm m]
 ·rw [z2,Nat.xor_self,Nat.xor_zero]
theorem B5 (m : Nat) : dbl m 0 = 0:=by simp [dbl]
def opP (m : Nat) : Nat → Nat → Nat → Nat
 | 0,_,_=>0
 | n + 1,b,x=>(if b % 2 = 1 then x else 0) ^^^ opP m n (b / 2) (dbl m x)
theorem yg (m n b x : Nat) : opP m (n + 1) b x = (if b % 2 = 1 then x else 0) ^^^ opP m n (b / 2) (dbl m x):=rfl
theorem zC (m : Nat) : ∀ (n b x y : Nat),opP m n b (x ^^^ y) = opP m n b x ^^^ opP m n b y
 | 0,_,_,_=>by simp [opP]
 | n + 1,b,x,y=>by
  unfold opP
  rw [jo,zC m n,z2]
  congr 1
  split <;> simp
theorem JW (m : Nat) : ∀ (n b : Nat),opP m n b 0 = 0
 | 0,_=>rfl
 | n + 1,b=>by unfold opP; rw [B5,JW m n]; simp
theorem js (m : Nat) : ∀ (n b x : Nat),opP m n b (dbl m x) = dbl m (opP m n b x)
 | 0,_,_=>(B5 m).symm
 | n + 1,b,x=>by
  unfold opP
  rw [js m n,jo]
  congr 1
  split
  ·rfl
  ·exact (B5 m).symm
theorem Hy (m : Nat) : ∀ (n b k c x : Nat),opP m n b (opP m k c x) = opP m k c (opP m n b x)
 | 0,_,k,c,_=>(JW m k c).symm
 | n + 1,b,k,c,x=>by
  rw [yg,yg,← js,Hy m n,zC]
  congr 1
  split
  ·rfl
  ·exact (JW m k c).symm
theorem kd (a : Nat) : (if a % 2 = 1 then 1 else 0) ^^^ (a / 2) <<< 1 = a:=by
 rw [Nat.shiftLeft_eq]
 have h : (if a % 2 = 1 then 1 else 0) = a % 2:=by split <;> omega
 rw [h]
 apply Nat.eq_of_testBit_eq
 intro i
 rw [Nat.testBit_xor]
 cases i with
 | zero =>
  simp [Nat.testBit_zero]
 | succ i =>
  rw [Nat.testBit_succ,Nat.testBit_succ,Nat.testBit_succ]
  have h1 : a % 2 / 2 = 0:=by omega
  have h2 : a / 2 * 2 ^ 1 / 2 = a / 2:=by omega
  rw [h1,h2]; simp
theorem qW (m i : Nat) (hi : i < 7) : dbl m (1 <<< i) = 1 <<< (i + 1):=by
 unfold dbl
 rw [← Nat.shiftLeft_add]
 have : (1 <<< (i + 1)).testBit 8 = false:=by
  apply Nat.testBit_lt_two_pow
  rw [Nat.shiftLeft_eq,Nat.one_mul]
  exact Nat.pow_lt_pow_right (by omega) (by omega)
 rw [this]; rfl
theorem Jk (m : Nat) : ∀ (n i a : Nat), n + i ≤ 8 → a < 2 ^ n → opP m n a (1 <<< i) = a <<< i
  | 0, i, a, _, ha => by
    have : a = 0 := by simpa using ha
    subst this; simp [opP]
  | n + 1, i, a, hn, ha => by
    have e : a <<< i = (if a % 2 = 1 then 1 <<< i else 0) ^^^ (a / 2) <<< (i + 1) := by
      conv => lhs; rw [← kd a]
      rw [Nat.shiftLeft_xor_distrib, ← Nat.shiftLeft_add, Nat.add_comm 1 i]
      congr 1
      split <;> simp
    unfold opP
    rw [e]
    congr 1
    rcases Nat.eq_zero_or_pos n with rfl | hp
    · have : a / 2 = 0 := by have : a < 2 := by simpa using ha
                             omega
      rw [this]; simp [opP]
    · rw [qW m i (by omega)]
      exact Jk m n (i + 1) (a / 2) (by omega) (by rw [Nat.pow_succ] at ha; omega)

theorem jH (m x : Nat) (hx : x < 2 ^ 15) : YM m 8 8 (x <<< 1) = dbl m (YM m 8 8 x):=by
 rw [QX m 8 7,← HN (d:=8) (k:=7) hx]; rfl
theorem qq (m : Nat) : ∀ (n i a b : Nat),i + n ≤ 8 → a < 2 ^ 8 → YM m 8 8 (Hk n (a <<< i) b) = opP m n b (YM m 8 8 (a <<< i))
 | 0,_,_,_,_,_=>by simp [Hk,opP,UO 8 0]
 | n + 1,i,a,b,hn,ha=>by
  unfold Hk opP
  rw [Qs]
  have hx : a <<< i < 2 ^ 15:=Nat.lt_of_lt_of_le (Ky ha) (Nat.pow_le_pow_right (by omega) (by omega))
  rw [← jH m _ hx,← Nat.shiftLeft_add,qq m n (i + 1) a (b / 2) (by omega) ha]
  congr 1
  split
  ·rfl
  ·exact UO 8 0 (by omega)
theorem Wc (m : Nat) (h1 : 256 ≤ m) (h2 : m < 512) (a b : UInt8) : (ZL m a b).toNat = opP m 8 b.toNat a.toNat:=by
 have ha : a.toNat < 2 ^ 8:=a.toNat_lt
 have hr : YM m 8 8 (Hk 8 a.toNat b.toNat) < 256:=J9 (d:=8) h1 h2 8 _ (jr 8 a.toNat b.toNat 8 ha)
 have e:=qq m 8 0 a.toNat b.toNat (by omega) ha
 rw [Nat.shiftLeft_zero,UO 8 _ ha] at e
 unfold ZL ZH
 rw [e] at hr ⊢
 generalize opP m 8 b.toNat a.toNat = q at hr ⊢
 have : (((q : Nat) : Int) % 256).toNat = q:=by omega
 rw [this]
 simp
 omega
section
variable {m : Nat} (h1 : 256 ≤ m) (h2 : m < 512)
include h1 h2
theorem V8 (a b : UInt8) : ZL m a b = ZL m b a:=by
 apply UInt8.toNat_inj.1
 rw [Wc m h1 h2,Wc m h1 h2]
 have ea:=Jk m 8 0 a.toNat (by omega) a.toNat_lt
 have eb:=Jk m 8 0 b.toNat (by omega) b.toNat_lt
 simp only [Nat.shiftLeft_zero] at ea eb
 rw [← ea,Hy,eb,ea]
theorem TZ (a b c : UInt8) : ZL m (ZL m a b) c = ZL m a (ZL m b c):=by
 rw [V8 h1 h2 a (ZL m b c)]
 apply UInt8.toNat_inj.1
 rw [Wc m h1 h2,Wc m h1 h2,Wc m h1 h2,Wc m h1 h2]
 have ea:=Jk m 8 0 a.toNat (by omega) a.toNat_lt
 have eb:=Jk m 8 0 b.toNat (by omega) b.toNat_lt
 simp only [Nat.shiftLeft_zero] at ea eb
 have e1 : opP m 8 b.toNat a.toNat = opP m 8 a.toNat b.toNat:=by
  conv=>lhs; rw [← ea]
  rw [Hy,eb]
 rw [e1,Hy]
theorem kC (a b c : UInt8) : ZL m (a ^^^ b) c = ZL m a c ^^^ ZL m b c:=by
 apply UInt8.toNat_inj.1
 rw [UInt8.toNat_xor,Wc m h1 h2,Wc m h1 h2,Wc m h1 h2,UInt8.toNat_xor,zC]
theorem JD (a b c : UInt8) : ZL m a (b ^^^ c) = ZL m a b ^^^ ZL m a c:=by
 rw [V8 h1 h2,kC h1 h2,V8 h1 h2 b,V8 h1 h2 c]
theorem Kc (a : UInt8) : ZL m 1 a = a:=by
 apply UInt8.toNat_inj.1
 rw [Wc m h1 h2]
 have ea:=Jk m 8 0 a.toNat (by omega) a.toNat_lt
 simpa using ea
theorem Qv (a : UInt8) : ZL m 0 a = 0:=by
 apply UInt8.toNat_inj.1
 rw [Wc m h1 h2]
 exact JW m 8 _
theorem Kx (a b c d : UInt8) : ZL m (ZL m a b) (ZL m c d) = ZL m (ZL m a c) (ZL m b d):=by
 rw [TZ h1 h2,TZ h1 h2,← TZ h1 h2 b c d,V8 h1 h2 b c,TZ h1 h2 c b d]
theorem HV : ∀ (f k : Nat) (a b o p : UInt8),Kb m f (ZL m a b) k (ZL m o p) = ZL m (Kb m f a k o) (Kb m f b k p)
 | 0,_,_,_,_,_=>rfl
 | f + 1,k,a,b,o,p=>by
  unfold Kb
  by_cases h : k = 0
  ·simp [h]
  ·rw [if_neg h,if_neg h,if_neg h]
   by_cases hk : k % 2 = 1
   ·rw [if_pos hk,if_pos hk,if_pos hk,Kx h1 h2 a b,Kx h1 h2 o p]
    exact HV f (k / 2) _ _ _ _
   ·rw [if_neg hk,if_neg hk,if_neg hk,Kx h1 h2 a b]
    exact HV f (k / 2) _ _ _ _
theorem kb (a b : UInt8) : Ui m (ZL m a b) = ZL m (Ui m a) (Ui m b):=by
 unfold Ui
 have:=HV h1 h2 8 254 a b 1 1
 rwa [Kc h1 h2] at this
theorem jz : ∀ (f k : Nat),Kb m f 1 k 1 = 1
 | 0,_=>rfl
 | f + 1,k=>by
  unfold Kb
  rw [Kc h1 h2]
  split
  ·rfl
  ·split <;> exact jz f _
theorem Zah : Ui m 1 = 1:=jz h1 h2 8 254

end
def vf {α : Type} (n : Nat) (f : Nat → α) : Vector α n:=Vector.ofFn fun i=>f i.1
theorem K9 {α : Type} {n i : Nat} (f : Nat → α) (h : i < n) : (vf n f)[i] = f i:=by simp [vf]
theorem UN {α : Type} {n i : Nat} (f : Nat → α) (h : i < n) : (vf n f)[i]? = some (f i):=by rw [Vector.getElem?_eq_getElem h,K9 f h]
theorem ZU {α : Type} {n i : Nat} (f : Nat → α) (h : i < n) : ZB (vf n f) (i : Int) = some (f i):=by rw [US,UN f h]
theorem X0 {α : Type} {n : Nat} {f g : Nat → α} (h : ∀ i,i < n → f i = g i) : vf n f = vf n g:=by
 apply BE
 intro i hi
 rw [K9 f hi,K9 g hi,h i hi]
theorem V0 {α : Type} {n : Nat} (f : Nat → α) (k : Nat) (x : α) : (vf n f).setIfInBounds k x = vf n (fun i=>if i = k then x else f i):=by
 apply BE
 intro i hi
 rw [Vector.getElem_setIfInBounds,K9 _ hi,K9 _ hi]
 by_cases h : k = i
 ·subst h; simp
 ·rw [if_neg h,if_neg (fun e=>h e.symm)]
theorem TG {α : Type} (n : Nat) (x : α) : Vector.replicate n x = vf n (fun _=>x):=by
 apply BE
 intro i hi
 rw [K9 _ hi]; simp
theorem kS {α : Type} [Inhabited α] {n : Nat} (v : Vector α n) : v = vf n (fun i=>v[i]?.getD default):=by
 apply BE
 intro i hi
 rw [K9 _ hi,Vector.getElem?_eq_getElem hi]; rfl
abbrev Mat:=Vector (Vector UInt8 4) 4
def mf (f : Nat → Nat → UInt8) : Mat:=vf 4 fun i=>vf 4 (f i)
theorem Wb {f g : Nat → Nat → UInt8} (h : ∀ i,i < 4 → ∀ j,j < 4 → f i j = g i j) : mf f = mf g:=X0 fun i hi=>X0 fun j hj=>h i hi j hj
theorem Wl {i : Nat} (f : Nat → Nat → UInt8) (h : i < 4) : ZB (mf f) (i : Int) = some (vf 4 (f i)):=ZU _ h
theorem Kq (f : Nat → Nat → UInt8) (k : Nat) (g : Nat → UInt8) : (mf f).setIfInBounds k (vf 4 g) = mf (fun i j=>if i = k then g j else f i j):=by
 unfold mf
 rw [V0]
 apply X0
 intro i hi
 by_cases h : i = k
 ·simp [h]
 ·simp [h]
theorem BF : Vector.replicate 4 (Vector.replicate 4 (0 : UInt8)) = mf (fun _ _=>0):=by rw [TG 4 (0 : UInt8),TG]; rfl
theorem lt4 {i : Nat} (h : i < 4) : decide ((i : Int) < 4) = true:=by simp; omega
theorem lt4' {i : Nat} (h : ¬ i < 4) : decide ((i : Int) < 4) = false:=by simp; omega
theorem wr4 {i : Nat} (h : i < 1000) : wr ((i : Int) + 1) = ((i + 1 : Nat) : Int):=YS (by omega)

def Kp (i j : Nat) : UInt8:=if i = j then 1 else 0
theorem zl (L : Mat × Int → Option (Fl (Mat × Int) Mat))
  (hL : ∀ s8,L s8 = if (decide (s8.2 < 4)) = true then ((ZB s8.1 s8.2).bind fun (x14 : (Vector UInt8 4))=>(ZB x14 s8.2).bind fun (x17 : UInt8)=>some (Fl.nx ((s8.1.setIfInBounds (s8.2).toNat (x14.setIfInBounds (s8.2).toNat 1)),wr (s8.2 + 1)))) else (some (Fl.ex s8.1))) :
  ZK L (Vector.replicate 4 (Vector.replicate 4 (0 : UInt8)),0) = some (mf Kp):=by
 have:=Z5 (f:=L) (fun i : Nat=>(mf fun r c=>if r < i then Kp r c else 0,(i : Int))) 0 4 (by omega) (t:=mf Kp) (fun i _ hi=>by
  rw [hL]
  simp only [lt4 hi,if_true,Wl _ hi,ZU _ hi,Option.bind_some,Int.toNat_natCast,V0,Kq,wr4 (show i < 1000 by omega)]
  congr 3
  apply Wb
  intro r hr c hc
  by_cases h1 : r = i
  ·subst h1; simp [Kp,eq_comm]
  ·simp only [h1,if_false]
   by_cases h2 : r < i
   ·rw [if_pos h2,if_pos (by omega)]
   ·rw [if_neg h2,if_neg (by omega)]) (by
  rw [hL]
  simp only [lt4' (show ¬ 4 < 4 by omega),Bool.false_eq_true,if_false]
  exact congrArg (fun z=>some (Fl.ex z)) (Wb fun r hr c hc=>by rw [if_pos hr]))
 rw [BF]
 simpa using this
theorem Hh : Vx = some (mf Kp):=by
 unfold Vx
 rw [zl Tf fun s=>rfl]; rfl
theorem J6 : VF = some (mf Kp):=by
 unfold VF
 rw [zl Ti fun s=>rfl]; rfl

abbrev MF:=Nat → Nat → UInt8
def QP (f : MF) (k : Nat) : Nat:=((List.range' k (4 - k)).find? fun i=>!(f i k == 0)).getD 4
def qj (f : MF) (i k : Nat) : MF:=fun r c=>if r = k then f i c else if r = i then f k c else f r c
def HH (m : Nat) (f : MF) (k : Nat) (by_ : UInt8) : MF:=fun r c=>if r = k then ZL m (f k c) by_ else f r c
def Vg (m : Nat) (f g : MF) (k : Nat) : MF:=fun r c=>if r = k then g r c else g r c ^^^ ZL m (f r k) (g k c)
structure Red where
 a : MF
 b : MF
 det : UInt8
def KG (m : Nat) (s : Red) (k : Nat) : Option Red :=
 let i:=QP s.a k
 if i = 4 then none else
  let f:=qj s.a i k
  let g:=qj s.b i k
  let q:=Ui m (f k k)
  let f2:=HH m f k q
  let g2:=HH m g k q
  some ⟨Vg m f2 f2 k,Vg m f2 g2 k,ZL m s.det (f k k)⟩
def Jh (m : Nat) : Nat → Nat → Red → Option Red
 | 0,_,s=>some s
 | n + 1,k,s=>(KG m s k).bind (Jh m n (k + 1))
def Jl (m : Nat) (a : MF) : UInt8 × Mat:=match Jh m 4 0 ⟨a,Kp,1⟩ with
 | some s=>(s.det,mf s.b)
 | none=>(0,mf fun _ _=>0)
theorem An (L : Int → Option (Fl Int Int)) (f : MF) (k : Nat) (hk : k < 4)
  (hL : ∀ s,L s = (if (decide (s < 4)) = true then ((ZB (mf f) s).bind fun (x30 : (Vector UInt8 4))=>(ZB x30 (k : Int)).bind fun (x33 : UInt8)=>some (x33 == 0)) else (some false) : Option (Bool)).bind fun (j25 : Bool)=>if j25 = true then (some (Fl.nx (wr (s + 1)))) else (some (Fl.ex s))) :
  ZK L (k : Int) = some ((QP f k : Nat) : Int):=by
 have:=Qt (f:=L) (fun i : Nat=>(i : Int)) (fun i=>!(f i k == 0)) (fun i=>(i : Int)) (e:=(4 : Int)) 4 (4 - k) k (by omega) (fun i _ hi=>by
  rw [hL]
  simp only [lt4 hi,if_true,Wl _ hi,ZU _ hk,Option.bind_some]
  cases h : (f i k == 0)
  ·simp
  ·simp [wr4 (show i < 1000 by omega)]) (by rw [hL]; simp)
 rw [this]
 unfold QP
 cases (List.range' k (4 - k)).find? fun i=>!(f i k == 0) <;> rfl
theorem yq {f : MF} {k : Nat} (h : QP f k ≠ 4) : QP f k < 4:=by
 unfold QP at h ⊢
 cases hf : (List.range' k (4 - k)).find? fun i=>!(f i k == 0) with
 | none=>rw [hf] at h; exact absurd rfl h
 | some i =>
  have:=List.mem_range'_1.1 (List.mem_of_find?_eq_some hf)
  simp only [Option.getD_some]
  omega
theorem Jj (L : Mat × Mat × Int → Option (Fl (Mat × Mat × Int) (Mat × Mat))) (f g : MF) (k : Nat) (hk : k < 4) (p q : Nat → UInt8)
  (hL : ∀ c,c < 4 → ∀ a b : MF,(∀ r,r ≠ k → a r = f r) → (∀ r,r ≠ k → b r = g r) → a k c = f k c → b k c = g k c → L (mf a,mf b,(c : Int)) = some (Fl.nx ((mf a).setIfInBounds k ((vf 4 (a k)).setIfInBounds c (p c)),(mf b).setIfInBounds k ((vf 4 (b k)).setIfInBounds c (q c)),wr ((c : Int) + 1))))
  (he : ∀ a b : Mat,L (a,b,4) = some (Fl.ex (a,b))) :
  ZK L (mf f,mf g,0) = some (mf (fun r c=>if r = k then p c else f r c),mf (fun r c=>if r = k then q c else g r c)):=by
 have k1 : (mf fun r c=>if r = k then (if c < 4 then p c else f k c) else f r c) = mf fun r c=>if r = k then p c else f r c:=Wb fun r _ c hc=>by rw [if_pos hc]
 have k2 : (mf fun r c=>if r = k then (if c < 4 then q c else g k c) else g r c) = mf fun r c=>if r = k then q c else g r c:=Wb fun r _ c hc=>by rw [if_pos hc]
 have:=Z5 (f:=L) (fun i : Nat=>(mf fun r c=>if r = k then (if c < i then p c else f k c) else f r c,mf fun r c=>if r = k then (if c < i then q c else g k c) else g r c,(i : Int))) 0 4 (by omega)
  (t:=(mf (fun r c=>if r = k then p c else f r c),mf (fun r c=>if r = k then q c else g r c))) (fun i _ hi=>by
  rw [hL i hi _ _ (fun r hr=>by funext c; rw [if_neg hr]) (fun r hr=>by funext c; rw [if_neg hr]) (by simp) (by simp)]
  simp only [V0,Kq,wr4 (show i < 1000 by omega)]
  congr 3
  ·apply Wb
   intro r hr c hc
   by_cases h : r = k
   ·simp only [h,if_true]
    by_cases h2 : c = i
    ·subst h2; simp
    ·by_cases h3 : c < i
     ·rw [if_neg h2,if_pos h3,if_pos (by omega)]
     ·rw [if_neg h2,if_neg h3,if_neg (by omega)]
   ·simp only [h,if_false]
  ·congr 1
   apply Wb
   intro r hr c hc
   by_cases h : r = k
   ·simp only [h,if_true]
    by_cases h2 : c = i
    ·subst h2; simp
    ·by_cases h3 : c < i
     ·rw [if_neg h2,if_pos h3,if_pos (by omega)]
     ·rw [if_neg h2,if_neg h3,if_neg (by omega)]
   ·simp only [h,if_false]) (by
  simp only [k1,k2]
  exact he _ _)
 have e1 : mf (fun r c=>if r = k then (if c < 0 then p c else f k c) else f r c) = mf f:=Wb fun r hr c hc=>by
  by_cases h : r = k
  ·subst h; simp
  ·simp [h]
 have e2 : mf (fun r c=>if r = k then (if c < 0 then q c else g k c) else g r c) = mf g:=Wb fun r hr c hc=>by
  by_cases h : r = k
  ·subst h; simp
  ·simp [h]
 simp only [e1,e2] at this
 exact this
theorem BT {S : Type} (m : Nat) (L : S → Option (Fl S (Fl (Mat × UInt8) (UInt8 × Mat)))) (pk : Red → Nat → S)
  (hstep : ∀ k,k < 4 → ∀ s,L (pk s k) = some (match KG m s k with | none=>.ex (.ex (0,mf fun _ _=>0)) | some s'=>.nx (pk s' (k + 1))))
  (hend : ∀ s,L (pk s 4) = some (.ex (.nx (mf s.b,s.det)))) : ∀ (n k : Nat) (s : Red),k + n = 4 → ZK L (pk s k) = some (match Jh m n k s with | some s'=>.nx (mf s'.b,s'.det) | none=>.ex (0,mf fun _ _=>0))
 | 0,k,s,h=>by
  have : k = 4:=by omega
  subst this
  rw [X2 (hend s)]; rfl
 | n + 1,k,s,h=>by
  have h1:=hstep k (by omega) s
  unfold Jh
  cases hr : KG m s k with
  | none=>rw [hr] at h1; rw [X2 h1]; rfl
  | some s'=>rw [hr] at h1; rw [Wy h1]; exact BT m L pk hstep hend n (k + 1) s' (by omega)
theorem jA {i k : Nat} : (((i : Int)) != ((k : Nat) : Int)) = decide (i ≠ k):=by
 by_cases h : i = k
 ·subst h; simp
 ·have : (i : Int) ≠ (k : Int):=by omega
  simp [h,this]
theorem A7 (m : Nat) (L : Mat × Mat × Int → Option (Fl (Mat × Mat × Int) (Mat × Mat))) (f g : MF) (k : Nat)
  (hL : ∀ i,i < 4 → ∀ a b : MF,(a i = f i) → (b i = g i) → (a k = f k) → (b k = g k) → L (mf a,mf b,(i : Int)) = some (Fl.nx (mf (fun r c=>if r = i then Vg m f f k r c else a r c),mf (fun r c=>if r = i then Vg m f g k r c else b r c),wr ((i : Int) + 1))))
  (he : ∀ a b : Mat,L (a,b,4) = some (Fl.ex (a,b))) : ZK L (mf f,mf g,0) = some (mf (Vg m f f k),mf (Vg m f g k)):=by
 have ek : ∀ h : MF,Vg m f h k k = h k:=fun h=>by funext c; simp [Vg]
 have k1 : (mf fun r c=>if r < 4 then Vg m f f k r c else f r c) = mf (Vg m f f k):=Wb fun r hr c _=>by rw [if_pos hr]
 have k2 : (mf fun r c=>if r < 4 then Vg m f g k r c else g r c) = mf (Vg m f g k):=Wb fun r hr c _=>by rw [if_pos hr]
 have:=Z5 (f:=L) (fun i : Nat=>(mf fun r c=>if r < i then Vg m f f k r c else f r c,mf fun r c=>if r < i then Vg m f g k r c else g r c,(i : Int))) 0 4 (by omega)
  (t:=(mf (Vg m f f k),mf (Vg m f g k))) (fun i _ hi=>by
  rw [hL i hi _ _ (by funext c; simp) (by funext c; simp) (by funext c; by_cases h : k < i <;> simp [h,ek]) (by funext c; by_cases h : k < i <;> simp [h,ek])]
  rw [wr4 (show i < 1000 by omega)]
  have e : ∀ (x y : MF),(mf fun r c=>if r = i then x r c else if r < i then x r c else y r c) = mf fun r c=>if r < i + 1 then x r c else y r c:=fun x y=>Wb fun r _ c _=>by
   by_cases h1 : r = i
   ·subst h1; simp
   ·by_cases h2 : r < i
    ·rw [if_neg h1,if_pos h2,if_pos (by omega)]
    ·rw [if_neg h1,if_neg h2,if_neg (by omega)]
  rw [e,e]) (by
  simp only [k1,k2]
  exact he _ _)
 simpa using this

theorem yd (f : MF) {i k : Nat} : ((mf f).setIfInBounds i (vf 4 (f k))).setIfInBounds k (vf 4 (f i)) = mf (qj f i k):=by
 rw [Kq,Kq]; rfl
section
variable (m : Nat) (hm : m < 512) (hm2 : 256 ≤ m)
include hm
theorem yG (A B : Mat) (det : UInt8) (q : UInt8) (f g : MF) (k : Nat) (hk : k < 4) : ZK (Wn (m : Int) (A,B,(k : Int),det) q) (mf f,mf g,0) = some (mf (HH m f k q),mf (HH m g k q)):=by
 refine Jj _ f g k hk (fun c=>ZL m (f k c) q) (fun c=>ZL m (g k c) q) (fun c hc a b _ _ ha hb=>?_) (fun a b=>?_)
 ·unfold Wn
  simp only [lt4 hc,if_true,Wl _ hk,ZU _ hc,Option.bind_some,U8 m hm,ha,hb,Int.toNat_natCast]
 ·unfold Wn; simp
theorem kI (A B : Mat) (det : UInt8) (s1 : Mat × Mat × Int) (x : UInt8) (f g : MF) (k i : Nat) (hk : k < 4) (hi : i < 4) (hik : i ≠ k) (hs : s1.2.2 = (i : Int)) :
  ZK (Ww (m : Int) (A,B,(k : Int),det) s1 x) (mf f,mf g,0) = some (mf (fun r c=>if r = i then f i c ^^^ ZL m x (f k c) else f r c),mf (fun r c=>if r = i then g i c ^^^ ZL m x (g k c) else g r c)):=by
 refine Jj _ f g i hi (fun c=>f i c ^^^ ZL m x (f k c)) (fun c=>g i c ^^^ ZL m x (g k c)) (fun c hc a b ha' hb' ha hb=>?_) (fun a b=>?_)
 ·unfold Ww
  have e1:=ha' k (Ne.symm hik)
  have e2:=hb' k (Ne.symm hik)
  simp only [hs,lt4 hc,if_true,Wl _ hk,Wl _ hi,ZU _ hc,Option.bind_some,U8 m hm,ha,hb,e1,e2,Int.toNat_natCast]
 ·unfold Ww; simp
include hm2
theorem jK (A B : Mat) (det : UInt8) (f g : MF) (k : Nat) (hk : k < 4) : ZK (Wp (m : Int) (A,B,(k : Int),det)) (mf f,mf g,0) = some (mf (Vg m f f k),mf (Vg m f g k)):=by
 refine A7 m _ f g k (fun i hi a b hai hbi hak hbk=>?_) (fun a b=>by unfold Wp; simp)
 unfold Wp
 have hfi : a i k = f i k:=by rw [hai]
 simp only [lt4 hi,if_true,Wl _ hi,ZU _ hk,Option.bind_some,jA,hfi]
 by_cases h : i = k
 ·subst h
  simp only [ne_eq,not_true_eq_false,decide_false,Bool.false_eq_true,if_false,Option.bind_some]
  congr 3
  ·exact Wb fun r _ c _=>by
    by_cases h : r = i
    ·subst h; simp [Vg,hai]
    ·simp [h]
  ·congr 1
   exact Wb fun r _ c _=>by
    by_cases h : r = i
    ·subst h; simp [Vg,hbi]
    ·simp [h]
 ·have hd : decide (i ≠ k) = true:=by simpa using h
  simp only [hd,if_true,Option.bind_some]
  by_cases h0 : f i k = 0
  ·simp only [h0,bne_self_eq_false,Bool.false_eq_true,if_false,Option.bind_some]
   congr 3
   ·exact Wb fun r _ c _=>by
     by_cases h2 : r = i
     ·subst h2; simp [Vg,hai,h,h0,Qv hm2 hm]
     ·simp [h2]
   ·congr 1
    exact Wb fun r _ c _=>by
     by_cases h2 : r = i
     ·subst h2; simp [Vg,hbi,h,h0,Qv hm2 hm]
     ·simp [h2]
  ·have hb0 : (f i k != 0) = true:=by simpa using h0
   simp only [hb0,if_true,Option.bind_some]
   rw [kI m hm A B det _ _ a b k i hk hi h rfl]
   simp only [Option.bind_some]
   congr 3
   ·exact Wb fun r _ c _=>by
     by_cases h2 : r = i
     ·subst h2; simp [Vg,hai,hak,h]
     ·simp [h2]
   ·congr 1
    exact Wb fun r _ c _=>by
     by_cases h2 : r = i
     ·subst h2; simp [Vg,hbi,hbk,h]
     ·simp [h2]
theorem jX (k : Nat) (hk : k < 4) (s : Red) : YZ (m : Int) (mf s.a,mf s.b,(k : Int),s.det) = some (match KG m s k with | none=>.ex (.ex (0,mf fun _ _=>0)) | some s'=>.nx (mf s'.a,mf s'.b,((k + 1 : Nat) : Int),s'.det)):=by
 unfold YZ
 have hp:=An (UB (mf s.a,mf s.b,(k : Int),s.det)) s.a k hk (fun x=>rfl)
 simp only [lt4 hk,if_true,hp,Option.bind_some]
 unfold KG
 by_cases h4 : QP s.a k = 4
 ·have : ((4 : Nat) : Int) = 4:=rfl
  simp only [h4,this,beq_self_eq_true,if_true,BF]
 ·have hi:=yq h4
  have h5 : (((QP s.a k : Nat) : Int) == 4) = false:=by
   have : ((QP s.a k : Nat) : Int) ≠ 4:=by omega
   simpa using this
  generalize hpi : QP s.a k = i at *
  simp only [h4,h5,Bool.false_eq_true,if_false]
  have x1 : ZB ((mf s.a).setIfInBounds i (vf 4 (s.a k))) (k : Int) = some (vf 4 (fun c=>if k = i then s.a k c else s.a k c)):=by rw [Kq]; exact Wl _ hk
  have x2 : ZB ((mf s.b).setIfInBounds i (vf 4 (s.b k))) (k : Int) = some (vf 4 (fun c=>if k = i then s.b k c else s.b k c)):=by rw [Kq]; exact Wl _ hk
  simp only [Wl _ hk,Wl _ hi,Option.bind_some,Int.toNat_natCast,x1,x2,yd,ZU _ hk,U8 m hm,KI m hm,yG m hm _ _ _ _ _ _ k hk,jK m hm hm2 _ _ _ _ _ k hk,wr4 (show k < 1000 by omega)]
theorem BV (f : MF) : Xe (m : Int) (mf f) = some (Jl m f):=by
 unfold Xe
 have h:=BT m (YZ (m : Int)) (fun s k=>(mf s.a,mf s.b,(k : Int),s.det)) (jX m hm hm2) (fun s=>by unfold YZ; simp) 4 0 ⟨f,Kp,1⟩ rfl
 have h2 : ZK (YZ (m : Int)) (mf f,mf Kp,0,1) = _:=h
 rw [J6,Option.bind_some,h2]
 unfold Jl
 cases Jh m 4 0 ⟨f,Kp,1⟩ <;> rfl
theorem y6 (A B : Mat) (det : UInt8) (q : UInt8) (f g : MF) (k : Nat) (hk : k < 4) : ZK (VE (m : Int) (A,B,det,(k : Int)) q) (mf f,mf g,0) = some (mf (HH m f k q),mf (HH m g k q)):=by
 refine Jj _ f g k hk (fun c=>ZL m (f k c) q) (fun c=>ZL m (g k c) q) (fun c hc a b _ _ ha hb=>?_) (fun a b=>?_)
 ·unfold VE
  simp only [lt4 hc,if_true,Wl _ hk,ZU _ hc,Option.bind_some,Te m hm hm2,ha,hb,Int.toNat_natCast]
 ·unfold VE; simp
theorem k7 (A B : Mat) (det : UInt8) (s1 : Mat × Mat × Int) (x : UInt8) (f g : MF) (k i : Nat) (hk : k < 4) (hi : i < 4) (hik : i ≠ k) (hs : s1.2.2 = (i : Int)) :
  ZK (XD (m : Int) (A,B,det,(k : Int)) s1 x) (mf f,mf g,0) = some (mf (fun r c=>if r = i then f i c ^^^ ZL m x (f k c) else f r c),mf (fun r c=>if r = i then g i c ^^^ ZL m x (g k c) else g r c)):=by
 have hd : decide (i ≠ k) = true:=by simpa using hik
 refine Jj _ f g i hi (fun c=>f i c ^^^ ZL m x (f k c)) (fun c=>g i c ^^^ ZL m x (g k c)) (fun c hc a b ha' hb' ha hb=>?_) (fun a b=>?_)
 ·unfold XD
  have e1:=ha' k (Ne.symm hik)
  have e2:=hb' k (Ne.symm hik)
  simp only [hs,lt4 hc,if_true,jA,hd,Wl _ hk,Wl _ hi,ZU _ hc,Option.bind_some,Te m hm hm2,ha,hb,e1,e2,Int.toNat_natCast]
 ·unfold XD; simp
theorem kg (A B : Mat) (det : UInt8) (f g : MF) (k : Nat) (hk : k < 4) : ZK (VA (m : Int) (A,B,det,(k : Int))) (mf f,mf g,0) = some (mf (Vg m f f k),mf (Vg m f g k)):=by
 refine A7 m _ f g k (fun i hi a b hai hbi hak hbk=>?_) (fun a b=>by unfold VA; simp)
 unfold VA
 have hfi : a i k = f i k:=by rw [hai]
 simp only [lt4 hi,if_true,Wl _ hi,ZU _ hk,Option.bind_some,hfi]
 by_cases h : i = k
 ·subst h
  have h0 : ZK (XD (m : Int) (A,B,det,(i : Int)) (mf a,mf b,(i : Int)) (f i i)) (mf a,mf b,0) = some (mf a,mf b):=by
   refine X2 ?_
   unfold XD
   simp
  rw [h0]
  simp only [Option.bind_some]
  congr 3
  ·exact Wb fun r _ c _=>by
    by_cases h : r = i
    ·subst h; simp [Vg,hai]
    ·simp [h]
  ·congr 1
   exact Wb fun r _ c _=>by
    by_cases h : r = i
    ·subst h; simp [Vg,hbi]
    ·simp [h]
 ·rw [k7 m hm hm2 A B det _ _ a b k i hk hi h rfl]
  simp only [Option.bind_some]
  congr 3
  ·exact Wb fun r _ c _=>by
    by_cases h2 : r = i
    ·subst h2; simp [Vg,hai,hak,h]
    ·simp [h2]
  ·congr 1
   exact Wb fun r _ c _=>by
    by_cases h2 : r = i
    ·subst h2; simp [Vg,hbi,hbk,h]
    ·simp [h2]
theorem jT (k : Nat) (hk : k < 4) (s : Red) : XG (m : Int) (mf s.a,mf s.b,s.det,(k : Int)) = some (match KG m s k with | none=>.ex (.ex (0,mf fun _ _=>0)) | some s'=>.nx (mf s'.a,mf s'.b,s'.det,((k + 1 : Nat) : Int))):=by
 unfold XG
 have hp:=An (TF (mf s.a,mf s.b,s.det,(k : Int))) s.a k hk (fun x=>rfl)
 simp only [lt4 hk,if_true,hp,Option.bind_some]
 unfold KG
 by_cases h4 : QP s.a k = 4
 ·have : ((4 : Nat) : Int) = 4:=rfl
  simp only [h4,this,beq_self_eq_true,if_true,BF]
 ·have hi:=yq h4
  have h5 : (((QP s.a k : Nat) : Int) == 4) = false:=by
   have : ((QP s.a k : Nat) : Int) ≠ 4:=by omega
   simpa using this
  generalize hpi : QP s.a k = i at *
  simp only [h4,h5,Bool.false_eq_true,if_false]
  have x1 : ZB ((mf s.a).setIfInBounds i (vf 4 (s.a k))) (k : Int) = some (vf 4 (fun c=>if k = i then s.a k c else s.a k c)):=by rw [Kq]; exact Wl _ hk
  have x2 : ZB ((mf s.b).setIfInBounds i (vf 4 (s.b k))) (k : Int) = some (vf 4 (fun c=>if k = i then s.b k c else s.b k c)):=by rw [Kq]; exact Wl _ hk
  simp only [Wl _ hk,Wl _ hi,Option.bind_some,Int.toNat_natCast,x1,x2,yd,ZU _ hk,Te m hm hm2,yc m hm hm2,y6 m hm hm2 _ _ _ _ _ _ k hk,kg m hm hm2 _ _ _ _ _ k hk,wr4 (show k < 1000 by omega)]
theorem yt (f : MF) : V2 (m : Int) (mf f) = some (Jl m f):=by
 unfold V2
 have h:=BT m (XG (m : Int)) (fun s k=>(mf s.a,mf s.b,s.det,(k : Int))) (jT m hm hm2) (fun s=>by unfold XG; simp) 4 0 ⟨f,Kp,1⟩ rfl
 have h2 : ZK (XG (m : Int)) (mf f,mf Kp,1,0) = _:=h
 rw [Hh,Option.bind_some,h2]
 unfold Jl
 cases Jh m 4 0 ⟨f,Kp,1⟩ <;> rfl
end
def XW (l : List UInt8) (i b : Nat) : Bool:=(l.take i).any fun x=>x.toNat == b
theorem Ji (l : List UInt8) {i : Nat} (h : i < l.length) : (fun b=>if b = l[i].toNat then true else XW l i b) = XW l (i + 1):=by
 funext b
 unfold XW
 rw [List.take_succ_eq_append_getElem h,List.any_append]
 by_cases hb : b = l[i].toNat
 ·subst hb; simp
 ·have : (l[i].toNat == b) = false:=by simpa using fun e=>hb e.symm
  simp [hb,this]
theorem AA (l : List UInt8) : ((List.range' 0 (l.length - 0)).any fun i=>XW l i (l.getD i 0).toNat) = !WR l:=by
 rw [← A4,Bool.eq_iff_iff,V3,V3]
 refine exists_congr fun i=>and_congr_right fun _=>and_congr_right fun hi=>?_
 unfold XW
 rw [V3,List.any_eq_true]
 have e0 : l.getD i 0 = l[i]:=by simp [List.getD_eq_getElem?_getD,List.getElem?_eq_getElem hi]
 rw [e0]
 constructor
 ·rintro ⟨x,hx,h⟩
  obtain ⟨k,hk,rfl⟩:=List.mem_iff_getElem.1 hx
  have hk2 : k < i ∧ k < l.length:=by simp at hk; omega
  refine ⟨k,Nat.zero_le _,hk2.1,?_⟩
  rw [List.getElem?_eq_getElem hk2.2,List.getElem?_eq_getElem hi]
  have h' : l[k].toNat = l[i].toNat:=by simpa using h
  simp [UInt8.toNat_inj.1 h']
 ·rintro ⟨k,_,hk,h⟩
  have hkl : k < l.length:=by omega
  refine ⟨l[k],List.mem_iff_getElem.2 ⟨k,by simp; omega,by simp⟩,?_⟩
  rw [List.getElem?_eq_getElem hkl,List.getElem?_eq_getElem hi] at h
  have : l[i] = l[k]:=by simpa using h
  simp [this]
theorem TU {n i : Nat} (v : Vector UInt8 n) (h : i < n) : ZB v (i : Int) = some (v.toList.getD i 0):=by
 rw [US,Vector.getElem?_eq_getElem h]
 simp [List.getD_eq_getElem?_getD,h]
theorem VB {n i : Nat} (v : Vector UInt8 n) (h : i < n) : v.toList.getD i 0 = v.toList[i]'(by simpa using h):=by
 simp [List.getD_eq_getElem?_getD,h]
theorem Ki (n : Nat) (f : Nat → Bool) (x : UInt8) (h : x.toNat < n) : ZB (vf n f) (bI x) = some (f x.toNat):=ZU f h
theorem T0 (x : UInt8) : (bI x).toNat = x.toNat:=rfl
theorem Q9 (n : Nat) (l : List UInt8) : Vector.replicate n false = vf n (XW l 0):=by rw [TG]; rfl

theorem HZ : ∀ (k l : List Nat),k.Nodup → (∀ x ∈ k,x ∈ l) → k.length ≤ l.length
 | [],_,_,_=>by simp
 | x :: k,l,h,hs=>by
  have hx:=hs x (by simp)
  obtain ⟨h1,h2⟩:=List.nodup_cons.1 h
  have:=HZ k (l.erase x) h2 (fun y hy=>by
   have hne : y ≠ x:=fun e=>h1 (e ▸ hy)
   exact (List.mem_erase_of_ne hne).2 (hs y (by simp [hy])))
  rw [List.length_erase_of_mem hx] at this
  have hl : 0 < l.length:=List.length_pos_of_mem hx
  simp only [List.length_cons]; omega
theorem ye : ∀ (l : List Nat),¬ l.Nodup → ∃ l' : List Nat,l'.length + 1 = l.length ∧ ∀ x ∈ l,x ∈ l'
 | [],h=>absurd List.nodup_nil h
 | x :: l,h=>by
  by_cases hx : x ∈ l
  ·exact ⟨l,by simp,fun y hy=>by rcases List.mem_cons.1 hy with rfl | hy; exact hx; exact hy⟩
  ·have : ¬ l.Nodup:=fun hn=>h (List.nodup_cons.2 ⟨hx,hn⟩)
   obtain ⟨l',h1,h2⟩:=ye l this
   exact ⟨x :: l',by simp [h1],fun y hy=>by
    rcases List.mem_cons.1 hy with rfl | hy
    ·simp
    ·simp [h2 y hy]⟩
theorem J0 (l : List Nat) (n : Nat) (hl : l.length = n) (hb : ∀ x ∈ l,x < n) : l.Nodup ↔ ∀ b,b < n → b ∈ l:=by
 constructor
 ·intro h b hbn
  refine Classical.byContradiction fun hne=>?_
  have:=HZ (b :: l) (List.range n) (List.nodup_cons.2 ⟨hne,h⟩) (fun x hx=>by
   rcases List.mem_cons.1 hx with rfl | hx
   ·simpa using hbn
   ·simpa using hb x hx)
  simp at this; omega
 ·intro h
  refine Classical.byContradiction fun hne=>?_
  obtain ⟨l',h1,h2⟩:=ye l hne
  have:=HZ (List.range n) l' List.nodup_range (fun x hx=>h2 x (h x (by simpa using hx)))
  simp at this; omega
theorem QZ (l : List UInt8) : (l.map UInt8.toNat).Nodup ↔ l.Nodup:=by
 unfold List.Nodup
 rw [List.pairwise_map]
 constructor <;> intro h <;> refine h.imp ?_
 ·intro a b hab e; exact hab (by rw [e])
 ·intro a b hab e; exact hab (UInt8.toNat_inj.1 e)

theorem Zai (p : Vector UInt8 256) : TE p = some (WR p.toList):=by
 unfold TE
 have hl : p.toList.length = 256:=by simp
 have:=Qt (f:=Um p) (fun i : Nat=>(vf 256 (XW p.toList i),(i : Int))) (fun i=>XW p.toList i (p.toList.getD i 0).toNat) (fun _=>Fl.ex false) (e:=Fl.nx ()) 256 256 0 rfl (fun i _ hi=>by
  unfold Um
  have hd : decide ((i : Int) < 256) = true:=by simp; omega
  have hx:=TU p hi
  have hs:=Ki 256 (XW p.toList i) (p.toList.getD i 0) (UInt8.toNat_lt _)
  simp only [hd,if_true,hx,Option.bind_some,hs]
  have e:=Ji p.toList (i:=i) (by simpa using hi)
  rw [← VB p hi] at e
  cases XW p.toList i (p.toList.getD i 0).toNat
  ·simp only [Bool.false_eq_true,if_false,Option.bind_some,T0,V0,e,YS (show i < 9223372036854775807 by omega)]
  ·rfl) (by unfold Um; simp)
 have h2 : ZK (Um p) (vf 256 (XW p.toList 0),0) = _:=this
 rw [Q9 256 p.toList,h2]
 have h3:=AA p.toList
 rw [hl] at h3
 cases hf : (List.range' 0 256).find? (fun i=>XW p.toList i (p.toList.getD i 0).toNat) with
 | none =>
  have h4 : ((List.range' 0 (256 - 0)).any fun i=>XW p.toList i (p.toList.getD i 0).toNat) = false:=by rw [List.any_eq_false]; exact List.find?_eq_none.1 hf
  rw [h4] at h3
  have : WR p.toList = true:=by simpa using h3.symm
  rw [this]; rfl
 | some i =>
  have h4 : ((List.range' 0 (256 - 0)).any fun i=>XW p.toList i (p.toList.getD i 0).toNat) = true:=by rw [List.any_eq_true]; exact ⟨i,List.mem_of_find?_eq_some hf,List.find?_some (p:=fun i=>XW p.toList i (p.toList.getD i 0).toNat) hf⟩
  rw [h4] at h3
  have : WR p.toList = false:=by simpa using h3.symm
  rw [this]; rfl
theorem Bd (l : List Bool) (h : l.length < 9223372036854775807) (b : Bool) : Yt l b = some (l.contains b):=by
 unfold Yt Wh
 have:=H8 (f:=YJ l b) l.length (fun i=>b == l.getD i false) (fun i=>(i : Int)) h (fun i hi=>by
  unfold YJ
  have e0 : l.getD i false = l[i]:=by simp [List.getD_eq_getElem?_getD,List.getElem?_eq_getElem hi]
  simp only [Int.ofNat_lt,hi,decide_true,if_true,Xx,List.getElem?_eq_getElem hi,Option.bind_some,e0]
  cases b == l[i] <;> rfl) (by unfold YJ; simp) 0 (Nat.zero_le _)
 have h3 : ZK (YJ l b) 0 = _:=this
 rw [h3]
 cases hf : (List.range' 0 (l.length - 0)).find? (fun i=>b == l.getD i false) with
 | none =>
  have : l.contains b = false:=by
   rw [List.contains_eq_any_beq,List.any_eq_false]
   intro x hx
   obtain ⟨i,hi,rfl⟩:=List.mem_iff_getElem.1 hx
   have:=List.find?_eq_none.1 hf i (List.mem_range'_1.2 (by omega))
   simpa [List.getD_eq_getElem?_getD,List.getElem?_eq_getElem hi] using this
  rw [this]; rfl
 | some i =>
  have hi:=List.mem_range'_1.1 (List.mem_of_find?_eq_some hf)
  have hi' : i < l.length:=by omega
  have h4:=List.find?_some hf
  have : l.contains b = true:=by
   rw [List.contains_eq_any_beq,List.any_eq_true]
   exact ⟨l[i],List.getElem_mem hi',by simpa [List.getD_eq_getElem?_getD,List.getElem?_eq_getElem hi'] using h4⟩
  rw [this]
  simp [Fl.el]
theorem Bl (p : Vector UInt8 256) : Wv p = some (WR p.toList):=by
 unfold Wv
 have hl : p.toList.length = 256:=by simp
 have:=Z5 (f:=Xh p) (fun i : Nat=>(vf 256 (XW p.toList i),(i : Int))) 0 256 (by omega) (t:=vf 256 (XW p.toList 256)) (fun i _ hi=>by
  unfold Xh
  have hd : decide ((i : Int) < 256) = true:=by simp; omega
  have hx:=TU p hi
  have hs:=Ki 256 (XW p.toList i) (p.toList.getD i 0) (UInt8.toNat_lt _)
  have e:=Ji p.toList (i:=i) (by simpa using hi)
  rw [← VB p hi] at e
  simp only [hd,if_true,hx,Option.bind_some,hs,T0,V0,e,YS (show i < 9223372036854775807 by omega)]) (by unfold Xh; simp)
 have h2 : ZK (Xh p) (vf 256 (XW p.toList 0),0) = _:=this
 have e1 : slc (vf 256 (XW p.toList 256)).toList (0 : Int) (256 : Int) = some (vf 256 (XW p.toList 256)).toList:=by
  have:=KZ (l:=(vf 256 (XW p.toList 256)).toList) (i:=0) (j:=256) (by omega) (by simp)
  simp only [List.drop_zero] at this
  rw [List.take_of_length_le (by simp)] at this
  exact this
 rw [Q9 256 p.toList,h2]
 have hlt : (vf 256 (XW p.toList 256)).toList.length < 9223372036854775807:=by rw [Vector.length_toList]; omega
 rw [Option.bind_some,e1,Option.bind_some,Bd _ hlt,Option.bind_some]
 refine congrArg some ?_
 rw [Bool.eq_iff_iff]
 have hp:=J0 (p.toList.map UInt8.toNat) 256 (by simp) (fun x hx=>by obtain ⟨y,_,rfl⟩:=List.mem_map.1 hx; exact UInt8.toNat_lt y)
 rw [QZ] at hp
 unfold WR
 rw [decide_eq_true_iff,hp,Bool.not_eq_true',List.contains_eq_any_beq,List.any_eq_false]
 have hseen : ∀ b,XW p.toList 256 b = true ↔ b ∈ p.toList.map UInt8.toNat:=fun b=>by
  unfold XW
  rw [List.take_of_length_le (by omega),List.any_eq_true,List.mem_map]
  refine exists_congr fun x=>and_congr_right fun _=>?_
  exact beq_iff_eq
 constructor
 ·intro h b hb
  rw [← hseen]
  have e : (vf 256 (XW p.toList 256)).toList[b]? = some (XW p.toList 256 b):=by rw [Vector.getElem?_toList]; exact UN _ hb
  have:=h _ (List.mem_of_getElem? e)
  generalize XW p.toList 256 b = q at this
  cases q
  ·exact absurd rfl this
  ·rfl
 ·intro h x hx
  obtain ⟨b,hb⟩:=List.mem_iff_getElem?.1 hx
  have hb' : b < 256:=by have:=(List.getElem?_eq_some_iff.1 hb).1; rwa [Vector.length_toList] at this
  rw [Vector.getElem?_toList,UN _ hb',(hseen b).2 (h b hb')] at hb
  cases hb
  decide

def Vf (p : Vector UInt8 16) : Bool:=p.toList.all (fun x=>decide (x < 16)) && WR p.toList
def Tv (l : List UInt8) (i : Nat) : Bool:=decide (16 ≤ (l.getD i 0).toNat)
theorem yD (p : Vector UInt8 16) : VR p = some (Vf p):=by
 unfold VR
 have hl : p.toList.length = 16:=by simp
 have:=zZ (f:=WB p) 16 (Tv p.toList) false (by omega) (fun i hi=>by
  unfold WB
  have hd : decide ((i : Int) < 16) = true:=by simp; omega
  have hx:=TU p hi
  simp only [hd,if_true,hx,Option.bind_some]
  unfold Tv
  have : (p.toList.getD i 0 > 15) ↔ (16 ≤ (p.toList.getD i 0).toNat):=by rw [gt_iff_lt,UInt8.lt_iff_toNat_lt]; exact Iff.rfl
  simp only [this]
  split <;> rfl) (by unfold WB; simp) 0 (by omega)
 have h2 : ZK (WB p) 0 = _:=this
 have e1 : slc p.toList (0 : Int) (16 : Int) = some p.toList:=by
  have:=KZ (l:=p.toList) (i:=0) (j:=16) (by omega) (by simp)
  simp only [List.drop_zero] at this
  rw [List.take_of_length_le (by simp)] at this
  exact this
 have key : ((List.range' 0 (16 - 0)).any (Tv p.toList)) = !(p.toList.all fun x=>decide (x < 16)):=by
  rw [Bool.eq_iff_iff,V3,Bool.not_eq_true',List.all_eq_false]
  constructor
  ·rintro ⟨i,_,hi,h⟩
   refine ⟨p.toList[i],List.getElem_mem _,?_⟩
   unfold Tv at h
   rw [VB p hi] at h
   simp only [decide_eq_true_eq,UInt8.lt_iff_toNat_lt] at h ⊢
   have : (16 : UInt8).toNat = 16:=rfl
   omega
  ·rintro ⟨x,hx,h⟩
   obtain ⟨i,hi,rfl⟩:=List.mem_iff_getElem.1 hx
   have hi' : i < 16:=by simpa using hi
   refine ⟨i,Nat.zero_le _,hi',?_⟩
   unfold Tv
   rw [VB p hi']
   simp only [decide_eq_true_eq,UInt8.lt_iff_toNat_lt] at h ⊢
   have : (16 : UInt8).toNat = 16:=rfl
   omega
 rw [h2,key]
 unfold Vf
 cases p.toList.all fun x=>decide (x < 16)
 ·rfl
 ·simp [Fl.el,e1,Aj p.toList (by omega)]
theorem Zay (p : Vector UInt8 16) : ((List.range' 0 (16 - 0)).any (Tv p.toList)) = !(p.toList.all fun x=>decide (x < 16)):=by
 rw [Bool.eq_iff_iff,V3,Bool.not_eq_true',List.all_eq_false]
 have h16 : (16 : UInt8).toNat = 16:=rfl
 have hl : p.toList.length = 16:=by simp
 constructor
 ·rintro ⟨i,_,hi,h⟩
  refine ⟨p.toList[i],List.getElem_mem _,?_⟩
  unfold Tv at h
  rw [VB p hi] at h
  simp only [decide_eq_true_eq,UInt8.lt_iff_toNat_lt] at h ⊢
  omega
 ·rintro ⟨x,hx,h⟩
  obtain ⟨i,hi,rfl⟩:=List.mem_iff_getElem.1 hx
  have hi' : i < 16:=by simpa using hi
  refine ⟨i,Nat.zero_le _,hi',?_⟩
  unfold Tv
  rw [VB p hi']
  simp only [decide_eq_true_eq,UInt8.lt_iff_toNat_lt] at h ⊢
  omega
theorem kn (p : Vector UInt8 16) : UH p = some (Vf p):=by
 unfold UH
 have hl : p.toList.length = 16:=by simp
 have h16 : (16 : UInt8).toNat = 16:=rfl
 have:=Qt (f:=Vi p) (fun i : Nat=>(vf 16 (XW p.toList i),(i : Int))) (fun i=>Tv p.toList i || XW p.toList i (p.toList.getD i 0).toNat) (fun _=>Fl.ex false) (e:=Fl.nx ()) 16 16 0 rfl (fun i _ hi=>by
  unfold Vi
  have hd : decide ((i : Int) < 16) = true:=by simp; omega
  have hx:=TU p hi
  simp only [hd,if_true,hx,Option.bind_some]
  unfold Tv
  by_cases hf : 16 ≤ (p.toList.getD i 0).toNat
  ·have h1 : p.toList.getD i 0 ≥ 16:=by rw [ge_iff_le,UInt8.le_iff_toNat_le]; omega
   simp only [h1,decide_true,if_true,hf,Bool.true_or,Option.bind_some]
  ·have h1 : ¬ p.toList.getD i 0 ≥ 16:=by rw [ge_iff_le,UInt8.le_iff_toNat_le]; omega
   have hs:=Ki 16 (XW p.toList i) (p.toList.getD i 0) (by omega)
   have e:=Ji p.toList (i:=i) (by simpa using hi)
   rw [← VB p hi] at e
   simp only [h1,decide_false,Bool.false_eq_true,if_false,hf,Bool.false_or,Option.bind_some,hs]
   cases XW p.toList i (p.toList.getD i 0).toNat
   ·simp only [Bool.false_eq_true,if_false,Option.bind_some,T0,V0,e,YS (show i < 9223372036854775807 by omega)]
   ·rfl) (by unfold Vi; simp)
 have h2 : ZK (Vi p) (vf 16 (XW p.toList 0),0) = _:=this
 rw [Q9 16 p.toList,h2]
 have h3:=AA p.toList
 rw [hl] at h3
 have h5 : ((List.range' 0 (16 - 0)).any fun i=>Tv p.toList i || XW p.toList i (p.toList.getD i 0).toNat) = !Vf p:=by
  have e : ((List.range' 0 (16 - 0)).any fun i=>Tv p.toList i || XW p.toList i (p.toList.getD i 0).toNat) = ((List.range' 0 (16 - 0)).any (Tv p.toList) || (List.range' 0 (16 - 0)).any fun i=>XW p.toList i (p.toList.getD i 0).toNat):=by
   induction List.range' 0 (16 - 0) with
   | nil=>rfl
   | cons x l ih=>simp only [List.any_cons,ih]; cases Tv p.toList x <;> cases l.any (Tv p.toList) <;> simp
  rw [e,Zay,h3]
  unfold Vf
  cases (p.toList.all fun x=>decide (x < 16)) <;> cases WR p.toList <;> rfl
 cases hf : (List.range' 0 16).find? (fun i=>Tv p.toList i || XW p.toList i (p.toList.getD i 0).toNat) with
 | none =>
  have h4 : ((List.range' 0 (16 - 0)).any fun i=>Tv p.toList i || XW p.toList i (p.toList.getD i 0).toNat) = false:=by rw [List.any_eq_false]; exact List.find?_eq_none.1 hf
  rw [h4] at h5
  have : Vf p = true:=by simpa using h5.symm
  rw [this]; rfl
 | some i =>
  have h4 : ((List.range' 0 (16 - 0)).any fun i=>Tv p.toList i || XW p.toList i (p.toList.getD i 0).toNat) = true:=by rw [List.any_eq_true]; exact ⟨i,List.mem_of_find?_eq_some hf,List.find?_some (p:=fun i=>Tv p.toList i || XW p.toList i (p.toList.getD i 0).toNat) hf⟩
  rw [h4] at h5
  have : Vf p = false:=by simpa using h5.symm
  rw [this]; rfl

def Qn (a : Mat) : MF:=fun i j=>(a[i]?.getD default)[j]?.getD default
theorem Hg (a : Mat) : a = mf (Qn a):=calc a = vf 4 (fun i=>a[i]?.getD default):=kS a
  _ = _:=X0 fun i _=>kS _
def detC (m : Nat) (a : Mat) : UInt8:=(Jl m (Qn a)).1
def invM (m : Nat) (a : Mat) : Mat:=(Jl m (Qn a)).2
def Yn (c : GCipher) : Bool:=YQ c.Field && WR c.Box.toList && Vf c.Places && decide (1 ≤ c.Rounds ∧ c.Rounds ≤ 20) && (detC c.Field.toNat c.Mix != 0)
theorem z8 (m : Nat) (hm : m < 512) (hm2 : 256 ≤ m) (a : Mat) : Xe (m : Int) a = some (detC m a,invM m a):=by
 have:=BV m hm hm2 (Qn a)
 rw [← Hg] at this
 exact this
theorem Hc (m : Nat) (hm : m < 512) (hm2 : 256 ≤ m) (a : Mat) : Wz (m : Int) a = some (invM m a,detC m a != 0):=by
 have:=yt m hm hm2 (Qn a)
 rw [← Hg] at this
 unfold Wz
 rw [this]; rfl
theorem JO (c : GCipher) : WH c = some (Yn c):=by
 unfold WH Yn VL
 rw [kG]
 cases hf : YQ c.Field
 ·rfl
 ·obtain ⟨m,hm,h1,h2⟩:=Tk hf
  simp only [hm,Option.bind_some,if_true,Bl,z8 m h2 h1,yD,Qu,Int.toNat_natCast]
  cases WR c.Box.toList <;> cases (detC m c.Mix != 0) <;> cases Vf c.Places <;> simp
theorem jg (c : GCipher) : UM c = some (Yn c):=by
 unfold UM Yn
 rw [B7]
 cases hf : YQ c.Field
 ·rfl
 ·obtain ⟨m,hm,h1,h2⟩:=Tk hf
  simp only [hm,Option.bind_some,Bool.not_true,Bool.false_eq_true,if_false,Zai,kn,Hx,Hc m h2 h1,Int.toNat_natCast]
  cases WR c.Box.toList <;> cases (detC m c.Mix != 0) <;> cases Vf c.Places <;> cases decide (1 ≤ c.Rounds ∧ c.Rounds ≤ 20) <;> simp
theorem Hm {c : GCipher} (h : Yn c = true) : ∃ m : Nat,c.Field = m ∧ 256 ≤ m ∧ m < 512:=by
 unfold Yn at h
 simp only [Bool.and_eq_true] at h
 exact Tk h.1.1.1.1
theorem VT {n : Nat} (L : Vector UInt8 n × Int → Option (Fl (Vector UInt8 n × Int) (Vector UInt8 n))) (f h : Nat → UInt8) (hn : n < 9223372036854775807) (m : Nat) (hm : m ≤ n) (h0 : ∀ j,j < m → h j = f j)
  (hL : ∀ i,m ≤ i → i < n → ∀ a : Nat → UInt8,(∀ j,j < i → a j = h j) → (∀ j,i ≤ j → a j = f j) → L (vf n a,(i : Int)) = some (.nx ((vf n a).setIfInBounds i (h i),wr ((i : Int) + 1))))
  (he : ∀ v,L (v,(n : Int)) = some (.ex v)) : ZK L (vf n f,(m : Int)) = some (vf n h):=by
 have k1 : (vf n fun j=>if j < n then h j else f j) = vf n h:=X0 fun j hj=>by rw [if_pos hj]
 have k0 : (vf n fun j=>if j < m then h j else f j) = vf n f:=X0 fun j hj=>by
  by_cases h1 : j < m
  ·rw [if_pos h1,h0 j h1]
  ·rw [if_neg h1]
 have:=Z5 (f:=L) (fun i : Nat=>(vf n fun j=>if j < i then h j else f j,(i : Int))) m n hm (t:=vf n h) (fun i hmi hi=>by
  rw [hL i hmi hi _ (fun j hj=>by rw [if_pos hj]) (fun j hj=>by rw [if_neg (by omega)]),V0,YS (show i < 9223372036854775807 by omega)]
  refine congrArg (fun z=>some (Fl.nx (z,((i + 1 : Nat) : Int)))) (X0 fun j hj=>?_)
  by_cases h1 : j = i
  ·subst h1; simp
  ·by_cases h2 : j < i
   ·rw [if_neg h1,if_pos h2,if_pos (by omega)]
   ·rw [if_neg h1,if_neg h2,if_neg (by omega)]) (by
  simp only [k1]
  exact he _)
 simp only [k0] at this
 exact this
def VG (b : Vector UInt8 256) (x : UInt8) : UInt8:=b[x.toNat]'(UInt8.toNat_lt x)
theorem TC (b : Vector UInt8 256) (x : UInt8) : ZB b (bI x) = some (VG b x):=by
 have : ZB b ((x.toNat : Nat) : Int) = _:=US b x.toNat
 rw [Vector.getElem?_eq_getElem (UInt8.toNat_lt x)] at this
 exact this
abbrev Blk:=Vector UInt8 16
def bf (v : Blk) (i : Nat) : UInt8:=v[i]?.getD default
theorem KK (v : Blk) : v = vf 16 (bf v):=kS v
theorem Hj {i : Nat} (h : i < 16) : decide ((i : Int) < 16) = true:=by simp; omega
def KR (f g : Nat → UInt8) : Nat → UInt8:=fun i=>f i ^^^ g i
theorem Hq (f g : Nat → UInt8) : WW (vf 16 f) (vf 16 g) = some (vf 16 (KR f g)):=by
 unfold WW
 have:=VT (VO (vf 16 g)) f (KR f g) (by omega) 0 (by omega) (fun j hj=>by omega) (fun i _ hi a _ ha=>by
  unfold VO
  simp only [Hj hi,if_true,ZU _ hi,Option.bind_some,Int.toNat_natCast,ha i (Nat.le_refl _),KR]) (fun v=>by unfold VO; simp)
 have h2 : ZK (VO (vf 16 g)) (vf 16 f,0) = _:=this
 rw [h2]; rfl
theorem QW (f g : Nat → UInt8) : Xr (vf 16 f) (vf 16 g) = some (vf 16 (KR f g)):=by
 unfold Xr
 have:=VT (Wx (vf 16 g)) f (KR f g) (by omega) 0 (by omega) (fun j hj=>by omega) (fun i _ hi a _ ha=>by
  unfold Wx
  simp only [Hj hi,if_true,ZU _ hi,Option.bind_some,Int.toNat_natCast,ha i (Nat.le_refl _),KR]) (fun v=>by unfold Wx; simp)
 have h2 : ZK (Wx (vf 16 g)) (vf 16 f,0) = _:=this
 rw [h2]; rfl
def Q8 (b : Vector UInt8 256) (f : Nat → UInt8) : Nat → UInt8:=fun i=>VG b (f i)
theorem yT (b : Vector UInt8 256) (f : Nat → UInt8) : Uc b (vf 16 f) = some (vf 16 (Q8 b f)):=by
 unfold Uc
 have:=VT (W2 b) f (Q8 b f) (by omega) 0 (by omega) (fun j hj=>by omega) (fun i _ hi a _ ha=>by
  unfold W2
  simp only [Hj hi,if_true,ZU _ hi,Option.bind_some,Int.toNat_natCast,ha i (Nat.le_refl _),TC,Q8]) (fun v=>by unfold W2; simp)
 have h2 : ZK (W2 b) (vf 16 f,0) = _:=this
 rw [h2]; rfl
def TD (p : Blk) (f : Nat → UInt8) : Nat → UInt8:=fun i=>f (bf p i).toNat
theorem HF {p : Blk} (h : Vf p = true) {i : Nat} (hi : i < 16) : (bf p i).toNat < 16:=by
 unfold Vf at h
 simp only [Bool.and_eq_true,List.all_eq_true,decide_eq_true_eq] at h
 have e : bf p i = p[i]:=by unfold bf; rw [Vector.getElem?_eq_getElem hi]; rfl
 have:=h.1 p[i] (by simp)
 rw [UInt8.lt_iff_toNat_lt] at this
 rw [e]; exact this
theorem TW (p : Blk) {i : Nat} (h : i < 16) : ZB p (i : Int) = some (bf p i):=by
 rw [US]; unfold bf; rw [Vector.getElem?_eq_getElem h]; rfl
theorem zX (f : Nat → UInt8) {x : UInt8} (h : x.toNat < 16) : ZB (vf 16 f) (bI x) = some (f x.toNat):=ZU f h
theorem jN (p : Blk) (hp : Vf p = true) (f : Nat → UInt8) : UG p (vf 16 f) = some (vf 16 (TD p f)):=by
 unfold UG
 have:=VT (Vr p (vf 16 f)) (fun _=>0) (TD p f) (by omega) 0 (by omega) (fun j hj=>by omega) (fun i _ hi a _ ha=>by
  unfold Vr
  simp only [Hj hi,if_true,ZU _ hi,TW _ hi,Option.bind_some,Int.toNat_natCast,zX f (HF hp hi),TD]) (fun v=>by unfold Vr; simp)
 have h2 : ZK (Vr p (vf 16 f)) (vf 16 (fun _=>0),0) = _:=this
 rw [TG 16 (0 : UInt8),h2]; rfl
theorem v_move (p : Blk) (hp : Vf p = true) (f : Nat → UInt8) : W6 p (vf 16 f) = some (vf 16 (TD p f)):=by
 unfold W6
 have:=VT (XT p (vf 16 f)) (fun _=>0) (TD p f) (by omega) 0 (by omega) (fun j hj=>by omega) (fun i _ hi a _ ha=>by
  unfold XT
  simp only [Hj hi,if_true,ZU _ hi,TW _ hi,Option.bind_some,Int.toNat_natCast,zX f (HF hp hi),TD]) (fun v=>by unfold XT; simp)
 have h2 : ZK (XT p (vf 16 f)) (vf 16 (fun _=>0),0) = _:=this
 rw [TG 16 (0 : UInt8),h2]; rfl

def Km (b : Vector UInt8 256) (f : Nat → UInt8) (r : Int) : Nat → UInt8
 | 0=>f 0 ^^^ VG b (f 15 ^^^ ZH r)
 | i + 1=>f (i + 1) ^^^ VG b (Km b f r i)
theorem j6 (b : Vector UInt8 256) (f : Nat → UInt8) (r : Int) : UL b (vf 16 f) r = some (vf 16 (Km b f r)) := by
  unfold UL
  have := VT (Vq b r) f (Km b f r) (by omega) 0 (by omega) (fun j hj => by omega) (fun i _ hi a hb ha => by
    unfold Vq
    cases i with
    | zero =>
      have e1 : Int.tmod (wr (((0 : Nat) : Int) + 15)) 16 = ((15 : Nat) : Int) := by decide
      simp only [e1, Hj hi, if_true, ZU a (show 15 < 16 by omega), Option.bind_some]
      have e2 : (((0 : Nat) : Int) == 0) = true := rfl
      simp only [e2, if_true, Option.bind_some, TC, ZU a hi, Int.toNat_natCast, ha 0 (by omega), ha 15 (by omega), Km]
    | succ i =>
      have e1 : Int.tmod (wr (((i + 1 : Nat) : Int) + 15)) 16 = ((i : Nat) : Int) := by
        rw [XB (by omega)]
        have : (((i + 1 : Nat) : Int) + 15) = ((i + 16 : Nat) : Int) := by omega
        rw [this]
        have : Int.tmod ((i + 16 : Nat) : Int) 16 = (((i + 16) % 16 : Nat) : Int) := rfl
        rw [this]
        omega
      have e2 : (((i + 1 : Nat) : Int) == 0) = false := by have : ((i + 1 : Nat) : Int) ≠ 0 := by omega
                                                           simpa using this
      simp only [e1, e2, Hj hi, if_true, ZU a (show i < 16 by omega), Option.bind_some, Bool.false_eq_true, if_false, TC, ZU a hi, Int.toNat_natCast, ha (i + 1) (Nat.le_refl _), hb i (by omega), Km]) (fun v => by unfold Vq; simp)
  have h2 : ZK (Vq b r) (vf 16 f, 0) = _ := this
  rw [h2]; rfl
theorem jV (e : Ref Gengine) (f : Nat → UInt8) (r : Int) : X3 e (vf 16 f) r = some (vf 16 (Km e.v.box f r)):=by
 unfold X3
 have x0 : ZB (vf 16 f) (0 : Int) = some (f 0):=ZU f (show 0 < 16 by omega)
 have x15 : ZB (vf 16 f) (15 : Int) = some (f 15):=ZU f (show 15 < 16 by omega)
 have z : (0 : Int).toNat = 0:=rfl
 simp only [x0,x15,Option.bind_some,TC,z,V0]
 have:=VT (Xa e) (fun i=>if i = 0 then f 0 ^^^ VG e.v.box (f 15 ^^^ ZH r) else f i) (Km e.v.box f r) (by omega) 1 (by omega) (fun j hj=>by
  have : j = 0:=by omega
  subst this; simp [Km]) (fun i h1 hi a hb ha=>by
  unfold Xa
  obtain ⟨i,rfl⟩ : ∃ k,i = k + 1:=⟨i - 1,by omega⟩
  have e1 : wr (((i + 1 : Nat) : Int) - 1) = ((i : Nat) : Int):=by rw [XB (by omega)]; omega
  simp only [e1,Hj hi,if_true,ZU a (show i < 16 by omega),ZU a hi,Option.bind_some,TC,Int.toNat_natCast,ha (i + 1) (Nat.le_refl _),hb i (by omega),Km]
  simp) (fun v=>by unfold Xa; simp)
 have h2 : ZK (Xa e) (vf 16 (fun i=>if i = 0 then f 0 ^^^ VG e.v.box (f 15 ^^^ ZH r) else f i),1) = _:=this
 rw [h2]; rfl
def Tj (b : Vector UInt8 256) (k : Nat → UInt8) : Nat → Nat → UInt8
 | 0=>k
 | r + 1=>Km b (Tj b k r) ((r + 1 : Nat) : Int)
def Wg (b : Vector UInt8 256) (k : Nat → UInt8) (n : Nat) : List Blk:=(List.range (n + 1)).map fun r=>vf 16 (Tj b k r)
theorem za (b : Vector UInt8 256) (k : Nat → UInt8) (n : Nat) : Wg b k (n + 1) = Wg b k n ++ [vf 16 (Km b (Tj b k n) ((n + 1 : Nat) : Int))]:=by
 unfold Wg
 rw [List.range_succ,List.map_append]; rfl
theorem K2 (b : Vector UInt8 256) (k : Nat → UInt8) (n : Nat) : (Wg b k n).length = n + 1:=by simp [Wg]
theorem K1 (b : Vector UInt8 256) (k : Nat → UInt8) {n r : Nat} (h : r ≤ n) : idx (Wg b k n) (r : Int) = some (vf 16 (Tj b k r)):=by
 rw [Xx]; unfold Wg; rw [List.getElem?_map,List.getElem?_range (by omega)]; rfl
theorem jI (c : GCipher) (k : Nat → UInt8) (n : Nat) (hn : n ≤ 1000) : Uv c (vf 16 k) (n : Int) = some (Wg c.Box k n):=by
 unfold Uv
 have:=Z5 (f:=Vm c (n : Int)) (fun i : Nat=>(vf 16 (Tj c.Box k (i - 1)),Wg c.Box k (i - 1),(i : Int))) 1 (n + 1) (by omega) (t:=Wg c.Box k n) (fun i h1 hi=>by
  unfold Vm
  obtain ⟨i,rfl⟩ : ∃ q,i = q + 1:=⟨i - 1,by omega⟩
  have e1 : decide (((i + 1 : Nat) : Int) ≤ (n : Int)) = true:=by simp; omega
  have e2 : app 16 (Wg c.Box k i) [vf 16 (Km c.Box (Tj c.Box k i) ((i + 1 : Nat) : Int))] = _:=JM (by rw [K2]; simp; omega)
  simp only [Nat.add_sub_cancel,e1,if_true,j6,Option.bind_some,e2,YS (show i + 1 < 9223372036854775807 by omega),za]
  rfl) (by
  unfold Vm
  have e1 : decide (((n + 1 : Nat) : Int) ≤ (n : Int)) = false:=by simp; omega
  simp only [e1,Bool.false_eq_true,if_false,Nat.add_sub_cancel])
 have h2 : ZK (Vm c (n : Int)) (vf 16 k,[vf 16 k],1) = _:=this
 rw [h2]; rfl
theorem v_keys (e : Ref Gengine) (k : Nat → UInt8) (n : Nat) (hn : n ≤ 1000) : Y6 e (vf 16 k) (n : Int) = some (Wg e.v.box k n):=by
 unfold Y6
 have:=Z5 (f:=XU e (n : Int)) (fun i : Nat=>(vf 16 (Tj e.v.box k (i - 1)),Wg e.v.box k (i - 1),(i : Int))) 1 (n + 1) (by omega) (t:=Wg e.v.box k n) (fun i h1 hi=>by
  unfold XU
  obtain ⟨i,rfl⟩ : ∃ q,i = q + 1:=⟨i - 1,by omega⟩
  have e1 : decide (((i + 1 : Nat) : Int) ≤ (n : Int)) = true:=by simp; omega
  have e2 : app 16 (Wg e.v.box k i) [vf 16 (Km e.v.box (Tj e.v.box k i) ((i + 1 : Nat) : Int))] = _:=JM (by rw [K2]; simp; omega)
  simp only [Nat.add_sub_cancel,e1,if_true,jV,Option.bind_some,e2,YS (show i + 1 < 9223372036854775807 by omega),za]
  rfl) (by
  unfold XU
  have e1 : decide (((n + 1 : Nat) : Int) ≤ (n : Int)) = false:=by simp; omega
  simp only [e1,Bool.false_eq_true,if_false,Nat.add_sub_cancel])
 have h2 : ZK (XU e (n : Int)) (vf 16 k,[vf 16 k],1) = _:=this
 rw [h2]; rfl

def rowF (m : Nat) (a : MF) (f : Nat → UInt8) (c r : Nat) : UInt8:=((ZL m (a r 0) (f c) ^^^ ZL m (a r 1) (f (c + 1))) ^^^ ZL m (a r 2) (f (c + 2))) ^^^ ZL m (a r 3) (f (c + 3))
def V9 (m : Nat) (a : MF) (f : Nat → UInt8) : Nat → UInt8:=fun i=>rowF m a f (i / 4 * 4) (i % 4)
theorem Zal (f : Nat → UInt8) (k : Nat) (x y : UInt8) : (fun i=>if i = k then y else if i = k then x else f i) = fun i=>if i = k then y else f i:=by
 funext i; by_cases h : i = k <;> simp [h]
theorem wr_at {c r : Nat} (hc : c < 4) (hr : r < 4) : wr (wr (4 * (c : Int)) + (r : Int)) = ((c * 4 + r : Nat) : Int):=by
 rw [XB (x:=4 * (c : Int)) (by omega),XB (by omega)]; omega
theorem Zaf (m : Nat) (hm : m < 512) (hm2 : 256 ≤ m) (a : MF) (f g : Nat → UInt8) (c r : Nat) (hc : c < 4) (hr : r < 4) (s1 s2 : Blk × Int) (h1 : s1.2 = (c : Int)) (h2 : s2.2 = (r : Int)) (hg : g (c * 4 + r) = 0) :
  ZK (Ws (m : Int) (mf a) (vf 16 f) s1 s2) (vf 16 g,0) = some (vf 16 fun i=>if i = c * 4 + r then rowF m a f (c * 4) r else g i):=by
 have hcr : c * 4 + r < 16:=by omega
 have step : ∀ (j : Nat) (h : Nat → UInt8),j < 4 → Ws (m : Int) (mf a) (vf 16 f) s1 s2 (vf 16 h,(j : Int)) = some (.nx (vf 16 (fun i=>if i = c * 4 + r then h (c * 4 + r) ^^^ ZL m (a r j) (f (c * 4 + j)) else h i),((j + 1 : Nat) : Int))):=fun j h hj=>by
  unfold Ws
  simp only [h1,h2,lt4 hj,if_true,wr_at hc hr,wr_at hc hj,ZU _ hcr,Wl _ hr,ZU _ hj,ZU f (show c * 4 + j < 16 by omega),Option.bind_some,Te m hm hm2,Int.toNat_natCast,V0,wr4 (show j < 1000 by omega)]
 have e0:=step 0 g (by omega)
 have e1:=step 1 (fun i=>if i = c * 4 + r then g (c * 4 + r) ^^^ ZL m (a r 0) (f (c * 4 + 0)) else g i) (by omega)
 have e2:=step 2 (fun i=>if i = c * 4 + r then (g (c * 4 + r) ^^^ ZL m (a r 0) (f (c * 4 + 0))) ^^^ ZL m (a r 1) (f (c * 4 + 1)) else g i) (by omega)
 have e3:=step 3 (fun i=>if i = c * 4 + r then ((g (c * 4 + r) ^^^ ZL m (a r 0) (f (c * 4 + 0))) ^^^ ZL m (a r 1) (f (c * 4 + 1))) ^^^ ZL m (a r 2) (f (c * 4 + 2)) else g i) (by omega)
 have e4 : ∀ v : Blk,Ws (m : Int) (mf a) (vf 16 f) s1 s2 (v,((4 : Nat) : Int)) = some (.ex v):=fun v=>by unfold Ws; simp
 simp only [if_true,Zal] at e1 e2 e3
 have e0' : Ws (m : Int) (mf a) (vf 16 f) s1 s2 (vf 16 g,0) = _:=e0
 rw [Wy e0',Wy e1,Wy e2,Wy e3,X2 (e4 _)]
 refine congrArg some (X0 fun i _=>?_)
 by_cases h : i = c * 4 + r
 ·simp [h,hg,rowF]
 ·simp [h]
theorem qM (m : Nat) (hm : m < 512) (hm2 : 256 ≤ m) (a : MF) (f : Nat → UInt8) : U5 (m : Int) (mf a) (vf 16 f) = some (vf 16 (V9 m a f)):=by
 unfold U5
 -- after c columns and r rows of the next
 have inner : ∀ c : Nat,c < 4 → ∀ s1 : Blk × Int,s1.2 = (c : Int) → ZK (V4 (m : Int) (mf a) (vf 16 f) s1) (vf 16 (fun i=>if i < c * 4 then V9 m a f i else 0),0) = some (vf 16 fun i=>if i < (c + 1) * 4 then V9 m a f i else 0):=fun c hc s1 h1=>by
  have k1 : (vf 16 fun i=>if i < c * 4 + 4 then V9 m a f i else 0) = vf 16 fun i=>if i < (c + 1) * 4 then V9 m a f i else 0:=by rw [show c * 4 + 4 = (c + 1) * 4 by omega]
  have:=Z5 (f:=V4 (m : Int) (mf a) (vf 16 f) s1) (fun r : Nat=>(vf 16 fun i=>if i < c * 4 + r then V9 m a f i else 0,(r : Int))) 0 4 (by omega) (t:=vf 16 fun i=>if i < (c + 1) * 4 then V9 m a f i else 0) (fun r _ hr=>by
   unfold V4
   have h2:=Zaf m hm hm2 a f (fun i=>if i < c * 4 + r then V9 m a f i else 0) c r hc hr s1 (vf 16 fun i=>if i < c * 4 + r then V9 m a f i else 0,(r : Int)) h1 rfl (by simp)
   simp only [lt4 hr,if_true,h2,Option.bind_some,wr4 (show r < 1000 by omega)]
   refine congrArg (fun z=>some (Fl.nx (z,((r + 1 : Nat) : Int)))) (X0 fun i _=>?_)
   by_cases h : i = c * 4 + r
   ·subst h
    have q1 : (c * 4 + r) / 4 = c:=by omega
    have q2 : (c * 4 + r) % 4 = r:=by omega
    rw [if_pos rfl,if_pos (by omega)]
    unfold V9; rw [q1,q2]
   ·by_cases h3 : i < c * 4 + r
    ·rw [if_neg h,if_pos h3,if_pos (by omega)]
    ·rw [if_neg h,if_neg h3,if_neg (by omega)]) (by
   unfold V4
   simp only [k1]
   simp)
  exact this
 have:=Z5 (f:=V1 (m : Int) (mf a) (vf 16 f)) (fun c : Nat=>(vf 16 fun i=>if i < c * 4 then V9 m a f i else 0,(c : Int))) 0 4 (by omega) (t:=vf 16 (V9 m a f)) (fun c _ hc=>by
  unfold V1
  have h2:=inner c hc (vf 16 fun i=>if i < c * 4 then V9 m a f i else 0,(c : Int)) rfl
  simp only [lt4 hc,if_true,h2,Option.bind_some,wr4 (show c < 1000 by omega)]) (by
  unfold V1
  have : (vf 16 fun i=>if i < 4 * 4 then V9 m a f i else 0) = vf 16 (V9 m a f):=X0 fun i hi=>by rw [if_pos (by omega)]
  simp only [this]
  simp)
 have e0 : (vf 16 fun i=>if i < 0 * 4 then V9 m a f i else 0) = vf 16 fun _=>(0 : UInt8):=X0 fun i _=>by rw [if_neg (by omega)]
 simp only [e0] at this
 have h2 : ZK (V1 (m : Int) (mf a) (vf 16 f)) (vf 16 fun _=>(0 : UInt8),0) = _:=this
 rw [TG 16 (0 : UInt8),h2]; rfl

abbrev Tab:=Vector (Vector (Vector UInt8 256) 4) 4
def Bv (m : Nat) (a : MF) : Tab:=vf 4 fun i=>vf 4 fun j=>vf 256 fun x=>ZL m (a i j) (UInt8.ofNat x)
theorem kR (m : Nat) (a : MF) (i j : Nat) (x : UInt8) : ZB (vf 256 fun x=>ZL m (a i j) (UInt8.ofNat x)) (bI x) = some (ZL m (a i j) x):=by
 rw [show bI x = ((x.toNat : Nat) : Int) from rfl,ZU _ (UInt8.toNat_lt x)]
 simp
theorem v_mix (m : Nat) (a : MF) (f : Nat → UInt8) : VU ⟨Bv m a⟩ (vf 16 f) = some (vf 16 (V9 m a f)):=by
 unfold VU
 have i0 : ∀ (v : Vector (Vector UInt8 256) 4),ZB v (0 : Int) = v[0]?:=fun v=>US v 0
 have i1 : ∀ (v : Vector (Vector UInt8 256) 4),ZB v (1 : Int) = v[1]?:=fun v=>US v 1
 have i2 : ∀ (v : Vector (Vector UInt8 256) 4),ZB v (2 : Int) = v[2]?:=fun v=>US v 2
 have i3 : ∀ (v : Vector (Vector UInt8 256) 4),ZB v (3 : Int) = v[3]?:=fun v=>US v 3
 have inner : ∀ c : Nat,c < 4 → ∀ s1 : Blk × Int,s1.2 = ((c * 4 : Nat) : Int) → ZK (WC ⟨Bv m a⟩ s1 (f (c * 4),f (c * 4 + 1),f (c * 4 + 2),f (c * 4 + 3))) (vf 16 (fun i=>if i < c * 4 then V9 m a f i else f i),0) = some (vf 16 fun i=>if i < (c + 1) * 4 then V9 m a f i else f i):=fun c hc s1 h1=>by
  have k1 : (vf 16 fun i=>if i < c * 4 + 4 then V9 m a f i else f i) = vf 16 fun i=>if i < (c + 1) * 4 then V9 m a f i else f i:=by rw [show c * 4 + 4 = (c + 1) * 4 by omega]
  have:=Z5 (f:=WC ⟨Bv m a⟩ s1 (f (c * 4),f (c * 4 + 1),f (c * 4 + 2),f (c * 4 + 3))) (fun r : Nat=>(vf 16 fun i=>if i < c * 4 + r then V9 m a f i else f i,(r : Int))) 0 4 (by omega) (t:=vf 16 fun i=>if i < (c + 1) * 4 then V9 m a f i else f i) (fun r _ hr=>by
   unfold WC
   have e1 : wr (s1.2 + (r : Int)) = ((c * 4 + r : Nat) : Int):=by rw [h1,XB (by omega)]; omega
   have et : ZB (Bv m a) (r : Int) = some (vf 4 fun j=>vf 256 fun x=>ZL m (a r j) (UInt8.ofNat x)):=ZU _ hr
   simp only [lt4 hr,if_true,et,i0,i1,i2,i3,UN _ (show 0 < 4 by omega),UN _ (show 1 < 4 by omega),UN _ (show 2 < 4 by omega),UN _ (show 3 < 4 by omega),kR,e1,ZU _ (show c * 4 + r < 16 by omega),Option.bind_some,Int.toNat_natCast,V0,wr4 (show r < 1000 by omega)]
   refine congrArg (fun z=>some (Fl.nx (z,((r + 1 : Nat) : Int)))) (X0 fun i _=>?_)
   by_cases h : i = c * 4 + r
   ·subst h
    have q1 : (c * 4 + r) / 4 = c:=by omega
    have q2 : (c * 4 + r) % 4 = r:=by omega
    rw [if_pos rfl,if_pos (by omega)]
    unfold V9; rw [q1,q2]; rfl
   ·by_cases h3 : i < c * 4 + r
    ·rw [if_neg h,if_pos h3,if_pos (by omega)]
    ·rw [if_neg h,if_neg h3,if_neg (by omega)]) (by
   unfold WC
   simp only [k1]
   simp)
  exact this
 have:=Z5 (f:=WA ⟨Bv m a⟩) (fun c : Nat=>(vf 16 fun i=>if i < c * 4 then V9 m a f i else f i,((c * 4 : Nat) : Int))) 0 4 (by omega) (t:=vf 16 (V9 m a f)) (fun c _ hc=>by
  unfold WA
  have hd : decide (((c * 4 : Nat) : Int) < ((vf 16 fun i=>if i < c * 4 then V9 m a f i else f i).toList.length : Int)) = true:=by rw [Vector.length_toList]; simp; omega
  have x0:=ZU (n:=16) (fun i=>if i < c * 4 then V9 m a f i else f i) (show c * 4 < 16 by omega)
  have x1:=ZU (n:=16) (fun i=>if i < c * 4 then V9 m a f i else f i) (show c * 4 + 1 < 16 by omega)
  have x2:=ZU (n:=16) (fun i=>if i < c * 4 then V9 m a f i else f i) (show c * 4 + 2 < 16 by omega)
  have x3:=ZU (n:=16) (fun i=>if i < c * 4 then V9 m a f i else f i) (show c * 4 + 3 < 16 by omega)
  have w1 : wr (((c * 4 : Nat) : Int) + 1) = ((c * 4 + 1 : Nat) : Int):=by rw [XB (by omega)]; omega
  have w2 : wr (((c * 4 : Nat) : Int) + 2) = ((c * 4 + 2 : Nat) : Int):=by rw [XB (by omega)]; omega
  have w3 : wr (((c * 4 : Nat) : Int) + 3) = ((c * 4 + 3 : Nat) : Int):=by rw [XB (by omega)]; omega
  have w4 : wr (((c * 4 : Nat) : Int) + 4) = (((c + 1) * 4 : Nat) : Int):=by rw [XB (by omega)]; omega
  rw [if_neg (by omega)] at x0 x1 x2 x3
  have h2:=inner c hc (vf 16 fun i=>if i < c * 4 then V9 m a f i else f i,((c * 4 : Nat) : Int)) rfl
  simp only [hd,if_true,x0,w1,x1,w2,x2,w3,x3,Option.bind_some,h2,w4]) (by
  unfold WA
  have : (vf 16 fun i=>if i < 4 * 4 then V9 m a f i else f i) = vf 16 (V9 m a f):=X0 fun i hi=>by rw [if_pos (by omega)]
  simp only [this]
  simp)
 have e0 : (vf 16 fun i=>if i < 0 * 4 then V9 m a f i else f i) = vf 16 f:=X0 fun i _=>by rw [if_neg (by omega)]
 simp only [e0] at this
 have h2 : ZK (WA ⟨Bv m a⟩) (vf 16 f,0) = _:=this
 rw [h2]; rfl

def tb (g : Nat → Nat → Nat → UInt8) : Tab:=vf 4 fun i=>vf 4 fun j=>vf 256 (g i j)
theorem HW {g h : Nat → Nat → Nat → UInt8} (e : ∀ i,i < 4 → ∀ j,j < 4 → ∀ x,x < 256 → g i j x = h i j x) : tb g = tb h :=
 X0 fun i hi=>X0 fun j hj=>X0 fun x hx=>e i hi j hj x hx
theorem qU (g : Nat → Nat → Nat → UInt8) {i : Nat} (hi : i < 4) : ZB (tb g) (i : Int) = some (vf 4 fun j=>vf 256 (g i j)):=ZU _ hi
theorem qK (g : Nat → Nat → Nat → UInt8) (i : Nat) {j : Nat} (hj : j < 4) : ZB (vf 4 fun j=>vf 256 (g i j)) (j : Int) = some (vf 256 (g i j)):=ZU _ hj
theorem tb_set (g : Nat → Nat → Nat → UInt8) (i j : Nat) (h : Nat → UInt8) : (tb g).setIfInBounds i ((vf 4 fun j=>vf 256 (g i j)).setIfInBounds j (vf 256 h)) = tb (fun i' j'=>if i' = i ∧ j' = j then h else g i' j'):=by
 unfold tb
 rw [V0,V0]
 refine X0 fun i' _=>?_
 by_cases h1 : i' = i
 ·subst h1
  rw [if_pos rfl]
  refine X0 fun j' _=>?_
  by_cases h2 : j' = j
  ·subst h2; simp
  ·simp [h2]
 ·rw [if_neg h1]
  refine X0 fun j' _=>?_
  simp [h1]
theorem Zaj (a b : Nat) (ha : a < 9223372036854775808) (hb : b < 9223372036854775808) : orI (a : Int) (b : Int) = ((a ||| b : Nat) : Int):=by
 unfold orI
 rw [BitVec.toNat_or,HS a ha,HS b hb]
 have : a ||| b < 2 ^ 63:=Nat.or_lt_two_pow ha hb
 exact XB (by omega)
theorem VC (n : Nat) : ZH (n : Int) = UInt8.ofNat n:=by
 unfold ZH
 have : ((n : Int) % 256).toNat = n % 256:=by omega
 rw [this]
 apply UInt8.toNat_inj.1
 simp
theorem Zaa (g : Nat → Nat → Nat → UInt8) (i j : Nat) (h : Nat → UInt8) : (tb g).setIfInBounds i (vf 4 fun j'=>if j' = j then vf 256 h else vf 256 (g i j')) = tb (fun i' j'=>if i' = i ∧ j' = j then h else g i' j'):=by
 have:=tb_set g i j h
 rw [V0] at this
 exact this
theorem qw {p low : Nat} (h : low < 2 ^ p) : 2 ^ p ||| low = 2 ^ p + low:=by
 have:=Nat.two_pow_add_eq_or_of_lt h 1
 simpa using this.symm
theorem qD {p low : Nat} (hp : p < 8) (h : low < 2 ^ p) : UInt8.ofNat (2 ^ p + low) = UInt8.ofNat (2 ^ p) ^^^ UInt8.ofNat low:=by
 apply UInt8.toNat_inj.1
 have h7 : 2 ^ p ≤ 2 ^ 7:=Nat.pow_le_pow_right (by omega) (by omega)
 rw [UInt8.toNat_xor]
 simp only [UInt8.toNat_ofNat']
 rw [Nat.mod_eq_of_lt (by omega),Nat.mod_eq_of_lt (by omega),Nat.mod_eq_of_lt (by omega)]
 rw [← qw h]
 apply Nat.eq_of_testBit_eq
 intro i
 rw [Nat.testBit_or,Nat.testBit_xor,Nat.testBit_two_pow]
 by_cases hi : p = i
 ·subst hi
  rw [Nat.testBit_lt_two_pow h]; simp
 ·simp [hi]
section
variable (m : Nat) (hm : m < 512) (hm2 : 256 ≤ m) (a : MF)
include hm hm2
def Jc (m : Nat) (a : MF) (i j n : Nat) (g : Nat → Nat → Nat → UInt8) : Nat → Nat → Nat → UInt8:=fun i' j'=>if i' = i ∧ j' = j then (fun x=>if x < n then ZL m (a i j) (UInt8.ofNat x) else 0) else g i' j'
theorem qu (i j p : Nat) (hi : i < 4) (hj : j < 4) (hp : p < 8) (g : Nat → Nat → Nat → UInt8) (s0 s1 s2 : Tab × Int) (h0 : s0.2 = (i : Int)) (h1 : s1.2 = (j : Int)) (h2 : s2.2 = ((2 ^ p : Nat) : Int)) :
  ZK (W0 s0 s1 s2 (ZL m (a i j) (UInt8.ofNat (2 ^ p)))) (tb (Jc m a i j (2 ^ p) g),0) = some (tb (Jc m a i j (2 ^ (p + 1)) g)):=by
 have h7 : 2 ^ p ≤ 2 ^ 7:=Nat.pow_le_pow_right (by omega) (by omega)
 have k1 : 2 ^ p + 2 ^ p = 2 ^ (p + 1):=by rw [Nat.pow_succ]; omega
 have:=Z5 (f:=W0 s0 s1 s2 (ZL m (a i j) (UInt8.ofNat (2 ^ p)))) (fun low : Nat=>(tb (Jc m a i j (2 ^ p + low) g),(low : Int))) 0 (2 ^ p) (Nat.zero_le _) (t:=tb (Jc m a i j (2 ^ (p + 1)) g)) (fun low _ hl=>by
  unfold W0
  have hd : decide ((low : Int) < ((2 ^ p : Nat) : Int)) = true:=by simp only [decide_eq_true_eq]; omega
  have ho : orI ((2 ^ p : Nat) : Int) (low : Int) = ((2 ^ p + low : Nat) : Int):=by rw [Zaj _ _ (by omega) (by omega),qw hl]
  have eg : Jc m a i j (2 ^ p + low) g i j = fun x=>if x < 2 ^ p + low then ZL m (a i j) (UInt8.ofNat x) else 0:=by simp [Jc]
  simp only [h0,h1,h2,hd,if_true,qU _ hi,qK _ i hj,eg,ZU _ (show low < 256 by omega),ho,ZU _ (show 2 ^ p + low < 256 by omega),Option.bind_some,Int.toNat_natCast,V0,YS (show low < 9223372036854775807 by omega)]
  rw [if_pos (show low < 2 ^ p + low from Nat.lt_add_of_pos_left (Nat.two_pow_pos p)),← JD hm2 hm,← qD hp hl]
  have:=Zaa (Jc m a i j (2 ^ p + low) g) i j (fun x=>if x = 2 ^ p + low then ZL m (a i j) (UInt8.ofNat (2 ^ p + low)) else if x < 2 ^ p + low then ZL m (a i j) (UInt8.ofNat x) else 0)
  rw [this]
  refine congrArg (fun z=>some (Fl.nx (z,((low + 1 : Nat) : Int)))) (HW fun i' _ j' _ x _=>?_)
  unfold Jc
  by_cases h : i' = i ∧ j' = j
  ·simp only [h,and_self,if_true]
   by_cases hx : x = 2 ^ p + low
   ·subst hx; simp
   ·by_cases hx2 : x < 2 ^ p + low
    ·rw [if_neg hx,if_pos hx2,if_pos (by omega)]
    ·rw [if_neg hx,if_neg hx2,if_neg (by omega)]
  ·simp only [h,if_false]) (by
  unfold W0
  simp only [h2,k1]
  simp)
 exact this
theorem qk (i j : Nat) (hi : i < 4) (hj : j < 4) (g : Nat → Nat → Nat → UInt8) (s0 s1 : Tab × Int) (h0 : s0.2 = (i : Int)) (h1 : s1.2 = (j : Int)) :
  ZK (W3 (m : Int) s0 s1 (a i j)) (tb (Jc m a i j 1 g),1) = some (tb (Jc m a i j 256 g)):=by
 have:=Z5 (f:=W3 (m : Int) s0 s1 (a i j)) (fun p : Nat=>(tb (Jc m a i j (2 ^ p) g),((2 ^ p : Nat) : Int))) 0 8 (by omega) (t:=tb (Jc m a i j 256 g)) (fun p _ hp=>by
  unfold W3
  have h7 : 2 ^ p ≤ 2 ^ 7:=Nat.pow_le_pow_right (by omega) (by omega)
  have hd : decide (((2 ^ p : Nat) : Int) < 256) = true:=by simp only [decide_eq_true_eq]; omega
  have hb : ZH ((2 ^ p : Nat) : Int) = UInt8.ofNat (2 ^ p):=by rw [VC]
  have hw : wr (((2 ^ p : Nat) : Int) * 2) = ((2 ^ (p + 1) : Nat) : Int):=by
   rw [Nat.pow_succ]
   generalize 2 ^ p = q at h7 ⊢
   rw [XB (by omega)]; omega
  have h3:=qu m hm hm2 a i j p hi hj hp g s0 s1 (tb (Jc m a i j (2 ^ p) g),((2 ^ p : Nat) : Int)) h0 h1 rfl
  simp only [hd,if_true,hb,U8 m hm,Option.bind_some,h3,hw]) (by unfold W3; simp)
 exact this
theorem BJ (A : Mat) (hA : A = mf a) : Vj (m : Int) A = some ⟨Bv m a⟩:=by
 subst hA
 unfold Vj
 let G : Nat → Nat → Nat → Nat → Nat → UInt8:=fun r c i j x=>if i < r ∨ (i = r ∧ j < c) then ZL m (a i j) (UInt8.ofNat x) else 0
 have hGt : ∀ r c i j x,(i < r ∨ (i = r ∧ j < c)) → G r c i j x = ZL m (a i j) (UInt8.ofNat x):=fun r c i j x h=>if_pos h
 have hGf : ∀ r c i j x,¬ (i < r ∨ (i = r ∧ j < c)) → G r c i j x = 0:=fun r c i j x h=>if_neg h
 have hGe : ∀ r c r' c' i j x,((i < r ∨ (i = r ∧ j < c)) ↔ (i < r' ∨ (i = r' ∧ j < c'))) → G r c i j x = G r' c' i j x:=fun r c r' c' i j x h=>by show (if _ then _ else _) = (if _ then _ else _); simp only [h]
 have z0 : ∀ i j,ZL m (a i j) (UInt8.ofNat 0) = 0:=fun i j=>by rw [V8 hm2 hm]; exact Qv hm2 hm _
 have col : ∀ r : Nat,r < 4 → ∀ s0 : Tab × Int,s0.2 = (r : Int) → ZK (WY (m : Int) s0 (vf 4 (a r))) (tb (G r 0),0) = some (tb (G (r + 1) 0)):=fun r hr s0 h0=>by
  have k1 : tb (G r 4) = tb (G (r + 1) 0):=HW fun i hi j hj x _=>by
   exact hGe _ _ _ _ _ _ _ (by omega)
  have:=Z5 (f:=WY (m : Int) s0 (vf 4 (a r))) (fun c : Nat=>(tb (G r c),(c : Int))) 0 4 (by omega) (t:=tb (G (r + 1) 0)) (fun c _ hc=>by
   unfold WY
   have e1 : tb (G r c) = tb (Jc m a r c 1 (G r c)):=HW fun i _ j _ x _=>by
    unfold Jc
    by_cases h : i = r ∧ j = c
    ·obtain ⟨rfl,rfl⟩:=h
     simp only [and_self,if_true]
     rw [hGf _ _ _ _ _ (by omega)]
     by_cases hx : x < 1
     ·have : x = 0:=by omega
      subst this; rw [if_pos hx,z0]
     ·rw [if_neg hx]
    ·simp only [h,if_false]
   have e2 : tb (Jc m a r c 256 (G r c)) = tb (G r (c + 1)):=HW fun i _ j _ x hx=>by
    unfold Jc
    by_cases h : i = r ∧ j = c
    ·obtain ⟨rfl,rfl⟩:=h
     simp only [and_self,if_true,hx]
     rw [hGt _ _ _ _ _ (by omega)]
    ·simp only [h,if_false]
     exact hGe _ _ _ _ _ _ _ (by omega)
   have h3:=qk m hm hm2 a r c hr hc (G r c) s0 (tb (G r c),(c : Int)) h0 rfl
   rw [← e1,e2] at h3
   simp only [lt4 hc,if_true,ZU _ hc,h3,Option.bind_some,wr4 (show c < 1000 by omega)]) (by
   unfold WY
   simp only [k1]
   simp)
  exact this
 have kz : tb (G 0 0) = Vector.replicate 4 (Vector.replicate 4 (Vector.replicate 256 (0 : UInt8))):=by
  rw [TG 256 (0 : UInt8),TG 4,TG 4]
  exact HW fun i _ j _ x _=>by
   exact hGf _ _ _ _ _ (by omega)
 have k4 : tb (G 4 0) = Bv m a:=HW fun i hi j _ x _=>by
  exact hGt _ _ _ _ _ (by omega)
 have:=Z5 (f:=W1 (m : Int) (mf a)) (fun r : Nat=>(tb (G r 0),(r : Int))) 0 4 (by omega) (t:=Bv m a) (fun r _ hr=>by
  unfold W1
  have h3:=col r hr (tb (G r 0),(r : Int)) rfl
  simp only [lt4 hr,if_true,Wl _ hr,h3,Option.bind_some,wr4 (show r < 1000 by omega)]) (by
  unfold W1
  simp only [k4]
  simp)
 have h2 : ZK (W1 (m : Int) (mf a)) (tb (G 0 0),0) = _:=this
 rw [← kz,h2]; rfl
end

def V6 (n : Nat) (p : Vector UInt8 n) : Nat → Vector UInt8 n
 | 0=>Vector.replicate n 0
 | i + 1=>(V6 n p i).setIfInBounds (p.toList.getD i 0).toNat (ZH (i : Int))
theorem AJ (p : Vector UInt8 256) : W8 p = some (V6 256 p 256):=by
 unfold W8
 have:=Z5 (f:=XP p) (fun i : Nat=>(V6 256 p i,(i : Int))) 0 256 (by omega) (t:=V6 256 p 256) (fun i _ hi=>by
  unfold XP
  have hd : decide ((i : Int) < 256) = true:=by simp; omega
  simp only [hd,if_true,TU p hi,TC,Option.bind_some,T0,YS (show i < 9223372036854775807 by omega)]
  rfl) (by unfold XP; simp)
 have h2 : ZK (XP p) (Vector.replicate 256 0,0) = _:=this
 rw [h2]; rfl
theorem zw (p : Vector UInt8 256) : Vy p = some (V6 256 p 256):=by
 unfold Vy
 have:=Z5 (f:=Wd p) (fun i : Nat=>(V6 256 p i,(i : Int))) 0 256 (by omega) (t:=V6 256 p 256) (fun i _ hi=>by
  unfold Wd
  have hd : decide ((i : Int) < 256) = true:=by simp; omega
  simp only [hd,if_true,TU p hi,TC,Option.bind_some,T0,YS (show i < 9223372036854775807 by omega)]
  rfl) (by unfold Wd; simp)
 have h2 : ZK (Wd p) (Vector.replicate 256 0,0) = _:=this
 rw [h2]; rfl
theorem Za0 (p : Blk) {i : Nat} (h : i < 16) : p.toList.getD i 0 = bf p i:=by
 have h1:=TU p h
 rw [TW p h] at h1
 exact (Option.some.inj h1).symm
theorem HQ (p : Blk) (hp : Vf p = true) : X5 p = some (V6 16 p 16):=by
 unfold X5
 have:=Z5 (f:=Y9 p) (fun i : Nat=>(V6 16 p i,(i : Int))) 0 16 (by omega) (t:=V6 16 p 16) (fun i _ hi=>by
  unfold Y9
  have hlt:=HF hp hi
  have hv : ZB (V6 16 p i) (bI (bf p i)) = some (bf (V6 16 p i) (bf p i).toNat):=TW _ hlt
  simp only [Hj hi,if_true,TW p hi,hv,Option.bind_some,T0,YS (show i < 9223372036854775807 by omega)]
  rw [← Za0 p hi]
  rfl) (by unfold Y9; simp)
 have h2 : ZK (Y9 p) (Vector.replicate 16 0,0) = _:=this
 rw [h2]; rfl

def Wj (c : GCipher) : Gengine:=⟨c.Box,V6 256 c.Box 256,c.Places,V6 16 c.Places 16,⟨Bv c.Field.toNat (Qn c.Mix)⟩,⟨Bv c.Field.toNat (Qn (invM c.Field.toNat c.Mix))⟩,c.Rounds⟩
theorem Q3 {c : GCipher} (h : Yn c = true) : Vf c.Places = true:=by
 unfold Yn at h
 simp only [Bool.and_eq_true] at h
 exact h.1.1.2
theorem AR {c : GCipher} (h : Yn c = true) : 1 ≤ c.Rounds ∧ c.Rounds ≤ 20:=by
 unfold Yn at h
 simp only [Bool.and_eq_true,decide_eq_true_eq] at h
 exact h.1.2
theorem QY (c : GCipher) (h : Yn c = true) : Xt c = some ⟨Wj c⟩:=by
 obtain ⟨m,hm,h1,h2⟩:=Hm h
 have e : c.Field.toNat = m:=by omega
 unfold Xt Wj
 rw [e]
 simp only [hm,z8 m h2 h1,Option.bind_some,AJ,HQ _ (Q3 h),BJ m h2 h1 (Qn c.Mix) c.Mix (Hg _),BJ m h2 h1 (Qn (invM m c.Mix)) (invM m c.Mix) (Hg _)]

def JT (c : GCipher) (n r : Nat) (k f : Nat → UInt8) : Nat → UInt8 :=
 KR (if r < n then V9 c.Field.toNat (Qn c.Mix) (TD c.Places (Q8 c.Box f)) else TD c.Places (Q8 c.Box f)) k
def Jo (c : GCipher) (k f : Nat → UInt8) (n : Nat) : Nat → Nat → UInt8
 | 0=>KR f k
 | r + 1=>JT c n (r + 1) (Tj c.Box k (r + 1)) (Jo c k f n r)
def Kl (c : GCipher) (k f : Nat → UInt8) (n : Nat) : Nat → UInt8:=Jo c k f n n
theorem AT (c : GCipher) (h : Yn c = true) (k f : Nat → UInt8) (n : Nat) (hn : n ≤ 1000) : Vc c (vf 16 k) (vf 16 f) (n : Int) = some (vf 16 (Kl c k f n)):=by
 obtain ⟨m,hm,h1,h2⟩:=Hm h
 have e : c.Field.toNat = m:=by omega
 have hp:=Q3 h
 unfold Vc
 have i0 : idx (Wg c.Box k n) (0 : Int) = some (vf 16 k):=K1 c.Box k (Nat.zero_le n)
 simp only [jI c k n hn,Option.bind_some,i0,Hq]
 have:=Z5 (f:=XQ c (n : Int) (Wg c.Box k n)) (fun i : Nat=>(vf 16 (Jo c k f n (i - 1)),(i : Int))) 1 (n + 1) (by omega) (t:=vf 16 (Kl c k f n)) (fun i hi1 hi=>by
  unfold XQ
  obtain ⟨r,rfl⟩ : ∃ q,i = q + 1:=⟨i - 1,by omega⟩
  have e1 : decide (((r + 1 : Nat) : Int) ≤ (n : Int)) = true:=by simp only [decide_eq_true_eq]; omega
  have Xm:=qM m h2 h1 (Qn c.Mix) (TD c.Places (Q8 c.Box (Jo c k f n r)))
  rw [← Hg] at Xm
  simp only [Nat.add_sub_cancel,e1,if_true,yT,Option.bind_some,jN c.Places hp,hm,Xm,K1 c.Box k (show r + 1 ≤ n by omega),YS (show r + 1 < 9223372036854775807 by omega)]
  by_cases hr : r + 1 < n
  ·have e2 : decide (((r + 1 : Nat) : Int) < (n : Int)) = true:=by simp only [decide_eq_true_eq]; omega
   simp only [e2,if_true,Option.bind_some,Hq,Jo,JT,hr,e]
  ·have e2 : decide (((r + 1 : Nat) : Int) < (n : Int)) = false:=by simp only [decide_eq_false_iff_not]; omega
   simp only [e2,Bool.false_eq_true,if_false,Option.bind_some,Hq,Jo,JT,hr]) (by
  unfold XQ
  have e1 : decide (((n + 1 : Nat) : Int) ≤ (n : Int)) = false:=by simp only [decide_eq_false_iff_not]; omega
  simp only [e1,Bool.false_eq_true,if_false,Nat.add_sub_cancel,Kl])
 have h3 : ZK (XQ c (n : Int) (Wg c.Box k n)) (vf 16 (KR f k),1) = _:=this
 rw [h3]; rfl
theorem yI (e : Ref Gengine) (s : Blk × Int) (f : Nat → UInt8) (hs : s.1 = vf 16 f) : ZK (Ys e s) (vf 16 f,0) = some (vf 16 (Q8 e.v.box f)):=by
 have:=VT (Ys e s) f (Q8 e.v.box f) (by omega) 0 (by omega) (fun j hj=>by omega) (fun i _ hi a _ ha=>by
  unfold Ys
  simp only [hs,Hj hi,if_true,ZU _ hi,Option.bind_some,Int.toNat_natCast,TC,Q8]) (fun v=>by unfold Ys; simp)
 exact this
theorem Ae (c : GCipher) (h : Yn c = true) (k f : Nat → UInt8) (n : Nat) (hn : n ≤ 1000) : YY ⟨Wj c⟩ (Wg c.Box k n) (vf 16 f) = some (vf 16 (Kl c k f n)):=by
 have hp:=Q3 h
 unfold YY
 have i0 : idx (Wg c.Box k n) (0 : Int) = some (vf 16 k):=K1 c.Box k (Nat.zero_le n)
 simp only [Option.bind_some,i0,QW]
 have:=Z5 (f:=Yr ⟨Wj c⟩ (Wg c.Box k n)) (fun i : Nat=>(vf 16 (Jo c k f n (i - 1)),(i : Int))) 1 (n + 1) (by omega) (t:=vf 16 (Kl c k f n)) (fun i hi1 hi=>by
  unfold Yr
  obtain ⟨r,rfl⟩ : ∃ q,i = q + 1:=⟨i - 1,by omega⟩
  have e1 : decide (((r + 1 : Nat) : Int) < ((Wg c.Box k n).length : Int)) = true:=by rw [K2]; simp only [decide_eq_true_eq]; omega
  have e3 : wr (((Wg c.Box k n).length : Int) - 1) = (n : Int):=by rw [K2,XB (by omega)]; omega
  have hb:=yI ⟨Wj c⟩ (vf 16 (Jo c k f n r),((r + 1 : Nat) : Int)) (Jo c k f n r) rfl
  have hmv:=v_move c.Places hp (Q8 c.Box (Jo c k f n r))
  have Xm:=v_mix c.Field.toNat (Qn c.Mix) (TD c.Places (Q8 c.Box (Jo c k f n r)))
  have hsl : ∀ g : Nat → UInt8,slc (vf 16 g).toList (0 : Int) (16 : Int) = some (vf 16 g).toList:=fun g=>by
   have:=KZ (l:=(vf 16 g).toList) (i:=0) (j:=16) (by omega) (by simp)
   simp only [List.drop_zero] at this
   rw [List.take_of_length_le (by simp)] at this
   exact this
  have q1 : (Wj c).box = c.Box:=rfl
  have q2 : (Wj c).places = c.Places:=rfl
  have q3 : (Wj c).mixer = ⟨Bv c.Field.toNat (Qn c.Mix)⟩:=rfl
  simp only [q1] at hb
  simp only [Nat.add_sub_cancel,e1,if_true,hb,Option.bind_some,q2,q3,hmv,e3,hsl,Xm,K1 c.Box k (show r + 1 ≤ n by omega),YS (show r + 1 < 9223372036854775807 by omega)]
  by_cases hr : r + 1 < n
  ·have e2 : decide (((r + 1 : Nat) : Int) < (n : Int)) = true:=by simp only [decide_eq_true_eq]; omega
   simp only [e2,if_true,Option.bind_some,QW,Jo,JT,hr]
  ·have e2 : decide (((r + 1 : Nat) : Int) < (n : Int)) = false:=by simp only [decide_eq_false_iff_not]; omega
   simp only [e2,Bool.false_eq_true,if_false,Option.bind_some,QW,Jo,JT,hr]) (by
  unfold Yr
  have e1 : decide (((n + 1 : Nat) : Int) < ((Wg c.Box k n).length : Int)) = false:=by rw [K2]; simp only [decide_eq_false_iff_not]; omega
  simp only [e1,Bool.false_eq_true,if_false,Nat.add_sub_cancel,Kl])
 have h3 : ZK (Yr ⟨Wj c⟩ (Wg c.Box k n)) (vf 16 (KR f k),1) = _:=this
 rw [h3]; rfl
def Z3 (c : GCipher) (i n : Int) : Int:=if Yn c then (if decide (0 ≤ n ∧ n ≤ c.Rounds) && decide (0 ≤ i ∧ i ≤ 15) then 0 else 2) else 1
theorem KB (c : GCipher) (i n : Int) : XX c i n = some (Z3 c i n):=by
 unfold XX Uq Wq Z3
 simp only [JO,Qu,Option.bind_some]
 cases Yn c
 ·rfl
 ·cases decide (0 ≤ n ∧ n ≤ c.Rounds)
  ·rfl
  ·cases decide (0 ≤ i ∧ i ≤ 15) <;> rfl
theorem Kk (c : GCipher) (i n : Int) : XK c i n = some (Z3 c i n):=by
 unfold XK To Z3
 simp only [jg,Hx,Option.bind_some]
 cases Yn c
 ·rfl
 ·cases decide (0 ≤ n ∧ n ≤ c.Rounds)
  ·cases decide (0 ≤ i ∧ i ≤ 15) <;> rfl
  ·cases decide (0 ≤ i ∧ i ≤ 15) <;> rfl
theorem JK {c : GCipher} {i n : Int} (h : Z3 c i n = 0) : Yn c = true ∧ (∃ p : Nat,i = p ∧ p < 16) ∧ ∃ r : Nat,n = r ∧ r ≤ 20:=by
 unfold Z3 at h
 split at h
 ·rename_i hc
  split at h
  ·rename_i hx
   simp only [Bool.and_eq_true,decide_eq_true_eq] at hx
   have:=AR hc
   exact ⟨hc,⟨i.toNat,by omega,by omega⟩,n.toNat,by omega,by omega⟩
  ·cases h
 ·cases h

def Ua (f : Nat → UInt8) (i y : Nat) : Nat → UInt8:=fun j=>if j = i then ZH (y : Int) else f j
def K4 (c : GCipher) (k f : Nat → UInt8) (i n m : Nat) : List Blk:=(List.range m).map fun y=>vf 16 (Kl c k (Ua f i y) n)
theorem J5 (c : GCipher) (k f : Nat → UInt8) (i n m : Nat) : (K4 c k f i n m).length = m:=by simp [K4]
theorem AY (c : GCipher) (k f : Nat → UInt8) (i n m : Nat) : K4 c k f i n (m + 1) = K4 c k f i n m ++ [vf 16 (Kl c k (Ua f i m) n)]:=by
 unfold K4
 rw [List.range_succ,List.map_append]; rfl
def preF (f : Nat → UInt8) (i : Nat) : Nat → Nat → UInt8
 | 0=>f
 | y + 1=>Ua f i y
theorem ji (f : Nat → UInt8) (i y : Nat) : (vf 16 (preF f i y)).setIfInBounds i (ZH (y : Int)) = vf 16 (Ua f i y):=by
 rw [V0]
 refine X0 fun j _=>?_
 cases y with
 | zero=>rfl
 | succ y =>
  by_cases h : j = i
  ·simp [Ua,h]
  ·simp [Ua,preF,h]
theorem B1 {i : Nat} (h : i < 256) : decide ((i : Int) < 256) = true:=by simp; omega
theorem JZ (c : GCipher) (h : Yn c = true) (k f : Nat → UInt8) (i n : Nat) (hi : i < 16) (hn : n ≤ 1000) : XI ⟨Wj c⟩ (Wg c.Box k n) (vf 16 f) (i : Int) = some (K4 c k f i n 256):=by
 unfold XI
 have:=Z5 (f:=We ⟨Wj c⟩ (Wg c.Box k n) (i : Int)) (fun y : Nat=>(vf 16 (preF f i y),(y : Int),K4 c k f i n y)) 0 256 (by omega) (t:=K4 c k f i n 256) (fun y _ hy=>by
  unfold We
  have e2 : app 16 (K4 c k f i n y) [vf 16 (Kl c k (Ua f i y) n)] = _:=JM (by rw [J5]; simp; omega)
  simp only [B1 hy,if_true,ZU _ hi,Option.bind_some,Int.toNat_natCast,ji,Ae c h k _ n hn,e2,YS (show y < 9223372036854775807 by omega),AY]
  rfl) (by unfold We; simp)
 have h2 : ZK (We ⟨Wj c⟩ (Wg c.Box k n) (i : Int)) (vf 16 f,0,[]) = _:=this
 rw [h2]; rfl
theorem qI (c : GCipher) (h : Yn c = true) (k f : Nat → UInt8) (i n : Nat) (hi : i < 16) (hn : n ≤ 1000) : Xi c (vf 16 k) (vf 16 f) (i : Int) (n : Int) = some (K4 c k f i n 256):=by
 unfold Xi
 have:=Z5 (f:=VP c (vf 16 k) (i : Int) (n : Int)) (fun y : Nat=>(vf 16 (preF f i y),K4 c k f i n y,(y : Int))) 0 256 (by omega) (t:=K4 c k f i n 256) (fun y _ hy=>by
  unfold VP
  have e2 : app 16 (K4 c k f i n y) [vf 16 (Kl c k (Ua f i y) n)] = _:=JM (by rw [J5]; simp; omega)
  simp only [B1 hy,if_true,ZU _ hi,Option.bind_some,Int.toNat_natCast,ji,AT c h k _ n hn,e2,YS (show y < 9223372036854775807 by omega),AY]
  rfl) (by unfold VP; simp)
 have h2 : ZK (VP c (vf 16 k) (i : Int) (n : Int)) (vf 16 f,[],0) = _:=this
 rw [h2]; rfl
theorem Ay (c : GCipher) (k : Nat → UInt8) (n : Nat) (hn : n ≤ 1000) : Y6 ⟨Wj c⟩ (vf 16 k) (n : Int) = some (Wg c.Box k n):=v_keys ⟨Wj c⟩ k n hn
theorem qX (c : GCipher) (h : Yn c = true) (k f : Nat → UInt8) (i n : Nat) (hi : i < 16) (hn : n ≤ 1000) : VD c (vf 16 k) (vf 16 f) (i : Int) (n : Int) = some (K4 c k f i n 256):=by
 unfold VD
 simp only [QY c h,Option.bind_some,Ay c k n hn,JZ c h k f i n hi hn]
def WQ (c : GCipher) (key block : Blk) (i n : Int) : List Blk:=K4 c (bf key) (bf block) i.toNat n.toNat 256
theorem zN {c : GCipher} {key block : Blk} {i n : Int} (h : Z3 c i n = 0) : VD c key block i n = some (WQ c key block i n):=by
 obtain ⟨hc,⟨p,rfl,hp⟩,r,rfl,hr⟩:=JK h
 have:=qX c hc (bf key) (bf block) p r hp (by omega)
 rw [← KK,← KK] at this
 exact this
theorem Kg {c : GCipher} {key block : Blk} {i n : Int} (h : Z3 c i n = 0) : Xi c key block i n = some (WQ c key block i n):=by
 obtain ⟨hc,⟨p,rfl,hp⟩,r,rfl,hr⟩:=JK h
 have:=qI c hc (bf key) (bf block) p r hp (by omega)
 rw [← KK,← KK] at this
 exact this
def TY (c : GCipher) (key block : Blk) (i n : Int) : List Blk × Int:=if Z3 c i n != 0 then ([],Z3 c i n) else (WQ c key block i n,0)
theorem zW (c : GCipher) (key block : Blk) (i n : Int) : TA c key block i n = some (TY c key block i n):=by
 unfold TA TY
 simp only [Kk,Option.bind_some]
 by_cases h0 : Z3 c i n = 0
 ·simp [h0,Kg h0]
 ·have : (Z3 c i n != 0) = true:=by simpa using h0
  simp [this]
theorem zo (c : GCipher) (key block : Blk) (i n : Int) : Tp c key block i n = some (TY c key block i n):=by
 unfold Tp TY
 simp only [KB,Option.bind_some]
 by_cases h0 : Z3 c i n = 0
 ·simp [h0,zN h0]
 ·have : (Z3 c i n != 0) = true:=by simpa using h0
  simp [this]
theorem BM (c : GCipher) (key block : Blk) (i n : Int) : (TY c key block i n).1.length ≤ 256:=by
 unfold TY
 split
 ·simp
 ·unfold WQ; rw [J5]; omega
def AL (a b : Blk) : Blk:=vf 16 (KR (bf a) (bf b))
theorem v_XorB (a b : Blk) : Xr a b = some (AL a b):=by
 have:=QW (bf a) (bf b)
 rw [← KK,← KK] at this
 exact this
theorem jJ (a b : Blk) : WW a b = some (AL a b):=by
 have:=Hq (bf a) (bf b)
 rw [← KK,← KK] at this
 exact this
def AQ (l : List Blk) : Blk:=l.foldl AL (Vector.replicate 16 0)
theorem k9 (l : List Blk) (h : l.length < 9223372036854775807) : ZK (VQ l) (Vector.replicate 16 0,0) = some (AQ l) :=
 Ke l (fun b i=>(b,i)) AL (Vector.replicate 16 0) h (fun i hi=>by
  unfold VQ
  simp only [Int.ofNat_lt,hi,decide_true,if_true,Xx,List.getElem?_eq_getElem hi,Option.bind_some,v_XorB]) (by unfold VQ; simp [AQ])
theorem qz (l : List Blk) (h : l.length < 9223372036854775807) : ZK (VW l) (Vector.replicate 16 0,0) = some (AQ l) :=
 Ke l (fun b i=>(b,i)) AL (Vector.replicate 16 0) h (fun i hi=>by
  unfold VW
  simp only [Int.ofNat_lt,hi,decide_true,if_true,Xx,List.getElem?_eq_getElem hi,Option.bind_some,jJ]) (by unfold VW; simp [AQ])
theorem TO (c : GCipher) (key block : Blk) (i n : Int) : (WQ c key block i n).length = 256:=J5 _ _ _ _ _ _
def QN (c : GCipher) (key block : Blk) (i n : Int) : Blk × Int:=if Z3 c i n != 0 then (Vector.replicate 16 0,Z3 c i n) else (AQ (WQ c key block i n),0)
theorem Bu (c : GCipher) (key block : Blk) (i n : Int) : Uj c key block i n = some (QN c key block i n):=by
 unfold Uj QN
 simp only [Kk,Option.bind_some]
 by_cases h0 : Z3 c i n = 0
 ·simp [h0,Kg h0,qz _ (show (WQ c key block i n).length < 9223372036854775807 by rw [TO]; omega)]
 ·have : (Z3 c i n != 0) = true:=by simpa using h0
  simp [this]
theorem Qf (c : GCipher) (key block : Blk) (i n : Int) : WG c key block i n = some (QN c key block i n):=by
 unfold WG QN
 simp only [KB,Option.bind_some]
 by_cases h0 : Z3 c i n = 0
 ·simp [h0,zN h0,k9 _ (show (WQ c key block i n).length < 9223372036854775807 by rw [TO]; omega)]
 ·have : (Z3 c i n != 0) = true:=by simpa using h0
  simp [this]
def Xo (p : Nat → Bool) (n : Nat) : List Int:=((List.range n).filter p).map fun i : Nat=>(i : Int)
theorem TQ (p : Nat → Bool) (n : Nat) : Xo p (n + 1) = if p n then Xo p n ++ [(n : Int)] else Xo p n:=by
 unfold Xo
 rw [List.range_succ,List.filter_append,List.map_append]
 cases h : p n <;> simp [h]
theorem TT (p : Nat → Bool) (n : Nat) : (Xo p n).length ≤ n:=by
 unfold Xo
 rw [List.length_map]
 have:=List.length_filter_le p (List.range n)
 simpa using this
theorem Hp (p : Nat → Bool) (n : Nat) (h : n ≤ 1000000) : app 8 (Xo p n) [(n : Int)] = some (Xo p n ++ [(n : Int)]):=JM (by have:=TT p n; simp; omega)

def yK (inv : Vector UInt8 256) (l : List Blk) (j g : Nat) : UInt8:=l.foldl (fun s b=>s ^^^ VG inv (bf b j ^^^ ZH (g : Int))) 0
def Je (inv : Vector UInt8 256) (l : List Blk) (j g : Nat) : Bool:=yK inv l j g == 0
theorem qF (e : Ref Gengine) (l : List Blk) (j : Nat) (hj : j < 16) (hl : l.length < 9223372036854775807) (o : List Int) (g : Nat) : ZK (Xj e l (j : Int) ((g : Int),o)) (0,0) = some (yK e.v.backBox l j g) :=
 Ke l (fun b i=>(i,b)) (fun s b=>s ^^^ VG e.v.backBox (bf b j ^^^ ZH (g : Int))) 0 hl (fun i hi=>by
  unfold Xj
  simp only [Int.ofNat_lt,hi,decide_true,if_true,Xx,List.getElem?_eq_getElem hi,Option.bind_some,TW _ hj,TC]) (by unfold Xj; simp [yK])
theorem H7 (e : Ref Gengine) (l : List Blk) (j : Nat) (hj : j < 16) (hl : l.length < 9223372036854775807) : Yx e l (j : Int) = some (Xo (Je e.v.backBox l j) 256):=by
 unfold Yx
 have:=Z5 (f:=YP e l (j : Int)) (fun g : Nat=>((g : Int),Xo (Je e.v.backBox l j) g)) 0 256 (by omega) (t:=Xo (Je e.v.backBox l j) 256) (fun g _ hg=>by
  unfold YP
  simp only [B1 hg,if_true,qF e l j hj hl _ g,Option.bind_some,Hp _ g (by omega),YS (show g < 9223372036854775807 by omega),TQ]
  have e0 : (yK e.v.backBox l j g == 0) = Je e.v.backBox l j g:=rfl
  rw [e0]
  cases Je e.v.backBox l j g <;> rfl) (by unfold YP; simp)
 have h2 : ZK (YP e l (j : Int)) (0,[]) = _:=this
 rw [h2]; rfl
theorem qp (inv : Vector UInt8 256) (l : List Blk) (j : Nat) (hj : j < 16) (hl : l.length < 9223372036854775807) (o : Vector Bool 256) (g : Nat) : ZK (Vz l (j : Int) inv (o,(g : Int))) (0,0) = some (yK inv l j g) :=
 Ke l (fun b i=>(b,i)) (fun s b=>s ^^^ VG inv (bf b j ^^^ ZH (g : Int))) 0 hl (fun i hi=>by
  unfold Vz
  simp only [Int.ofNat_lt,hi,decide_true,if_true,Xx,List.getElem?_eq_getElem hi,Option.bind_some,TW _ hj,TC]) (by unfold Vz; simp [yK])
theorem Be (c : GCipher) (l : List Blk) (j : Nat) (hj : j < 16) (hl : l.length < 9223372036854775807) : Xs c l (j : Int) = some (vf 256 (Je (V6 256 c.Box 256) l j)):=by
 unfold Xs
 have:=Z5 (f:=WF l (j : Int) (V6 256 c.Box 256)) (fun g : Nat=>(vf 256 (fun x=>if x < g then Je (V6 256 c.Box 256) l j x else false),(g : Int))) 0 256 (by omega) (t:=vf 256 (Je (V6 256 c.Box 256) l j)) (fun g _ hg=>by
  unfold WF
  simp only [B1 hg,if_true,qp (V6 256 c.Box 256) l j hj hl _ g,Option.bind_some,ZU _ hg,Int.toNat_natCast,V0,YS (show g < 9223372036854775807 by omega)]
  refine congrArg (fun z=>some (Fl.nx (z,((g + 1 : Nat) : Int)))) (X0 fun x _=>?_)
  by_cases h : x = g
  ·subst h; simp [Je]
  ·by_cases h2 : x < g
   ·rw [if_neg h,if_pos h2,if_pos (by omega)]
   ·rw [if_neg h,if_neg h2,if_neg (by omega)]) (by
  unfold WF
  have e : (vf 256 fun x=>if x < 256 then Je (V6 256 c.Box 256) l j x else false) = vf 256 (Je (V6 256 c.Box 256) l j):=X0 fun x hx=>by rw [if_pos hx]
  simp only [e]; simp)
 have e0 : (vf 256 fun x=>if x < 0 then Je (V6 256 c.Box 256) l j x else false) = Vector.replicate 256 false:=by rw [TG]; exact X0 fun x _=>by rw [if_neg (by omega)]
 simp only [e0] at this
 have h2 : ZK (WF l (j : Int) (V6 256 c.Box 256)) (Vector.replicate 256 false,0) = _:=this
 rw [zw,Option.bind_some,h2]; rfl
theorem Aw (p : Nat → Bool) : Vl (vf 256 p) = some (Xo p 256):=by
 unfold Vl
 have:=Z5 (f:=WZ (vf 256 p)) (fun g : Nat=>(Xo p g,(g : Int))) 0 256 (by omega) (t:=Xo p 256) (fun g _ hg=>by
  unfold WZ
  simp only [B1 hg,if_true,ZU _ hg,Option.bind_some,Hp _ g (by omega),YS (show g < 9223372036854775807 by omega),TQ]
  cases p g <;> rfl) (by unfold WZ; simp)
 have h2 : ZK (WZ (vf 256 p)) ([],0) = _:=this
 rw [h2]; rfl
def BD (c : GCipher) (l : List Blk) (j : Int) : Int:=if Yn c then (if decide (1 ≤ l.length ∧ l.length ≤ 256) && decide (0 ≤ j ∧ j ≤ 15) then 0 else 2) else 1
def Jg (c : GCipher) (l : List Blk) (j : Int) : List Int × Int:=if BD c l j = 0 then (Xo (Je (V6 256 c.Box 256) l j.toNat) 256,0) else ([],BD c l j)
theorem Jx (l : List Blk) : Xl l = some (l.length : Int):=rfl
theorem KQ (c : GCipher) (l : List Blk) (j : Int) : X4 c l j = some (Jg c l j):=by
 unfold X4 Jg BD Wq
 simp only [JO,Jx,Qu,Option.bind_some]
 cases hc : Yn c
 ·rfl
 ·have e1 : decide ((1 : Int) ≤ (l.length : Int) ∧ (l.length : Int) ≤ 256) = decide (1 ≤ l.length ∧ l.length ≤ 256):=decide_eq_decide.2 (by omega)
  rw [e1]
  by_cases hl : 1 ≤ l.length ∧ l.length ≤ 256
  ·by_cases hj : 0 ≤ j ∧ j ≤ 15
   ·obtain ⟨n,rfl⟩ : ∃ n : Nat,j = n:=⟨j.toNat,by omega⟩
    have hr:=H7 ⟨Wj c⟩ l n (by omega) (by omega)
    have e2 : (Wj c).backBox = V6 256 c.Box 256:=rfl
    rw [e2] at hr
    simp [hl,hj,QY c hc,hr]
   ·simp [hl,hj]
  ·simp [hl]
theorem KS (c : GCipher) (l : List Blk) (j : Int) : X6 c l j = some (Jg c l j):=by
 unfold X6 Jg BD
 simp only [jg,Hx,Option.bind_some]
 cases hc : Yn c
 ·rfl
 ·by_cases h1 : (l.length : Int) < 1
  ·have : ¬ (1 ≤ l.length ∧ l.length ≤ 256):=by omega
   simp [h1,this]
  ·by_cases h2 : (l.length : Int) > 256
   ·have : ¬ (1 ≤ l.length ∧ l.length ≤ 256):=by omega
    simp [h1,h2,this]
   ·have hl : 1 ≤ l.length ∧ l.length ≤ 256:=by omega
    by_cases hj : 0 ≤ j ∧ j ≤ 15
    ·obtain ⟨n,rfl⟩ : ∃ n : Nat,j = n:=⟨j.toNat,by omega⟩
     simp [h1,h2,hl,hj,Be c l n (by omega) (by omega),Aw]
    ·simp [h1,h2,hl,hj]
theorem yN (c : GCipher) (l : List Blk) (j : Int) : (Jg c l j).1.length ≤ 256:=by
 unfold Jg
 split
 ·exact TT _ _
 ·simp
def Uw (l : List Blk) (j : Nat) : List UInt8:=l.map fun b=>bf b j
theorem kO (l : List Blk) (j : Nat) {i : Nat} (h : i < l.length) : (Uw l j)[i]'(by simpa [Uw] using h) = bf l[i] j:=by simp [Uw]
theorem jQ (l : List Blk) (j : Nat) {i : Nat} (h : i < l.length) : (Uw l j).getD i 0 = bf l[i] j:=by simp [Uw,List.getD_eq_getElem?_getD,h]
theorem z5 (l : List Blk) (j : Nat) {i : Nat} (h : i < l.length) : (fun b=>if b = (bf l[i] j).toNat then true else XW (Uw l j) i b) = XW (Uw l j) (i + 1):=by
 have:=Ji (Uw l j) (i:=i) (by simpa [Uw] using h)
 rw [kO l j h] at this
 exact this
theorem ki (l : List UInt8) (h : l.length = 256) : (!(vf 256 (XW l 256)).toList.contains false) = WR l:=by
 rw [Bool.eq_iff_iff]
 have hp:=J0 (l.map UInt8.toNat) 256 (by simpa using h) (fun x hx=>by obtain ⟨y,_,rfl⟩:=List.mem_map.1 hx; exact UInt8.toNat_lt y)
 rw [QZ] at hp
 unfold WR
 rw [decide_eq_true_iff,hp,Bool.not_eq_true',List.contains_eq_any_beq,List.any_eq_false]
 have hseen : ∀ b,XW l 256 b = true ↔ b ∈ l.map UInt8.toNat:=fun b=>by
  unfold XW
  rw [List.take_of_length_le (by omega),List.any_eq_true,List.mem_map]
  refine exists_congr fun x=>and_congr_right fun _=>?_
  exact beq_iff_eq
 constructor
 ·intro h b hb
  rw [← hseen]
  have e : (vf 256 (XW l 256)).toList[b]? = some (XW l 256 b):=by rw [Vector.getElem?_toList]; exact UN _ hb
  have:=h _ (List.mem_of_getElem? e)
  generalize XW l 256 b = q at this
  cases q
  ·exact absurd rfl this
  ·rfl
 ·intro h x hx
  obtain ⟨b,hb⟩:=List.mem_iff_getElem?.1 hx
  have hb' : b < 256:=by have:=(List.getElem?_eq_some_iff.1 hb).1; rwa [Vector.length_toList] at this
  rw [Vector.getElem?_toList,UN _ hb',(hseen b).2 (h b hb')] at hb
  cases hb
  simp
theorem jS (l : List Blk) (j : Nat) (hj : j < 16) (hl : l.length < 9223372036854775807) (o : List Int) : ZK (YC l (o,(j : Int))) (Vector.replicate 256 false,0) = some (vf 256 (XW (Uw l j) l.length)):=by
 have:=Z5 (f:=YC l (o,(j : Int))) (fun i : Nat=>(vf 256 (XW (Uw l j) i),(i : Int))) 0 l.length (Nat.zero_le _) (t:=vf 256 (XW (Uw l j) l.length)) (fun i _ hi=>by
  unfold YC
  simp only [Int.ofNat_lt,hi,decide_true,if_true,Xx,List.getElem?_eq_getElem hi,Option.bind_some,TW _ hj,Ki 256 _ _ (UInt8.toNat_lt _),T0,V0,z5 l j hi,YS (show i < 9223372036854775807 by omega)]) (by unfold YC; simp)
 rw [Q9 256 (Uw l j)]
 exact this
def JC (l : List UInt8) (i : Nat) : Bool:=!((List.range' 0 i).any fun k=>XW l k (l.getD k 0).toNat)
theorem yr (l : List UInt8) (i : Nat) : JC l (i + 1) = (JC l i && !XW l i (l.getD i 0).toNat):=by
 unfold JC
 rw [List.range'_1_concat,List.any_append]
 simp
theorem yZ (l : List Blk) (h256 : l.length = 256) (j : Nat) (hj : j < 16) (o : List Int) : ZK (Yy l (o,(j : Int))) (Vector.replicate 256 false,true,0) = some (WR (Uw l j)):=by
 have hcl : (Uw l j).length = 256:=by simpa [Uw] using h256
 have hend : JC (Uw l j) 256 = WR (Uw l j):=by
  have:=AA (Uw l j)
  rw [hcl] at this
  unfold JC
  rw [show (256 - 0) = 256 from rfl] at this
  rw [this]; simp
 have:=Z5 (f:=Yy l (o,(j : Int))) (fun i : Nat=>(vf 256 (XW (Uw l j) i),JC (Uw l j) i,(i : Int))) 0 256 (by omega) (t:=WR (Uw l j)) (fun i _ hi=>by
  have hi' : i < l.length:=by omega
  unfold Yy
  have e:=jQ l j hi'
  simp only [B1 hi,if_true,Xx,List.getElem?_eq_getElem hi',Option.bind_some,TW _ hj,Ki 256 _ _ (UInt8.toNat_lt _),T0,V0,z5 l j hi',YS (show i < 9223372036854775807 by omega),yr,e]
  cases JC (Uw l j) i <;> simp) (by
  unfold Yy
  simp only [hend]; simp)
 rw [Q9 256 (Uw l j)]
 exact this
def J1 (l : List Blk) : List Int:=Xo (fun j=>WR (Uw l j)) 16
theorem kr (l : List Blk) (h256 : l.length = 256) : ZK (YA l) ([],0) = some (J1 l):=by
 have:=Z5 (f:=YA l) (fun g : Nat=>(Xo (fun j=>WR (Uw l j)) g,(g : Int))) 0 16 (by omega) (t:=J1 l) (fun g _ hg=>by
  have e1 : slc (vf 256 (XW (Uw l g) 256)).toList (0 : Int) (256 : Int) = some (vf 256 (XW (Uw l g) 256)).toList:=by
   have:=KZ (l:=(vf 256 (XW (Uw l g) 256)).toList) (i:=0) (j:=256) (by omega) (by simp)
   simp only [List.drop_zero] at this
   rw [List.take_of_length_le (by simp)] at this
   exact this
  have hlt : (vf 256 (XW (Uw l g) 256)).toList.length < 9223372036854775807:=by rw [Vector.length_toList]; omega
  have hm:=ki (Uw l g) (by simpa [Uw] using h256)
  unfold YA
  simp only [Hj hg,if_true,jS l g hg (by omega),h256,Option.bind_some,e1,Bd _ hlt,hm,Hp _ g (by omega),YS (show g < 9223372036854775807 by omega),TQ]
  cases WR (Uw l g) <;> rfl) (by unfold YA; simp [J1])
 exact this
theorem ke (l : List Blk) (h256 : l.length = 256) : ZK (Yz l) ([],0) = some (J1 l):=by
 have:=Z5 (f:=Yz l) (fun g : Nat=>(Xo (fun j=>WR (Uw l j)) g,(g : Int))) 0 16 (by omega) (t:=J1 l) (fun g _ hg=>by
  unfold Yz
  simp only [Hj hg,if_true,yZ l h256 g hg,Option.bind_some,Hp _ g (by omega),YS (show g < 9223372036854775807 by omega),TQ]
  cases WR (Uw l g) <;> rfl) (by unfold Yz; simp [J1])
 exact this
theorem ky (l : List Blk) : (J1 l).length ≤ 16:=TT _ _
def Q7 (c : GCipher) (key block : Blk) (i n : Int) : List Int × Int:=if Z3 c i n != 0 then ([],Z3 c i n) else (J1 (WQ c key block i n),0)
theorem QM (c : GCipher) (key block : Blk) (i n : Int) : Xc c key block i n = some (Q7 c key block i n):=by
 unfold Xc Q7
 simp only [Kk,Option.bind_some]
 by_cases h0 : Z3 c i n = 0
 ·simp [h0,Kg h0,ke _ (TO c key block i n)]
 ·have : (Z3 c i n != 0) = true:=by simpa using h0
  simp [this]
theorem QK (c : GCipher) (key block : Blk) (i n : Int) : Xd c key block i n = some (Q7 c key block i n):=by
 unfold Xd Q7
 simp only [KB,Option.bind_some]
 by_cases h0 : Z3 c i n = 0
 ·simp [h0,zN h0,kr _ (TO c key block i n)]
 ·have : (Z3 c i n != 0) = true:=by simpa using h0
  simp [this]
theorem yp (c : GCipher) (key block : Blk) (i n : Int) : (Q7 c key block i n).1.length ≤ 256:=by
 unfold Q7
 split
 ·simp
 ·have:=ky (WQ c key block i n)
  generalize J1 (WQ c key block i n) = q at this ⊢
  exact Nat.le_trans this (by omega)
def tab (n : Nat) (f : Nat → UInt8) : List UInt8:=(List.range n).map f
@[simp] theorem tab_len (n : Nat) (f : Nat → UInt8) : (tab n f).length = n:=by simp [tab]
def JP (k : Nat) (b : UInt8) : UInt8:=shlB b (k : Int) ||| B8 b ((8 - k : Nat) : Int)
theorem v_rot1 (b : UInt8) : Ym b 1 = some (JP 1 b):=by
 have e1 : wru (BitVec.ofInt 64 (IntKind.u64.wrap 1) &&& BitVec.ofInt 64 7).toNat = 1:=by decide +kernel
 have e2 : IntKind.u64.wrap (8 - 1) = 7:=by decide +kernel
 have e3 : XE 1 = some ():=rfl
 have e4 : XE 7 = some ():=rfl
 unfold Ym
 simp only [e1,e2,e3,e4,Option.bind_some]
 rfl
theorem v_rot4 (b : UInt8) : Ym b 4 = some (JP 4 b):=by
 have e1 : wru (BitVec.ofInt 64 (IntKind.u64.wrap 4) &&& BitVec.ofInt 64 7).toNat = 4:=by decide +kernel
 have e2 : IntKind.u64.wrap (8 - 4) = 4:=by decide +kernel
 have e3 : XE 4 = some ():=rfl
 unfold Ym
 simp only [e1,e2,e3,Option.bind_some]
 rfl
def BP (k : Nat) (b : UInt8) : UInt8:=ZH (andI (orI (K0 (bI b) (k : Int)) (Kh (K0 (bI b) (k : Int)) 8)) 255)
theorem B6 {p : UInt8 → Bool} (h : ((List.range 256).all fun n=>p (UInt8.ofNat n)) = true) (b : UInt8) : p b = true:=by
 have:=List.all_eq_true.1 h b.toNat (by simpa using UInt8.toNat_lt b)
 simpa using this
theorem turn0 (b : UInt8) : BP 0 b = b:=by
 have:=B6 (p:=fun b=>BP 0 b == b) (by decide +kernel) b
 simpa using this
theorem turn1 (b : UInt8) : BP 1 b = JP 1 b:=by
 have:=B6 (p:=fun b=>BP 1 b == JP 1 b) (by decide +kernel) b
 simpa using this
theorem turn4 (b : UInt8) : BP 4 b = JP 4 b:=by
 have:=B6 (p:=fun b=>BP 4 b == JP 4 b) (by decide +kernel) b
 simpa using this
theorem zt (b : UInt8) (k : Nat) (h : k < 64) : Wr b (k : Int) = some (BP k b):=by
 have e1 : IntKind.u64.wrap (k : Int) = (k : Int):=yP k (by omega)
 unfold Wr
 rw [e1]
 have e2 : XE (k : Int) = some ():=by unfold XE; rw [if_pos (by omega)]
 rw [e2]; rfl
def HP (x : UInt8) : UInt8:=((Ui 285 x ^^^ JP 1 (Ui 285 x)) ^^^ JP 4 (Ui 285 x)) ^^^ 90
def ZM (n : Int) : GCipher:=⟨285,vf 256 fun x=>HP (UInt8.ofNat x),mf fun i j=>Ui 285 (UInt8.ofNat (i ^^^ (4 + j))),vf 16 fun i=>UInt8.ofNat ((13 * i + 4) % 16),n⟩
theorem zT {i : Nat} (h : i < 256) : decide ((i : Int) < 256) = true:=by simp; omega
theorem BG (L : Vector UInt8 256 × Int → Option (Fl (Vector UInt8 256 × Int) (Vector UInt8 256))) (h : Nat → UInt8) (hL : ∀ i : Nat,i < 256 → ∀ a : Nat → UInt8,L (vf 256 a,(i : Int)) = some (.nx ((vf 256 a).setIfInBounds i (h i),wr ((i : Int) + 1))))
  (he : ∀ v,L (v,256) = some (.ex v)) : ZK L (Vector.replicate 256 0,0) = some (vf 256 h):=by
 rw [TG]
 exact VT L (fun _=>0) h (by omega) 0 (by omega) (fun j hj=>by omega) (fun i _ hi a _ _=>hL i hi a) he
theorem yB (E : UInt8 → Option UInt8) (hE : ∀ a,E a = some (Ui 285 a)) (L1 : Mat × Int → Mat × Int → Option (Fl (Mat × Int) Mat)) (L0 : Mat × Int → Option (Fl (Mat × Int) Mat))
  (h1 : ∀ s t,L1 s t = if (decide (t.2 < 4)) = true then ((E (ZH (Jn s.2 (wr (4 + t.2))))).bind fun r=>(ZB t.1 s.2).bind fun x=>(ZB x t.2).bind fun _=>some (Fl.nx ((t.1.setIfInBounds (s.2).toNat (x.setIfInBounds (t.2).toNat r)),wr (t.2 + 1)))) else (some (Fl.ex t.1)))
  (h0 : ∀ s,L0 s = if (decide (s.2 < 4)) = true then ((ZK (L1 s) (s.1,0) : Option Mat).bind fun j=>some (Fl.nx (j,wr (s.2 + 1)))) else (some (Fl.ex s.1))) :
  ZK L0 (Vector.replicate 4 (Vector.replicate 4 (0 : UInt8)),0) = some (mf fun i j=>Ui 285 (UInt8.ofNat (i ^^^ (4 + j)))):=by
 have inner : ∀ (i : Nat) (hi : i < 4) (g : MF),ZK (L1 (mf g,(i : Int))) (mf g,0) = some (mf fun r c=>if r = i then Ui 285 (UInt8.ofNat (i ^^^ (4 + c))) else g r c):=by
  intro i hi g
  have:=Z5 (f:=L1 (mf g,(i : Int))) (fun j : Nat=>(mf fun r c=>if r = i ∧ c < j then Ui 285 (UInt8.ofNat (i ^^^ (4 + c))) else g r c,(j : Int))) 0 4 (by omega) (t:=mf fun r c=>if r = i then Ui 285 (UInt8.ofNat (i ^^^ (4 + c))) else g r c) (fun j _ hj=>by
   have e1 : wr (4 + (j : Int)) = ((4 + j : Nat) : Int):=by rw [XB (by omega)]; omega
   rw [h1]
   simp only [lt4 hj,if_true,e1,Kf i (4 + j) (by omega) (by omega),VC,hE,Option.bind_some,Wl _ hi,ZU _ hj,Int.toNat_natCast,V0,Kq,wr4 (show j < 1000 by omega)]
   refine congrArg (fun z=>some (Fl.nx (z,((j + 1 : Nat) : Int)))) (Wb fun r _ c _=>?_)
   by_cases hr : r = i
   ·subst hr
    by_cases hc : c = j
    ·subst hc; simp
    ·by_cases hc2 : c < j
     ·simp [hc,hc2,show c < j + 1 by omega]
     ·simp [hc,hc2,show ¬ c < j + 1 by omega]
   ·simp [hr]) (by
   rw [h1]
   simp only [show decide (((4 : Nat) : Int) < 4) = false from rfl,Bool.false_eq_true,if_false]
   refine congrArg (fun z=>some (Fl.ex z)) (Wb fun r _ c hc=>?_)
   by_cases hr : r = i <;> simp [hr,hc])
  have e0 : (mf fun r c=>if r = i ∧ c < 0 then Ui 285 (UInt8.ofNat (i ^^^ (4 + c))) else g r c) = mf g:=Wb fun r _ c _=>by simp
  simp only [e0] at this
  exact this
 have:=Z5 (f:=L0) (fun i : Nat=>(mf fun r c=>if r < i then Ui 285 (UInt8.ofNat (r ^^^ (4 + c))) else 0,(i : Int))) 0 4 (by omega) (t:=mf fun i j=>Ui 285 (UInt8.ofNat (i ^^^ (4 + j)))) (fun i _ hi=>by
  rw [h0]
  simp only [lt4 hi,if_true,inner i hi,Option.bind_some,wr4 (show i < 1000 by omega)]
  refine congrArg (fun z=>some (Fl.nx (z,((i + 1 : Nat) : Int)))) (Wb fun r _ c _=>?_)
  by_cases hr : r = i
  ·subst hr; simp
  ·by_cases hc2 : r < i
   ·simp [hr,hc2,show r < i + 1 by omega]
   ·simp [hr,hc2,show ¬ r < i + 1 by omega]) (by
  rw [h0]
  simp only [show decide (((4 : Nat) : Int) < 4) = false from rfl,Bool.false_eq_true,if_false]
  exact congrArg (fun z=>some (Fl.ex z)) (Wb fun r hr c hc=>by simp [hr]))
 have e0 : (mf fun r c=>if r < 0 then Ui 285 (UInt8.ofNat (r ^^^ (4 + c))) else 0) = mf fun _ _=>0:=Wb fun r _ c _=>by simp
 simp only [e0] at this
 rw [BF]
 exact this
theorem As (L : Blk × Int → Option (Fl (Blk × Int) Blk))
  (hL : ∀ s,L s = if (decide (s.2 < 16)) = true then ((ZB s.1 s.2).bind fun _=>some (Fl.nx ((s.1.setIfInBounds (s.2).toNat (ZH (Int.tmod (wr ((wr (13 * s.2)) + 4)) 16))),wr (s.2 + 1)))) else (some (Fl.ex s.1))) :
  ZK L (Vector.replicate 16 0,0) = some (vf 16 fun i=>UInt8.ofNat ((13 * i + 4) % 16)):=by
 rw [TG]
 exact VT L (fun _=>0) (fun i=>UInt8.ofNat ((13 * i + 4) % 16)) (by omega) 0 (by omega) (fun j hj=>by omega) (fun i _ hi a _ _=>by
  have e1 : wr (13 * (i : Int)) = 13 * (i : Int):=XB (by omega)
  have e2 : wr (13 * (i : Int) + 4) = ((13 * i + 4 : Nat) : Int):=by rw [XB (by omega)]; omega
  have e3 : Int.tmod ((13 * i + 4 : Nat) : Int) 16 = (((13 * i + 4) % 16 : Nat) : Int):=by rw [Int.tmod_eq_emod_of_nonneg (by omega)]; omega
  rw [hL]
  simp only [Hj hi,if_true,ZU _ hi,Option.bind_some,e1,e2,e3,VC,Int.toNat_natCast]) (fun v=>by rw [hL]; simp)
theorem AU (n : Int) : W9 n = some (ZM n):=by
 have hinv : ∀ a,Yo 285 a = some (Ui 285 a):=fun a=>KI 285 (by omega) a
 have h1:=BG WP (fun x=>HP (UInt8.ofNat x)) (fun i hi a=>by
  unfold WP
  simp only [zT hi,if_true,VC,hinv,v_rot1,v_rot4,Option.bind_some,ZU _ hi,Int.toNat_natCast]
  rfl) (fun v=>by unfold WP; simp)
 have h2:=yB (Yo 285) hinv VI VM (fun s t=>by unfold VI; rfl) (fun s=>by unfold VM; rfl)
 have h3:=As VJ (fun s=>by unfold VJ; rfl)
 unfold W9 ZM
 simp only [h1,h2,h3,Option.bind_some]
theorem qa (L : UInt8 × UInt8 × Int → Option (Fl (UInt8 × UInt8 × Int) UInt8)) (T : UInt8 → UInt8 → Option UInt8) (hT : ∀ a b,T a b = some (ZL 285 a b))
  (hL : ∀ s,L s = if (decide (s.2.2 > 0)) = true then (((if ((Int.tmod s.2.2 2) == 1) = true then ((T s.1 s.2.1).bind fun r=>some r) else (some s.1) : Option UInt8).bind fun j24=>(T s.2.1 s.2.1).bind fun r32=>some (j24,r32) : Option (UInt8 × UInt8)).bind fun j21=>some (Fl.nx (j21.1,j21.2,wr (Int.tdiv s.2.2 2)))) else (some (Fl.ex s.1))) :
  ∀ (f k : Nat) (a o : UInt8),k < 2 ^ f → f ≤ 62 → ZK L (o,a,(k : Int)) = some (Kb 285 f a k o):=by
 intro f
 induction f with
 | zero =>
  intro k a o hk _
  have : k = 0:=by simpa using hk
  subst this
  exact X2 (by rw [hL]; simp [Kb])
 | succ f ih =>
  intro k a o hk hf
  by_cases h0 : k = 0
  ·subst h0
   exact X2 (by rw [hL]; simp [Kb])
  ·have hlt : k < 9223372036854775808:=Nat.lt_of_lt_of_le hk (Nat.pow_le_pow_right (by omega : 0 < 2) (by omega : f + 1 ≤ 63))
   have hst : L (o,a,(k : Int)) = some (.nx (if k % 2 = 1 then ZL 285 o a else o,ZL 285 a a,((k / 2 : Nat) : Int))):=by
    rw [hL]
    have c1 : (k : Int) > 0:=by omega
    have e3 : ((((k % 2 : Nat) : Int)) == 1) = decide (k % 2 = 1):=by
     rw [Bool.eq_iff_iff,beq_iff_eq,decide_eq_true_eq]; omega
    simp only [c1,decide_true,if_true,kP,jk,hT,e3,Option.bind_some,A0 (k / 2) (by omega)]
    by_cases c2 : k % 2 = 1 <;> simp [c2]
   rw [Wy hst,ih (k / 2) _ _ (by rw [Nat.pow_succ] at hk; omega) (by omega)]
   conv=>rhs; unfold Kb
   rw [if_neg h0]
theorem ja : Xn 285 254 = some (vf 256 fun x=>Ui 285 (UInt8.ofNat x)):=by
 have hp:=qa (YO 285) (Ye 285) (Te 285 (by omega) (by omega)) (fun s=>by unfold YO; rfl)
 have hp2 : ∀ a,ZK (YO 285) (1,a,254) = some (Ui 285 a):=fun a=>hp 8 254 a 1 (by omega) (by omega)
 have h1:=BG (Xw 285 254) (fun x=>Ui 285 (UInt8.ofNat x)) (fun i hi a=>by
  unfold Xw
  simp only [zT hi,if_true,VC,hp2,Option.bind_some,ZU _ hi,Int.toNat_natCast]) (fun v=>by unfold Xw; simp)
 unfold Xn
 simp only [h1,Option.bind_some]
def rots (x : UInt8) : UInt8:=((90 ^^^ x) ^^^ JP 1 x) ^^^ JP 4 x
theorem Ak : Yw ([0,1,4] : List Int) 90 = some (vf 256 fun x=>rots (UInt8.ofNat x)):=by
 have t0 : ∀ b,Wr b 0 = some b:=fun b=>by have:=zt b 0 (by omega); rw [turn0] at this; exact this
 have t1 : ∀ b,Wr b 1 = some (JP 1 b):=fun b=>by have:=zt b 1 (by omega); rw [turn1] at this; exact this
 have t4 : ∀ b,Wr b 4 = some (JP 4 b):=fun b=>by have:=zt b 4 (by omega); rw [turn4] at this; exact this
 have w1 : wr 1 = 1:=by decide
 have w2 : wr 2 = 2:=by decide
 have w3 : wr 3 = 3:=by decide
 have hin : ∀ (s : Vector UInt8 256 × Int),ZK (Z4 [0,1,4] s) (90,0) = some (rots (ZH s.2)):=by
  intro s
  rw [Wy (f:=Z4 [0,1,4] s) (s:=(90,0)) (s':=(90 ^^^ ZH s.2,1)) (by unfold Z4; simp [t0,w1,idx])]
  rw [Wy (f:=Z4 [0,1,4] s) (s':=((90 ^^^ ZH s.2) ^^^ JP 1 (ZH s.2),2)) (by unfold Z4; simp [t1,w2,idx])]
  rw [Wy (f:=Z4 [0,1,4] s) (s':=(((90 ^^^ ZH s.2) ^^^ JP 1 (ZH s.2)) ^^^ JP 4 (ZH s.2),3)) (by unfold Z4; simp [t4,w3,idx])]
  exact X2 (by unfold Z4; simp; rfl)
 have h1:=BG (YH [0,1,4] 90) (fun x=>rots (UInt8.ofNat x)) (fun i hi a=>by
  unfold YH
  simp only [zT hi,if_true,hin,VC,Option.bind_some,ZU _ hi,Int.toNat_natCast]) (fun v=>by unfold YH; simp)
 unfold Yw
 simp only [h1,Option.bind_some]
theorem kx (f g : Nat → UInt8) : Wo (vf 256 f) (vf 256 g) = some (vf 256 fun x=>g (f x).toNat):=by
 have hv : ∀ x : UInt8,ZB (vf 256 g) (bI x) = some (g x.toNat):=fun x=>ZU g (UInt8.toNat_lt x)
 have h1:=BG (XZ (vf 256 f) (vf 256 g)) (fun x=>g (f x).toNat) (fun i hi a=>by
  unfold XZ
  simp only [zT hi,if_true,Option.bind_some,ZU _ hi,hv,Int.toNat_natCast]) (fun v=>by unfold XZ; simp)
 unfold Wo
 simp only [h1,Option.bind_some]
theorem y7 (x : UInt8) : rots (UInt8.ofNat (Ui 285 x).toNat) = HP x:=by
 rw [UInt8.ofNat_toNat]
 unfold rots HP
 ac_rfl
theorem Ao (n : Int) : Vs n = some (ZM n):=by
 have hinv : ∀ a,WT 285 a = some (Ui 285 a):=fun a=>yc 285 (by omega) (by omega) a
 have h2:=yB (WT 285) hinv UW UU (fun s t=>by unfold UW; rfl) (fun s=>by unfold UU; rfl)
 have h3:=As UV (fun s=>by unfold UV; rfl)
 unfold Vs ZM
 simp only [ja,Ak,kx,y7,h2,h3,Option.bind_some]

theorem zJ {α : Type} (n : Nat) (f : Nat → α) : (vf n f).toList = (List.range n).map f:=by
 apply List.ext_getElem
 ·simp
 ·intro i h1 h2
  simp at h1
  rw [Vector.getElem_toList,K9 f h1]; simp
theorem zk : WR ((List.range 256).map fun x=>HP (UInt8.ofNat x)) = true:=by decide +kernel
theorem zY : Vf (vf 16 fun i=>UInt8.ofNat ((13 * i + 4) % 16)) = true:=by
 unfold Vf
 rw [zJ]
 decide +kernel
theorem Bc : YQ 285 = true:=by decide +kernel
theorem jG : (detC 285 (mf fun i j=>Ui 285 (UInt8.ofNat (i ^^^ (4 + j)))) != 0) = true:=by decide +kernel
theorem Ha (n : Int) (h : 1 ≤ n ∧ n ≤ 20) : Yn (ZM n) = true:=by
 unfold Yn ZM
 simp only [zJ,zk,zY,Bc,Bool.true_and,h,decide_true,Bool.and_true,and_self]
 exact jG
theorem AI (l : List Int) (h : l.length < 9223372036854775807) (b : Int) : YG l b = some (l.any fun x=>b == x):=by
 unfold YG XO
 rw [jm l (fun x=>some (b == x)) (fun x=>b == x) (Xz l b) (fun s=>by
  unfold Xz
  by_cases hs : (decide (s < (l.length : Int))) = true
  ·rw [if_pos hs,if_pos hs]
   cases idx l s <;> rfl
  ·rw [if_neg hs,if_neg hs]) h (fun x _=>rfl)]
 simp only [Option.bind_some,has_of]
theorem zg (l : List Int) (p : Int → Option Bool) (q : Int → Bool) (h : l.length < 9223372036854775807) (hp : ∀ x ∈ l,p x = some (q x)) : Yh l p = some (match l.findIdx? q with | some i=>(i : Int) | none=>-1):=by
 unfold Yh
 exact jm l p q _ (fun s=>by unfold X1; rfl) h hp
theorem ka (l : List Int) (p : Int → Option Bool) (q : Int → Bool) (h : l.length < 9223372036854775807) (hp : ∀ x ∈ l,p x = some (q x)) (hq : ∀ x ∈ l,q x = false) : Yp l p = some ():=by
 unfold Yp
 have : l.findIdx? q = none:=by rw [List.findIdx?_eq_none_iff]; exact hq
 rw [zg l p q h hp,this]; rfl
theorem yH (l : List Int) (p : Int → Option Bool) (q : Int → Bool) (h : l.length < 9223372036854775807) (hp : ∀ x ∈ l,p x = some (q x)) : ∀ (k i j : Nat) (m : List Int),j + k = l.length → m.length = l.length → i < j → m.take i = (l.take j).filter (fun x=>!q x) → m.drop j = l.drop j →
  ∃ (m' : List Int) (i' : Nat),ZK (Ya p) (m,(i : Int),(j : Int)) = some (m',(i' : Int)) ∧ i' < m'.length ∧ m'.length = l.length ∧ m'.take i' = l.filter (fun x=>!q x)
 | 0,i,j,m,hj,hm,hi,ht,hd=>by
  refine ⟨m,i,X2 ?_,by omega,hm,?_⟩
  ·unfold Ya
   have e : decide ((j : Int) < (m.length : Int)) = false:=by simp only [decide_eq_false_iff_not]; omega
   simp only [e,Bool.false_eq_true,if_false]
  ·rw [ht,List.take_of_length_le (by omega)]
 | k + 1,i,j,m,hj,hm,hi,ht,hd=>by
  have hjm : j < m.length:=by omega
  have hjl : j < l.length:=by omega
  have e1 : m[j] = l[j]:=by
   have h1:=List.drop_eq_getElem_cons hjm
   have h2:=List.drop_eq_getElem_cons hjl
   rw [h1,h2] at hd
   exact (List.cons.inj hd).1
  have hd' : m.drop (j + 1) = l.drop (j + 1):=by
   have h1:=List.drop_eq_getElem_cons hjm
   have h2:=List.drop_eq_getElem_cons hjl
   rw [h1,h2] at hd
   exact (List.cons.inj hd).2
  have e2 : l.take (j + 1) = l.take j ++ [l[j]]:=List.take_succ_eq_append_getElem hjl
  have him : i < m.length:=by omega
  have hd1 : decide ((j : Int) < (m.length : Int)) = true:=by simp only [decide_eq_true_eq]; omega
  have hpj:=hp l[j] (List.getElem_mem hjl)
  cases hq : q l[j] with
  | true =>
   obtain ⟨m',i',r1,r2,r3,r4⟩:=yH l p q h hp k i (j + 1) m (by omega) hm (by omega) (by rw [e2,List.filter_append,ht]; simp [hq]) hd'
   refine ⟨m',i',?_,r2,r3,r4⟩
   rw [Wy (s':=(m,(i : Int),((j + 1 : Nat) : Int)))]
   ·exact r1
   ·unfold Ya
    simp only [hd1,if_true,Xx,List.getElem?_eq_getElem hjm,Option.bind_some,e1,hpj,hq,Bool.not_true,Bool.false_eq_true,if_false,YS (show j < 9223372036854775807 by omega)]
  | false =>
   obtain ⟨m',i',r1,r2,r3,r4⟩:=yH l p q h hp k (i + 1) (j + 1) (m.set i l[j]) (by omega) (by simpa using hm) (by omega) (by
    rw [e2,List.filter_append,← ht]
    have : (m.set i l[j]).take (i + 1) = m.take i ++ [l[j]]:=by
     rw [List.take_succ_eq_append_getElem (by simpa using him),List.take_set_of_le (Nat.le_refl i),List.getElem_set_self]
    rw [this]; simp [hq]) (by rw [List.drop_set_of_lt (by omega)]; exact hd')
   refine ⟨m',i',?_,r2,r3,r4⟩
   rw [Wy (s':=(m.set i l[j],((i + 1 : Nat) : Int),((j + 1 : Nat) : Int)))]
   ·exact r1
   ·unfold Ya
    simp only [hd1,if_true,Xx,List.getElem?_eq_getElem hjm,List.getElem?_eq_getElem him,Option.bind_some,e1,hpj,hq,Bool.not_false,Int.toNat_natCast,YS (show j < 9223372036854775807 by omega),YS (show i < 9223372036854775807 by omega)]
theorem kD (l : List Int) (p : Int → Option Bool) (q : Int → Bool) (h : l.length < 9223372036854775807) (hp : ∀ x ∈ l,p x = some (q x)) : Yv l p = some (l.filter fun x=>!q x):=by
 unfold Yv
 rw [zg l p q h hp]
 cases hf : l.findIdx? q with
 | none =>
  have h0:=List.findIdx?_eq_none_iff.1 hf
  have : l.filter (fun x=>!q x) = l:=List.filter_eq_self.2 fun x hx=>by simp [h0 x hx]
  simp [this]
 | some i =>
  obtain ⟨hi,hq,hlt⟩:=List.findIdx?_eq_some_iff_getElem.1 hf
  have ht : l.take i = (l.take (i + 1)).filter (fun x=>!q x):=by
   rw [List.take_succ_eq_append_getElem hi,List.filter_append]
   have : (l.take i).filter (fun x=>!q x) = l.take i:=List.filter_eq_self.2 fun x hx=>by
    obtain ⟨j,hj,rfl⟩:=List.mem_iff_getElem.1 hx
    have hj' : j < i:=by simp at hj; omega
    have:=hlt j hj'
    simp only [List.getElem_take]
    simpa using this
   rw [this]; simp [hq]
  obtain ⟨m',i',r1,r2,r3,r4⟩:=yH l p q h hp (l.length - (i + 1)) i (i + 1) l (by omega) rfl (by omega) ht rfl
  have e0 : ((i : Int) == -1) = false:=by simp
  have e1 : wr ((i : Int) + 1) = ((i + 1 : Nat) : Int):=YS (by omega)
  have e2 : slc m' (i' : Int) (m'.length : Int) = _:=KZ (by omega) (Nat.le_refl _)
  have e3 : clr m' (i' : Int) 0 = some (m'.take i' ++ List.replicate (m'.length - i') 0):=by
   unfold clr; rw [if_pos (by omega),Int.toNat_natCast]
  have e4 : slc (m'.take i' ++ List.replicate (m'.length - i') (0 : Int)) (0 : Int) (i' : Int) = some (m'.take i'):=by
   have:=KZ (l:=m'.take i' ++ List.replicate (m'.length - i') (0 : Int)) (i:=0) (j:=i') (by omega) (by simp; omega)
   rw [List.drop_zero,List.take_left' (by simp; omega)] at this
   exact this
  simp only [Option.bind_some,e0,Bool.false_eq_true,if_false,e1,r1,e2,e3,e4]
  rw [r4]

theorem zf (Q : Nat → Bool) (n x : Nat) (h : x < n) : ((Xo Q n).any fun y=>(x : Int) == y) = Q x:=by
 unfold Xo
 rw [List.any_map,Bool.eq_iff_iff,List.any_eq_true]
 constructor
 ·rintro ⟨y,hy,hxy⟩
  have hxy : (x : Int) = (y : Int):=by simpa using hxy
  have : x = y:=by omega
  subst this
  exact (List.mem_filter.1 hy).2
 ·intro hq
  exact ⟨x,List.mem_filter.2 ⟨List.mem_range.2 h,hq⟩,by simp⟩
theorem j0 {Q : Nat → Bool} {n : Nat} {x : Int} (h : x ∈ Xo Q n) : ∃ y : Nat,x = y ∧ y < n ∧ Q y = true:=by
 obtain ⟨y,hy,rfl⟩:=List.mem_map.1 h
 exact ⟨y,rfl,List.mem_range.1 (List.mem_filter.1 hy).1,(List.mem_filter.1 hy).2⟩
theorem zP (P Q : Nat → Bool) (n : Nat) : ((Xo P n).filter fun x=>!!((Xo Q n).any fun y=>x == y)) = Xo (fun g=>P g && Q g) n:=by
 have key : ∀ m,m ≤ n → ((Xo P m).filter fun x=>!!((Xo Q n).any fun y=>x == y)) = Xo (fun g=>P g && Q g) m:=by
  intro m
  induction m with
  | zero=>intro _; rfl
  | succ m ih =>
   intro hm
   have ih:=ih (by omega)
   have hq:=zf Q n m (by omega)
   rw [TQ,TQ]
   cases hp : P m
   ·simp only [Bool.false_eq_true,if_false,Bool.false_and]; exact ih
   ·rw [if_pos rfl,List.filter_append,ih,List.filter_cons,hq]
    cases Q m <;> simp
 exact key n (Nat.le_refl _)
def Ad (P : Nat → Nat → Bool) : Nat → Nat → Bool
 | 0=>fun _=>true
 | k + 1=>fun g=>Ad P k g && P k g
theorem zU (P : Nat → Nat → Bool) : Ad P 1 = P 0:=by funext g; simp [Ad]
def U1 (c : GCipher) (key : Blk) (l : List Blk) (i j n : Int) (k : Nat) : Nat → Bool:=Je (V6 256 c.Box 256) (WQ c key (l.getD k (Vector.replicate 16 0)) i n) j.toNat
def VN (c : GCipher) (l : List Blk) (i j n : Int) : Int:=if Z3 c i n != 0 then Z3 c i n else if 1 ≤ l.length ∧ l.length ≤ 8 ∧ (0 ≤ j ∧ j ≤ 15) ∧ 1 ≤ n then 0 else 2
def AK (c : GCipher) (key : Blk) (l : List Blk) (i j n : Int) : List Int × Int:=if VN c l i j n != 0 then ([],VN c l i j n) else (Xo (Ad (U1 c key l i j n) l.length) 256,0)
theorem qf (a b : Nat → Bool) : ZK (YU (vf 256 b)) (vf 256 a,0) = some (vf 256 fun g=>a g && b g):=by
 have k0 : (vf 256 fun g=>if g < 0 then (a g && b g) else a g) = vf 256 a:=X0 fun g _=>by rw [if_neg (by omega)]
 have k1 : (vf 256 fun g=>if g < 256 then (a g && b g) else a g) = vf 256 fun g=>a g && b g:=X0 fun g hg=>by rw [if_pos hg]
 have:=Z5 (f:=YU (vf 256 b)) (fun i : Nat=>(vf 256 fun g=>if g < i then (a g && b g) else a g,(i : Int))) 0 256 (by omega) (t:=vf 256 fun g=>a g && b g) (fun i _ hi=>by
  unfold YU
  have nn : ¬ i < i:=Nat.lt_irrefl i
  have stp : ∀ x : Bool,x = (a i && b i) → (vf 256 fun g=>if g = i then x else if g < i then (a g && b g) else a g) = vf 256 fun g=>if g < i + 1 then (a g && b g) else a g:=fun x hx=>X0 fun g _=>by
   by_cases h : g = i
   ·subst h; rw [if_pos rfl,if_pos (by omega),hx]
   ·by_cases h2 : g < i
    ·rw [if_neg h,if_pos h2,if_pos (by omega)]
    ·rw [if_neg h,if_neg h2,if_neg (by omega)]
  simp only [B1 hi,if_true,ZU _ hi,Option.bind_some,nn,if_false,Int.toNat_natCast,V0,YS (show i < 9223372036854775807 by omega)]
  cases ha : a i
  ·simp only [Bool.false_eq_true,if_false,Option.bind_some]
   rw [stp false (by rw [ha]; rfl)]
  ·simp only [if_true,Option.bind_some]
   rw [stp (b i) (by rw [ha]; rfl)]) (by
  unfold YU
  simp only [k1]
  simp)
 simp only [k0] at this
 exact this
theorem ros_ok {c : GCipher} {l : List Blk} {i j n : Int} (h : VN c l i j n = 0) : Z3 c i n = 0 ∧ 1 ≤ l.length ∧ l.length ≤ 8 ∧ (0 ≤ j ∧ j ≤ 15) ∧ 1 ≤ n:=by
 unfold VN at h
 by_cases h0 : Z3 c i n = 0
 ·rw [if_neg (by simp [h0])] at h
  split at h
  ·rename_i h1; exact ⟨h0,h1⟩
  ·cases h
 ·rw [if_pos (by simpa using h0)] at h
  exact absurd h h0
theorem jq {l : List Blk} {k : Nat} (h : k < l.length) : l.getD k (Vector.replicate 16 0) = l[k]:=by simp [List.getD_eq_getElem?_getD,List.getElem?_eq_getElem h]
theorem KF (c : GCipher) (key : Blk) (l : List Blk) (i j n : Int) (hl : l.length ≤ 1048576) : XH c key l i j n = some (AK c key l i j n):=by
 unfold XH
 have hcode : ((if (Z3 c i n != 1) = true then (if (decide ((l.length : Int) < 1)) = true then (some true) else (if (decide ((l.length : Int) > 8)) = true then (some true) else ((XL j 0 15).bind fun (r18 : Bool)=>if (!r18) = true then (some true) else (some (decide (n < 1)))))) else (some false) : Option (Bool)).bind fun (j10 : Bool)=>if j10 = true then (some 2) else (some (Z3 c i n)) : Option (Int)) = some (VN c l i j n):=by
  rw [Hx]
  unfold VN
  have hs : Z3 c i n = 0 ∨ Z3 c i n = 1 ∨ Z3 c i n = 2:=by
   unfold Z3
   split
   ·split
    ·exact .inl rfl
    ·exact .inr (.inr rfl)
   ·exact .inr (.inl rfl)
  by_cases h1 : (l.length : Int) < 1
  ·have : ¬ (1 ≤ l.length ∧ l.length ≤ 8 ∧ (0 ≤ j ∧ j ≤ 15) ∧ 1 ≤ n):=by omega
   rcases hs with hs | hs | hs <;> simp [hs,h1,this]
  ·by_cases h2 : (l.length : Int) > 8
   ·have : ¬ (1 ≤ l.length ∧ l.length ≤ 8 ∧ (0 ≤ j ∧ j ≤ 15) ∧ 1 ≤ n):=by omega
    rcases hs with hs | hs | hs <;> simp [hs,h1,h2,this]
   ·by_cases h3 : 0 ≤ j ∧ j ≤ 15
    ·by_cases h4 : n < 1
     ·have : ¬ (1 ≤ l.length ∧ l.length ≤ 8 ∧ (0 ≤ j ∧ j ≤ 15) ∧ 1 ≤ n):=by omega
      rcases hs with hs | hs | hs <;> simp [hs,h1,h2,h3,h4,this]
     ·have : 1 ≤ l.length ∧ l.length ≤ 8 ∧ (0 ≤ j ∧ j ≤ 15) ∧ 1 ≤ n:=by omega
      rcases hs with hs | hs | hs <;> simp [hs,h1,h2,h3,h4,this]
    ·have : ¬ (1 ≤ l.length ∧ l.length ≤ 8 ∧ (0 ≤ j ∧ j ≤ 15) ∧ 1 ≤ n):=fun h=>h3 h.2.2.1
     rcases hs with hs | hs | hs <;> simp [hs,h1,h2,h3,this]
 rw [Kk,Option.bind_some,hcode,Option.bind_some]
 unfold AK
 by_cases h0 : VN c l i j n = 0
 ·obtain ⟨k0,k1,k2,k3,k4⟩:=ros_ok h0
  obtain ⟨q,hq⟩ : ∃ q : Nat,j = q:=⟨j.toNat,by omega⟩
  have hrem : ∀ k,k < l.length → Xs c (WQ c key l[k]! i n) j = some (vf 256 (U1 c key l i j n k)):=fun k hk=>by
   have:=Be c (WQ c key l[k]! i n) q (by omega) (by rw [TO]; omega)
   rw [← hq] at this
   rw [this]
   unfold U1
   have e : l[k]! = l.getD k (Vector.replicate 16 0):=by rw [jq hk]; simp [hk]
   rw [e,hq,Int.toNat_natCast]
  have hx : ∀ k,k < l.length → l[k]? = some l[k]!:=fun k hk=>by simp [hk]
  have loop:=Z5 (f:=YT c key l i j n) (fun k : Nat=>(vf 256 (Ad (U1 c key l i j n) k),(k : Int))) 1 l.length k1 (t:=vf 256 (Ad (U1 c key l i j n) l.length)) (fun k _ hk=>by
   unfold YT
   simp only [Int.ofNat_lt,hk,decide_true,if_true,Xx,hx k hk,Option.bind_some,Kg k0,hrem k hk,qf,YS (show k < 9223372036854775807 by omega)]
   rfl) (by unfold YT; simp)
  rw [zU] at loop
  have loop' : ZK (YT c key l i j n) (vf 256 (U1 c key l i j n 0),1) = _:=loop
  simp only [h0,bne_self_eq_false,Bool.false_eq_true,if_false,kU,hx 0 k1,Option.bind_some,Kg k0,hrem 0 k1,loop',Aw]
 ·have : (VN c l i j n != 0) = true:=by simpa using h0
  simp only [this,if_true]
theorem Tx (c : GCipher) (key : Blk) (l : List Blk) (i j n : Int) (hl : l.length ≤ 1048576) : YK c key l i j n = some (AK c key l i j n):=by
 unfold YK AK Wq
 simp only [KB,Jx,Qu,Option.bind_some]
 by_cases hs : Z3 c i n = 0
 ·by_cases hk : 1 ≤ l.length ∧ l.length ≤ 8 ∧ (0 ≤ j ∧ j ≤ 15) ∧ 1 ≤ n
  ·have h0 : VN c l i j n = 0:=by unfold VN; rw [if_neg (by simp [hs]),if_pos hk]
   obtain ⟨k1,k2,k3,k4⟩:=hk
   obtain ⟨hc,⟨p,hp,hp16⟩,r,hr,hr20⟩:=JK hs
   obtain ⟨q,hq⟩ : ∃ q : Nat,j = q:=⟨j.toNat,by omega⟩
   have d1 : decide ((1 : Int) ≤ (l.length : Int) ∧ (l.length : Int) ≤ 8) = true:=by simp only [decide_eq_true_eq]; omega
   have d2 : decide (0 ≤ j ∧ j ≤ 15) = true:=by simp only [decide_eq_true_eq]; omega
   have d3 : decide (n < 1) = false:=by simp only [decide_eq_false_iff_not]; omega
   have hkey:=Ay c (bf key) r (by omega)
   rw [← KK,← hr] at hkey
   have hset : ∀ b : Blk,XI ⟨Wj c⟩ (Wg c.Box (bf key) r) b i = some (WQ c key b i n):=fun b=>by
    have:=JZ c hc (bf key) (bf b) p r hp16 (by omega)
    rw [← KK,← hp] at this
    rw [this]
    unfold WQ
    rw [hp,hr,Int.toNat_natCast,Int.toNat_natCast]
   have hrem : ∀ b : Blk,Yx ⟨Wj c⟩ (WQ c key b i n) j = some (Xo (Je (V6 256 c.Box 256) (WQ c key b i n) q) 256):=fun b=>by
    have:=H7 ⟨Wj c⟩ (WQ c key b i n) q (by omega) (by rw [TO]; omega)
    rw [← hq] at this
    exact this
   have hP : ∀ k (hk : k < l.length),Xo (Je (V6 256 c.Box 256) (WQ c key l[k] i n) q) 256 = Xo (U1 c key l i j n k) 256:=fun k hk=>by
    unfold U1; rw [jq hk,hq,Int.toNat_natCast]
   have hcl : ∀ (Q : Nat → Bool) (z : Int),Z1 z (Xo Q 256) = some (!((Xo Q 256).any fun y=>z == y)):=fun Q z=>by
    unfold Z1
    rw [AI _ (by have:=TT Q 256; omega)]; rfl
   have loop:=Z5 (f:=YV l i j ⟨Wj c⟩ (Wg c.Box (bf key) r)) (fun k : Nat=>(if k = 0 then ([] : List Int) else Xo (Ad (U1 c key l i j n) k) 256,(k : Int))) 0 l.length (Nat.zero_le _) (t:=Xo (Ad (U1 c key l i j n) l.length) 256) (fun k _ hk=>by
    unfold YV
    simp only [Int.ofNat_lt,hk,decide_true,if_true,Xx,List.getElem?_eq_getElem hk,Option.bind_some,hset,hrem,hP k hk,YS (show k < 9223372036854775807 by omega),show ¬ k + 1 = 0 by omega,if_false]
    by_cases hk0 : k = 0
    ·subst hk0
     have hdel:=ka (Xo (U1 c key l i j n 0) 256) (fun z0=>Z1 z0 (Xo (U1 c key l i j n 0) 256)) (fun z=>!((Xo (U1 c key l i j n 0) 256).any fun y=>z == y)) (by have:=TT (U1 c key l i j n 0) 256; omega) (fun x _=>hcl _ x) (fun x hx=>by
      obtain ⟨y,rfl,hy,hQ⟩:=j0 hx
      rw [zf _ _ _ hy,hQ]; rfl)
     have e0 : (((0 : Nat) : Int) == 0) = true:=rfl
     have e9 : Ad (U1 c key l i j n) (0 + 1) = U1 c key l i j n 0:=zU _
     simp only [e0,if_true,hdel,Option.bind_some,e9]
    ·have e0 : ((k : Int) == 0) = false:=by simp; omega
     have hdel:=kD (Xo (Ad (U1 c key l i j n) k) 256) (fun z0=>Z1 z0 (Xo (U1 c key l i j n k) 256)) (fun z=>!((Xo (U1 c key l i j n k) 256).any fun y=>z == y)) (by have:=TT (Ad (U1 c key l i j n) k) 256; omega) (fun x _=>hcl _ x)
     rw [zP] at hdel
     simp only [e0,Bool.false_eq_true,if_false,hk0,hdel,Option.bind_some]
     rfl) (by
    unfold YV
    simp [show ¬ l.length = 0 by omega])
   have loop' : ZK (YV l i j ⟨Wj c⟩ (Wg c.Box (bf key) r)) ([],0) = _:=loop
   simp only [hs,bne_self_eq_false,Bool.false_eq_true,if_false,d1,d2,d3,Bool.not_true,Option.bind_some,QY c hc,hkey,loop',h0]
  ·have h0 : VN c l i j n = 2:=by unfold VN; rw [if_neg (by simp [hs]),if_neg hk]
   simp only [hs,h0,bne_self_eq_false,Bool.false_eq_true,if_false]
   by_cases h1 : (1 : Int) ≤ (l.length : Int) ∧ (l.length : Int) ≤ 8
   ·by_cases h2 : 0 ≤ j ∧ j ≤ 15
    ·have : n < 1:=by omega
     simp [h1,h2,this]
    ·simp [h1,h2]
   ·simp [h1]
 ·have h0 : VN c l i j n = Z3 c i n:=by unfold VN; rw [if_pos (by simpa using hs)]
  have h1 : (Z3 c i n != 0) = true:=by simpa using hs
  simp only [h0,h1,if_true]
theorem yb (c : GCipher) (key : Blk) (l : List Blk) (i j n : Int) : (AK c key l i j n).1.length ≤ 256:=by
 unfold AK
 split
 ·simp
 ·exact TT _ _
def powP (m : Nat) : Nat → Nat → Nat → Nat → Nat
 | 0,_,_,o=>o
 | f + 1,a,k,o=>if k = 0 then o else powP m f (opP m 8 a a) (k / 2) (if k % 2 = 1 then opP m 8 a o else o)
theorem jp {m : Nat} (h1 : 256 ≤ m) (h2 : m < 512) : ∀ (f k : Nat) (a o : UInt8),(Kb m f a k o).toNat = powP m f a.toNat k o.toNat
 | 0,_,_,_=>rfl
 | f + 1,k,a,o=>by
  unfold Kb powP
  by_cases h : k = 0
  ·rw [if_pos h,if_pos h]
  ·rw [if_neg h,if_neg h,jp h1 h2 f,Wc m h1 h2]
   by_cases hk : k % 2 = 1
   ·rw [if_pos hk,if_pos hk,Wc m h1 h2]
   ·rw [if_neg hk,if_neg hk]
def yl (m g : Nat) : Nat → Nat → List Nat
 | 0,_=>[]
 | n + 1,x=>x :: yl m g n (opP m 8 g x)
def orP (l : List Nat) (acc : Nat) : Nat:=l.foldl (fun acc p=>acc ||| (1 <<< p)) acc
def kY (m g : Nat) : Bool:=opP m 8 (powP m 8 g 254 1) g == 1 && decide (g < 256) && orP (yl m g 255 1) 0 == 2 ^ 256 - 2
def gens : List (Nat × Nat):=[(283,3),(285,2),(299,2),(301,2),(313,3),(319,3),(333,2),(351,2),(355,2),(357,2),(361,2),(369,2),(375,3),(379,9),(391,2),(395,6),(397,2),(415,3),(419,3),(425,2),(433,6),(445,7),(451,2),(463,2),(471,7),(477,6),(487,2),(499,6),(501,2),(505,3)]
theorem y8 : (gens.all fun q=>kY q.1 q.2) = true:=by decide +kernel
theorem qt : ((List.range' 256 256).all fun m=>(List.range' 2 30).any (JX m) || gens.any fun q=>q.1 == m) = true:=by decide +kernel
theorem qG : ((List.range' 1 255).all fun a=>(2 ^ 256 - 2).testBit a) = true:=by decide +kernel
theorem jt : ∀ (l : List Nat) (acc a : Nat),(orP l acc).testBit a = true → acc.testBit a = true ∨ a ∈ l
 | [],_,_,h=>.inl h
 | p :: l,acc,a,h=>by
  rcases jt l (acc ||| (1 <<< p)) a h with h | h
  ·rw [Nat.testBit_or,Nat.one_shiftLeft,Nat.testBit_two_pow,Bool.or_eq_true] at h
   rcases h with h | h
   ·exact .inl h
   ·exact .inr (by rw [← of_decide_eq_true h]; exact List.mem_cons_self)
  ·exact .inr (List.mem_cons_of_mem _ h)
theorem zm {m : Nat} (h1 : 256 ≤ m) (h2 : m < 512) (g : UInt8) (hg : ZL m g (Ui m g) = 1) : ∀ (n : Nat) (x : UInt8),ZL m x (Ui m x) = 1 → ∀ y ∈ yl m g.toNat n x.toNat,∃ z : UInt8,y = z.toNat ∧ ZL m z (Ui m z) = 1
 | 0,_,_,_,hy=>by cases hy
 | n + 1,x,hx,y,hy=>by
  rw [yl] at hy
  rcases List.mem_cons.1 hy with rfl | hy
  ·exact ⟨x,rfl,hx⟩
  ·rw [← Wc m h1 h2] at hy
   refine zm h1 h2 g hg n (ZL m x g) ?_ y hy
   rw [kb h1 h2,Kx h1 h2,hx,hg,Kc h1 h2]
theorem ko {m : Nat} (hf : YQ (m : Int) = true) {a : UInt8} (ha : a ≠ 0) : ZL m a (Ui m a) = 1:=by
 obtain ⟨m',e,h1,h2⟩:=Tk hf
 have e : m = m':=by omega
 subst e
 have h:=List.all_eq_true.1 qt m (List.mem_range'_1.2 (by omega))
 have hr : (List.range' 2 30).any (JX m) = false:=by
  unfold YQ at hf
  simp only [Bool.and_eq_true,Int.toNat_natCast] at hf
  simpa using hf.2
 rw [hr,Bool.false_or] at h
 obtain ⟨q,hq,hm⟩:=List.any_eq_true.1 h
 have hm : q.1 = m:=by simpa using hm
 have hc:=List.all_eq_true.1 y8 q hq
 rw [hm] at hc
 unfold kY at hc
 simp only [Bool.and_eq_true,beq_iff_eq,decide_eq_true_eq] at hc
 obtain ⟨⟨c1,c2⟩,c3⟩:=hc
 have eg : (UInt8.ofNat q.2).toNat = q.2:=by simp only [UInt8.toNat_ofNat']; omega
 have hg : ZL m (UInt8.ofNat q.2) (Ui m (UInt8.ofNat q.2)) = 1:=by
  apply UInt8.toNat_inj.1
  rw [Wc m h1 h2]
  unfold Ui
  rw [jp h1 h2,eg]
  exact c1
 have ha0 : a.toNat ≠ 0:=fun e=>ha (UInt8.toNat_inj.1 (by rw [e]; rfl))
 have hlt:=a.toNat_lt
 have hb:=List.all_eq_true.1 qG a.toNat (List.mem_range'_1.2 (by omega))
 rw [← c3] at hb
 rcases jt _ _ _ hb with h | h
 ·simp at h
 ·have h : a.toNat ∈ yl m (UInt8.ofNat q.2).toNat 255 (1 : UInt8).toNat:=by rw [eg]; exact h
  obtain ⟨z,hz,hzg⟩:=zm h1 h2 _ hg 255 1 (by rw [Zah h1 h2,Kc h1 h2]) _ h
  have : a = z:=UInt8.toNat_inj.1 hz
  rw [this]; exact hzg


theorem xor_ne {a b : UInt8} (h : a ≠ b) : a ^^^ b ≠ 0:=fun e=>h (by
 have : (a ^^^ b) ^^^ b = 0 ^^^ b:=by rw [e]
 rwa [UInt8.xor_assoc,UInt8.xor_self,UInt8.xor_zero,UInt8.zero_xor] at this)
theorem qs {m : Nat} (hf : YQ (m : Int) = true) (h1 : 256 ≤ m) (h2 : m < 512) {a b : UInt8} (ha : a ≠ 0) (h : ZL m a b = 0) : b = 0:=by
 have e : ZL m (ZL m (Ui m a) a) b = b:=by rw [V8 h1 h2 (Ui m a) a,ko hf ha,Kc h1 h2]
 rw [TZ h1 h2,h,V8 h1 h2,Qv h1 h2] at e
 exact e.symm
section
variable {m : Nat} (h1 : 256 ≤ m) (h2 : m < 512)
include h1 h2
theorem Bb (a : UInt8) : ZL m a 0 = 0:=by rw [V8 h1 h2,Qv h1 h2]
end
theorem HU (a b : UInt8) : (a ^^^ b) ^^^ b = a:=by rw [UInt8.xor_assoc,UInt8.xor_self,UInt8.xor_zero]
theorem Zae (f : MF) {i j : Nat} (hi : i < 4) (hj : j < 4) : Qn (mf f) i j = f i j:=by
 unfold Qn mf
 rw [UN _ hi,Option.getD_some,UN _ hj,Option.getD_some]
theorem BY {l : List UInt8} (h : WR l = true) : l.Nodup:=of_decide_eq_true h
theorem jP {i : Nat} (h : i < 256) : (ZH (i : Int)).toNat = i:=by
 rw [VC]
 simp only [UInt8.toNat_ofNat']
 omega
theorem A1 (n : Nat) (hn : n ≤ 256) (p : Vector UInt8 n) : ∀ k,k ≤ n → ∀ x,x < n → (∃ i,i < k ∧ (p.toList.getD i 0).toNat = x) → ∃ i,i < k ∧ ((V6 n p k)[x]?.getD 0).toNat = i ∧ (p.toList.getD i 0).toNat = x
 | 0,_,x,_,⟨i,h,_⟩=>absurd h (Nat.not_lt_zero i)
 | k + 1,hk,x,hx,⟨i,hi,hp⟩=>by
  by_cases c : (p.toList.getD k 0).toNat = x
  ·refine ⟨k,by omega,?_,c⟩
   rw [V6,Vector.getElem?_setIfInBounds,if_pos c,if_pos (by omega),Option.getD_some,jP (by omega)]
  ·have : i ≠ k:=fun e=>c (e ▸ hp)
   obtain ⟨j,h1,h2,h3⟩:=A1 n hn p k (by omega) x hx ⟨i,by omega,hp⟩
   refine ⟨j,by omega,?_,h3⟩
   rw [V6,Vector.getElem?_setIfInBounds,if_neg c]
   exact h2
theorem kT (b : Vector UInt8 256) (h : WR b.toList = true) (x : UInt8) : VG b (VG (V6 256 b 256) x) = x:=by
 have hn : b.toList.Nodup:=BY h
 have hs:=(J0 (b.toList.map UInt8.toNat) 256 (by simp) (fun y hy=>by
  obtain ⟨z,_,rfl⟩:=List.mem_map.1 hy
  exact z.toNat_lt)).1 ((QZ _).2 hn) x.toNat x.toNat_lt
 obtain ⟨z,hz,ez⟩:=List.mem_map.1 hs
 obtain ⟨i,hi,e⟩:=List.mem_iff_getElem.1 hz
 have hi' : i < 256:=by simpa using hi
 obtain ⟨j,h1,h2,h3⟩:=A1 256 (by omega) b 256 (by omega) x.toNat x.toNat_lt ⟨i,hi',by rw [VB b hi',e,ez]⟩
 have e1 : (VG (V6 256 b 256) x).toNat = j:=by
  rw [← h2,Vector.getElem?_eq_getElem x.toNat_lt]; rfl
 have e2 : VG b (VG (V6 256 b 256) x) = b[j]:=by
  unfold VG at e1 ⊢
  simp only [e1]
 rw [e2]
 apply UInt8.toNat_inj.1
 rw [← h3,VB b h1]
 simp
theorem Zn {α β : Type} {o : Option α} {f : α → Option β} {P : α → Prop} {Q : β → Prop} (h : ∃ r,o = some r ∧ P r) (k : ∀ r,P r → ∃ q,f r = some q ∧ Q q) : ∃ q,(o.bind f) = some q ∧ Q q:=by
 obtain ⟨r,e,hr⟩:=h
 rw [e,Option.bind_some]
 exact k r hr
theorem Ka {α β : Type} {x : α} {f : α → Option β} {Q : β → Prop} (k : ∃ q,f x = some q ∧ Q q) : ∃ q,((some x).bind f) = some q ∧ Q q:=k
theorem WE {β : Type} {c : Prop} [Decidable c] {a b : Option β} {Q : β → Prop} (h1 : c → ∃ q,a = some q ∧ Q q) (h2 : ¬ c → ∃ q,b = some q ∧ Q q) : ∃ q,(if c then a else b) = some q ∧ Q q:=by
 by_cases h : c
 ·rw [if_pos h]; exact h1 h
 ·rw [if_neg h]; exact h2 h
theorem Tn {σ ρ : Type} {f : σ → Option (Fl σ ρ)} (I : Nat → σ → Prop) {R : ρ → Prop} (n : Nat) (h : ∀ i s,i < n → I i s → ∃ q,f s = some q ∧ ∃ s',q = .nx s' ∧ I (i + 1) s') (he : ∀ s,I n s → ∃ q,f s = some q ∧ ∃ r,q = .ex r ∧ R r) :
  ∀ (k i : Nat) (s : σ),i + k = n → I i s → ∃ r,ZK f s = some r ∧ R r
 | 0,i,s,hk,hi=>by
  have : i = n:=by omega
  subst this
  obtain ⟨q,e,r,rfl,hr⟩:=he s hi
  exact ⟨r,X2 e,hr⟩
 | k + 1,i,s,hk,hi=>by
  obtain ⟨q,e,s',rfl,hs⟩:=h i s (by omega) hi
  rw [Wy e]
  exact Tn I n h he k (i + 1) s' (by omega) hs
theorem YB {α : Type} {n : Nat} (v : Vector α n) {i : Int} (h : 0 ≤ i ∧ i < n) : ∃ x,ZB v i = some x ∧ True:=by
 obtain ⟨k,rfl⟩:=Int.eq_ofNat_of_zero_le h.1
 exact ⟨v[k]'(by omega),by rw [US,Vector.getElem?_eq_getElem (by omega)],trivial⟩
theorem Qo {α : Type} (l : List α) {i : Int} (h : 0 ≤ i ∧ i < l.length) : ∃ x,idx l i = some x ∧ x ∈ l:=by
 obtain ⟨k,rfl⟩:=Int.eq_ofNat_of_zero_le h.1
 have hk : k < l.length:=by omega
 exact ⟨l[k],by rw [Xx,List.getElem?_eq_getElem hk],List.getElem_mem hk⟩
theorem y4 {α : Type} {o : Option α} {x : α} (h : o = some x) : ∃ r,o = some r ∧ True:=⟨x,h,trivial⟩

def WN (s : Int × Int) : Prop:=0 ≤ s.1 ∧ s.1 ≤ 4096
section
variable {p : List UInt8} (hp : p.length ≤ 4096) {s : Int × Int} (hs : WN s)
theorem BL (a : BitVec 64) : ∃ m : Nat,m ≤ 16777215 ∧ IntKind.i64.wrap (wru (a &&& BitVec.ofInt 64 16777215).toNat) = (m : Int):=by
 have h : (a &&& BitVec.ofInt 64 16777215).toNat ≤ 16777215:=by
  rw [BitVec.toNat_and]
  exact Nat.le_trans Nat.and_le_right (by decide)
 refine ⟨_,h,?_⟩
 generalize (a &&& BitVec.ofInt 64 16777215).toNat = m at *
 have e : wru (m : Int) = (m : Int):=yP m (by omega)
 rw [e]
 exact XB (by omega)
include hp hs
theorem Z6 {n : Int} (hn : 1 ≤ n) : ∃ r,ZD p s n = some r ∧ (WN r.1 ∧ 0 ≤ r.2 ∧ r.2 < n):=by
 unfold ZD
 obtain ⟨m,hm,em⟩:=BL (BitVec.ofInt 64 (Kh (IntKind.u64.wrap ((IntKind.u64.wrap (s.2 * 6364136223846793005)) + 1442695040888963407)) 33))
 rw [em]
 have hz : QO n = some ():=by unfold QO; rw [if_pos (by omega)]
 obtain ⟨h1,h2⟩:=hs
 rw [if_neg (by simp only [decide_eq_true_eq]; omega)]
 refine Zn (P:=fun j=>(0 ≤ j.1 ∧ j.1 ≤ 4096) ∧ 0 ≤ j.2) (Ka (WE (fun hc=>?_) (fun _=>⟨_,rfl,⟨h1,h2⟩,by omega⟩))) fun j hj=>?_
 ·have hc : s.1 < (p.length : Int):=of_decide_eq_true hc
  refine Zn (P:=fun x=>0 ≤ x) (Zn (Qo p ⟨h1,hc⟩) fun x _=>⟨_,rfl,?_⟩) fun x hx=>⟨_,rfl,?_,hx⟩
  ·have hb:=x.toNat_lt
   show 0 ≤ wr ((m : Int) + (x.toNat : Int))
   rw [XB (by omega)]; omega
  ·show 0 ≤ wr (s.1 + 1) ∧ wr (s.1 + 1) ≤ 4096
   rw [XB (by omega)]; omega
 ·rw [hz]
  refine ⟨_,rfl,hj.1,?_,?_⟩
  ·exact Int.tmod_nonneg _ hj.2
  ·exact Int.tmod_lt_of_pos _ (by omega)
theorem Qy {l : List Int} (hl : 1 ≤ l.length) : ∃ r,Y0 p s l = some r ∧ (WN r.1 ∧ r.2 ∈ l):=by
 unfold Y0
 exact Zn (Z6 hp hs (by omega)) fun r hr=>Zn (Qo l hr.2) fun x hx=>⟨_,rfl,hr.1,hx⟩
theorem jE {l : List UInt8} (hl : 1 ≤ l.length) : ∃ r,Uf p s l = some r ∧ WN r.1:=by
 unfold Uf
 exact Zn (Z6 hp hs (by omega)) fun r hr=>Zn (Qo l hr.2) fun x hx=>⟨_,rfl,hr.1⟩
theorem qn : ∃ r,Vb p s = some r ∧ WN r.1:=by
 unfold Vb
 exact Zn (Z6 hp hs (by omega)) fun r hr=>Zn (Z6 hp hr.1 (by omega)) fun r hr=>Zn (Z6 hp hr.1 (by omega)) fun r hr=>Zn (Qy hp hr.1 (by simp)) fun r hr=>⟨_,rfl,hr.1⟩
theorem A9 : ∃ r,XR p s = some r ∧ WN r.1:=by
 unfold XR
 refine Zn (Z6 hp hs (by omega)) fun r hr=>WE (fun _=>?_) (fun _=>?_)
 ·exact Zn (Z6 hp hr.1 (by omega)) fun r hr=>Zn (qn hp hr.1) fun q hq=>Zn (YB _ hr.2) fun x _=>⟨_,rfl,hq⟩
 ·refine Zn (P:=fun j=>WN j.2) (Tn (fun i t=>t.2.2.2 = (i : Int) ∧ WN (t.2.1,t.2.2.1)) 16 (fun i t hi ht=>?_) (fun t ht=>?_) 16 0 _ rfl ⟨rfl,hr.1⟩) fun j hj=>⟨_,rfl,hj⟩
  ·unfold Vw
   obtain ⟨t1,t2⟩:=ht
   rw [if_pos (by simp only [decide_eq_true_eq]; omega)]
   exact Zn (Z6 hp t2 (by omega)) fun r hr=>Zn (YB _ (by omega)) fun x _=>⟨_,rfl,_,rfl,by show wr (t.2.2.2 + 1) = _; rw [t1,XB (by omega)]; omega,hr.1⟩
  ·unfold Vw
   obtain ⟨t1,t2⟩:=ht
   rw [if_neg (by simp only [decide_eq_true_eq]; omega)]
   exact ⟨_,rfl,_,rfl,t2⟩
end
theorem Hu {p : List UInt8} (hp : p.length ≤ 4096) : ∃ r,Wu p = some r ∧ WN r:=by
 unfold Wu
 refine Zn (P:=fun _=>True) (Tn (fun i t=>t.2 = (i : Int)) p.length (fun i t hi ht=>?_) (fun t ht=>?_) p.length 0 _ (by omega) rfl) fun j _=>⟨_,rfl,by show (0 : Int) ≤ 0; omega,by show (0 : Int) ≤ 4096; omega⟩
 ·unfold Tc
  rw [if_pos (by simp only [decide_eq_true_eq]; omega)]
  have h1 : decide (t.2 < 4096) = true:=by simp only [decide_eq_true_eq]; omega
  rw [h1]
  exact Ka (WE (fun _=>Zn (Qo p (by omega)) fun x _=>⟨_,rfl,_,rfl,by show wr (t.2 + 1) = _; rw [ht,XB (by omega)]; omega⟩) fun h=>absurd rfl h)
 ·unfold Tc
  rw [if_neg (by simp only [decide_eq_true_eq]; omega)]
  exact ⟨_,rfl,_,rfl,trivial⟩

theorem jf : ∃ r,VY = some r ∧ (1 ≤ r.length ∧ ∀ x ∈ r,YQ x = true):=by
 unfold VY
 have h285 : YQ 285 = true:=by decide +kernel
 refine Zn (Tn (fun i t=>t.2 = ((256 + i : Nat) : Int) ∧ t.1.length ≤ i ∧ (29 < i → 1 ≤ t.1.length) ∧ ∀ x ∈ t.1,YQ x = true) 256 (fun i t hi ht=>?_) (fun t ht=>?_) 256 0 _ rfl ⟨rfl,Nat.zero_le _,fun h=>absurd h (by omega),fun x hx=>by cases hx⟩) fun j hj=>⟨_,rfl,hj⟩
 ·obtain ⟨t1,t2,t3,t4⟩:=ht
  unfold Ut
  rw [if_pos (by simp only [decide_eq_true_eq]; omega),B7,Option.bind_some]
  have e1 : wr (t.2 + 1) = ((256 + (i + 1) : Nat) : Int):=by rw [t1,XB (by omega)]; omega
  cases hf : YQ t.2
  ·refine ⟨_,rfl,_,rfl,e1,by show t.1.length ≤ i + 1; omega,fun h=>?_,t4⟩
   refine t3 ?_
   rcases Nat.lt_or_ge 29 i with h5 | h5
   ·exact h5
   ·have : i = 29:=by omega
    subst this
    rw [t1] at hf
    exact absurd h285 (by rw [show (285 : Int) = ((256 + 29 : Nat) : Int) from rfl,hf]; decide)
  ·have ha : app 8 t.1 ([t.2] : List Int) = _:=JM (by simp only [List.length_singleton]; omega)
   rw [if_pos rfl,ha]
   refine ⟨_,rfl,_,rfl,e1,by show (t.1 ++ [t.2]).length ≤ i + 1; simp; omega,fun _=>by show 1 ≤ (t.1 ++ [t.2]).length; simp,fun x hx=>?_⟩
   rcases List.mem_append.1 hx with h | h
   ·exact t4 x h
   ·rw [List.mem_singleton.1 h]; exact hf
 ·obtain ⟨t1,t2,t3,t4⟩:=ht
  unfold Ut
  rw [if_neg (by simp only [decide_eq_true_eq]; omega)]
  exact ⟨_,rfl,_,rfl,t3 (by omega),t4⟩
section
variable {p : List UInt8} (hp : p.length ≤ 4096) {s : Int × Int} (hs : WN s)
include hp hs
theorem H3 : ∃ r,Xf p s = some r ∧ (WN r.1 ∧ YQ r.2 = true):=by
 unfold Xf
 have h285 : YQ 285 = true:=by decide +kernel
 refine Zn jf fun l hl=>Zn (P:=fun j=>WN (j.1,j.2.1) ∧ YQ j.2.2 = true) ?_ fun j hj=>⟨_,rfl,hj⟩
 refine Zn (Z6 hp hs (by omega)) fun r hr=>Zn (Qo l hr.2) fun x hx=>Zn (Z6 hp hr.1 (by omega)) fun r hr=>Zn (Qo l hr.2) fun y hy=>Zn (Qy hp hr.1 (by simp)) fun r hr=>⟨_,rfl,hr.1,?_⟩
 show YQ r.2 = true
 have:=hr.2
 simp only [List.mem_cons,List.not_mem_nil,or_false] at this
 rcases this with e | e | e <;> rw [e]
 ·exact h285
 ·exact hl.2 x hx
 ·exact hl.2 y hy
end

theorem JY {n : Nat} (hn : n < 1000000) (L : Vector UInt8 n × Int → Option (Fl (Vector UInt8 n × Int) (Vector UInt8 n))) (hL : ∀ (i : Nat) v,i < n → ∃ q,L (v,(i : Int)) = some q ∧ ∃ x,q = .nx ((v.setIfInBounds i x),wr ((i : Int) + 1)))
  (he : ∀ v,L (v,(n : Int)) = some (.ex v)) (v : Vector UInt8 n) : ∃ r,ZK L (v,0) = some r ∧ True:=by
 refine Tn (fun i t=>t.2 = (i : Int)) n (fun i t hi ht=>?_) (fun t ht=>?_) n 0 _ (by omega) rfl
 ·obtain ⟨t1,t2⟩:=t
  simp only at ht
  subst ht
  obtain ⟨q,e,x,rfl⟩:=hL i t1 hi
  exact ⟨_,e,_,rfl,by show wr ((i : Int) + 1) = _; rw [XB (by omega)]; omega⟩
 ·obtain ⟨t1,t2⟩:=t
  simp only at ht
  subst ht
  exact ⟨_,he t1,_,rfl,trivial⟩
theorem zV {i : Nat} (h : i < 256) : (decide ((i : Int) < 256)) = true:=by simp only [decide_eq_true_eq]; omega
theorem v256 (v : Vector UInt8 256) {i : Nat} (h : i < 256) : ∃ x,ZB v (i : Int) = some x ∧ True:=YB v (by omega)
theorem vbyte (v : Vector UInt8 256) (b : UInt8) : ∃ x,ZB v (bI b) = some x ∧ True:=⟨_,TC v b,trivial⟩
theorem z6 : ∃ r,VX = some r ∧ True:=by
 unfold VX
 refine Zn (JY (by omega) Uh (fun i v hi=>?_) (fun v=>by unfold Uh; rfl) _) fun j _=>⟨_,rfl,trivial⟩
 unfold Uh
 rw [if_pos (zV hi)]
 exact Zn (v256 v hi) fun x _=>⟨_,rfl,_,rfl⟩
theorem qH (a b : Vector UInt8 256) : ∃ r,Wo a b = some r ∧ True:=by
 unfold Wo
 refine Zn (JY (by omega) (XZ a b) (fun i v hi=>?_) (fun v=>by unfold XZ; rfl) _) fun j _=>⟨_,rfl,trivial⟩
 unfold XZ
 rw [if_pos (zV hi)]
 exact Zn (v256 a hi) fun x _=>Zn (vbyte b x) fun y _=>Zn (v256 v hi) fun z _=>⟨_,rfl,_,rfl⟩
theorem KY {m : Nat} (h1 : 256 ≤ m) (h2 : m < 512) : ∀ (f k : Nat) (a o : UInt8),k < 2 ^ f → f ≤ 62 → ∃ r,ZK (YO (m : Int)) (o,a,(k : Int)) = some r ∧ True
 | 0,k,a,o,hk,_=>by
  have : k = 0:=by simpa using hk
  subst this
  exact ⟨_,X2 (t:=o) (by unfold YO; rfl),trivial⟩
 | f + 1,k,a,o,hk,hf=>by
  by_cases h0 : k = 0
  ·subst h0
   exact ⟨_,X2 (t:=o) (by unfold YO; rfl),trivial⟩
  ·have hlt : k < 2 ^ 62:=Nat.lt_of_lt_of_le hk (Nat.pow_le_pow_right (by omega) (by omega))
   have e2 : wr (Int.tdiv (k : Int) 2) = ((k / 2 : Nat) : Int):=by
    have : Int.tdiv (k : Int) 2 = ((k / 2 : Nat) : Int):=rfl
    rw [this,XB (by omega)]
   have hk2 : k / 2 < 2 ^ f:=by rw [Nat.pow_succ] at hk; omega
   have step : ∃ o',YO (m : Int) (o,a,(k : Int)) = some (.nx (o',ZL m a a,((k / 2 : Nat) : Int))):=by
    unfold YO
    have e1 : decide ((k : Int) > 0) = true:=by simp only [decide_eq_true_eq]; omega
    simp only [e1,if_true,Te m h2 h1,Option.bind_some,e2]
    by_cases hc : (Int.tmod (k : Int) 2 == 1) = true
    ·exact ⟨ZL m o a,by simp only [hc,if_true,Option.bind_some]⟩
    ·exact ⟨o,by simp only [hc,if_false,Option.bind_some]; rfl⟩
   obtain ⟨o',hst⟩:=step
   rw [Wy hst]
   exact KY h1 h2 f (k / 2) _ o' hk2 (by omega)
theorem AZ {m k : Int} (hm : YQ m = true) (hk : 0 ≤ k ∧ k ≤ 254) : ∃ r,Xn m k = some r ∧ True:=by
 obtain ⟨n,rfl,h1,h2⟩:=Tk hm
 obtain ⟨k,rfl⟩:=Int.eq_ofNat_of_zero_le hk.1
 unfold Xn
 refine Zn (JY (by omega) (Xw (n : Int) (k : Int)) (fun i v hi=>?_) (fun v=>by unfold Xw; rfl) _) fun j _=>⟨_,rfl,trivial⟩
 unfold Xw
 rw [if_pos (zV hi)]
 exact Zn (KY h1 h2 8 k _ _ (by omega) (by omega)) fun x _=>Zn (v256 v hi) fun z _=>⟨_,rfl,_,rfl⟩
theorem yA (l : List Int) (hl : l.length < 1000 ∧ ∀ x ∈ l,0 ≤ x ∧ x < 8) (b : UInt8) : ∃ r,Yw l b = some r ∧ True:=by
 unfold Yw
 refine Zn (JY (by omega) (YH l b) (fun i v hi=>?_) (fun v=>by unfold YH; rfl) _) fun j _=>⟨_,rfl,trivial⟩
 unfold YH
 rw [if_pos (zV hi)]
 refine Zn (P:=fun _=>True) (Tn (fun i t=>t.2 = (i : Int)) l.length (fun i t hi ht=>?_) (fun t ht=>?_) l.length 0 _ (by omega) rfl) fun x _=>Zn (v256 v hi) fun z _=>⟨_,rfl,_,rfl⟩
 ·unfold Z4
  rw [if_pos (by simp only [decide_eq_true_eq]; omega)]
  refine Zn (Qo l (by omega)) fun x hx=>?_
  obtain ⟨k,rfl⟩:=Int.eq_ofNat_of_zero_le (hl.2 x hx).1
  rw [zt _ k (by have:=(hl.2 _ hx).2; omega)]
  exact ⟨_,rfl,_,rfl,by show wr (t.2 + 1) = _; rw [ht,XB (by omega)]; omega⟩
 ·unfold Z4
  rw [if_neg (by simp only [decide_eq_true_eq]; omega)]
  exact ⟨_,rfl,_,rfl,trivial⟩
section
variable {p : List UInt8} (hp : p.length ≤ 4096) {s : Int × Int} (hs : WN s)
include hp hs
theorem z1 : ∃ r,Vu p s = some r ∧ WN r.1:=by
 unfold Vu
 refine Zn z6 fun b _=>Zn (P:=fun j=>WN (j.2.1,j.2.2)) (Tn (fun i t=>t.2.2.2 = ((255 - i : Nat) : Int) ∧ WN (t.2.1,t.2.2.1)) 255 (fun i t hi ht=>?_) (fun t ht=>?_) 255 0 _ rfl ⟨rfl,hs⟩) fun j hj=>⟨_,rfl,hj⟩
 ·obtain ⟨t1,t2⟩:=ht
  unfold V7
  rw [if_pos (by simp only [decide_eq_true_eq]; omega)]
  have e : wr (t.2.2.2 + 1) = t.2.2.2 + 1:=XB (by omega)
  refine Zn (Z6 hp t2 (by omega)) fun r hr=>?_
  exact Zn (YB _ (by omega)) fun x _=>Zn (YB _ (by omega)) fun y _=>Zn (YB _ (by omega)) fun z _=>Zn (YB _ (by omega)) fun z _=>⟨_,rfl,_,rfl,by show wr (t.2.2.2 - 1) = _; rw [t1,XB (by omega)]; omega,hr.1⟩
 ·obtain ⟨t1,t2⟩:=ht
  unfold V7
  rw [if_neg (by simp only [decide_eq_true_eq]; omega)]
  exact ⟨_,rfl,_,rfl,t2⟩
theorem qY : ∃ r,UK p s = some r ∧ WN r.1:=by
 unfold UK
 refine Zn (Z6 hp hs (by omega)) fun r hr=>WE (fun _=>?_) fun _=>WE (fun _=>?_) fun _=>WE (fun _=>?_) fun _=>WE (fun _=>?_) fun _=>?_
 ·refine Zn (H3 hp hr.1) fun r hr=>Zn (AZ hr.2 (by omega)) fun b _=>Zn (Z6 hp hr.1 (by omega)) fun r hr=>Zn (yA [0,1,4] (by simp) _) fun c _=>Zn (qH b c) fun d _=>⟨_,rfl,hr.1⟩
 ·refine Zn (H3 hp hr.1) fun q hq=>Zn (Qy hp hq.1 (by simp)) fun r hr=>?_
  have hk : 0 ≤ r.2 ∧ r.2 ≤ 254:=by
   have:=hr.2
   simp only [List.mem_cons,List.not_mem_nil,or_false] at this
   omega
  exact Zn (AZ hq.2 hk) fun b _=>⟨_,rfl,hr.1⟩
 ·exact Zn (Z6 hp hr.1 (by omega)) fun r hr=>Zn (yA [0,2,5] (by simp) _) fun c _=>⟨_,rfl,hr.1⟩
 ·exact Zn z6 fun b _=>Zn (Z6 hp hr.1 (by omega)) fun r hr=>Zn (Z6 hp hr.1 (by omega)) fun q hq=>Zn (YB _ hr.2) fun x _=>Zn (YB _ hq.2) fun x _=>Zn (YB _ hr.2) fun x _=>Zn (YB _ hq.2) fun x _=>⟨_,rfl,hq.1⟩
 ·exact Zn (z1 hp hr.1) fun r hr=>⟨_,rfl,hr⟩

theorem jc : ∃ r,Uz p s = some r ∧ WN r.1:=by
 unfold Uz
 refine Zn (Z6 hp hs (by omega)) fun r hr=>Zn (Qy hp hr.1 (by simp)) fun r hr=>Zn (y4 (Ao _)) fun c _=>Zn (Z6 hp hr.1 (by omega)) fun r hr=>WE (fun _=>⟨_,rfl,hr.1⟩) fun _=>?_
 refine Zn (H3 hp hr.1) fun f hf=>Zn (qY hp hf.1) fun b hb=>Zn (Z6 hp hb (by omega)) fun r hr=>?_
 obtain ⟨k,hk⟩:=Int.eq_ofNat_of_zero_le hr.2.1
 refine Zn (P:=fun j=>WN (j.2.1,j.2.2)) (Tn (fun i t=>t.2.2.2 = ((k - i : Nat) : Int) ∧ WN (t.2.1,t.2.2.1)) k (fun i t hi ht=>?_) (fun t ht=>?_) k 0 _ (by omega) ⟨hk,hr.1⟩) fun j hj=>?_
 ·obtain ⟨t1,t2⟩:=ht
  unfold Td
  rw [if_pos (by simp only [decide_eq_true_eq]; omega)]
  exact Zn (Z6 hp t2 (by omega)) fun r1 hr1=>Zn (Z6 hp hr1.1 (by omega)) fun r2 hr2=>Zn (Z6 hp hr2.1 (by omega)) fun r3 hr3=>Zn (YB _ hr1.2) fun x _=>Zn (YB _ hr2.2) fun y _=>⟨_,rfl,_,rfl,by show wr (t.2.2.2 - 1) = _; rw [t1,XB (by omega)]; omega,hr3.1⟩
 ·obtain ⟨t1,t2⟩:=ht
  unfold Td
  rw [if_neg (by simp only [decide_eq_true_eq]; omega)]
  exact ⟨_,rfl,_,rfl,t2⟩
 ·obtain ⟨m,em,h1,h2⟩:=Tk hf.2
  refine Zn (P:=fun j=>WN (j.2.1,j.2.2)) (Zn (y4 (by rw [em]; exact Hc m h2 h1 _)) fun q _=>WE (fun _=>Zn (Z6 hp hj (by omega)) fun r hr=>⟨_,rfl,hr.1⟩) fun _=>⟨_,rfl,hj⟩) fun j hj=>?_
  exact Zn (Z6 hp hj (by omega)) fun r1 h1=>Zn (Z6 hp h1.1 (by omega)) fun r2 h2=>Zn (YB _ h1.2) fun x _=>Zn (YB _ h2.2) fun x _=>Zn (YB _ h1.2) fun x _=>Zn (YB _ h2.2) fun x _=>⟨_,rfl,h2.1⟩
theorem kh : ∃ r,Ug p s = some r ∧ WN r.1:=by
 unfold Ug
 have z : ∀ {n : Nat},2 ≤ n → (0 : Int) ≤ 0 ∧ (0 : Int) < n:=fun h=>by omega
 have o : ∀ {n : Nat},2 ≤ n → (0 : Int) ≤ 1 ∧ (1 : Int) < n:=fun h=>by omega
 refine Zn (jc hp hs) fun c hc=>Zn (P:=fun j=>WN (j.2.2.2.2.2.1,j.2.2.2.2.2.2)) ?_ fun j hj=>⟨_,rfl,hj⟩
 refine Zn (Z6 hp hc (by omega)) fun r hr=>Zn (P:=fun j=>WN (j.2.2.2.2.2.1,j.2.2.2.2.2.2)) (WE (fun _=>?_) fun _=>WE (fun _=>?_) fun _=>WE (fun _=>?_) fun _=>WE (fun _=>?_) fun _=>WE (fun _=>?_) fun _=>?_) fun j hj=>⟨_,rfl,hj⟩
 ·exact Zn (Qy hp hr.1 (by simp)) fun r hr=>⟨_,rfl,hr.1⟩
 ·exact Zn (YB _ (o (by omega))) fun x _=>Zn (YB _ (z (by omega))) fun x _=>⟨_,rfl,hr.1⟩
 ·exact Zn (YB _ (o (by omega))) fun x _=>Zn (YB _ (z (by omega))) fun x _=>⟨_,rfl,hr.1⟩
 ·exact Zn (jE hp hr.1 (by simp)) fun r hr=>Zn (YB _ (z (by omega))) fun x _=>Zn (YB _ (z (by omega))) fun x _=>Zn (YB _ (o (by omega))) fun x _=>⟨_,rfl,hr⟩
 ·exact Zn (Qy hp hr.1 (by simp)) fun r hr=>⟨_,rfl,hr.1⟩
 ·exact ⟨_,rfl,hr.1⟩
end
theorem jY {p : List UInt8} (hp : p.length ≤ 4096) : ∃ r,Uk p = some r ∧ True:=by
 unfold Uk
 exact Zn (Hu hp) fun s hs=>Zn (kh hp hs) fun c hc=>Zn (A9 hp hc) fun a ha=>Zn (A9 hp ha) fun b hb=>⟨_,rfl,trivial⟩
theorem Ho {p : List UInt8} (hp : p.length ≤ 4096) : ∃ r,XN p = some r ∧ True:=by
 unfold XN
 refine Zn (Hu hp) fun s hs=>Zn (jY hp) fun c hc=>Zn (P:=fun j=>WN (j.1,j.2.1)) (Zn (Z6 hp hs (by omega)) fun r hr=>WE (fun _=>Zn (Z6 hp hr.1 (by omega)) fun r hr=>Zn (y4 (Ao _)) fun c _=>⟨_,rfl,hr.1⟩) fun _=>⟨_,rfl,hr.1⟩) fun j hj=>?_
 refine Zn (P:=fun _=>True) (Zn (P:=fun _=>True) (WE (fun _=>⟨_,rfl,trivial⟩) fun _=>⟨_,rfl,trivial⟩) fun b _=>WE (fun _=>⟨_,rfl,trivial⟩) fun _=>⟨_,rfl,trivial⟩) fun k _=>?_
 refine Zn (P:=fun _=>True) ?_ fun j _=>⟨_,rfl,trivial⟩
 refine Zn (Z6 hp hj (by omega)) fun r1 h1=>Zn (Z6 hp h1.1 (by omega)) fun r2 h2=>Zn (Z6 hp h2.1 ?_) fun r3 h3=>Zn (Z6 hp h3.1 (by omega)) fun r4 h4=>⟨_,rfl,trivial⟩
 split <;> omega
theorem jx {k : Int} (h : 0 ≤ k) (h' : k ≤ 100000) : wr (k + 1) = k + 1:=XB (by omega)
theorem qV {k : Int} (h : 0 ≤ k) (h' : k ≤ 100000) : wr (k - 1) = k - 1:=XB (by omega)
theorem pos_ok {k : Int} (h : 0 < k) : (decide (k > 0)) = true:=by simpa using h
theorem pos_no {k : Int} (h : ¬ 0 < k) : ¬ (decide (k > 0)) = true:=by simpa using h
theorem yk {a b : Int} (h : a < b) : (decide (a < b)) = true:=by simpa using h
theorem lt_no {a b : Int} (h : ¬ a < b) : ¬ (decide (a < b)) = true:=by simpa using h
section
variable {p : List UInt8} (hp : p.length ≤ 4096)
include hp
theorem qi (n : Int) : ∃ r,T5 p n = some r ∧ WN r:=by
 unfold T5
 refine Zn (P:=fun _=>True) (Tn (fun i t=>t.2 = (i : Int)) p.length (fun i t hi ht=>?_) (fun t ht=>?_) p.length 0 _ (by omega) rfl) fun j _=>⟨_,rfl,by show (0 : Int) ≤ 0; omega,by show (0 : Int) ≤ 4096; omega⟩
 ·unfold Qr
  rw [if_pos (yk (by omega))]
  exact Zn (Qo p (by omega)) fun x _=>⟨_,rfl,_,rfl,by show wr (t.2 + 1) = _; rw [ht,jx (by omega) (by omega)]; omega⟩
 ·unfold Qr
  rw [if_neg (lt_no (by omega))]
  exact ⟨_,rfl,_,rfl,trivial⟩
variable {s : Int × Int} (hs : WN s)
include hs
theorem Kn {n : Int} (hn : 1 ≤ n) : ∃ r,YR p s n = some r ∧ (WN r.1 ∧ 0 ≤ r.2 ∧ r.2 < n):=by
 unfold YR
 obtain ⟨m,hm,em⟩:=BL (BitVec.ofInt 64 (Kh (IntKind.u64.wrap ((IntKind.u64.wrap (s.2 * 6364136223846793005)) + 1442695040888963407)) 33))
 rw [em]
 have hz : QO n = some ():=by unfold QO; rw [if_pos (by omega)]
 obtain ⟨h1,h2⟩:=hs
 rw [if_neg (by simp only [decide_eq_true_eq]; omega)]
 refine Zn (P:=fun j=>(0 ≤ j.1 ∧ j.1 ≤ 4096) ∧ 0 ≤ j.2) (Ka (WE (fun hc=>?_) (fun _=>⟨_,rfl,⟨h1,h2⟩,by omega⟩))) fun j hj=>?_
 ·have hc : s.1 < (p.length : Int):=of_decide_eq_true hc
  refine Zn (P:=fun x=>0 ≤ x) (Zn (Qo p ⟨h1,hc⟩) fun x _=>⟨_,rfl,?_⟩) fun x hx=>⟨_,rfl,?_,hx⟩
  ·have hb:=x.toNat_lt
   show 0 ≤ wr ((m : Int) + (x.toNat : Int))
   rw [XB (by omega)]; omega
  ·show 0 ≤ wr (s.1 + 1) ∧ wr (s.1 + 1) ≤ 4096
   rw [XB (by omega)]; omega
 ·rw [hz]
  refine ⟨_,rfl,hj.1,?_,?_⟩
  ·exact Int.tmod_nonneg _ hj.2
  ·exact Int.tmod_lt_of_pos _ (by omega)
end
theorem YL {α β : Type} {o : Option α} {r : α} {f : α → Option β} {x : Option β} (h : o = some r) (k : f r = x) : o.bind f = x:=by rw [h]; exact k
theorem elf_nx {β γ : Type} {o : Option (Fl Unit β)} {f : Unit → Option γ} {g : β → Option γ} {x : Option γ} (h : o = some (.nx ())) (k : f () = x) : (o.bind fun j=>j.el f g) = x:=by rw [h]; exact k
theorem ite_nx {β : Type} {c : Prop} [Decidable c] {A x : Option β} (h : c → A = x) : (if c then A else x) = x:=by
 by_cases c' : c
 ·rw [if_pos c']; exact h c'
 ·rw [if_neg c']
theorem KD {β : Type} {o : Option Bool} {A B x : Option β} (h : o = some false) (k : B = x) : (o.bind fun j=>if j = true then A else B) = x:=by rw [h]; exact k
def Bq (l : List UInt8) : UInt8:=l.foldr (· ^^^ ·) 0
theorem jW {a b : List UInt8} (h : a.Perm b) : Bq a = Bq b:=by
 induction h with
 | nil=>rfl
 | cons x _ ih=>show x ^^^ Bq _ = x ^^^ Bq _; rw [ih]
 | swap x y l=>show y ^^^ (x ^^^ Bq l) = x ^^^ (y ^^^ Bq l); ac_rfl
 | trans _ _ h1 h2=>rw [h1,h2]
theorem A5 : ∀ (l : List UInt8) (x : UInt8),Bq (l ++ [x]) = Bq l ^^^ x
 | [],x=>by show x ^^^ 0 = 0 ^^^ x; rw [UInt8.xor_zero,UInt8.zero_xor]
 | y :: l,x=>by show y ^^^ Bq (l ++ [x]) = (y ^^^ Bq l) ^^^ x; rw [A5 l x]; ac_rfl
def Qc (b : Nat → UInt8) : Nat → UInt8
 | 0=>0
 | n + 1=>Qc b n ^^^ b n
theorem zh (b : Nat → UInt8) : ∀ n,Qc b n = Bq ((List.range n).map b)
 | 0=>rfl
 | n + 1=>by rw [List.range_succ,List.map_append,List.map_singleton,A5,← zh b n]; rfl
theorem Qw {b b' : Nat → UInt8} : ∀ n,(∀ y,y < n → b y = b' y) → Qc b n = Qc b' n
 | 0,_=>rfl
 | n + 1,h=>by unfold Qc; rw [Qw n fun y hy=>h y (by omega),h n (by omega)]
theorem KW (u v : Nat → UInt8) : ∀ n,Qc (fun y=>u y ^^^ v y) n = Qc u n ^^^ Qc v n
 | 0=>by show (0 : UInt8) = 0 ^^^ 0; decide
 | n + 1=>by unfold Qc; rw [KW u v n]; ac_rfl
theorem AC {m : Nat} (h1 : 256 ≤ m) (h2 : m < 512) (c : UInt8) (b : Nat → UInt8) : ∀ n,Qc (fun y=>ZL m c (b y)) n = ZL m c (Qc b n)
 | 0=>(Bb h1 h2 c).symm
 | n + 1=>by unfold Qc; rw [AC h1 h2 c b n,JD h1 h2]
theorem JS (c : UInt8) : ∀ n,Qc (fun _=>c) (2 * n) = 0
 | 0=>rfl
 | n + 1=>by
  show (Qc (fun _=>c) (2 * n) ^^^ c) ^^^ c = 0
  rw [JS c n,UInt8.xor_assoc,UInt8.xor_self]; rfl
def AllB (b : Nat → UInt8) : Prop:=∀ y z,y < 256 → z < 256 → b y = b z → y = z
def zx (b : Nat → UInt8) : Prop:=∀ y,y < 256 → b y = b 0
theorem ku : Bq ((List.range 256).map UInt8.ofNat) = 0:=by decide +kernel
theorem H5 {α β : Type} {f : α → β} : ∀ {l : List α},l.Nodup → (∀ x ∈ l,∀ y ∈ l,f x = f y → x = y) → (l.map f).Nodup
 | [],_,_=>by simp
 | x :: l,hn,h=>by
  rw [List.nodup_cons] at hn
  rw [List.map_cons,List.nodup_cons]
  refine ⟨fun hm=>?_,H5 hn.2 fun a ha b hb=>h a (List.mem_cons_of_mem _ ha) b (List.mem_cons_of_mem _ hb)⟩
  obtain ⟨y,hy,e⟩:=List.mem_map.1 hm
  exact hn.1 (h y (List.mem_cons_of_mem _ hy) x (List.mem_cons_self ..) e ▸ hy)
theorem Zat {b : Nat → UInt8} (h : AllB b) : Qc b 256 = 0:=by
 rw [zh,← ku]
 have hn : ((List.range 256).map b).Nodup:=H5 List.nodup_range fun x hx y hy e=>h x y (List.mem_range.1 hx) (List.mem_range.1 hy) e
 have hn2 : ((List.range 256).map UInt8.ofNat).Nodup:=H5 List.nodup_range fun x hx y hy e=>by
  have e:=congrArg UInt8.toNat e
  have:=List.mem_range.1 hx
  have:=List.mem_range.1 hy
  simp only [UInt8.toNat_ofNat'] at e
  omega
 refine jW ((List.perm_ext_iff_of_nodup hn hn2).2 fun a=>⟨fun _=>List.mem_map.2 ⟨a.toNat,List.mem_range.2 a.toNat_lt,by simp⟩,fun _=>?_⟩)
 have:=(J0 (((List.range 256).map b).map UInt8.toNat) 256 (by simp) (fun y hy=>by
  obtain ⟨z,_,rfl⟩:=List.mem_map.1 hy
  exact z.toNat_lt)).1 ((QZ _).2 hn) a.toNat a.toNat_lt
 obtain ⟨z,hz,e⟩:=List.mem_map.1 this
 rw [UInt8.toNat_inj.1 e] at hz
 exact hz
theorem Zak {b : Nat → UInt8} (h : zx b) : Qc b 256 = 0:=by
 rw [Qw 256 (b':=fun _=>b 0) h]
 exact JS (b 0) 128

def TB (e : Bool) (b : Nat → UInt8) : Prop:=if e = true then AllB b else zx b
theorem yO {e : Bool} {b : Nat → UInt8} (h : TB e b) : Qc b 256 = 0:=by
 cases e
 ·exact Zak h
 ·exact Zat h
theorem y3 {e : Bool} {b : Nat → UInt8} {g : UInt8 → UInt8} (h : TB e b) (hg : ∀ x y,g x = g y → x = y) : TB e (fun y=>g (b y)):=by
 cases e
 ·exact fun y hy=>congrArg g ((show zx b from h) y hy)
 ·exact fun y z hy hz e=>(show AllB b from h) y z hy hz (hg _ _ e)
theorem zG {a b c : UInt8} (h : a ^^^ c = b ^^^ c) : a = b:=by rw [← HU a c,h,HU]
theorem tb_key {e : Bool} {b : Nat → UInt8} (h : TB e b) (k : UInt8) : TB e (fun y=>b y ^^^ k):=y3 (g:=fun x=>x ^^^ k) h fun _ _ h=>zG h
theorem yY {e e' : Bool} {b b' : Nat → UInt8} (h : TB e b) (h' : TB e' b') (hn : (e && e') = false) : TB (e || e') (fun y=>b y ^^^ b' y):=by
 cases e
 ·cases e'
  ·exact fun y hy=>by show b y ^^^ b' y = b 0 ^^^ b' 0; rw [(show zx b from h) y hy,(show zx b' from h') y hy]
  ·intro y z hy hz e
   have e : b y ^^^ b' y = b z ^^^ b' z:=e
   rw [(show zx b from h) y hy,(show zx b from h) z hz,UInt8.xor_comm,UInt8.xor_comm (b 0)] at e
   exact (show AllB b' from h') y z hy hz (zG e)
 ·cases e'
  ·intro y z hy hz e
   have e : b y ^^^ b' y = b z ^^^ b' z:=e
   rw [(show zx b' from h') y hy,(show zx b' from h') z hz] at e
   exact (show AllB b from h) y z hy hz (zG e)
  ·cases hn
def T2 (a : Nat → Bool) (s : Nat → Nat → UInt8) : Prop:=∀ j,j < 16 → TB (a j) (fun y=>s y j)
def mixP (a : Nat → Bool) : Nat → Bool:=fun j=>((a (j / 4 * 4) || a (j / 4 * 4 + 1)) || a (j / 4 * 4 + 2)) || a (j / 4 * 4 + 3)
def oneP (a : Nat → Bool) : Bool:=(List.range 4).all fun q=>!(a (q * 4) && a (q * 4 + 1)) && !((a (q * 4) || a (q * 4 + 1)) && a (q * 4 + 2)) && !(((a (q * 4) || a (q * 4 + 1)) || a (q * 4 + 2)) && a (q * 4 + 3))
theorem kE {m : Nat} (hf : YQ (m : Int) = true) (h1 : 256 ≤ m) (h2 : m < 512) {A : MF} (hA : ∀ r,r < 4 → ∀ c,c < 4 → A r c ≠ 0) {a : Nat → Bool} {s : Nat → Nat → UInt8} (h : T2 a s) (ho : oneP a = true) : T2 (mixP a) (fun y=>V9 m A (s y)):=by
 intro j hj
 have ho:=List.all_eq_true.1 ho (j / 4) (List.mem_range.2 (by omega))
 simp only [Bool.and_eq_true,Bool.not_eq_true'] at ho
 obtain ⟨⟨o1,o2⟩,o3⟩:=ho
 have hr : j % 4 < 4:=by omega
 have t : ∀ c,c < 4 → TB (a (j / 4 * 4 + c)) (fun y=>ZL m (A (j % 4) c) (s y (j / 4 * 4 + c))):=fun c hc=>y3 (g:=fun x=>ZL m (A (j % 4) c) x) (h _ (by omega)) fun x y e=>by
  have e : ZL m (A (j % 4) c) x = ZL m (A (j % 4) c) y:=e
  by_cases c' : x = y
  ·exact c'
  ·have:=qs hf h1 h2 (hA _ hr c hc) (b:=x ^^^ y) (by rw [JD h1 h2,e,UInt8.xor_self])
   exact absurd this (xor_ne c')
 exact yY (yY (yY (t 0 (by omega)) (t 1 (by omega)) o1) (t 2 (by omega)) o2) (t 3 (by omega)) o3
theorem H4 {B : Vector UInt8 256} (hB : ∀ x y,VG B x = VG B y → x = y) {a : Nat → Bool} {s : Nat → Nat → UInt8} (h : T2 a s) : T2 a (fun y=>Q8 B (s y)):=fun j hj=>y3 (g:=fun x=>VG B x) (h j hj) hB
theorem JR {P : Blk} (hP : ∀ j,j < 16 → (bf P j).toNat < 16) {a : Nat → Bool} {s : Nat → Nat → UInt8} (h : T2 a s) : T2 (fun j=>a (bf P j).toNat) (fun y=>TD P (s y)):=fun j hj=>h _ (hP j hj)
theorem HT {a : Nat → Bool} {s : Nat → Nat → UInt8} (h : T2 a s) (k : Nat → UInt8) : T2 a (fun y=>KR (s y) k):=fun j hj=>tb_key (h j hj) (k j)
theorem Ba {a a' : Nat → Bool} {s : Nat → Nat → UInt8} (h : T2 a s) (e : ∀ j,j < 16 → a j = a' j) : T2 a' s:=fun j hj=>e j hj ▸ h j hj

def mxN (c : GCipher) (k f : Nat → UInt8) : Nat → Nat → UInt8
 | 0=>KR f k
 | r + 1=>KR (V9 c.Field.toNat (Qn c.Mix) (TD c.Places (Q8 c.Box (mxN c k f r)))) (Tj c.Box k (r + 1))
theorem kK (c : GCipher) (k f : Nat → UInt8) (n : Nat) : ∀ r,r < n ∨ r = 0 → Jo c k f n r = mxN c k f r
 | 0,_=>rfl
 | r + 1,h=>by
  unfold Jo JT mxN
  rw [if_pos (by omega),kK c k f n r (by omega)]
theorem yn (c : GCipher) (k f : Nat → UInt8) (r : Nat) : Kl c k f (r + 1) = KR (TD c.Places (Q8 c.Box (mxN c k f r))) (Tj c.Box k (r + 1)):=by
 unfold Kl
 rw [Jo,JT,if_neg (by omega),kK c k f (r + 1) r (by omega)]
def plH (j : Nat) : Nat:=(13 * j + 4) % 16
theorem K5 {j : Nat} (h : j < 16) : (bf (ZM 4).Places j).toNat = plH j:=by
 unfold bf ZM
 simp only []
 rw [UN _ h,Option.getD_some]
 simp only [UInt8.toNat_ofNat',plH]
 omega
theorem kl : ∀ r,r < 4 → ∀ c,c < 4 → Qn (ZM 4).Mix r c ≠ 0:=by
 intro r hr c hc
 have h : ((List.range 4).all fun i=>(List.range 4).all fun j=>Ui 285 (UInt8.ofNat (i ^^^ (4 + j))) != 0) = true:=by decide +kernel
 have h:=List.all_eq_true.1 (List.all_eq_true.1 h r (List.mem_range.2 hr)) c (List.mem_range.2 hc)
 show Qn (mf fun i j=>Ui 285 (UInt8.ofNat (i ^^^ (4 + j)))) r c ≠ 0
 rw [Zae _ hr hc]
 simpa using h
theorem BB {B : Vector UInt8 256} (h : WR B.toList = true) (x y : UInt8) (e : VG B x = VG B y) : x = y:=by
 have hn : B.toList.Nodup:=BY h
 have hx : x.toNat < B.toList.length:=by simpa using x.toNat_lt
 have hy : y.toNat < B.toList.length:=by simpa using y.toNat_lt
 have:=jU hn hx hy (by simpa [VG] using e)
 exact UInt8.toNat_inj.1 this
theorem QG : WR (ZM 4).Box.toList = true:=by
 show WR (vf 256 fun x=>HP (UInt8.ofNat x)).toList = true
 rw [zJ]; exact zk
theorem pats : ((List.range 16).all fun i=>oneP (fun j=>plH j == i) && oneP (fun j=>mixP (fun j=>plH j == i) (plH j)) && (List.range 16).all fun j=>mixP (fun j=>mixP (fun j=>plH j == i) (plH j)) j) = true:=by decide +kernel
theorem Hi {i y : Nat} (f : Nat → UInt8) (j : Nat) : Ua f i y j = if j = i then UInt8.ofNat y else f j:=by
 unfold Ua
 rw [VC]
section
variable (k f : Nat → UInt8) {i : Nat} (hi : i < 16)
include hi
theorem J3 : T2 (fun j=>j == i) (fun y=>mxN (ZM 4) k (Ua f i y) 0) ∧ (∃ a,T2 a (fun y=>mxN (ZM 4) k (Ua f i y) 1)) ∧ T2 (fun _=>true) (fun y=>mxN (ZM 4) k (Ua f i y) 2):=by
 have hf : YQ ((285 : Nat) : Int) = true:=Bc
 have hp:=List.all_eq_true.1 pats i (List.mem_range.2 hi)
 simp only [Bool.and_eq_true] at hp
 obtain ⟨⟨p1,p2⟩,p3⟩:=hp
 have t0 : T2 (fun j=>j == i) (fun y=>mxN (ZM 4) k (Ua f i y) 0):=by
  refine HT (s:=fun y=>Ua f i y) (fun j hj=>?_) k
  by_cases c : j = i
  ·have e : (j == i) = true:=by simpa using c
   rw [e]
   intro y z hy hz e
   have e : Ua f i y j = Ua f i z j:=e
   rw [Hi,Hi,if_pos c,if_pos c] at e
   have e:=congrArg UInt8.toNat e
   simp only [UInt8.toNat_ofNat'] at e
   omega
  ·have e : (j == i) = false:=by simpa using c
   rw [e]
   intro y hy
   show Ua f i y j = Ua f i 0 j
   rw [Hi,Hi,if_neg c,if_neg c]
 have step : ∀ {a : Nat → Bool} {r : Nat},T2 a (fun y=>mxN (ZM 4) k (Ua f i y) r) → oneP (fun j=>a (plH j)) = true → T2 (mixP fun j=>a (plH j)) (fun y=>mxN (ZM 4) k (Ua f i y) (r + 1)):=fun {a r} h ho=>by
  have h1:=JR (P:=(ZM 4).Places) (fun j hj=>by rw [K5 hj]; unfold plH; omega) (H4 (B:=(ZM 4).Box) (BB QG) h)
  have h2:=Ba h1 (a':=fun j=>a (plH j)) fun j hj=>by rw [K5 hj]
  exact HT (kE hf (by omega) (by omega) kl h2 ho) _
 have t1:=step t0 p1
 have t2:=step t1 p2
 exact ⟨t0,⟨_,t1⟩,Ba t2 fun j hj=>List.all_eq_true.1 p3 j (List.mem_range.2 hj)⟩
theorem zj {r : Nat} (hr : r < 3) : ∃ a,T2 a (fun y=>mxN (ZM 4) k (Ua f i y) r):=by
 obtain ⟨t0,t1,t2⟩:=J3 k f hi
 have : r = 0 ∨ r = 1 ∨ r = 2:=by omega
 rcases this with rfl | rfl | rfl
 ·exact ⟨_,t0⟩
 ·exact t1
 ·exact ⟨_,t2⟩
theorem ys {j : Nat} (hj : j < 16) : Qc (fun y=>mxN (ZM 4) k (Ua f i y) 3 j) 256 = 0:=by
 obtain ⟨_,_,t2⟩:=J3 k f hi
 have h1:=JR (P:=(ZM 4).Places) (fun j hj=>by rw [K5 hj]; unfold plH; omega) (H4 (B:=(ZM 4).Box) (BB QG) t2)
 show Qc (fun y=>V9 285 (Qn (ZM 4).Mix) (TD (ZM 4).Places (Q8 (ZM 4).Box (mxN (ZM 4) k (Ua f i y) 2))) j ^^^ Tj (ZM 4).Box k 3 j) 256 = 0
 rw [KW,JS _ 128,UInt8.xor_zero]
 have z : ∀ t,t < 4 → Qc (fun y=>ZL 285 (Qn (ZM 4).Mix (j % 4) t) (TD (ZM 4).Places (Q8 (ZM 4).Box (mxN (ZM 4) k (Ua f i y) 2)) (j / 4 * 4 + t))) 256 = 0:=fun t ht=>by
  rw [AC (m:=285) (by omega) (by omega),yO (h1 _ (by omega)),Bb (m:=285) (by omega) (by omega)]
 show Qc (fun y=>((ZL 285 (Qn (ZM 4).Mix (j % 4) 0) (TD (ZM 4).Places (Q8 (ZM 4).Box (mxN (ZM 4) k (Ua f i y) 2)) (j / 4 * 4 + 0)) ^^^ ZL 285 (Qn (ZM 4).Mix (j % 4) 1) (TD (ZM 4).Places (Q8 (ZM 4).Box (mxN (ZM 4) k (Ua f i y) 2)) (j / 4 * 4 + 1))) ^^^ ZL 285 (Qn (ZM 4).Mix (j % 4) 2) (TD (ZM 4).Places (Q8 (ZM 4).Box (mxN (ZM 4) k (Ua f i y) 2)) (j / 4 * 4 + 2))) ^^^ ZL 285 (Qn (ZM 4).Mix (j % 4) 3) (TD (ZM 4).Places (Q8 (ZM 4).Box (mxN (ZM 4) k (Ua f i y) 2)) (j / 4 * 4 + 3))) 256 = 0
 rw [KW,KW,KW,z 0 (by omega),z 1 (by omega),z 2 (by omega),z 3 (by omega)]
 rfl
theorem jb {n : Nat} (hn : n < 4) {j : Nat} (hj : j < 16) : Qc (fun y=>Kl (ZM 4) k (Ua f i y) n j) 256 = 0:=by
 cases n with
 | zero =>
  obtain ⟨a,t⟩:=zj k f hi (show 0 < 3 by omega)
  exact yO (t j hj)
 | succ r =>
  obtain ⟨a,t⟩:=zj k f hi (show r < 3 by omega)
  have h1:=HT (JR (P:=(ZM 4).Places) (fun j hj=>by rw [K5 hj]; unfold plH; omega) (H4 (B:=(ZM 4).Box) (BB QG) t)) (Tj (ZM 4).Box k (r + 1))
  simp only [yn]
  exact yO (h1 j hj)
theorem yJ {q : Nat} (hq : q < 16) : Qc (fun y=>VG (V6 256 (ZM 4).Box 256) (Kl (ZM 4) k (Ua f i y) 4 q ^^^ Tj (ZM 4).Box k 4 q)) 256 = 0:=by
 have e : ∀ y,VG (V6 256 (ZM 4).Box 256) (Kl (ZM 4) k (Ua f i y) 4 q ^^^ Tj (ZM 4).Box k 4 q) = mxN (ZM 4) k (Ua f i y) 3 (plH q):=fun y=>by
  rw [yn]
  show VG (V6 256 (ZM 4).Box 256) ((VG (ZM 4).Box (mxN (ZM 4) k (Ua f i y) 3 (bf (ZM 4).Places q).toNat) ^^^ Tj (ZM 4).Box k 4 q) ^^^ Tj (ZM 4).Box k 4 q) = _
  rw [HU,K5 hq]
  exact BB QG _ _ (kT _ QG _)
 rw [Qw 256 fun y _=>e y]
 exact ys k f hi (by unfold plH; omega)
end

theorem HL {α : Type} (h : Nat → α) (φ : α → UInt8) : ∀ n,((List.range n).map h).foldl (fun s b=>s ^^^ φ b) 0 = Qc (fun y=>φ (h y)) n
 | 0=>rfl
 | n + 1=>by
  rw [List.range_succ,List.map_append,List.foldl_append,HL h φ n]; rfl
theorem qg (f : Nat → UInt8) {j : Nat} (h : j < 16) : bf (vf 16 f) j = f j:=by
 unfold bf
 rw [UN _ h]; rfl
theorem kV {j : Nat} (hj : j < 16) : ∀ (l : List Blk) (a : Blk),bf (l.foldl AL a) j = l.foldl (fun s b=>s ^^^ bf b j) (bf a j)
 | [],_=>rfl
 | x :: l,a=>by
  rw [List.foldl_cons,List.foldl_cons,kV hj l]
  have : bf (AL a x) j = bf a j ^^^ bf x j:=by
   unfold AL
   rw [qg _ hj]; rfl
  rw [this]
theorem Zac {j : Nat} (hj : j < 16) : bf (Vector.replicate 16 0) j = 0:=by
 unfold bf
 rw [Vector.getElem?_replicate,if_pos hj]; rfl
theorem kA (key block : Blk) {i n : Int} (hi : 0 ≤ i ∧ i < 16) (hn : 0 ≤ n ∧ n < 4) : QN (ZM 4) key block i n = (Vector.replicate 16 0,0):=by
 have hc : Z3 (ZM 4) i n = 0:=by
  unfold Z3
  rw [Ha 4 (by omega),if_pos rfl]
  have e : (ZM 4).Rounds = 4:=rfl
  rw [e,if_pos (by simp only [Bool.and_eq_true,decide_eq_true_eq]; omega)]
 unfold QN
 rw [hc]
 simp only [bne_self_eq_false,Bool.false_eq_true,if_false]
 refine congrArg (·,(0 : Int)) ?_
 rw [KK (AQ _),TG]
 refine X0 fun j hj=>?_
 unfold AQ WQ K4
 rw [kV hj,Zac hj,HL]
 have : ∀ y,bf (vf 16 (Kl (ZM 4) (bf key) (Ua (bf block) i.toNat y) n.toNat)) j = Kl (ZM 4) (bf key) (Ua (bf block) i.toNat y) n.toNat j:=fun y=>qg _ hj
 rw [Qw 256 fun y _=>this y]
 exact jb (bf key) (bf block) (by omega) (by omega) hj
theorem yM (key block : Blk) {i q : Int} (hi : 0 ≤ i ∧ i < 16) (hq : 0 ≤ q ∧ q < 16) : (AK (ZM 4) key [block] i q 4).2 = 0 ∧ bI (Tj (ZM 4).Box (bf key) 4 q.toNat) ∈ (AK (ZM 4) key [block] i q 4).1:=by
 have hc : Z3 (ZM 4) i 4 = 0:=by
  unfold Z3
  rw [Ha 4 (by omega),if_pos rfl]
  have e : (ZM 4).Rounds = 4:=rfl
  rw [e,if_pos (by simp only [Bool.and_eq_true,decide_eq_true_eq]; omega)]
 have hr : VN (ZM 4) [block] i q 4 = 0:=by
  unfold VN
  rw [hc,if_neg (by decide),if_pos (by simp; omega)]
 unfold AK
 rw [hr]
 simp only [bne_self_eq_false,Bool.false_eq_true,if_false,List.length_singleton,zU,true_and]
 unfold Xo
 refine List.mem_map.2 ⟨(Tj (ZM 4).Box (bf key) 4 q.toNat).toNat,List.mem_filter.2 ⟨List.mem_range.2 (UInt8.toNat_lt _),?_⟩,rfl⟩
 unfold U1 Je yK WQ K4
 rw [HL,beq_iff_eq]
 have e : ZH (((Tj (ZM 4).Box (bf key) 4 q.toNat).toNat : Nat) : Int) = Tj (ZM 4).Box (bf key) 4 q.toNat:=by rw [VC]; simp
 rw [e]
 have hq' : q.toNat < 16:=by omega
 have : ∀ y,VG (V6 256 (ZM 4).Box 256) (bf (vf 16 (Kl (ZM 4) (bf key) (Ua (bf block) i.toNat y) 4)) q.toNat ^^^ Tj (ZM 4).Box (bf key) 4 q.toNat) = VG (V6 256 (ZM 4).Box 256) (Kl (ZM 4) (bf key) (Ua (bf block) i.toNat y) 4 q.toNat ^^^ Tj (ZM 4).Box (bf key) 4 q.toNat):=fun y=>by rw [qg _ hq']
 show Qc (fun y=>VG (V6 256 (ZM 4).Box 256) (bf (vf 16 (Kl (ZM 4) (bf key) (Ua (bf block) i.toNat y) 4)) q.toNat ^^^ Tj (ZM 4).Box (bf key) 4 q.toNat)) 256 = 0
 rw [Qw 256 fun y _=>this y]
 exact yJ (bf key) (bf block) (by omega) hq'
theorem Q5 (l : List Int) (h : l.length ≤ 100000) : WJ l l = some true:=by
 unfold WJ
 have:=HB (f:=V5 l l) l (fun _=>false) (t:=false) (by omega) (fun i hi=>by
  unfold V5
  rw [if_pos (yk (by omega)),Xx,List.getElem?_eq_getElem hi]
  simp) (by unfold V5; simp)
 rw [this]; simp [Fl.el]
theorem zI (l : List Blk) (h : l.length ≤ 100000) : UE l l = some true:=by
 unfold UE
 have:=HB (f:=Ue l l) l (fun _=>false) (t:=false) (by omega) (fun i hi=>by
  unfold Ue
  rw [if_pos (yk (by omega)),Xx,List.getElem?_eq_getElem hi]
  simp) (by unfold Ue; simp)
 rw [this]; simp [Fl.el]
theorem v_xor9 (a b : Blk) : T3 a b = some (AL a b):=by
 unfold T3
 have:=VT (UQ a b) (fun _=>0) (KR (bf a) (bf b)) (by omega) 0 (by omega) (fun j hj=>by omega) (fun i _ hi c _ hc=>by
  unfold UQ
  simp only [Hj hi,if_true,TW _ hi,ZU _ hi,Option.bind_some,Int.toNat_natCast,KR]) (fun v=>by unfold UQ; simp)
 have h2 : ZK (UQ a b) (vf 16 fun _=>0,0) = some (vf 16 (KR (bf a) (bf b))):=this
 rw [TG,h2]; rfl
theorem jF (r : List Blk × Int) (h : r.1.length ≤ 100000) : ZK (UF r) (Vector.replicate 16 0,0) = some (AQ r.1) :=
 Ke r.1 (fun b i=>(b,i)) AL (Vector.replicate 16 0) (by omega) (fun i hi=>by
  unfold UF
  simp only [Int.ofNat_lt,hi,decide_true,if_true,Xx,List.getElem?_eq_getElem hi,Option.bind_some,v_xor9]) (by unfold UF; simp [AQ])
theorem BX : W4 4 = some (ZM 4,0):=by
 unfold W4
 rw [Qu,Option.bind_some,AU]; rfl
theorem Br (key : Blk) : WM (ZM 4) key = some (Wg (ZM 4).Box (bf key) 4,0):=by
 unfold WM
 have hk:=Ay (ZM 4) (bf key) 4 (by omega)
 rw [← KK] at hk
 have e : (ZM 4).Rounds = ((4 : Nat) : Int):=rfl
 rw [JO,Option.bind_some,Ha 4 (by omega),QY (ZM 4) (Ha 4 (by omega)),e,Option.bind_some,hk]; rfl
section
variable {p : List UInt8} (hp : p.length ≤ 4096)
include hp
theorem jL : ∃ r,VS p = some r ∧ True:=by
 unfold VS
 exact Zn (Ho hp) fun r _=>⟨_,rfl,trivial⟩
theorem jR : ∃ r,WO p = some r ∧ True:=by
 unfold WO
 exact Zn (Ho hp) fun r _=>⟨_,rfl,trivial⟩
theorem kp : ∃ r,YI p = some r ∧ True:=by
 unfold YI
 exact Zn (Ho hp) fun r _=>⟨_,rfl,trivial⟩
theorem kk : ∃ r,Xb p = some r ∧ True:=by
 unfold Xb
 refine Zn (Hu hp) fun r3 q3=>Zn (Ho hp) fun r7 _=>Zn (P:=fun j=>WN (j.1,j.2.1) ∧ (¬ j.2.2 = true → Z3 r7.1 r7.2.2.2.1 r7.2.2.2.2 = 0)) ?_ fun j hj=>WE (fun _=>Zn (P:=fun _=>True) ?_ fun j _=>⟨_,rfl,trivial⟩) (fun c=>Zn (P:=fun _=>True) ?_ fun j _=>⟨_,rfl,trivial⟩)
 ·rw [Kk]
  exact Ka (WE (fun c=>⟨_,rfl,q3,fun h=>absurd rfl h⟩) fun c=>Zn (Z6 hp q3 (by omega)) fun r q=>⟨_,rfl,q.1,fun _=>by simpa using c⟩)
 ·refine Zn (Z6 hp hj.1 (by omega)) fun r q=>?_
  obtain ⟨k,ek⟩:=Int.eq_ofNat_of_zero_le q.2.1
  have hk:=q.2.2
  have hs : slc ([r7.2.1,r7.2.2.1,r7.2.1] : List Blk) (0 : Int) (k : Int) = _:=KZ (l:=[r7.2.1,r7.2.2.1,r7.2.1]) (i:=0) (j:=k) (by omega) (by simp; omega)
  rw [ek,hs]
  exact ⟨_,rfl,trivial⟩
 ·rw [Kg (hj.2 c)]
  exact Ka (Zn (Z6 hp hj.1 (by omega)) fun r q=>⟨_,rfl,trivial⟩)
theorem kf : ∃ r,Y5 p = some r ∧ r.2.2.1.length ≤ 9:=by
 unfold Y5
 refine Zn (Hu hp) fun r5 q5=>Zn (Ho hp) fun r9 _=>Zn (Qy hp q5 (by simp)) fun r21 q21=>?_
 obtain ⟨k,ek,hk⟩ : ∃ k : Nat,r21.2 = k ∧ k ≤ 9:=by
  have h:=q21.2
  simp only [List.mem_cons,List.not_mem_nil,or_false] at h
  exact ⟨r21.2.toNat,by rcases h with e | e | e | e | e | e <;> omega,by rcases h with e | e | e | e | e | e <;> omega⟩
 refine Zn (P:=fun j=>j.length ≤ 9) (Tn (fun i t=>t.2.2 = ((k - i : Nat) : Int) ∧ t.2.1.length = i) k (fun i t hi ht=>?_) (fun t ht=>?_) k 0 _ (by omega) ⟨ek,rfl⟩) fun j hj=>Zn (P:=fun z=>z.2.2.2.2.2.2.1.length ≤ 9) (Zn (Z6 hp q21.1 (by omega)) fun r q=>⟨_,rfl,hj⟩) fun z hz=>⟨_,rfl,hz⟩
 ·obtain ⟨t1,t2⟩:=ht
  unfold Xy
  have ha : app 16 t.2.1 ([t.1] : List Blk) = _:=JM (by simp only [List.length_singleton]; omega)
  have hw : wr (15 - t.2.2) = 15 - t.2.2:=XB (by omega)
  rw [if_pos (pos_ok (by omega)),ha,hw]
  exact Ka (Zn (YB t.1 (by omega)) fun x _=>Zn (YB t.1 (by omega)) fun y _=>⟨_,rfl,_,rfl,by show wr (t.2.2 - 1) = _; rw [t1,qV (by omega) (by omega)]; omega,by simp; omega⟩)
 ·obtain ⟨t1,t2⟩:=ht
  unfold Xy
  rw [if_neg (pos_no (by omega))]
  exact ⟨_,rfl,_,rfl,by show t.2.1.length ≤ 9; omega⟩
theorem AG {s : Int × Int} (hs : WN s) : ∃ r,Ul p s = some r ∧ WN r.1:=by
 unfold Ul
 refine Zn (P:=fun j=>WN (j.2.1,j.2.2)) (Tn (fun i t=>t.2.2.2 = (i : Int) ∧ WN (t.2.1,t.2.2.1)) 16 (fun i t hi ht=>?_) (fun t ht=>?_) 16 0 _ rfl ⟨rfl,hs⟩) fun j hj=>⟨_,rfl,hj⟩
 ·obtain ⟨t1,t2⟩:=ht
  unfold Tu
  rw [if_pos (yk (by omega))]
  exact Zn (Kn hp t2 (by omega)) fun r hr=>Zn (YB _ (by omega)) fun x _=>⟨_,rfl,_,rfl,by show wr (t.2.2.2 + 1) = _; rw [t1,jx (by omega) (by omega)]; omega,hr.1⟩
 ·obtain ⟨t1,t2⟩:=ht
  unfold Tu
  rw [if_neg (lt_no (by omega))]
  exact ⟨_,rfl,_,rfl,t2⟩
end
theorem jZ (q : (Int × Int) × Int) (j : List Int × Int) (b : Vector UInt8 256) (k : Nat → UInt8) (hq : 0 ≤ q.2 ∧ q.2 < 16) (hl : j.1.length ≤ 1000) (hm : bI (Tj b k 4 q.2.toNat) ∈ j.1) : ZK (VZ q j (Wg b k 4,0)) 0 = some (.ex true):=by
 obtain ⟨n,en⟩:=Int.eq_ofNat_of_zero_le hq.1
 have hv : ZB (vf 16 (Tj b k 4)) q.2 = some (Tj b k 4 q.2.toNat):=by rw [en,ZU _ (by omega)]; rfl
 have hi : idx (Wg b k 4) (4 : Int) = some (vf 16 (Tj b k 4)):=K1 b k (n:=4) (r:=4) (Nat.le_refl 4)
 have:=HB (f:=VZ q j (Wg b k 4,0)) j.1 (fun x=>x == bI (Tj b k 4 q.2.toNat)) (t:=true) (by omega) (fun i hi'=>by
  unfold VZ
  rw [if_pos (yk (by omega)),Xx,List.getElem?_eq_getElem hi']
  simp only [Option.bind_some,hi,hv]
  cases (j.1[i] == bI (Tj b k 4 q.2.toNat)) <;> rfl) (by unfold VZ; simp)
 rw [this]
 have e : (j.1.any fun x=>x == bI (Tj b k 4 q.2.toNat)) = true:=List.any_eq_true.2 ⟨_,hm,by simp⟩
 rw [e]; rfl
theorem yW (p : List UInt8) (_ : Dat.bd p) : TV p = some true:=by
 unfold TV
 refine YL (r:=decide ((p.length : Int) > 4096)) rfl ?_
 by_cases hbig : (p.length : Int) > 4096
 ·rw [if_pos (by simpa using hbig)]
 rw [if_neg (by simpa using hbig)]
 have hp : p.length ≤ 4096:=by omega
 obtain ⟨⟨c,key,block,i,n⟩,e1,_⟩:=jL hp
 refine YL e1 (YL (zo c key block i n) (YL (zW c key block i n) (KD ?_ ?_)))
 ·have:=BM c key block i n
  rw [if_neg (by simp),zI _ (by omega)]; rfl
 obtain ⟨⟨c2,key2,block2,i2,n2⟩,e2,_⟩:=jR hp
 refine YL e2 (YL (Qf c2 key2 block2 i2 n2) (YL (Bu c2 key2 block2 i2 n2) (KD ?_ ?_)))
 ·rw [if_neg (by simp)]; simp
 obtain ⟨⟨c3,l3,j3⟩,e3,_⟩:=kk hp
 refine YL e3 (YL (KQ c3 l3 j3) (YL (KS c3 l3 j3) (KD ?_ ?_)))
 ·have:=yN c3 l3 j3
  rw [if_neg (by simp),Q5 _ (by omega)]; rfl
 obtain ⟨⟨c4,key4,l4,i4,j4,n4⟩,e4,h4⟩:=kf hp
 have h4 : l4.length ≤ 9:=h4
 refine YL e4 (YL (Tx c4 key4 l4 i4 j4 n4 (by omega)) (YL (KF c4 key4 l4 i4 j4 n4 (by omega)) (KD ?_ ?_)))
 ·have:=yb c4 key4 l4 i4 j4 n4
  rw [if_neg (by simp),Q5 _ (by omega)]; rfl
 obtain ⟨⟨c5,key5,block5,i5,n5⟩,e5,_⟩:=kp hp
 refine YL e5 (YL (QK c5 key5 block5 i5 n5) (YL (QM c5 key5 block5 i5 n5) (KD ?_ (elf_nx (ite_nx fun hc=>?_) ?_))))
 ·have:=yp c5 key5 block5 i5 n5
  rw [if_neg (by simp),Q5 _ (by omega)]; rfl
 ·have hl:=BM c key block i n
  have hc : (TY c key block i n).2 = 0:=by simpa using hc
  have h0 : Z3 c i n = 0:=by
   by_cases h0 : Z3 c i n = 0
   ·exact h0
   ·unfold TY at hc
    rw [if_pos (by simpa using h0)] at hc
    exact absurd hc h0
  have er : TY c key block i n = (WQ c key block i n,0):=by unfold TY; rw [if_neg (by simp [h0])]
  have es : QN c key block i n = (AQ (WQ c key block i n),0):=by unfold QN; rw [if_neg (by simp [h0])]
  refine YL (jF _ (by omega)) (YL (Qf c key block i n) (KD ?_ rfl))
  rw [er,es,if_neg (by simp),if_neg (by simp)]
  simp only [TO]; rfl
 ·obtain ⟨s,es,hs⟩:=qi hp 9012
  obtain ⟨⟨s1,own⟩,ea,ha⟩:=AG hp hs
  obtain ⟨⟨s2,base⟩,eb,hb⟩:=AG hp ha
  obtain ⟨⟨s3,x⟩,ex,hx⟩:=Kn hp hb (n:=16) (by omega)
  obtain ⟨⟨s4,y⟩,ey,hy⟩:=Kn hp hx.1 (n:=4) (by omega)
  obtain ⟨⟨s5,q⟩,eq,hq⟩:=Kn hp hy.1 (n:=16) (by omega)
  obtain ⟨⟨s6,z⟩,ez,hz⟩:=Kn hp hq.1 (n:=16) (by omega)
  have hS:=kA own base hx.2 hy.2
  have hR:=yM own base hz.2 hq.2
  have hRl:=yb (ZM 4) own [base] z q 4
  generalize hro : AK (ZM 4) own [base] z q 4 = ro at hR hRl
  have hros : YK (ZM 4) own [base] z q 4 = some ro:=(Tx (ZM 4) own [base] z q 4 (by simp)).trans (congrArg some hro)
  refine YL es ?_
  refine YL BX ?_
  refine YL ea ?_
  refine YL eb ?_
  refine YL ex ?_
  refine YL ey ?_
  refine YL ((Qf (ZM 4) own base x y).trans (congrArg some hS)) ?_
  refine YL eq ?_
  refine YL (r:=(ro.1,ro.2)) (YL ez (YL hros rfl)) ?_
  refine YL (Br own) ?_
  refine KD ?_ ?_
  ·rw [if_neg (by simp),if_neg (by simp),if_neg (by simp [hR.1]),if_neg (by simp)]
   simp
  ·exact YL (jZ (s5,q) (ro.1,ro.2) (ZM 4).Box (bf own) hq.2 (Nat.le_trans hRl (by omega)) hR.2) rfl
end Go.Proofs.YtkajmkegelcfjaaGreat
