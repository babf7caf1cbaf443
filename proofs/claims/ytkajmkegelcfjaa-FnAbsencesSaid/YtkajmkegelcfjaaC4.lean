/- Plain laws, no program in sight. -/
import Derived.Test.YtkajmkegelcfjaaC3
set_option linter.unusedVariables false
set_option linter.unusedSimpArgs false
set_option maxRecDepth 20000
set_option maxHeartbeats 400000
namespace Go.Proofs.Ytkajmkegelcfjaa
open Go
open Flat (enc)
theorem WQ {i : Nat} (h : i < 9223372036854775807) : wr ((i : Int) + 1) = ((i + 1 : Nat) : Int):=by
 rw [Yd (by omega)]; rfl

section
variable {S T : Type} {f : S → Option (Fl S T)}
theorem jR (g : Nat → S) (m n : Nat) (hmn : m ≤ n) (h : ∀ i, m ≤ i → i < n → f (g i) = some (.nx (g (i + 1)))) : ZF f (g m) = ZF f (g n) := by
  induction n with
  | zero => have : m = 0 := by omega
            subst this; rfl
  | succ n ih =>
    rcases Nat.lt_or_ge m (n + 1) with h1 | h1
    · rw [ih (by omega) (fun i h2 h3 => h i h2 (by omega)), Yp (h n (by omega) (by omega))]
    · have : m = n + 1 := by omega
      subst this; rfl
theorem Yl (g : Nat → S) (m n : Nat) (hmn : m ≤ n) {t : T} (h : ∀ i,m ≤ i → i < n → f (g i) = some (.nx (g (i + 1)))) (he : f (g n) = some (.ex t)) : ZF f (g m) = some t:=by
 rw [jR g m n hmn h,Ym he]
theorem KP (g : Nat → S) (p : Nat → Bool) (t : Nat → T) {e : T} (n : Nat) : ∀ (k m : Nat),m + k = n → (∀ i,m ≤ i → i < n → f (g i) = some (if p i then .ex (t i) else .nx (g (i + 1)))) → f (g n) = some (.ex e) →
  ZF f (g m) = some (((List.range' m k).find? p).elim e t)
 | 0,m,hk,_,he=>by
  have : m = n:=by omega
  subst this
  rw [Ym he]; rfl
 | k + 1,m,hk,h,he=>by
  have h1:=h m (Nat.le_refl _) (by omega)
  rw [List.range'_succ,List.find?_cons]
  cases hp : p m with
  | true=>rw [hp] at h1; rw [Ym h1]; rfl
  | false =>
   rw [hp] at h1
   rw [Yp h1,KP g p t n k (m + 1) (by omega) (fun i h2 h3=>h i (by omega) h3) he]
end

theorem Hz {T : Type} {f : Int → Option (Fl Int (Fl Unit T))} (p : Nat → Bool) {t : T} {n m : Nat} (hm : m ≤ n)
  (h : ∀ i,m ≤ i → i < n → f (i : Int) = some (if p i then .ex (.ex t) else .nx ((i + 1 : Nat) : Int))) (he : f (n : Int) = some (.ex (.nx ()))) :
  ZF f (m : Int) = some (if (List.range' m (n - m)).any p then .ex t else .nx ()):=by
 rw [KP (fun i : Nat=>(i : Int)) p (fun _=>.ex t) n (n - m) m (by omega) h he]
 cases hf : (List.range' m (n - m)).find? p with
 | none =>
  have : (List.range' m (n - m)).any p = false:=by
   rw [List.any_eq_false]
   rw [List.find?_eq_none] at hf
   exact hf
  rw [this]; rfl
 | some i =>
  have : (List.range' m (n - m)).any p = true:=by
   rw [List.any_eq_true]
   exact ⟨i,List.mem_of_find?_eq_some hf,List.find?_some hf⟩
  rw [this]; rfl
theorem zW {p : Nat → Bool} {m n : Nat} : (List.range' m (n - m)).any p = true ↔ ∃ i,m ≤ i ∧ i < n ∧ p i = true:=by
 rw [List.any_eq_true]
 simp only [List.mem_range'_1]
 constructor
 ·rintro ⟨i,⟨h1,h2⟩,h3⟩; exact ⟨i,h1,by omega,h3⟩
 ·rintro ⟨i,h1,h2,h3⟩; exact ⟨i,⟨h1,by omega⟩,h3⟩
theorem y5 {α : Type} {q : α → Bool} {l : List α} {p : Nat → Bool} (hp : ∀ i (h : i < l.length),p i = q l[i]) : (List.range' 0 (l.length - 0)).any p = l.any q:=by
 rw [Bool.eq_iff_iff,zW,List.any_eq_true]
 constructor
 ·rintro ⟨i,_,h,h3⟩; exact ⟨l[i],List.getElem_mem h,by rw [← hp i h]; exact h3⟩
 ·rintro ⟨x,hx,h⟩
  obtain ⟨i,hi,rfl⟩:=List.mem_iff_getElem.1 hx
  exact ⟨i,Nat.zero_le _,hi,by rw [hp i hi]; exact h⟩

theorem KU {T α : Type} {f : Int → Option (Fl Int (Fl Unit T))} (l : List α) (q : α → Bool) {t : T} (hl : l.length < 9223372036854775807)
  (h : ∀ i (hi : i < l.length),f (i : Int) = some (if q l[i] then .ex (.ex t) else .nx (wr ((i : Int) + 1)))) (he : f (l.length : Int) = some (.ex (.nx ()))) :
  ZF f 0 = some (if l.any q then .ex t else .nx ()):=by
 have:=Hz (f:=f) (fun i=>if hi : i < l.length then q l[i] else false) (t:=t) (n:=l.length) (m:=0) (Nat.zero_le _) (fun i _ hi=>by
  rw [h i hi,WQ (by omega)]; simp [hi]) he
 rw [y5 (q:=q) (fun i hi=>by simp [hi])] at this
 exact this

class Wt (α : Type) [Dat α] where
 wt : α → Nat
 ln : α → Prop
 bdln : ∀ x,Dat.bd x → ln x
 wtln : ∀ x,wt x ≤ 1048576 → ln x
instance : Wt Int:=⟨fun _=>0,fun _=>True,fun _ _=>trivial,fun _ _=>trivial⟩
instance : Wt UInt8:=⟨fun _=>0,fun _=>True,fun _ _=>trivial,fun _ _=>trivial⟩
instance : Wt Bool:=⟨fun _=>0,fun _=>True,fun _ _=>trivial,fun _ _=>trivial⟩
instance : Wt Str:=⟨fun s=>s.l.length,fun s=>s.l.length ≤ 9223372036854775807,fun _ h=>h,fun _ h=>by omega⟩
instance {n : Nat} : Wt (Vector UInt8 n):=⟨fun _=>0,fun _=>True,fun _ _=>trivial,fun _ _=>trivial⟩
instance {n m : Nat} : Wt (Vector (Vector UInt8 m) n):=⟨fun _=>0,fun _=>True,fun _ _=>trivial,fun _ _=>trivial⟩
theorem jY {α : Type} {f : α → Nat} {l : List α} {x : α} (h : x ∈ l) : f x ≤ (l.map f).sum:=by
 induction l with
 | nil=>cases h
 | cons y l ih =>
  rw [List.map_cons,List.sum_cons]
  rcases List.mem_cons.1 h with rfl | h
  ·omega
  ·have:=ih h; omega
instance {α : Type} [Dat α] [Wt α] : Wt (List α):=⟨fun l=>l.length + (l.map Wt.wt).sum,fun l=>l.length ≤ 9223372036854775807 ∧ ∀ x ∈ l,Wt.ln x,fun _ h=>⟨h.1,fun x hx=>Wt.bdln x (h.2 x hx)⟩,
 fun l h=>⟨by omega,fun x hx=>Wt.wtln x (by have:=jY (f:=Wt.wt) hx; omega)⟩⟩
instance {α β : Type} [Dat α] [Dat β] [Wt α] [Wt β] : Wt (α × β):=⟨fun x=>Wt.wt x.1 + Wt.wt x.2,fun x=>Wt.ln x.1 ∧ Wt.ln x.2,fun x h=>⟨Wt.bdln x.1 h.1,Wt.bdln x.2 h.2⟩,fun x h=>⟨Wt.wtln x.1 (by omega),Wt.wtln x.2 (by omega)⟩⟩
@[simp] theorem YN {α : Type} (l : List α) (i : Nat) : idx l (i : Int) = l[i]?:=by unfold idx; simp
@[simp] theorem ji {α : Type} (l : List α) : idx l (0 : Int) = l[0]?:=YN l 0
theorem ye {T : Type} {f : Int → Option (Fl Int (Fl Unit T))} (n : Nat) (p : Nat → Bool) (t : T) (hn : n < 9223372036854775807) (m : Nat) (hm : m ≤ n)
  (h : ∀ i,m ≤ i → i < n → f (i : Int) = some (if p i then .ex (.ex t) else .nx (wr ((i : Int) + 1)))) (he : f (n : Int) = some (.ex (.nx ()))) :
  ZF f (m : Int) = some (if (List.range' m (n - m)).any p then .ex t else .nx ()) :=
 Hz p hm (fun i hmi hi=>by rw [h i hmi hi,WQ (by omega)]) he
theorem Be {α β S T : Type} {f : S → Option (Fl S T)} (l : List α) (pack : β → Int → S) (g : β → α → β) (b0 : β) {t : T} (hn : l.length < 9223372036854775807)
  (h : ∀ i (hi : i < l.length),f (pack ((l.take i).foldl g b0) (i : Int)) = some (.nx (pack (g ((l.take i).foldl g b0) l[i]) (wr ((i : Int) + 1))))) (he : f (pack (l.foldl g b0) (l.length : Int)) = some (.ex t)) :
  ZF f (pack b0 0) = some t:=by
 have:=Yl (f:=f) (fun i : Nat=>pack ((l.take i).foldl g b0) (i : Int)) 0 l.length (Nat.zero_le _) (t:=t) (fun i _ hi=>by
  rw [h i hi,WQ (by omega)]
  congr 3
  rw [List.take_succ_eq_append_getElem hi,List.foldl_append]; rfl) (by rw [List.take_length]; exact he)
 simpa using this
theorem XD {α : Type} {by_ : Nat} {l m : List α} (h : (l.length + m.length) * by_ ≤ 140737488355328) : app by_ l m = some (l ++ m):=by unfold app; rw [if_pos h]
theorem KK {α : Type} {l : List α} {i j : Nat} (h : i ≤ j) (h2 : j ≤ l.length) : slc l (i : Int) (j : Int) = some ((l.take j).drop i):=by
 unfold slc; rw [if_pos (by omega)]; simp

theorem Kj {α : Type} {n : Nat} {v w : Vector α n} (h : ∀ i (hi : i < n),v[i] = w[i]) : v = w:=Vector.ext h
@[simp] theorem VG {α : Type} {n : Nat} (v : Vector α n) (i : Nat) : ZI v (i : Int) = v[i]?:=by unfold ZI; simp
theorem TN (n a b : Int) : XK n a b = some (decide (a ≤ n ∧ n ≤ b)):=by
 unfold XK
 by_cases h1 : a ≤ n <;> by_cases h2 : n ≤ b <;> simp [h1,h2]
theorem zt (n a b : Int) : WO n a b = some (decide (a ≤ n ∧ n ≤ b)):=by
 unfold WO
 by_cases h1 : a ≤ n <;> by_cases h2 : n ≤ b <;> simp [h1,h2]
theorem KX (a : Nat) (h : a < 9223372036854775808) : (BitVec.ofInt 64 (a : Int)).toNat = a:=by
 rw [BitVec.toNat_ofInt]
 omega
theorem Qr (a b : Nat) (ha : a < 9223372036854775808) (hb : b < 9223372036854775808) : KY (a : Int) (b : Int) = ((a ^^^ b : Nat) : Int):=by
 unfold KY
 rw [BitVec.toNat_xor,KX a ha,KX b hb]
 have : a ^^^ b < 2 ^ 63:=Nat.xor_lt_two_pow ha hb
 exact Yd (by omega)
theorem yX (a b : Nat) (ha : a < 9223372036854775808) (hb : b < 9223372036854775808) : JB (a : Int) (b : Int) = ((a &&& b : Nat) : Int):=by
 unfold JB
 rw [BitVec.toNat_and,KX a ha,KX b hb]
 have : a &&& b < 2 ^ 63:=Nat.and_lt_two_pow _ hb
 exact Yd (by omega)
theorem Az (a i : Nat) (hi : i ≤ 63) (h : a <<< i < 9223372036854775808) : HM (a : Int) (i : Int) = ((a <<< i : Nat) : Int):=by
 unfold HM
 rw [show min ((i : Int)).toNat 64 = i by omega]
 have : ((a : Int) * 2 ^ i) = ((a <<< i : Nat) : Int):=by rw [Nat.shiftLeft_eq]; simp
 rw [this]
 generalize a <<< i = x at h ⊢
 exact Yd (by omega)
theorem Ac (a i : Nat) (hi : i ≤ 63) : Uy (a : Int) (i : Int) = ((a >>> i : Nat) : Int):=by
 unfold Uy
 rw [show min ((i : Int)).toNat 64 = i by omega,Nat.shiftRight_eq_div_pow,Int.fdiv_eq_ediv_of_nonneg _ (by exact_mod_cast Nat.zero_le _)]
 simp
theorem BT (a i : Nat) : ((a >>> i) &&& 1 = 1) ↔ a.testBit i = true:=by
 rw [Nat.testBit,Nat.and_comm]
 have h:=Nat.and_one_is_mod (a >>> i)
 rw [Nat.and_comm] at h
 rw [h]
 rcases Nat.mod_two_eq_zero_or_one (a >>> i) with h | h <;> simp [h]
theorem yw (a : Nat) : Int.tmod (a : Int) 2 = ((a % 2 : Nat) : Int):=by
 rw [Int.tmod_eq_emod_of_nonneg (by omega)]; simp
theorem yP (a : Nat) : Int.tdiv (a : Int) 2 = ((a / 2 : Nat) : Int):=by
 rw [Int.tdiv_eq_ediv_of_nonneg (by omega)]; simp
theorem Aa (a : Nat) (h : a < 9223372036854775808) : wr (a : Int) = (a : Int):=Yd (by omega)
theorem BO (a : Nat) (h : a < 9223372036854775808) : IntKind.u64.wrap (a : Int) = (a : Int):=by
 simp only [IntKind.wrap,IntKind.bits,IntKind.signed]
 simp
 omega

def YJ (m deg : Nat) : Nat → Nat → Nat
 | 0,a=>a
 | k + 1,a=>YJ m deg k (if a.testBit (deg + k) then a ^^^ (m <<< k) else a)
theorem Qb {m k n : Nat} (h : m < 2 ^ n) : m <<< k < 2 ^ (n + k):=by
 rw [Nat.shiftLeft_eq,Nat.pow_add]
 exact Nat.mul_lt_mul_of_pos_right h (Nat.two_pow_pos _)
theorem H6 {a n : Nat} (h : a < 2 ^ (n + 1)) (hb : a.testBit n = false) : a < 2 ^ n:=by
 apply Nat.lt_pow_two_of_testBit
 intro i hi
 rcases Nat.eq_or_lt_of_le hi with rfl | hi
 ·exact hb
 ·exact Nat.testBit_lt_two_pow (Nat.lt_of_lt_of_le h (Nat.pow_le_pow_right (by omega) hi))
theorem zq {m d : Nat} (h1 : 2 ^ d ≤ m) (h2 : m < 2 ^ (d + 1)) : m.testBit d = true:=by
 rw [Nat.testBit,Nat.shiftRight_eq_div_pow]
 have : m / 2 ^ d = 1:=by
  apply Nat.div_eq_of_lt_le
  ·simpa using h1
  ·rw [Nat.pow_succ] at h2; omega
 rw [this]; rfl
theorem jC {m d k a : Nat} (h1 : 2 ^ d ≤ m) (h2 : m < 2 ^ (d + 1)) (ha : a < 2 ^ (d + (k + 1))) (hb : a.testBit (d + k) = true) : a ^^^ (m <<< k) < 2 ^ (d + k):=by
 have hm : m <<< k < 2 ^ (d + (k + 1)):=by have:=Qb (k:=k) h2; rwa [show d + 1 + k = d + (k + 1) by omega] at this
 refine H6 (Nat.xor_lt_two_pow (by rwa [show d + k + 1 = d + (k + 1) by omega]) (by rwa [show d + k + 1 = d + (k + 1) by omega])) ?_
 rw [Nat.testBit_xor,hb,Nat.testBit_shiftLeft]
 simp [zq h1 h2]
theorem Kb {m d : Nat} (h1 : 2 ^ d ≤ m) (h2 : m < 2 ^ (d + 1)) : ∀ (k a : Nat),a < 2 ^ (d + k) → YJ m d k a < 2 ^ d
 | 0,a,h=>by simpa [YJ] using h
 | k + 1,a,h=>by
  unfold YJ
  cases hb : a.testBit (d + k) with
  | true=>simp only [if_true]; exact Kb h1 h2 k _ (jC h1 h2 h hb)
  | false=>simp only [Bool.false_eq_true,if_false]; exact Kb h1 h2 k a (H6 h hb)
theorem Tj (m d : Nat) : ∀ (k a b : Nat),YJ m d k (a ^^^ b) = YJ m d k a ^^^ YJ m d k b
 | 0,_,_=>rfl
 | k + 1,a,b=>by
  simp only [YJ]
  rw [Nat.testBit_xor]
  cases a.testBit (d + k) <;> cases b.testBit (d + k) <;> simp only [Bool.xor_false,Bool.false_xor,Bool.xor_self,Bool.xor_true,Bool.not_false,Bool.not_true,Bool.false_eq_true,if_true,if_false]
  ·exact Tj m d k a b
  ·rw [Nat.xor_assoc]; exact Tj m d k a _
  ·rw [← Tj m d k]; congr 1; rw [Nat.xor_assoc,Nat.xor_comm b,← Nat.xor_assoc]
  ·rw [← Tj m d k]; congr 1
   rw [Nat.xor_assoc,← Nat.xor_assoc (m <<< k),Nat.xor_comm (m <<< k) b,Nat.xor_assoc,Nat.xor_self,Nat.xor_zero]
theorem V9 {m d : Nat} : ∀ (k a : Nat),a < 2 ^ d → YJ m d k a = a
 | 0,_,_=>rfl
 | k + 1,a,h=>by
  unfold YJ
  rw [Nat.testBit_lt_two_pow (Nat.lt_of_lt_of_le h (Nat.pow_le_pow_right (by omega) (by omega)))]
  simp only [Bool.false_eq_true,if_false]
  exact V9 k a h
theorem HW {m d k a : Nat} (h : a < 2 ^ (d + k)) : YJ m d (k + 1) a = YJ m d k a:=by
 conv=>lhs; unfold YJ
 rw [Nat.testBit_lt_two_pow h]; rfl
theorem TF (m d : Nat) : ∀ (k x : Nat),YJ m d (k + 1) (x <<< 1) = (if ((YJ m d k x) <<< 1).testBit d then ((YJ m d k x) <<< 1) ^^^ m else (YJ m d k x) <<< 1)
 | 0,x=>by simp [YJ]
 | k + 1,x=>by
  conv=>lhs; unfold YJ
  conv=>rhs; unfold YJ
  have e : (x <<< 1).testBit (d + (k + 1)) = x.testBit (d + k):=by
   rw [Nat.testBit_shiftLeft]
   have : d + (k + 1) ≥ 1:=by omega
   simp only [this,decide_true,Bool.true_and]
   congr 1
  rw [e]
  cases x.testBit (d + k) with
  | false=>simp only [Bool.false_eq_true,if_false]; exact TF m d k x
  | true =>
   simp only [if_true]
   have e2 : x <<< 1 ^^^ m <<< (k + 1) = (x ^^^ m <<< k) <<< 1:=by
    rw [Nat.shiftLeft_xor_distrib,← Nat.shiftLeft_add]
   rw [e2]
   exact TF m d k _

def lenN (n : Nat) : Nat:=if n = 0 then 0 else n.log2 + 1
theorem v_rest (a m d : Nat) (hd : d ≤ 15) (ha : a < 2 ^ 16) (hm : m < 2 ^ 20) : Ut (a : Int) (m : Int) (d : Int) = some ((YJ m d (16 - d) a : Nat) : Int):=by
 have key : ∀ (k a : Nat),d + k ≤ 16 → a < 2 ^ 40 → ZF (Ub (m : Int) (d : Int)) ((a : Int),((d + k : Nat) : Int) - 1) = some ((YJ m d k a : Nat) : Int):=by
  intro k
  induction k with
  | zero =>
   intro a _ _
   rw [Ym (t:=(a : Int))]
   ·rfl
   ·unfold Ub
    have : ¬ (((d + 0 : Nat) : Int) - 1 ≥ (d : Int)):=by omega
    simp only [this,decide_false,Bool.false_eq_true,if_false]
  | succ k ih =>
   intro a hk ha
   have e0 : ((d + (k + 1) : Nat) : Int) - 1 = ((d + k : Nat) : Int):=by omega
   have hsh : m <<< k < 2 ^ (20 + k):=Qb hm
   have hsh2 : m <<< k < 2 ^ 40:=Nat.lt_of_lt_of_le hsh (Nat.pow_le_pow_right (by omega) (by omega))
   have hst : Ub (m : Int) (d : Int) ((a : Int),((d + (k + 1) : Nat) : Int) - 1) = some (.nx (((if a.testBit (d + k) then a ^^^ (m <<< k) else a : Nat) : Int),((d + k : Nat) : Int) - 1)):=by
    rw [e0]
    unfold Ub
    have c1 : ((d + k : Nat) : Int) ≥ (d : Int):=by omega
    have c2 : XE ((d + k : Nat) : Int) = some ():=by unfold XE; rw [if_pos (by omega)]
    have c3 : wr (((d + k : Nat) : Int) - (d : Int)) = ((k : Nat) : Int):=by rw [show ((d + k : Nat) : Int) - (d : Int) = ((k : Nat) : Int) by omega,Aa _ (by omega)]
    have c4 : XE ((k : Nat) : Int) = some ():=by unfold XE; rw [if_pos (by omega)]
    have c5 : wr (((d + k : Nat) : Int) - 1) = ((d + k : Nat) : Int) - 1:=Yd (by omega)
    simp only [c1,decide_true,if_true,c2,c3,c4,c5,Option.bind_some]
    have c6 : JB (Uy (a : Int) ((d + k : Nat) : Int)) 1 = (((a >>> (d + k)) &&& 1 : Nat) : Int):=by
     rw [Ac a (d + k) (by omega)]
     exact yX _ 1 (Nat.lt_of_le_of_lt (Nat.shiftRight_le _ _) (by omega)) (by omega)
    rw [c6,Az m k (by omega) (by omega),Qr a _ (by omega) (by omega)]
    cases hb : a.testBit (d + k) with
    | true =>
     have:=(BT a (d + k)).2 hb
     rw [this]; rfl
    | false =>
     have : ¬ ((a >>> (d + k)) &&& 1 = 1):=fun h=>by rw [(BT a (d + k)).1 h] at hb; cases hb
     have h2 : (((((a >>> (d + k)) &&& 1 : Nat) : Int)) == 1) = false:=by
      rw [beq_eq_false_iff_ne]; omega
     rw [h2]; rfl
   rw [Yp hst,ih _ (by omega) ?_]
   ·conv=>rhs; unfold YJ
   ·split
    ·exact Nat.xor_lt_two_pow ha hsh2
    ·exact ha
 unfold Ut
 have:=key (16 - d) a (by omega) (by omega)
 rw [show ((d + (16 - d) : Nat) : Int) - 1 = 15 by omega] at this
 rw [this]; rfl

def KB : Nat → Nat → Nat → Nat
 | 0,_,_=>0
 | n + 1,a,b=>(if b % 2 = 1 then a else 0) ^^^ KB n (a <<< 1) (b / 2)
theorem K5 : ∀ (n a : Nat),KB n a 0 = 0
 | 0,_=>rfl
 | n + 1,a=>by simp [KB,K5 n]
theorem zQ : ∀ (n a b p : Nat),a < 2 ^ p → KB n a b < 2 ^ (p + n)
 | 0,_,_,_,_=>by simp [KB]; exact Nat.two_pow_pos _
 | n + 1,a,b,p,h=>by
  unfold KB
  have h1 : a <<< 1 < 2 ^ (p + 1):=Qb h
  have h2:=zQ n (a <<< 1) (b / 2) (p + 1) h1
  rw [show p + 1 + n = p + (n + 1) by omega] at h2
  refine Nat.xor_lt_two_pow ?_ h2
  have h3 : 2 ^ p ≤ 2 ^ (p + (n + 1)):=Nat.pow_le_pow_right (by omega) (by omega)
  have h4:=Nat.two_pow_pos (p + (n + 1))
  split <;> omega
def prC : Nat → Nat → Nat → Nat
 | 0,_,_=>0
 | i + 1,a,b=>prC i a b ^^^ (if b.testBit i then a <<< i else 0)
theorem Ay : ∀ (n a b : Nat),prC (n + 1) a b = (if b % 2 = 1 then a else 0) ^^^ prC n (a <<< 1) (b / 2)
 | 0,a,b=>by
  simp only [prC,Nat.zero_xor,Nat.xor_zero,Nat.shiftLeft_zero]
  have : b.testBit 0 = decide (b % 2 = 1):=by simp [Nat.testBit_zero]
  rw [this]; simp
 | n + 1,a,b=>by
  conv=>lhs; unfold prC
  rw [Ay n a b]
  conv=>rhs; unfold prC
  rw [← Nat.xor_assoc]
  congr 1
  rw [Nat.testBit_succ,← Nat.shiftLeft_add,Nat.add_comm 1 n]
theorem yV : ∀ (n a b : Nat),prC n a b = KB n a b
 | 0,_,_=>rfl
 | n + 1,a,b=>by rw [Ay,yV n]; rfl
theorem A3 (a b : Nat) (h : a < 256) : ∀ i,i ≤ 8 → prC i a b < 2 ^ 16
 | 0,_=>by simp [prC]
 | i + 1,hi=>by
  unfold prC
  have h1 : a <<< i < 2 ^ (8 + i):=Qb h
  have h2 : 2 ^ (8 + i) ≤ 2 ^ 16:=Nat.pow_le_pow_right (by omega) (by omega)
  refine Nat.xor_lt_two_pow (A3 a b h i (by omega)) ?_
  split
  ·omega
  ·omega
def Z5 (m : Nat) (a b : UInt8) : UInt8:=Zz ((YJ m 8 8 (KB 8 a.toNat b.toNat) : Nat) : Int)
theorem Ui (m : Nat) (hm : m < 512) (a b : UInt8) : Z8 (m : Int) a b = some (Z5 m a b):=by
 have ha : a.toNat < 256:=a.toNat_lt
 have hb : b.toNat < 256:=b.toNat_lt
 have h:=Yl (f:=Xk a b) (fun i : Nat=>(((prC i a.toNat b.toNat : Nat) : Int),(i : Int))) 0 8 (Nat.zero_le _) (t:=((prC 8 a.toNat b.toNat : Nat) : Int)) (fun i _ hi=>by
  unfold Xk
  have c1 : ((i : Int) < 8):=by omega
  have c2 : XE (i : Int) = some ():=by unfold XE; rw [if_pos (by omega)]
  have c3 : prC i a.toNat b.toNat < 2 ^ 16:=A3 _ _ ha i (by omega)
  have c4 : a.toNat <<< i < 2 ^ (8 + i):=Qb ha
  have c5 : 2 ^ (8 + i) ≤ 2 ^ 16:=Nat.pow_le_pow_right (by omega) (by omega)
  have c6 : (((JU b (i : Int)) &&& 1) == 1) = b.toNat.testBit i:=by
   have e1 : (JU b (i : Int)).toNat = b.toNat >>> i:=by
    unfold JU Zz
    rw [show min ((i : Int)).toNat 8 = i by omega,Int.fdiv_eq_ediv_of_nonneg _ (by exact_mod_cast Nat.zero_le _)]
    have : ((b.toNat : Int) / 2 ^ i) = ((b.toNat >>> i : Nat) : Int):=by rw [Nat.shiftRight_eq_div_pow]; simp
    rw [this]
    have h3 : b.toNat >>> i ≤ b.toNat:=Nat.shiftRight_le _ _
    generalize b.toNat >>> i = q at h3 ⊢
    have h4 : (((q : Nat) : Int) % 256).toNat = q:=by omega
    rw [h4]
    simp
    omega
   rw [Bool.eq_iff_iff,beq_iff_eq,← BT,← UInt8.toNat_inj,UInt8.toNat_and,e1]
   simp
  simp only [c1,decide_true,if_true,c2,Option.bind_some,c6,WQ (show i < 9223372036854775807 by omega)]
  rw [Az _ i (by omega) (by omega),Qr _ _ (by omega) (by omega)]
  cases hbit : b.toNat.testBit i with
  | true=>simp [prC,hbit]
  | false=>simp [prC,hbit]) (by unfold Xk; simp)
 have h2 : ZF (Xk a b) (0,0) = _:=h
 unfold Z8
 rw [h2]
 simp only [Option.bind_some]
 have h3:=v_rest (prC 8 a.toNat b.toNat) m 8 (by omega) (A3 _ _ ha 8 (by omega)) (by omega)
 have h4 : Ut ((prC 8 a.toNat b.toNat : Nat) : Int) (m : Int) 8 = _:=h3
 rw [h4,yV]
 rfl
theorem QJ (m : Nat) (hm : m < 512) (hm2 : 256 ≤ m) (a b : UInt8) : YQ (m : Int) a b = some (Z5 m a b):=by
 have ha : a.toNat < 256:=a.toNat_lt
 have hb : b.toNat < 256:=b.toNat_lt
 have h1 : 2 ^ 8 ≤ m:=hm2
 have h2 : m < 2 ^ (8 + 1):=hm
 have hR : ∀ i,i ≤ 8 → YJ m 8 8 (a.toNat <<< i) < 256:=fun i hi=>Kb h1 h2 8 _ (by
  have:=Qb (k:=i) (show a.toNat < 2 ^ 8 from ha)
  exact Nat.lt_of_lt_of_le this (Nat.pow_le_pow_right (by omega) (by omega)))
 have hdbl : ∀ i,i ≤ 7 → YJ m 8 8 (a.toNat <<< (i + 1)) = if 256 ≤ (YJ m 8 8 (a.toNat <<< i)) * 2 then (YJ m 8 8 (a.toNat <<< i)) * 2 ^^^ m else (YJ m 8 8 (a.toNat <<< i)) * 2:=by
  intro i hi
  have hx : a.toNat <<< i < 2 ^ (8 + 7):=Nat.lt_of_lt_of_le (Qb (show a.toNat < 2 ^ 8 from ha)) (Nat.pow_le_pow_right (by omega) (by omega))
  have e : a.toNat <<< (i + 1) = (a.toNat <<< i) <<< 1:=by rw [← Nat.shiftLeft_add]
  rw [e,TF m 8 7,← HW hx]
  have hlt:=hR i (by omega)
  generalize YJ m 8 8 (a.toNat <<< i) = y at hlt ⊢
  have e2 : y <<< 1 = y * 2:=by rw [Nat.shiftLeft_eq]
  rw [e2]
  have e3 : (y * 2).testBit 8 = decide (256 ≤ y * 2):=by
   by_cases hy : 256 ≤ y * 2
   ·rw [zq (d:=8) hy (by omega)]; simp [hy]
   ·rw [Nat.testBit_lt_two_pow (by omega : y * 2 < 2 ^ 8)]; simp [hy]
  rw [e3]
  by_cases hy : 256 ≤ y * 2 <;> simp [hy]
 have key : ∀ (n i o r : Nat),i + n ≤ 8 → r < 2 ^ n → o < 256 → ZF (Y9 (m : Int)) ((o : Int),((YJ m 8 8 (a.toNat <<< i) : Nat) : Int),(r : Int)) = some ((o ^^^ YJ m 8 8 (KB n (a.toNat <<< i) r) : Nat) : Int):=by
  intro n
  induction n with
  | zero =>
   intro i o r _ hr ho
   have : r = 0:=by simpa using hr
   subst this
   rw [Ym (t:=(o : Int))]
   ·rw [K5,V9 8 0 (by omega),Nat.xor_zero]
   ·unfold Y9; simp
  | succ n ih =>
   intro i o r hi hr ho
   by_cases h0 : r = 0
   ·subst h0
    rw [Ym (t:=(o : Int))]
    ·rw [K5,V9 8 0 (by omega),Nat.xor_zero]
    ·unfold Y9; simp
   ·have hy:=hR i (by omega)
    have hst : Y9 (m : Int) ((o : Int),((YJ m 8 8 (a.toNat <<< i) : Nat) : Int),(r : Int)) = some (.nx (((o ^^^ YJ m 8 8 (if r % 2 = 1 then a.toNat <<< i else 0) : Nat) : Int),((YJ m 8 8 (a.toNat <<< (i + 1)) : Nat) : Int),((r / 2 : Nat) : Int))):=by
     rw [hdbl i (by omega)]
     unfold Y9
     have c1 : (r : Int) > 0:=by omega
     have hr2 : r < 512:=Nat.lt_of_lt_of_le hr (Nat.le_trans (Nat.pow_le_pow_right (by omega) (by omega : n + 1 ≤ 9)) (by omega))
     simp only [c1,decide_true,if_true,yw,yP]
     have e1 : wr (((YJ m 8 8 (a.toNat <<< i) : Nat) : Int) * 2) = (((YJ m 8 8 (a.toNat <<< i)) * 2 : Nat) : Int):=by rw [Yd (by omega)]; omega
     have e2 : wr ((r / 2 : Nat) : Int) = ((r / 2 : Nat) : Int):=Aa _ (by omega)
     rw [e1,e2,Qr _ _ (by omega) (by omega),Qr _ _ (by omega) (by omega)]
     have e3 : ((((r % 2 : Nat) : Int)) == 1) = decide (r % 2 = 1):=by
      rw [Bool.eq_iff_iff,beq_iff_eq,decide_eq_true_eq]; omega
     rw [e3]
     have e4 : decide ((((YJ m 8 8 (a.toNat <<< i)) * 2 : Nat) : Int) ≥ 256) = decide (256 ≤ (YJ m 8 8 (a.toNat <<< i)) * 2):=by rw [decide_eq_decide]; omega
     rw [e4]
     have e5 : YJ m 8 8 0 = 0:=V9 8 0 (by omega)
     by_cases c2 : r % 2 = 1 <;> by_cases c3 : 256 ≤ (YJ m 8 8 (a.toNat <<< i)) * 2 <;> simp only [c2,c3,decide_true,decide_false,Bool.false_eq_true,if_true,if_false,Option.bind_some,e5,Nat.xor_zero]
    rw [Yp hst,ih (i + 1) _ (r / 2) (by omega) (by rw [Nat.pow_succ] at hr; omega) ?_]
    ·conv=>rhs; unfold KB
     rw [Tj,Nat.xor_assoc,Nat.shiftLeft_add]
    ·refine Nat.xor_lt_two_pow (n:=8) ho ?_
     split
     ·exact hR i (by omega)
     ·rw [V9 8 0 (by omega)]; omega
 have:=key 8 0 0 b.toNat (by omega) hb (by omega)
 rw [Nat.shiftLeft_zero,V9 8 a.toNat ha,Nat.zero_xor] at this
 have h3 : ZF (Y9 (m : Int)) (0,bI a,bI b) = _:=this
 unfold YQ
 rw [h3]
 rfl

def Jy (m : Nat) : Nat → UInt8 → Nat → UInt8 → UInt8
 | 0,_,_,o=>o
 | f + 1,a,k,o=>if k = 0 then o else Jy m f (Z5 m a a) (k / 2) (if k % 2 = 1 then Z5 m o a else o)
theorem AN (m : Nat) (L : UInt8 × Int × UInt8 → Option (Fl (UInt8 × Int × UInt8) UInt8)) (T : UInt8 → UInt8 → Option UInt8) (hT : ∀ a b,T a b = some (Z5 m a b))
  (hL : ∀ s,L s = if (decide (s.2.1 > 0)) = true then (((if ((Int.tmod s.2.1 2) == 1) = true then ((T s.2.2 s.1).bind fun r=>some r) else (some s.2.2) : Option UInt8).bind fun j12=>(T s.1 s.1).bind fun r20=>some (r20,j12) : Option (UInt8 × UInt8)).bind fun j9=>some (Fl.nx (j9.1,wr (Int.tdiv s.2.1 2),j9.2))) else (some (Fl.ex s.2.2))) :
  ∀ (f k : Nat) (a o : UInt8),k < 2 ^ f → f ≤ 62 → ZF L (a,(k : Int),o) = some (Jy m f a k o):=by
 intro f
 induction f with
 | zero =>
  intro k a o hk _
  have : k = 0:=by simpa using hk
  subst this
  exact Ym (by rw [hL]; simp [Jy])
 | succ f ih =>
  intro k a o hk hf
  by_cases h0 : k = 0
  ·subst h0
   exact Ym (by rw [hL]; simp [Jy])
  ·have hlt : k < 9223372036854775808:=Nat.lt_of_lt_of_le hk (Nat.pow_le_pow_right (by omega : 0 < 2) (by omega : f + 1 ≤ 63))
   have hst : L (a,(k : Int),o) = some (.nx (Z5 m a a,((k / 2 : Nat) : Int),if k % 2 = 1 then Z5 m o a else o)):=by
    rw [hL]
    have c1 : (k : Int) > 0:=by omega
    have e3 : ((((k % 2 : Nat) : Int)) == 1) = decide (k % 2 = 1):=by
     rw [Bool.eq_iff_iff,beq_iff_eq,decide_eq_true_eq]; omega
    simp only [c1,decide_true,if_true,yw,yP,hT,e3,Option.bind_some,Aa (k / 2) (by omega)]
    by_cases c2 : k % 2 = 1 <;> simp [c2]
   rw [Yp hst,ih (k / 2) _ _ (by rw [Nat.pow_succ] at hk; omega) (by omega)]
   conv=>rhs; unfold Jy
   rw [if_neg h0]
theorem HT (m : Nat) (hm : m < 512) (a : UInt8) (k f : Nat) (hk : k < 2 ^ f) (hf : f ≤ 62) : Xz (m : Int) a (k : Int) = some (Jy m f a k 1):=by
 unfold Xz
 rw [AN m (WX (m : Int)) _ (Ui m hm) (fun s=>by unfold WX; rfl) f k a 1 hk hf]; rfl
theorem zj (m : Nat) (hm : m < 512) (hm2 : 256 ≤ m) (a : UInt8) (k f : Nat) (hk : k < 2 ^ f) (hf : f ≤ 62) : WF (m : Int) a (k : Int) = some (Jy m f a k 1):=by
 unfold WF
 rw [AN m (Uc (m : Int)) _ (QJ m hm hm2) (fun s=>by unfold Uc; rfl) f k a 1 hk hf]; rfl
def Tr (m : Nat) (a : UInt8) : UInt8:=Jy m 8 a 254 1
theorem T8 (m : Nat) (hm : m < 512) (a : UInt8) : Yo (m : Int) a = some (Tr m a):=by
 unfold Yo
 have:=HT m hm a 254 8 (by omega) (by omega)
 have h2 : Xz (m : Int) a 254 = _:=this
 rw [h2]; rfl
theorem js (m : Nat) (hm : m < 512) (hm2 : 256 ≤ m) (a : UInt8) : WT (m : Int) a = some (Tr m a):=by
 unfold WT
 have:=zj m hm hm2 a 254 8 (by omega) (by omega)
 have h2 : WF (m : Int) a 254 = _:=this
 rw [h2]; rfl

def redB (m d : Nat) : Bool:=YJ d (lenN d - 1) (16 - (lenN d - 1)) m == 0
def Kf (m : Int) : Bool:=decide (256 ≤ m ∧ m ≤ 511) && !((List.range' 2 30).any (redB m.toNat))
theorem Am {m : Int} (h : Kf m = true) : ∃ n : Nat,m = n ∧ 256 ≤ n ∧ n < 512:=by
 unfold Kf at h
 simp only [Bool.and_eq_true,decide_eq_true_eq] at h
 exact ⟨m.toNat,by omega,by omega,by omega⟩
def jd (l : List UInt8) : Bool:=decide l.Nodup
def dbl (m y : Nat) : Nat:=if (y <<< 1).testBit 8 then (y <<< 1) ^^^ m else y <<< 1
theorem AC (a b c d : Nat) : (a ^^^ b) ^^^ (c ^^^ d) = (a ^^^ c) ^^^ (b ^^^ d):=by
 rw [Nat.xor_assoc,Nat.xor_assoc,← Nat.xor_assoc b,← Nat.xor_assoc c,Nat.xor_comm b c]
theorem zA (m x y : Nat) : dbl m (x ^^^ y) = dbl m x ^^^ dbl m y:=by
 unfold dbl
 rw [Nat.shiftLeft_xor_distrib,Nat.testBit_xor]
 cases (x <<< 1).testBit 8 <;> cases (y <<< 1).testBit 8 <;> simp only [Bool.xor_false,Bool.false_xor,Bool.xor_self,Bool.xor_true,Bool.not_false,Bool.not_true,Bool.false_eq_true,if_true,if_false]
 ·rw [Nat.xor_assoc]
 ·rw [Nat.xor_assoc,Nat.xor_assoc,Nat.xor_comm m]
 ·rw [AC,Nat.xor_self,Nat.xor_zero]
theorem He (m : Nat) : dbl m 0 = 0:=by simp [dbl]
def opP (m : Nat) : Nat → Nat → Nat → Nat
 | 0,_,_=>0
 | n + 1,b,x=>(if b % 2 = 1 then x else 0) ^^^ opP m n (b / 2) (dbl m x)
theorem AO (m n b x : Nat) : opP m (n + 1) b x = (if b % 2 = 1 then x else 0) ^^^ opP m n (b / 2) (dbl m x):=rfl
theorem BZ (m : Nat) : ∀ (n b x y : Nat),opP m n b (x ^^^ y) = opP m n b x ^^^ opP m n b y
 | 0,_,_,_=>by simp [opP]
 | n + 1,b,x,y=>by
  unfold opP
  rw [zA,BZ m n,AC]
  congr 1
  split <;> simp
theorem Kz (m : Nat) : ∀ (n b : Nat),opP m n b 0 = 0
 | 0,_=>rfl
 | n + 1,b=>by unfold opP; rw [He,Kz m n]; simp
theorem zP (m : Nat) : ∀ (n b x : Nat),opP m n b (dbl m x) = dbl m (opP m n b x)
 | 0,_,_=>(He m).symm
 | n + 1,b,x=>by
  unfold opP
  rw [zP m n,zA]
  congr 1
  split
  ·rfl
  ·exact (He m).symm
theorem AH (m : Nat) : ∀ (n b k c x : Nat),opP m n b (opP m k c x) = opP m k c (opP m n b x)
 | 0,_,k,c,_=>(Kz m k c).symm
 | n + 1,b,k,c,x=>by
  rw [AO,AO,← zP,AH m n,BZ]
  congr 1
  split
  ·rfl
  ·exact (Kz m k c).symm
theorem zT (a : Nat) : (if a % 2 = 1 then 1 else 0) ^^^ (a / 2) <<< 1 = a:=by
 rw [Nat.shiftLeft_eq]
 have h : (if a % 2 = 1 then 1 else 0) = a % 2:=by split <;> omega
 rw [h]
 apply Nat.eq_of_testBit_eq
 intro i
 rw [Nat.testBit_xor]
 cases i with
 | zero =>
  simp [Nat.testBit_zero]
 | succ i =>
  rw [Nat.testBit_succ,Nat.testBit_succ,Nat.testBit_succ]
  have h1 : a % 2 / 2 = 0:=by omega
  have h2 : a / 2 * 2 ^ 1 / 2 = a / 2:=by omega
  rw [h1,h2]; simp
theorem jZ (m i : Nat) (hi : i < 7) : dbl m (1 <<< i) = 1 <<< (i + 1):=by
 unfold dbl
 rw [← Nat.shiftLeft_add]
 have : (1 <<< (i + 1)).testBit 8 = false:=by
  apply Nat.testBit_lt_two_pow
  rw [Nat.shiftLeft_eq,Nat.one_mul]
  exact Nat.pow_lt_pow_right (by omega) (by omega)
 rw [this]; rfl
theorem BL (m : Nat) : ∀ (n i a : Nat), n + i ≤ 8 → a < 2 ^ n → opP m n a (1 <<< i) = a <<< i
  | 0, i, a, _, ha => by
    have : a = 0 := by simpa using ha
    subst this; simp [opP]
  | n + 1, i, a, hn, ha => by
    have e : a <<< i = (if a % 2 = 1 then 1 <<< i else 0) ^^^ (a / 2) <<< (i + 1) := by
      conv => lhs; rw [← zT a]
      rw [Nat.shiftLeft_xor_distrib, ← Nat.shiftLeft_add, Nat.add_comm 1 i]
      congr 1
      split <;> simp
    unfold opP
    rw [e]
    congr 1
    rcases Nat.eq_zero_or_pos n with rfl | hp
    · have : a / 2 = 0 := by have : a < 2 := by simpa using ha
                             omega
      rw [this]; simp [opP]
    · rw [jZ m i (by omega)]
      exact BL m n (i + 1) (a / 2) (by omega) (by rw [Nat.pow_succ] at ha; omega)

theorem yc (m x : Nat) (hx : x < 2 ^ 15) : YJ m 8 8 (x <<< 1) = dbl m (YJ m 8 8 x):=by
 rw [TF m 8 7,← HW (d:=8) (k:=7) hx]; rfl
theorem y3 (m : Nat) : ∀ (n i a b : Nat),i + n ≤ 8 → a < 2 ^ 8 → YJ m 8 8 (KB n (a <<< i) b) = opP m n b (YJ m 8 8 (a <<< i))
 | 0,_,_,_,_,_=>by simp [KB,opP,V9 8 0]
 | n + 1,i,a,b,hn,ha=>by
  unfold KB opP
  rw [Tj]
  have hx : a <<< i < 2 ^ 15:=Nat.lt_of_lt_of_le (Qb ha) (Nat.pow_le_pow_right (by omega) (by omega))
  rw [← yc m _ hx,← Nat.shiftLeft_add,y3 m n (i + 1) a (b / 2) (by omega) ha]
  congr 1
  split
  ·rfl
  ·exact V9 8 0 (by omega)
theorem Tk (m : Nat) (h1 : 256 ≤ m) (h2 : m < 512) (a b : UInt8) : (Z5 m a b).toNat = opP m 8 b.toNat a.toNat:=by
 have ha : a.toNat < 2 ^ 8:=a.toNat_lt
 have hr : YJ m 8 8 (KB 8 a.toNat b.toNat) < 256:=Kb (d:=8) h1 h2 8 _ (zQ 8 a.toNat b.toNat 8 ha)
 have e:=y3 m 8 0 a.toNat b.toNat (by omega) ha
 rw [Nat.shiftLeft_zero,V9 8 _ ha] at e
 unfold Z5 Zz
 rw [e] at hr ⊢
 generalize opP m 8 b.toNat a.toNat = q at hr ⊢
 have : (((q : Nat) : Int) % 256).toNat = q:=by omega
 rw [this]
 simp
 omega
section
variable {m : Nat} (h1 : 256 ≤ m) (h2 : m < 512)
include h1 h2
theorem TV (a b : UInt8) : Z5 m a b = Z5 m b a:=by
 apply UInt8.toNat_inj.1
 rw [Tk m h1 h2,Tk m h1 h2]
 have ea:=BL m 8 0 a.toNat (by omega) a.toNat_lt
 have eb:=BL m 8 0 b.toNat (by omega) b.toNat_lt
 simp only [Nat.shiftLeft_zero] at ea eb
 rw [← ea,AH,eb,ea]
theorem yd (a b c : UInt8) : Z5 m (a ^^^ b) c = Z5 m a c ^^^ Z5 m b c:=by
 apply UInt8.toNat_inj.1
 rw [UInt8.toNat_xor,Tk m h1 h2,Tk m h1 h2,Tk m h1 h2,UInt8.toNat_xor,BZ]
theorem A2 (a b c : UInt8) : Z5 m a (b ^^^ c) = Z5 m a b ^^^ Z5 m a c:=by
 rw [TV h1 h2,yd h1 h2,TV h1 h2 b,TV h1 h2 c]
theorem QR (a : UInt8) : Z5 m 0 a = 0:=by
 apply UInt8.toNat_inj.1
 rw [Tk m h1 h2]
 exact Kz m 8 _
end
def vf {α : Type} (n : Nat) (f : Nat → α) : Vector α n:=Vector.ofFn fun i=>f i.1
theorem TX {α : Type} {n i : Nat} (f : Nat → α) (h : i < n) : (vf n f)[i] = f i:=by simp [vf]
theorem QZ {α : Type} {n i : Nat} (f : Nat → α) (h : i < n) : (vf n f)[i]? = some (f i):=by rw [Vector.getElem?_eq_getElem h,TX f h]
theorem ZS {α : Type} {n i : Nat} (f : Nat → α) (h : i < n) : ZI (vf n f) (i : Int) = some (f i):=by rw [VG,QZ f h]
theorem Y6 {α : Type} {n : Nat} {f g : Nat → α} (h : ∀ i,i < n → f i = g i) : vf n f = vf n g:=by
 apply Kj
 intro i hi
 rw [TX f hi,TX g hi,h i hi]
theorem UH {α : Type} {n : Nat} (f : Nat → α) (k : Nat) (x : α) : (vf n f).setIfInBounds k x = vf n (fun i=>if i = k then x else f i):=by
 apply Kj
 intro i hi
 rw [Vector.getElem_setIfInBounds,TX _ hi,TX _ hi]
 by_cases h : k = i
 ·subst h; simp
 ·rw [if_neg h,if_neg (fun e=>h e.symm)]
theorem Us {α : Type} (n : Nat) (x : α) : Vector.replicate n x = vf n (fun _=>x):=by
 apply Kj
 intro i hi
 rw [TX _ hi]; simp
theorem zE {α : Type} [Inhabited α] {n : Nat} (v : Vector α n) : v = vf n (fun i=>v[i]?.getD default):=by
 apply Kj
 intro i hi
 rw [TX _ hi,Vector.getElem?_eq_getElem hi]; rfl
abbrev Mat:=Vector (Vector UInt8 4) 4
def mf (f : Nat → Nat → UInt8) : Mat:=vf 4 fun i=>vf 4 (f i)
theorem Wu {f g : Nat → Nat → UInt8} (h : ∀ i,i < 4 → ∀ j,j < 4 → f i j = g i j) : mf f = mf g:=Y6 fun i hi=>Y6 fun j hj=>h i hi j hj
theorem V6 {i : Nat} (f : Nat → Nat → UInt8) (h : i < 4) : ZI (mf f) (i : Int) = some (vf 4 (f i)):=ZS _ h
theorem QM (f : Nat → Nat → UInt8) (k : Nat) (g : Nat → UInt8) : (mf f).setIfInBounds k (vf 4 g) = mf (fun i j=>if i = k then g j else f i j):=by
 unfold mf
 rw [UH]
 apply Y6
 intro i hi
 by_cases h : i = k
 ·simp [h]
 ·simp [h]
theorem BQ : Vector.replicate 4 (Vector.replicate 4 (0 : UInt8)) = mf (fun _ _=>0):=by rw [Us 4 (0 : UInt8),Us]; rfl
theorem lt4 {i : Nat} (h : i < 4) : decide ((i : Int) < 4) = true:=by simp; omega
theorem lt4' {i : Nat} (h : ¬ i < 4) : decide ((i : Int) < 4) = false:=by simp; omega
theorem wr4 {i : Nat} (h : i < 1000) : wr ((i : Int) + 1) = ((i + 1 : Nat) : Int):=WQ (by omega)

def Q8 (i j : Nat) : UInt8:=if i = j then 1 else 0
theorem z7 (L : Mat × Int → Option (Fl (Mat × Int) Mat))
  (hL : ∀ s8,L s8 = if (decide (s8.2 < 4)) = true then ((ZI s8.1 s8.2).bind fun (x14 : (Vector UInt8 4))=>(ZI x14 s8.2).bind fun (x17 : UInt8)=>some (Fl.nx ((s8.1.setIfInBounds (s8.2).toNat (x14.setIfInBounds (s8.2).toNat 1)),wr (s8.2 + 1)))) else (some (Fl.ex s8.1))) :
  ZF L (Vector.replicate 4 (Vector.replicate 4 (0 : UInt8)),0) = some (mf Q8):=by
 have:=Yl (f:=L) (fun i : Nat=>(mf fun r c=>if r < i then Q8 r c else 0,(i : Int))) 0 4 (by omega) (t:=mf Q8) (fun i _ hi=>by
  rw [hL]
  simp only [lt4 hi,if_true,V6 _ hi,ZS _ hi,Option.bind_some,Int.toNat_natCast,UH,QM,wr4 (show i < 1000 by omega)]
  congr 3
  apply Wu
  intro r hr c hc
  by_cases h1 : r = i
  ·subst h1; simp [Q8,eq_comm]
  ·simp only [h1,if_false]
   by_cases h2 : r < i
   ·rw [if_pos h2,if_pos (by omega)]
   ·rw [if_neg h2,if_neg (by omega)]) (by
  rw [hL]
  simp only [lt4' (show ¬ 4 < 4 by omega),Bool.false_eq_true,if_false]
  exact congrArg (fun z=>some (Fl.ex z)) (Wu fun r hr c hc=>by rw [if_pos hr]))
 rw [BQ]
 simpa using this
theorem KC : WL = some (mf Q8):=by
 unfold WL
 rw [z7 Uq fun s=>rfl]; rfl

abbrev MF:=Nat → Nat → UInt8
def QG (f : MF) (k : Nat) : Nat:=((List.range' k (4 - k)).find? fun i=>!(f i k == 0)).getD 4
def yJ (f : MF) (i k : Nat) : MF:=fun r c=>if r = k then f i c else if r = i then f k c else f r c
def Bx (m : Nat) (f : MF) (k : Nat) (by_ : UInt8) : MF:=fun r c=>if r = k then Z5 m (f k c) by_ else f r c
def VM (m : Nat) (f g : MF) (k : Nat) : MF:=fun r c=>if r = k then g r c else g r c ^^^ Z5 m (f r k) (g k c)
structure Red where
 a : MF
 b : MF
 det : UInt8
def Kh (m : Nat) (s : Red) (k : Nat) : Option Red :=
 let i:=QG s.a k
 if i = 4 then none else
  let f:=yJ s.a i k
  let g:=yJ s.b i k
  let q:=Tr m (f k k)
  let f2:=Bx m f k q
  let g2:=Bx m g k q
  some ⟨VM m f2 f2 k,VM m f2 g2 k,Z5 m s.det (f k k)⟩
def Q9 (m : Nat) : Nat → Nat → Red → Option Red
 | 0,_,s=>some s
 | n + 1,k,s=>(Kh m s k).bind (Q9 m n (k + 1))
def JH (m : Nat) (a : MF) : UInt8 × Mat:=match Q9 m 4 0 ⟨a,Q8,1⟩ with
 | some s=>(s.det,mf s.b)
 | none=>(0,mf fun _ _=>0)
theorem A8 (L : Int → Option (Fl Int Int)) (f : MF) (k : Nat) (hk : k < 4)
  (hL : ∀ s,L s = (if (decide (s < 4)) = true then ((ZI (mf f) s).bind fun (x30 : (Vector UInt8 4))=>(ZI x30 (k : Int)).bind fun (x33 : UInt8)=>some (x33 == 0)) else (some false) : Option (Bool)).bind fun (j25 : Bool)=>if j25 = true then (some (Fl.nx (wr (s + 1)))) else (some (Fl.ex s))) :
  ZF L (k : Int) = some ((QG f k : Nat) : Int):=by
 have:=KP (f:=L) (fun i : Nat=>(i : Int)) (fun i=>!(f i k == 0)) (fun i=>(i : Int)) (e:=(4 : Int)) 4 (4 - k) k (by omega) (fun i _ hi=>by
  rw [hL]
  simp only [lt4 hi,if_true,V6 _ hi,ZS _ hk,Option.bind_some]
  cases h : (f i k == 0)
  ·simp
  ·simp [wr4 (show i < 1000 by omega)]) (by rw [hL]; simp)
 rw [this]
 unfold QG
 cases (List.range' k (4 - k)).find? fun i=>!(f i k == 0) <;> rfl
theorem yF {f : MF} {k : Nat} (h : QG f k ≠ 4) : QG f k < 4:=by
 unfold QG at h ⊢
 cases hf : (List.range' k (4 - k)).find? fun i=>!(f i k == 0) with
 | none=>rw [hf] at h; exact absurd rfl h
 | some i =>
  have:=List.mem_range'_1.1 (List.mem_of_find?_eq_some hf)
  simp only [Option.getD_some]
  omega
theorem HY (L : Mat × Mat × Int → Option (Fl (Mat × Mat × Int) (Mat × Mat))) (f g : MF) (k : Nat) (hk : k < 4) (p q : Nat → UInt8)
  (hL : ∀ c,c < 4 → ∀ a b : MF,(∀ r,r ≠ k → a r = f r) → (∀ r,r ≠ k → b r = g r) → a k c = f k c → b k c = g k c → L (mf a,mf b,(c : Int)) = some (Fl.nx ((mf a).setIfInBounds k ((vf 4 (a k)).setIfInBounds c (p c)),(mf b).setIfInBounds k ((vf 4 (b k)).setIfInBounds c (q c)),wr ((c : Int) + 1))))
  (he : ∀ a b : Mat,L (a,b,4) = some (Fl.ex (a,b))) :
  ZF L (mf f,mf g,0) = some (mf (fun r c=>if r = k then p c else f r c),mf (fun r c=>if r = k then q c else g r c)):=by
 have k1 : (mf fun r c=>if r = k then (if c < 4 then p c else f k c) else f r c) = mf fun r c=>if r = k then p c else f r c:=Wu fun r _ c hc=>by rw [if_pos hc]
 have k2 : (mf fun r c=>if r = k then (if c < 4 then q c else g k c) else g r c) = mf fun r c=>if r = k then q c else g r c:=Wu fun r _ c hc=>by rw [if_pos hc]
 have:=Yl (f:=L) (fun i : Nat=>(mf fun r c=>if r = k then (if c < i then p c else f k c) else f r c,mf fun r c=>if r = k then (if c < i then q c else g k c) else g r c,(i : Int))) 0 4 (by omega)
  (t:=(mf (fun r c=>if r = k then p c else f r c),mf (fun r c=>if r = k then q c else g r c))) (fun i _ hi=>by
  rw [hL i hi _ _ (fun r hr=>by funext c; rw [if_neg hr]) (fun r hr=>by funext c; rw [if_neg hr]) (by simp) (by simp)]
  simp only [UH,QM,wr4 (show i < 1000 by omega)]
  congr 3
  ·apply Wu
   intro r hr c hc
   by_cases h : r = k
   ·simp only [h,if_true]
    by_cases h2 : c = i
    ·subst h2; simp
    ·by_cases h3 : c < i
     ·rw [if_neg h2,if_pos h3,if_pos (by omega)]
     ·rw [if_neg h2,if_neg h3,if_neg (by omega)]
   ·simp only [h,if_false]
  ·congr 1
   apply Wu
   intro r hr c hc
   by_cases h : r = k
   ·simp only [h,if_true]
    by_cases h2 : c = i
    ·subst h2; simp
    ·by_cases h3 : c < i
     ·rw [if_neg h2,if_pos h3,if_pos (by omega)]
     ·rw [if_neg h2,if_neg h3,if_neg (by omega)]
   ·simp only [h,if_false]) (by
  simp only [k1,k2]
  exact he _ _)
 have e1 : mf (fun r c=>if r = k then (if c < 0 then p c else f k c) else f r c) = mf f:=Wu fun r hr c hc=>by
  by_cases h : r = k
  ·subst h; simp
  ·simp [h]
 have e2 : mf (fun r c=>if r = k then (if c < 0 then q c else g k c) else g r c) = mf g:=Wu fun r hr c hc=>by
  by_cases h : r = k
  ·subst h; simp
  ·simp [h]
 simp only [e1,e2] at this
 exact this
theorem Ak {S : Type} (m : Nat) (L : S → Option (Fl S (Fl (Mat × UInt8) (UInt8 × Mat)))) (pk : Red → Nat → S)
  (hstep : ∀ k,k < 4 → ∀ s,L (pk s k) = some (match Kh m s k with | none=>.ex (.ex (0,mf fun _ _=>0)) | some s'=>.nx (pk s' (k + 1))))
  (hend : ∀ s,L (pk s 4) = some (.ex (.nx (mf s.b,s.det)))) : ∀ (n k : Nat) (s : Red),k + n = 4 → ZF L (pk s k) = some (match Q9 m n k s with | some s'=>.nx (mf s'.b,s'.det) | none=>.ex (0,mf fun _ _=>0))
 | 0,k,s,h=>by
  have : k = 4:=by omega
  subst this
  rw [Ym (hend s)]; rfl
 | n + 1,k,s,h=>by
  have h1:=hstep k (by omega) s
  unfold Q9
  cases hr : Kh m s k with
  | none=>rw [hr] at h1; rw [Ym h1]; rfl
  | some s'=>rw [hr] at h1; rw [Yp h1]; exact Ak m L pk hstep hend n (k + 1) s' (by omega)
theorem jN {i k : Nat} : (((i : Int)) != ((k : Nat) : Int)) = decide (i ≠ k):=by
 by_cases h : i = k
 ·subst h; simp
 ·have : (i : Int) ≠ (k : Int):=by omega
  simp [h,this]
theorem yn (m : Nat) (L : Mat × Mat × Int → Option (Fl (Mat × Mat × Int) (Mat × Mat))) (f g : MF) (k : Nat)
  (hL : ∀ i,i < 4 → ∀ a b : MF,(a i = f i) → (b i = g i) → (a k = f k) → (b k = g k) → L (mf a,mf b,(i : Int)) = some (Fl.nx (mf (fun r c=>if r = i then VM m f f k r c else a r c),mf (fun r c=>if r = i then VM m f g k r c else b r c),wr ((i : Int) + 1))))
  (he : ∀ a b : Mat,L (a,b,4) = some (Fl.ex (a,b))) : ZF L (mf f,mf g,0) = some (mf (VM m f f k),mf (VM m f g k)):=by
 have ek : ∀ h : MF,VM m f h k k = h k:=fun h=>by funext c; simp [VM]
 have k1 : (mf fun r c=>if r < 4 then VM m f f k r c else f r c) = mf (VM m f f k):=Wu fun r hr c _=>by rw [if_pos hr]
 have k2 : (mf fun r c=>if r < 4 then VM m f g k r c else g r c) = mf (VM m f g k):=Wu fun r hr c _=>by rw [if_pos hr]
 have:=Yl (f:=L) (fun i : Nat=>(mf fun r c=>if r < i then VM m f f k r c else f r c,mf fun r c=>if r < i then VM m f g k r c else g r c,(i : Int))) 0 4 (by omega)
  (t:=(mf (VM m f f k),mf (VM m f g k))) (fun i _ hi=>by
  rw [hL i hi _ _ (by funext c; simp) (by funext c; simp) (by funext c; by_cases h : k < i <;> simp [h,ek]) (by funext c; by_cases h : k < i <;> simp [h,ek])]
  rw [wr4 (show i < 1000 by omega)]
  have e : ∀ (x y : MF),(mf fun r c=>if r = i then x r c else if r < i then x r c else y r c) = mf fun r c=>if r < i + 1 then x r c else y r c:=fun x y=>Wu fun r _ c _=>by
   by_cases h1 : r = i
   ·subst h1; simp
   ·by_cases h2 : r < i
    ·rw [if_neg h1,if_pos h2,if_pos (by omega)]
    ·rw [if_neg h1,if_neg h2,if_neg (by omega)]
  rw [e,e]) (by
  simp only [k1,k2]
  exact he _ _)
 simpa using this

theorem yW (f : MF) {i k : Nat} : ((mf f).setIfInBounds i (vf 4 (f k))).setIfInBounds k (vf 4 (f i)) = mf (yJ f i k):=by
 rw [QM,QM]; rfl
section
variable (m : Nat) (hm : m < 512) (hm2 : 256 ≤ m)
include hm
theorem zb (A B : Mat) (det : UInt8) (q : UInt8) (f g : MF) (k : Nat) (hk : k < 4) : ZF (XH (m : Int) (A,B,(k : Int),det) q) (mf f,mf g,0) = some (mf (Bx m f k q),mf (Bx m g k q)):=by
 refine HY _ f g k hk (fun c=>Z5 m (f k c) q) (fun c=>Z5 m (g k c) q) (fun c hc a b _ _ ha hb=>?_) (fun a b=>?_)
 ·unfold XH
  simp only [lt4 hc,if_true,V6 _ hk,ZS _ hc,Option.bind_some,Ui m hm,ha,hb,Int.toNat_natCast]
 ·unfold XH; simp
theorem yM (A B : Mat) (det : UInt8) (s1 : Mat × Mat × Int) (x : UInt8) (f g : MF) (k i : Nat) (hk : k < 4) (hi : i < 4) (hik : i ≠ k) (hs : s1.2.2 = (i : Int)) :
  ZF (XG (m : Int) (A,B,(k : Int),det) s1 x) (mf f,mf g,0) = some (mf (fun r c=>if r = i then f i c ^^^ Z5 m x (f k c) else f r c),mf (fun r c=>if r = i then g i c ^^^ Z5 m x (g k c) else g r c)):=by
 refine HY _ f g i hi (fun c=>f i c ^^^ Z5 m x (f k c)) (fun c=>g i c ^^^ Z5 m x (g k c)) (fun c hc a b ha' hb' ha hb=>?_) (fun a b=>?_)
 ·unfold XG
  have e1:=ha' k (Ne.symm hik)
  have e2:=hb' k (Ne.symm hik)
  simp only [hs,lt4 hc,if_true,V6 _ hk,V6 _ hi,ZS _ hc,Option.bind_some,Ui m hm,ha,hb,e1,e2,Int.toNat_natCast]
 ·unfold XG; simp
include hm2
theorem yi (A B : Mat) (det : UInt8) (f g : MF) (k : Nat) (hk : k < 4) : ZF (XJ (m : Int) (A,B,(k : Int),det)) (mf f,mf g,0) = some (mf (VM m f f k),mf (VM m f g k)):=by
 refine yn m _ f g k (fun i hi a b hai hbi hak hbk=>?_) (fun a b=>by unfold XJ; simp)
 unfold XJ
 have hfi : a i k = f i k:=by rw [hai]
 simp only [lt4 hi,if_true,V6 _ hi,ZS _ hk,Option.bind_some,jN,hfi]
 by_cases h : i = k
 ·subst h
  simp only [ne_eq,not_true_eq_false,decide_false,Bool.false_eq_true,if_false,Option.bind_some]
  congr 3
  ·exact Wu fun r _ c _=>by
    by_cases h : r = i
    ·subst h; simp [VM,hai]
    ·simp [h]
  ·congr 1
   exact Wu fun r _ c _=>by
    by_cases h : r = i
    ·subst h; simp [VM,hbi]
    ·simp [h]
 ·have hd : decide (i ≠ k) = true:=by simpa using h
  simp only [hd,if_true,Option.bind_some]
  by_cases h0 : f i k = 0
  ·simp only [h0,bne_self_eq_false,Bool.false_eq_true,if_false,Option.bind_some]
   congr 3
   ·exact Wu fun r _ c _=>by
     by_cases h2 : r = i
     ·subst h2; simp [VM,hai,h,h0,QR hm2 hm]
     ·simp [h2]
   ·congr 1
    exact Wu fun r _ c _=>by
     by_cases h2 : r = i
     ·subst h2; simp [VM,hbi,h,h0,QR hm2 hm]
     ·simp [h2]
  ·have hb0 : (f i k != 0) = true:=by simpa using h0
   simp only [hb0,if_true,Option.bind_some]
   rw [yM m hm A B det _ _ a b k i hk hi h rfl]
   simp only [Option.bind_some]
   congr 3
   ·exact Wu fun r _ c _=>by
     by_cases h2 : r = i
     ·subst h2; simp [VM,hai,hak,h]
     ·simp [h2]
   ·congr 1
    exact Wu fun r _ c _=>by
     by_cases h2 : r = i
     ·subst h2; simp [VM,hbi,hbk,h]
     ·simp [h2]
theorem z2 (k : Nat) (hk : k < 4) (s : Red) : YM (m : Int) (mf s.a,mf s.b,(k : Int),s.det) = some (match Kh m s k with | none=>.ex (.ex (0,mf fun _ _=>0)) | some s'=>.nx (mf s'.a,mf s'.b,((k + 1 : Nat) : Int),s'.det)):=by
 unfold YM
 have hp:=A8 (VS (mf s.a,mf s.b,(k : Int),s.det)) s.a k hk (fun x=>rfl)
 simp only [lt4 hk,if_true,hp,Option.bind_some]
 unfold Kh
 by_cases h4 : QG s.a k = 4
 ·have : ((4 : Nat) : Int) = 4:=rfl
  simp only [h4,this,beq_self_eq_true,if_true,BQ]
 ·have hi:=yF h4
  have h5 : (((QG s.a k : Nat) : Int) == 4) = false:=by
   have : ((QG s.a k : Nat) : Int) ≠ 4:=by omega
   simpa using this
  generalize hpi : QG s.a k = i at *
  simp only [h4,h5,Bool.false_eq_true,if_false]
  have x1 : ZI ((mf s.a).setIfInBounds i (vf 4 (s.a k))) (k : Int) = some (vf 4 (fun c=>if k = i then s.a k c else s.a k c)):=by rw [QM]; exact V6 _ hk
  have x2 : ZI ((mf s.b).setIfInBounds i (vf 4 (s.b k))) (k : Int) = some (vf 4 (fun c=>if k = i then s.b k c else s.b k c)):=by rw [QM]; exact V6 _ hk
  simp only [V6 _ hk,V6 _ hi,Option.bind_some,Int.toNat_natCast,x1,x2,yW,ZS _ hk,Ui m hm,T8 m hm,zb m hm _ _ _ _ _ _ k hk,yi m hm hm2 _ _ _ _ _ k hk,wr4 (show k < 1000 by omega)]
theorem JZ (f : MF) : Xh (m : Int) (mf f) = some (JH m f):=by
 unfold Xh
 have h:=Ak m (YM (m : Int)) (fun s k=>(mf s.a,mf s.b,(k : Int),s.det)) (z2 m hm hm2) (fun s=>by unfold YM; simp) 4 0 ⟨f,Q8,1⟩ rfl
 have h2 : ZF (YM (m : Int)) (mf f,mf Q8,0,1) = _:=h
 rw [KC,Option.bind_some,h2]
 unfold JH
 cases Q9 m 4 0 ⟨f,Q8,1⟩ <;> rfl
end
theorem H8 {n i : Nat} (v : Vector UInt8 n) (h : i < n) : ZI v (i : Int) = some (v.toList.getD i 0):=by
 rw [VG,Vector.getElem?_eq_getElem h]
 simp [List.getD_eq_getElem?_getD,h]
theorem Al (x : UInt8) : (bI x).toNat = x.toNat:=rfl
def Te (p : Vector UInt8 16) : Bool:=p.toList.all (fun x=>decide (x < 16)) && jd p.toList
def Jr (a : Mat) : MF:=fun i j=>(a[i]?.getD default)[j]?.getD default
theorem JL (a : Mat) : a = mf (Jr a):=calc a = vf 4 (fun i=>a[i]?.getD default):=zE a
  _ = _:=Y6 fun i _=>zE _
def detC (m : Nat) (a : Mat) : UInt8:=(JH m (Jr a)).1
def invM (m : Nat) (a : Mat) : Mat:=(JH m (Jr a)).2
def YS (c : GCipher) : Bool:=Kf c.Field && jd c.Box.toList && Te c.Places && decide (1 ≤ c.Rounds ∧ c.Rounds ≤ 20) && (detC c.Field.toNat c.Mix != 0)
theorem yH (m : Nat) (hm : m < 512) (hm2 : 256 ≤ m) (a : Mat) : Xh (m : Int) a = some (detC m a,invM m a):=by
 have:=JZ m hm hm2 (Jr a)
 rw [← JL] at this
 exact this
theorem Kd {c : GCipher} (h : YS c = true) : ∃ m : Nat,c.Field = m ∧ 256 ≤ m ∧ m < 512:=by
 unfold YS at h
 simp only [Bool.and_eq_true] at h
 exact Am h.1.1.1.1
theorem Wf {n : Nat} (L : Vector UInt8 n × Int → Option (Fl (Vector UInt8 n × Int) (Vector UInt8 n))) (f h : Nat → UInt8) (hn : n < 9223372036854775807) (m : Nat) (hm : m ≤ n) (h0 : ∀ j,j < m → h j = f j)
  (hL : ∀ i,m ≤ i → i < n → ∀ a : Nat → UInt8,(∀ j,j < i → a j = h j) → (∀ j,i ≤ j → a j = f j) → L (vf n a,(i : Int)) = some (.nx ((vf n a).setIfInBounds i (h i),wr ((i : Int) + 1))))
  (he : ∀ v,L (v,(n : Int)) = some (.ex v)) : ZF L (vf n f,(m : Int)) = some (vf n h):=by
 have k1 : (vf n fun j=>if j < n then h j else f j) = vf n h:=Y6 fun j hj=>by rw [if_pos hj]
 have k0 : (vf n fun j=>if j < m then h j else f j) = vf n f:=Y6 fun j hj=>by
  by_cases h1 : j < m
  ·rw [if_pos h1,h0 j h1]
  ·rw [if_neg h1]
 have:=Yl (f:=L) (fun i : Nat=>(vf n fun j=>if j < i then h j else f j,(i : Int))) m n hm (t:=vf n h) (fun i hmi hi=>by
  rw [hL i hmi hi _ (fun j hj=>by rw [if_pos hj]) (fun j hj=>by rw [if_neg (by omega)]),UH,WQ (show i < 9223372036854775807 by omega)]
  refine congrArg (fun z=>some (Fl.nx (z,((i + 1 : Nat) : Int)))) (Y6 fun j hj=>?_)
  by_cases h1 : j = i
  ·subst h1; simp
  ·by_cases h2 : j < i
   ·rw [if_neg h1,if_pos h2,if_pos (by omega)]
   ·rw [if_neg h1,if_neg h2,if_neg (by omega)]) (by
  simp only [k1]
  exact he _)
 simp only [k0] at this
 exact this
def HV (b : Vector UInt8 256) (x : UInt8) : UInt8:=b[x.toNat]'(UInt8.toNat_lt x)
theorem T2 (b : Vector UInt8 256) (x : UInt8) : ZI b (bI x) = some (HV b x):=by
 have : ZI b ((x.toNat : Nat) : Int) = _:=VG b x.toNat
 rw [Vector.getElem?_eq_getElem (UInt8.toNat_lt x)] at this
 exact this
abbrev Blk:=Vector UInt8 16
def bf (v : Blk) (i : Nat) : UInt8:=v[i]?.getD default
theorem vf_bf (v : Blk) : v = vf 16 (bf v):=zE v
theorem Ko {i : Nat} (h : i < 16) : decide ((i : Int) < 16) = true:=by simp; omega
def Q1 (f g : Nat → UInt8) : Nat → UInt8:=fun i=>f i ^^^ g i
theorem Q5 (f g : Nat → UInt8) : Xd (vf 16 f) (vf 16 g) = some (vf 16 (Q1 f g)):=by
 unfold Xd
 have:=Wf (W1 (vf 16 g)) f (Q1 f g) (by omega) 0 (by omega) (fun j hj=>by omega) (fun i _ hi a _ ha=>by
  unfold W1
  simp only [Ko hi,if_true,ZS _ hi,Option.bind_some,Int.toNat_natCast,ha i (Nat.le_refl _),Q1]) (fun v=>by unfold W1; simp)
 have h2 : ZF (W1 (vf 16 g)) (vf 16 f,0) = _:=this
 rw [h2]; rfl
theorem Uu (f g : Nat → UInt8) : Yw (vf 16 f) (vf 16 g) = some (vf 16 (Q1 f g)):=by
 unfold Yw
 have:=Wf (XP (vf 16 g)) f (Q1 f g) (by omega) 0 (by omega) (fun j hj=>by omega) (fun i _ hi a _ ha=>by
  unfold XP
  simp only [Ko hi,if_true,ZS _ hi,Option.bind_some,Int.toNat_natCast,ha i (Nat.le_refl _),Q1]) (fun v=>by unfold XP; simp)
 have h2 : ZF (XP (vf 16 g)) (vf 16 f,0) = _:=this
 rw [h2]; rfl
def Hy (b : Vector UInt8 256) (f : Nat → UInt8) : Nat → UInt8:=fun i=>HV b (f i)
theorem AU (b : Vector UInt8 256) (f : Nat → UInt8) : Vz b (vf 16 f) = some (vf 16 (Hy b f)):=by
 unfold Vz
 have:=Wf (Wh b) f (Hy b f) (by omega) 0 (by omega) (fun j hj=>by omega) (fun i _ hi a _ ha=>by
  unfold Wh
  simp only [Ko hi,if_true,ZS _ hi,Option.bind_some,Int.toNat_natCast,ha i (Nat.le_refl _),T2,Hy]) (fun v=>by unfold Wh; simp)
 have h2 : ZF (Wh b) (vf 16 f,0) = _:=this
 rw [h2]; rfl
def QI (p : Blk) (f : Nat → UInt8) : Nat → UInt8:=fun i=>f (bf p i).toNat
theorem K6 {p : Blk} (h : Te p = true) {i : Nat} (hi : i < 16) : (bf p i).toNat < 16:=by
 unfold Te at h
 simp only [Bool.and_eq_true,List.all_eq_true,decide_eq_true_eq] at h
 have e : bf p i = p[i]:=by unfold bf; rw [Vector.getElem?_eq_getElem hi]; rfl
 have:=h.1 p[i] (by simp)
 rw [UInt8.lt_iff_toNat_lt] at this
 rw [e]; exact this
theorem Ky (p : Blk) {i : Nat} (h : i < 16) : ZI p (i : Int) = some (bf p i):=by
 rw [VG]; unfold bf; rw [Vector.getElem?_eq_getElem h]; rfl
theorem B8 (f : Nat → UInt8) {x : UInt8} (h : x.toNat < 16) : ZI (vf 16 f) (bI x) = some (f x.toNat):=ZS f h
theorem yk (p : Blk) (hp : Te p = true) (f : Nat → UInt8) : VV p (vf 16 f) = some (vf 16 (QI p f)):=by
 unfold VV
 have:=Wf (WG p (vf 16 f)) (fun _=>0) (QI p f) (by omega) 0 (by omega) (fun j hj=>by omega) (fun i _ hi a _ ha=>by
  unfold WG
  simp only [Ko hi,if_true,ZS _ hi,Ky _ hi,Option.bind_some,Int.toNat_natCast,B8 f (K6 hp hi),QI]) (fun v=>by unfold WG; simp)
 have h2 : ZF (WG p (vf 16 f)) (vf 16 (fun _=>0),0) = _:=this
 rw [Us 16 (0 : UInt8),h2]; rfl
theorem v_move (p : Blk) (hp : Te p = true) (f : Nat → UInt8) : Wp p (vf 16 f) = some (vf 16 (QI p f)):=by
 unfold Wp
 have:=Wf (Xl p (vf 16 f)) (fun _=>0) (QI p f) (by omega) 0 (by omega) (fun j hj=>by omega) (fun i _ hi a _ ha=>by
  unfold Xl
  simp only [Ko hi,if_true,ZS _ hi,Ky _ hi,Option.bind_some,Int.toNat_natCast,B8 f (K6 hp hi),QI]) (fun v=>by unfold Xl; simp)
 have h2 : ZF (Xl p (vf 16 f)) (vf 16 (fun _=>0),0) = _:=this
 rw [Us 16 (0 : UInt8),h2]; rfl

def TT (b : Vector UInt8 256) (f : Nat → UInt8) (r : Int) : Nat → UInt8
 | 0=>f 0 ^^^ HV b (f 15 ^^^ Zz r)
 | i + 1=>f (i + 1) ^^^ HV b (TT b f r i)
theorem z9 (b : Vector UInt8 256) (f : Nat → UInt8) (r : Int) : V0 b (vf 16 f) r = some (vf 16 (TT b f r)) := by
  unfold V0
  have := Wf (WE b r) f (TT b f r) (by omega) 0 (by omega) (fun j hj => by omega) (fun i _ hi a hb ha => by
    unfold WE
    cases i with
    | zero =>
      have e1 : Int.tmod (wr (((0 : Nat) : Int) + 15)) 16 = ((15 : Nat) : Int) := by decide
      simp only [e1, Ko hi, if_true, ZS a (show 15 < 16 by omega), Option.bind_some]
      have e2 : (((0 : Nat) : Int) == 0) = true := rfl
      simp only [e2, if_true, Option.bind_some, T2, ZS a hi, Int.toNat_natCast, ha 0 (by omega), ha 15 (by omega), TT]
    | succ i =>
      have e1 : Int.tmod (wr (((i + 1 : Nat) : Int) + 15)) 16 = ((i : Nat) : Int) := by
        rw [Yd (by omega)]
        have : (((i + 1 : Nat) : Int) + 15) = ((i + 16 : Nat) : Int) := by omega
        rw [this]
        have : Int.tmod ((i + 16 : Nat) : Int) 16 = (((i + 16) % 16 : Nat) : Int) := rfl
        rw [this]
        omega
      have e2 : (((i + 1 : Nat) : Int) == 0) = false := by have : ((i + 1 : Nat) : Int) ≠ 0 := by omega
                                                           simpa using this
      simp only [e1, e2, Ko hi, if_true, ZS a (show i < 16 by omega), Option.bind_some, Bool.false_eq_true, if_false, T2, ZS a hi, Int.toNat_natCast, ha (i + 1) (Nat.le_refl _), hb i (by omega), TT]) (fun v => by unfold WE; simp)
  have h2 : ZF (WE b r) (vf 16 f, 0) = _ := this
  rw [h2]; rfl
theorem yb (e : Ref Gengine) (f : Nat → UInt8) (r : Int) : Xt e (vf 16 f) r = some (vf 16 (TT e.v.box f r)):=by
 unfold Xt
 have x0 : ZI (vf 16 f) (0 : Int) = some (f 0):=ZS f (show 0 < 16 by omega)
 have x15 : ZI (vf 16 f) (15 : Int) = some (f 15):=ZS f (show 15 < 16 by omega)
 have z : (0 : Int).toNat = 0:=rfl
 simp only [x0,x15,Option.bind_some,T2,z,UH]
 have:=Wf (YR e) (fun i=>if i = 0 then f 0 ^^^ HV e.v.box (f 15 ^^^ Zz r) else f i) (TT e.v.box f r) (by omega) 1 (by omega) (fun j hj=>by
  have : j = 0:=by omega
  subst this; simp [TT]) (fun i h1 hi a hb ha=>by
  unfold YR
  obtain ⟨i,rfl⟩ : ∃ k,i = k + 1:=⟨i - 1,by omega⟩
  have e1 : wr (((i + 1 : Nat) : Int) - 1) = ((i : Nat) : Int):=by rw [Yd (by omega)]; omega
  simp only [e1,Ko hi,if_true,ZS a (show i < 16 by omega),ZS a hi,Option.bind_some,T2,Int.toNat_natCast,ha (i + 1) (Nat.le_refl _),hb i (by omega),TT]
  simp) (fun v=>by unfold YR; simp)
 have h2 : ZF (YR e) (vf 16 (fun i=>if i = 0 then f 0 ^^^ HV e.v.box (f 15 ^^^ Zz r) else f i),1) = _:=this
 rw [h2]; rfl
def Bv (b : Vector UInt8 256) (k : Nat → UInt8) : Nat → Nat → UInt8
 | 0=>k
 | r + 1=>TT b (Bv b k r) ((r + 1 : Nat) : Int)
def Vq (b : Vector UInt8 256) (k : Nat → UInt8) (n : Nat) : List Blk:=(List.range (n + 1)).map fun r=>vf 16 (Bv b k r)
theorem Ba (b : Vector UInt8 256) (k : Nat → UInt8) (n : Nat) : Vq b k (n + 1) = Vq b k n ++ [vf 16 (TT b (Bv b k n) ((n + 1 : Nat) : Int))]:=by
 unfold Vq
 rw [List.range_succ,List.map_append]; rfl
theorem Ql (b : Vector UInt8 256) (k : Nat → UInt8) (n : Nat) : (Vq b k n).length = n + 1:=by simp [Vq]
theorem Kc (b : Vector UInt8 256) (k : Nat → UInt8) {n r : Nat} (h : r ≤ n) : idx (Vq b k n) (r : Int) = some (vf 16 (Bv b k r)):=by
 rw [YN]; unfold Vq; rw [List.getElem?_map,List.getElem?_range (by omega)]; rfl
theorem z5 (c : GCipher) (k : Nat → UInt8) (n : Nat) (hn : n ≤ 1000) : VZ c (vf 16 k) (n : Int) = some (Vq c.Box k n):=by
 unfold VZ
 have:=Yl (f:=WC c (n : Int)) (fun i : Nat=>(vf 16 (Bv c.Box k (i - 1)),Vq c.Box k (i - 1),(i : Int))) 1 (n + 1) (by omega) (t:=Vq c.Box k n) (fun i h1 hi=>by
  unfold WC
  obtain ⟨i,rfl⟩ : ∃ q,i = q + 1:=⟨i - 1,by omega⟩
  have e1 : decide (((i + 1 : Nat) : Int) ≤ (n : Int)) = true:=by simp; omega
  have e2 : app 16 (Vq c.Box k i) [vf 16 (TT c.Box (Bv c.Box k i) ((i + 1 : Nat) : Int))] = _:=XD (by rw [Ql]; simp; omega)
  simp only [Nat.add_sub_cancel,e1,if_true,z9,Option.bind_some,e2,WQ (show i + 1 < 9223372036854775807 by omega),Ba]
  rfl) (by
  unfold WC
  have e1 : decide (((n + 1 : Nat) : Int) ≤ (n : Int)) = false:=by simp; omega
  simp only [e1,Bool.false_eq_true,if_false,Nat.add_sub_cancel])
 have h2 : ZF (WC c (n : Int)) (vf 16 k,[vf 16 k],1) = _:=this
 rw [h2]; rfl
theorem v_keys (e : Ref Gengine) (k : Nat → UInt8) (n : Nat) (hn : n ≤ 1000) : Wq e (vf 16 k) (n : Int) = some (Vq e.v.box k n):=by
 unfold Wq
 have:=Yl (f:=Xi e (n : Int)) (fun i : Nat=>(vf 16 (Bv e.v.box k (i - 1)),Vq e.v.box k (i - 1),(i : Int))) 1 (n + 1) (by omega) (t:=Vq e.v.box k n) (fun i h1 hi=>by
  unfold Xi
  obtain ⟨i,rfl⟩ : ∃ q,i = q + 1:=⟨i - 1,by omega⟩
  have e1 : decide (((i + 1 : Nat) : Int) ≤ (n : Int)) = true:=by simp; omega
  have e2 : app 16 (Vq e.v.box k i) [vf 16 (TT e.v.box (Bv e.v.box k i) ((i + 1 : Nat) : Int))] = _:=XD (by rw [Ql]; simp; omega)
  simp only [Nat.add_sub_cancel,e1,if_true,yb,Option.bind_some,e2,WQ (show i + 1 < 9223372036854775807 by omega),Ba]
  rfl) (by
  unfold Xi
  have e1 : decide (((n + 1 : Nat) : Int) ≤ (n : Int)) = false:=by simp; omega
  simp only [e1,Bool.false_eq_true,if_false,Nat.add_sub_cancel])
 have h2 : ZF (Xi e (n : Int)) (vf 16 k,[vf 16 k],1) = _:=this
 rw [h2]; rfl

def rowF (m : Nat) (a : MF) (f : Nat → UInt8) (c r : Nat) : UInt8:=((Z5 m (a r 0) (f c) ^^^ Z5 m (a r 1) (f (c + 1))) ^^^ Z5 m (a r 2) (f (c + 2))) ^^^ Z5 m (a r 3) (f (c + 3))
def VR (m : Nat) (a : MF) (f : Nat → UInt8) : Nat → UInt8:=fun i=>rowF m a f (i / 4 * 4) (i % 4)
theorem jK (f : Nat → UInt8) (k : Nat) (x y : UInt8) : (fun i=>if i = k then y else if i = k then x else f i) = fun i=>if i = k then y else f i:=by
 funext i; by_cases h : i = k <;> simp [h]
theorem wr_at {c r : Nat} (hc : c < 4) (hr : r < 4) : wr (wr (4 * (c : Int)) + (r : Int)) = ((c * 4 + r : Nat) : Int):=by
 rw [Yd (x:=4 * (c : Int)) (by omega),Yd (by omega)]; omega
theorem jI (m : Nat) (hm : m < 512) (hm2 : 256 ≤ m) (a : MF) (f g : Nat → UInt8) (c r : Nat) (hc : c < 4) (hr : r < 4) (s1 s2 : Blk × Int) (h1 : s1.2 = (c : Int)) (h2 : s2.2 = (r : Int)) (hg : g (c * 4 + r) = 0) :
  ZF (XN (m : Int) (mf a) (vf 16 f) s1 s2) (vf 16 g,0) = some (vf 16 fun i=>if i = c * 4 + r then rowF m a f (c * 4) r else g i):=by
 have hcr : c * 4 + r < 16:=by omega
 have step : ∀ (j : Nat) (h : Nat → UInt8),j < 4 → XN (m : Int) (mf a) (vf 16 f) s1 s2 (vf 16 h,(j : Int)) = some (.nx (vf 16 (fun i=>if i = c * 4 + r then h (c * 4 + r) ^^^ Z5 m (a r j) (f (c * 4 + j)) else h i),((j + 1 : Nat) : Int))):=fun j h hj=>by
  unfold XN
  simp only [h1,h2,lt4 hj,if_true,wr_at hc hr,wr_at hc hj,ZS _ hcr,V6 _ hr,ZS _ hj,ZS f (show c * 4 + j < 16 by omega),Option.bind_some,QJ m hm hm2,Int.toNat_natCast,UH,wr4 (show j < 1000 by omega)]
 have e0:=step 0 g (by omega)
 have e1:=step 1 (fun i=>if i = c * 4 + r then g (c * 4 + r) ^^^ Z5 m (a r 0) (f (c * 4 + 0)) else g i) (by omega)
 have e2:=step 2 (fun i=>if i = c * 4 + r then (g (c * 4 + r) ^^^ Z5 m (a r 0) (f (c * 4 + 0))) ^^^ Z5 m (a r 1) (f (c * 4 + 1)) else g i) (by omega)
 have e3:=step 3 (fun i=>if i = c * 4 + r then ((g (c * 4 + r) ^^^ Z5 m (a r 0) (f (c * 4 + 0))) ^^^ Z5 m (a r 1) (f (c * 4 + 1))) ^^^ Z5 m (a r 2) (f (c * 4 + 2)) else g i) (by omega)
 have e4 : ∀ v : Blk,XN (m : Int) (mf a) (vf 16 f) s1 s2 (v,((4 : Nat) : Int)) = some (.ex v):=fun v=>by unfold XN; simp
 simp only [if_true,jK] at e1 e2 e3
 have e0' : XN (m : Int) (mf a) (vf 16 f) s1 s2 (vf 16 g,0) = _:=e0
 rw [Yp e0',Yp e1,Yp e2,Yp e3,Ym (e4 _)]
 refine congrArg some (Y6 fun i _=>?_)
 by_cases h : i = c * 4 + r
 ·simp [h,hg,rowF]
 ·simp [h]
theorem yE (m : Nat) (hm : m < 512) (hm2 : 256 ≤ m) (a : MF) (f : Nat → UInt8) : Uj (m : Int) (mf a) (vf 16 f) = some (vf 16 (VR m a f)):=by
 unfold Uj
 -- after c columns and r rows of the next
 have inner : ∀ c : Nat,c < 4 → ∀ s1 : Blk × Int,s1.2 = (c : Int) → ZF (Vd (m : Int) (mf a) (vf 16 f) s1) (vf 16 (fun i=>if i < c * 4 then VR m a f i else 0),0) = some (vf 16 fun i=>if i < (c + 1) * 4 then VR m a f i else 0):=fun c hc s1 h1=>by
  have k1 : (vf 16 fun i=>if i < c * 4 + 4 then VR m a f i else 0) = vf 16 fun i=>if i < (c + 1) * 4 then VR m a f i else 0:=by rw [show c * 4 + 4 = (c + 1) * 4 by omega]
  have:=Yl (f:=Vd (m : Int) (mf a) (vf 16 f) s1) (fun r : Nat=>(vf 16 fun i=>if i < c * 4 + r then VR m a f i else 0,(r : Int))) 0 4 (by omega) (t:=vf 16 fun i=>if i < (c + 1) * 4 then VR m a f i else 0) (fun r _ hr=>by
   unfold Vd
   have h2:=jI m hm hm2 a f (fun i=>if i < c * 4 + r then VR m a f i else 0) c r hc hr s1 (vf 16 fun i=>if i < c * 4 + r then VR m a f i else 0,(r : Int)) h1 rfl (by simp)
   simp only [lt4 hr,if_true,h2,Option.bind_some,wr4 (show r < 1000 by omega)]
   refine congrArg (fun z=>some (Fl.nx (z,((r + 1 : Nat) : Int)))) (Y6 fun i _=>?_)
   by_cases h : i = c * 4 + r
   ·subst h
    have q1 : (c * 4 + r) / 4 = c:=by omega
    have q2 : (c * 4 + r) % 4 = r:=by omega
    rw [if_pos rfl,if_pos (by omega)]
    unfold VR; rw [q1,q2]
   ·by_cases h3 : i < c * 4 + r
    ·rw [if_neg h,if_pos h3,if_pos (by omega)]
    ·rw [if_neg h,if_neg h3,if_neg (by omega)]) (by
   unfold Vd
   simp only [k1]
   simp)
  exact this
 have:=Yl (f:=W0 (m : Int) (mf a) (vf 16 f)) (fun c : Nat=>(vf 16 fun i=>if i < c * 4 then VR m a f i else 0,(c : Int))) 0 4 (by omega) (t:=vf 16 (VR m a f)) (fun c _ hc=>by
  unfold W0
  have h2:=inner c hc (vf 16 fun i=>if i < c * 4 then VR m a f i else 0,(c : Int)) rfl
  simp only [lt4 hc,if_true,h2,Option.bind_some,wr4 (show c < 1000 by omega)]) (by
  unfold W0
  have : (vf 16 fun i=>if i < 4 * 4 then VR m a f i else 0) = vf 16 (VR m a f):=Y6 fun i hi=>by rw [if_pos (by omega)]
  simp only [this]
  simp)
 have e0 : (vf 16 fun i=>if i < 0 * 4 then VR m a f i else 0) = vf 16 fun _=>(0 : UInt8):=Y6 fun i _=>by rw [if_neg (by omega)]
 simp only [e0] at this
 have h2 : ZF (W0 (m : Int) (mf a) (vf 16 f)) (vf 16 fun _=>(0 : UInt8),0) = _:=this
 rw [Us 16 (0 : UInt8),h2]; rfl

abbrev Tab:=Vector (Vector (Vector UInt8 256) 4) 4
def Jq (m : Nat) (a : MF) : Tab:=vf 4 fun i=>vf 4 fun j=>vf 256 fun x=>Z5 m (a i j) (UInt8.ofNat x)
theorem jn (m : Nat) (a : MF) (i j : Nat) (x : UInt8) : ZI (vf 256 fun x=>Z5 m (a i j) (UInt8.ofNat x)) (bI x) = some (Z5 m (a i j) x):=by
 rw [show bI x = ((x.toNat : Nat) : Int) from rfl,ZS _ (UInt8.toNat_lt x)]
 simp
theorem v_mix (m : Nat) (a : MF) (f : Nat → UInt8) : Vf ⟨Jq m a⟩ (vf 16 f) = some (vf 16 (VR m a f)):=by
 unfold Vf
 have i0 : ∀ (v : Vector (Vector UInt8 256) 4),ZI v (0 : Int) = v[0]?:=fun v=>VG v 0
 have i1 : ∀ (v : Vector (Vector UInt8 256) 4),ZI v (1 : Int) = v[1]?:=fun v=>VG v 1
 have i2 : ∀ (v : Vector (Vector UInt8 256) 4),ZI v (2 : Int) = v[2]?:=fun v=>VG v 2
 have i3 : ∀ (v : Vector (Vector UInt8 256) 4),ZI v (3 : Int) = v[3]?:=fun v=>VG v 3
 have inner : ∀ c : Nat,c < 4 → ∀ s1 : Blk × Int,s1.2 = ((c * 4 : Nat) : Int) → ZF (XW ⟨Jq m a⟩ s1 (f (c * 4),f (c * 4 + 1),f (c * 4 + 2),f (c * 4 + 3))) (vf 16 (fun i=>if i < c * 4 then VR m a f i else f i),0) = some (vf 16 fun i=>if i < (c + 1) * 4 then VR m a f i else f i):=fun c hc s1 h1=>by
  have k1 : (vf 16 fun i=>if i < c * 4 + 4 then VR m a f i else f i) = vf 16 fun i=>if i < (c + 1) * 4 then VR m a f i else f i:=by rw [show c * 4 + 4 = (c + 1) * 4 by omega]
  have:=Yl (f:=XW ⟨Jq m a⟩ s1 (f (c * 4),f (c * 4 + 1),f (c * 4 + 2),f (c * 4 + 3))) (fun r : Nat=>(vf 16 fun i=>if i < c * 4 + r then VR m a f i else f i,(r : Int))) 0 4 (by omega) (t:=vf 16 fun i=>if i < (c + 1) * 4 then VR m a f i else f i) (fun r _ hr=>by
   unfold XW
   have e1 : wr (s1.2 + (r : Int)) = ((c * 4 + r : Nat) : Int):=by rw [h1,Yd (by omega)]; omega
   have et : ZI (Jq m a) (r : Int) = some (vf 4 fun j=>vf 256 fun x=>Z5 m (a r j) (UInt8.ofNat x)):=ZS _ hr
   simp only [lt4 hr,if_true,et,i0,i1,i2,i3,QZ _ (show 0 < 4 by omega),QZ _ (show 1 < 4 by omega),QZ _ (show 2 < 4 by omega),QZ _ (show 3 < 4 by omega),jn,e1,ZS _ (show c * 4 + r < 16 by omega),Option.bind_some,Int.toNat_natCast,UH,wr4 (show r < 1000 by omega)]
   refine congrArg (fun z=>some (Fl.nx (z,((r + 1 : Nat) : Int)))) (Y6 fun i _=>?_)
   by_cases h : i = c * 4 + r
   ·subst h
    have q1 : (c * 4 + r) / 4 = c:=by omega
    have q2 : (c * 4 + r) % 4 = r:=by omega
    rw [if_pos rfl,if_pos (by omega)]
    unfold VR; rw [q1,q2]; rfl
   ·by_cases h3 : i < c * 4 + r
    ·rw [if_neg h,if_pos h3,if_pos (by omega)]
    ·rw [if_neg h,if_neg h3,if_neg (by omega)]) (by
   unfold XW
   simp only [k1]
   simp)
  exact this
 have:=Yl (f:=XX ⟨Jq m a⟩) (fun c : Nat=>(vf 16 fun i=>if i < c * 4 then VR m a f i else f i,((c * 4 : Nat) : Int))) 0 4 (by omega) (t:=vf 16 (VR m a f)) (fun c _ hc=>by
  unfold XX
  have hd : decide (((c * 4 : Nat) : Int) < ((vf 16 fun i=>if i < c * 4 then VR m a f i else f i).toList.length : Int)) = true:=by rw [Vector.length_toList]; simp; omega
  have x0:=ZS (n:=16) (fun i=>if i < c * 4 then VR m a f i else f i) (show c * 4 < 16 by omega)
  have x1:=ZS (n:=16) (fun i=>if i < c * 4 then VR m a f i else f i) (show c * 4 + 1 < 16 by omega)
  have x2:=ZS (n:=16) (fun i=>if i < c * 4 then VR m a f i else f i) (show c * 4 + 2 < 16 by omega)
  have x3:=ZS (n:=16) (fun i=>if i < c * 4 then VR m a f i else f i) (show c * 4 + 3 < 16 by omega)
  have w1 : wr (((c * 4 : Nat) : Int) + 1) = ((c * 4 + 1 : Nat) : Int):=by rw [Yd (by omega)]; omega
  have w2 : wr (((c * 4 : Nat) : Int) + 2) = ((c * 4 + 2 : Nat) : Int):=by rw [Yd (by omega)]; omega
  have w3 : wr (((c * 4 : Nat) : Int) + 3) = ((c * 4 + 3 : Nat) : Int):=by rw [Yd (by omega)]; omega
  have w4 : wr (((c * 4 : Nat) : Int) + 4) = (((c + 1) * 4 : Nat) : Int):=by rw [Yd (by omega)]; omega
  rw [if_neg (by omega)] at x0 x1 x2 x3
  have h2:=inner c hc (vf 16 fun i=>if i < c * 4 then VR m a f i else f i,((c * 4 : Nat) : Int)) rfl
  simp only [hd,if_true,x0,w1,x1,w2,x2,w3,x3,Option.bind_some,h2,w4]) (by
  unfold XX
  have : (vf 16 fun i=>if i < 4 * 4 then VR m a f i else f i) = vf 16 (VR m a f):=Y6 fun i hi=>by rw [if_pos (by omega)]
  simp only [this]
  simp)
 have e0 : (vf 16 fun i=>if i < 0 * 4 then VR m a f i else f i) = vf 16 f:=Y6 fun i _=>by rw [if_neg (by omega)]
 simp only [e0] at this
 have h2 : ZF (XX ⟨Jq m a⟩) (vf 16 f,0) = _:=this
 rw [h2]; rfl

def tb (g : Nat → Nat → Nat → UInt8) : Tab:=vf 4 fun i=>vf 4 fun j=>vf 256 (g i j)
theorem KW {g h : Nat → Nat → Nat → UInt8} (e : ∀ i,i < 4 → ∀ j,j < 4 → ∀ x,x < 256 → g i j x = h i j x) : tb g = tb h :=
 Y6 fun i hi=>Y6 fun j hj=>Y6 fun x hx=>e i hi j hj x hx
theorem jD (g : Nat → Nat → Nat → UInt8) {i : Nat} (hi : i < 4) : ZI (tb g) (i : Int) = some (vf 4 fun j=>vf 256 (g i j)):=ZS _ hi
theorem yu (g : Nat → Nat → Nat → UInt8) (i : Nat) {j : Nat} (hj : j < 4) : ZI (vf 4 fun j=>vf 256 (g i j)) (j : Int) = some (vf 256 (g i j)):=ZS _ hj
theorem tb_set (g : Nat → Nat → Nat → UInt8) (i j : Nat) (h : Nat → UInt8) : (tb g).setIfInBounds i ((vf 4 fun j=>vf 256 (g i j)).setIfInBounds j (vf 256 h)) = tb (fun i' j'=>if i' = i ∧ j' = j then h else g i' j'):=by
 unfold tb
 rw [UH,UH]
 refine Y6 fun i' _=>?_
 by_cases h1 : i' = i
 ·subst h1
  rw [if_pos rfl]
  refine Y6 fun j' _=>?_
  by_cases h2 : j' = j
  ·subst h2; simp
  ·simp [h2]
 ·rw [if_neg h1]
  refine Y6 fun j' _=>?_
  simp [h1]
theorem jB (a b : Nat) (ha : a < 9223372036854775808) (hb : b < 9223372036854775808) : orI (a : Int) (b : Int) = ((a ||| b : Nat) : Int):=by
 unfold orI
 rw [BitVec.toNat_or,KX a ha,KX b hb]
 have : a ||| b < 2 ^ 63:=Nat.or_lt_two_pow ha hb
 exact Yd (by omega)
theorem Vk (n : Nat) : Zz (n : Int) = UInt8.ofNat n:=by
 unfold Zz
 have : ((n : Int) % 256).toNat = n % 256:=by omega
 rw [this]
 apply UInt8.toNat_inj.1
 simp
theorem j0 (g : Nat → Nat → Nat → UInt8) (i j : Nat) (h : Nat → UInt8) : (tb g).setIfInBounds i (vf 4 fun j'=>if j' = j then vf 256 h else vf 256 (g i j')) = tb (fun i' j'=>if i' = i ∧ j' = j then h else g i' j'):=by
 have:=tb_set g i j h
 rw [UH] at this
 exact this
theorem y4 {p low : Nat} (h : low < 2 ^ p) : 2 ^ p ||| low = 2 ^ p + low:=by
 have:=Nat.two_pow_add_eq_or_of_lt h 1
 simpa using this.symm
theorem yB {p low : Nat} (hp : p < 8) (h : low < 2 ^ p) : UInt8.ofNat (2 ^ p + low) = UInt8.ofNat (2 ^ p) ^^^ UInt8.ofNat low:=by
 apply UInt8.toNat_inj.1
 have h7 : 2 ^ p ≤ 2 ^ 7:=Nat.pow_le_pow_right (by omega) (by omega)
 rw [UInt8.toNat_xor]
 simp only [UInt8.toNat_ofNat']
 rw [Nat.mod_eq_of_lt (by omega),Nat.mod_eq_of_lt (by omega),Nat.mod_eq_of_lt (by omega)]
 rw [← y4 h]
 apply Nat.eq_of_testBit_eq
 intro i
 rw [Nat.testBit_or,Nat.testBit_xor,Nat.testBit_two_pow]
 by_cases hi : p = i
 ·subst hi
  rw [Nat.testBit_lt_two_pow h]; simp
 ·simp [hi]
section
variable (m : Nat) (hm : m < 512) (hm2 : 256 ≤ m) (a : MF)
include hm hm2
def Qq (m : Nat) (a : MF) (i j n : Nat) (g : Nat → Nat → Nat → UInt8) : Nat → Nat → Nat → UInt8:=fun i' j'=>if i' = i ∧ j' = j then (fun x=>if x < n then Z5 m (a i j) (UInt8.ofNat x) else 0) else g i' j'
theorem y8 (i j p : Nat) (hi : i < 4) (hj : j < 4) (hp : p < 8) (g : Nat → Nat → Nat → UInt8) (s0 s1 s2 : Tab × Int) (h0 : s0.2 = (i : Int)) (h1 : s1.2 = (j : Int)) (h2 : s2.2 = ((2 ^ p : Nat) : Int)) :
  ZF (X8 s0 s1 s2 (Z5 m (a i j) (UInt8.ofNat (2 ^ p)))) (tb (Qq m a i j (2 ^ p) g),0) = some (tb (Qq m a i j (2 ^ (p + 1)) g)):=by
 have h7 : 2 ^ p ≤ 2 ^ 7:=Nat.pow_le_pow_right (by omega) (by omega)
 have k1 : 2 ^ p + 2 ^ p = 2 ^ (p + 1):=by rw [Nat.pow_succ]; omega
 have:=Yl (f:=X8 s0 s1 s2 (Z5 m (a i j) (UInt8.ofNat (2 ^ p)))) (fun low : Nat=>(tb (Qq m a i j (2 ^ p + low) g),(low : Int))) 0 (2 ^ p) (Nat.zero_le _) (t:=tb (Qq m a i j (2 ^ (p + 1)) g)) (fun low _ hl=>by
  unfold X8
  have hd : decide ((low : Int) < ((2 ^ p : Nat) : Int)) = true:=by simp only [decide_eq_true_eq]; omega
  have ho : orI ((2 ^ p : Nat) : Int) (low : Int) = ((2 ^ p + low : Nat) : Int):=by rw [jB _ _ (by omega) (by omega),y4 hl]
  have eg : Qq m a i j (2 ^ p + low) g i j = fun x=>if x < 2 ^ p + low then Z5 m (a i j) (UInt8.ofNat x) else 0:=by simp [Qq]
  simp only [h0,h1,h2,hd,if_true,jD _ hi,yu _ i hj,eg,ZS _ (show low < 256 by omega),ho,ZS _ (show 2 ^ p + low < 256 by omega),Option.bind_some,Int.toNat_natCast,UH,WQ (show low < 9223372036854775807 by omega)]
  rw [if_pos (show low < 2 ^ p + low from Nat.lt_add_of_pos_left (Nat.two_pow_pos p)),← A2 hm2 hm,← yB hp hl]
  have:=j0 (Qq m a i j (2 ^ p + low) g) i j (fun x=>if x = 2 ^ p + low then Z5 m (a i j) (UInt8.ofNat (2 ^ p + low)) else if x < 2 ^ p + low then Z5 m (a i j) (UInt8.ofNat x) else 0)
  rw [this]
  refine congrArg (fun z=>some (Fl.nx (z,((low + 1 : Nat) : Int)))) (KW fun i' _ j' _ x _=>?_)
  unfold Qq
  by_cases h : i' = i ∧ j' = j
  ·simp only [h,and_self,if_true]
   by_cases hx : x = 2 ^ p + low
   ·subst hx; simp
   ·by_cases hx2 : x < 2 ^ p + low
    ·rw [if_neg hx,if_pos hx2,if_pos (by omega)]
    ·rw [if_neg hx,if_neg hx2,if_neg (by omega)]
  ·simp only [h,if_false]) (by
  unfold X8
  simp only [h2,k1]
  simp)
 exact this
theorem jg (i j : Nat) (hi : i < 4) (hj : j < 4) (g : Nat → Nat → Nat → UInt8) (s0 s1 : Tab × Int) (h0 : s0.2 = (i : Int)) (h1 : s1.2 = (j : Int)) :
  ZF (X6 (m : Int) s0 s1 (a i j)) (tb (Qq m a i j 1 g),1) = some (tb (Qq m a i j 256 g)):=by
 have:=Yl (f:=X6 (m : Int) s0 s1 (a i j)) (fun p : Nat=>(tb (Qq m a i j (2 ^ p) g),((2 ^ p : Nat) : Int))) 0 8 (by omega) (t:=tb (Qq m a i j 256 g)) (fun p _ hp=>by
  unfold X6
  have h7 : 2 ^ p ≤ 2 ^ 7:=Nat.pow_le_pow_right (by omega) (by omega)
  have hd : decide (((2 ^ p : Nat) : Int) < 256) = true:=by simp only [decide_eq_true_eq]; omega
  have hb : Zz ((2 ^ p : Nat) : Int) = UInt8.ofNat (2 ^ p):=by rw [Vk]
  have hw : wr (((2 ^ p : Nat) : Int) * 2) = ((2 ^ (p + 1) : Nat) : Int):=by
   rw [Nat.pow_succ]
   generalize 2 ^ p = q at h7 ⊢
   rw [Yd (by omega)]; omega
  have h3:=y8 m hm hm2 a i j p hi hj hp g s0 s1 (tb (Qq m a i j (2 ^ p) g),((2 ^ p : Nat) : Int)) h0 h1 rfl
  simp only [hd,if_true,hb,Ui m hm,Option.bind_some,h3,hw]) (by unfold X6; simp)
 exact this
theorem Ht (A : Mat) (hA : A = mf a) : WB (m : Int) A = some ⟨Jq m a⟩:=by
 subst hA
 unfold WB
 let G : Nat → Nat → Nat → Nat → Nat → UInt8:=fun r c i j x=>if i < r ∨ (i = r ∧ j < c) then Z5 m (a i j) (UInt8.ofNat x) else 0
 have hGt : ∀ r c i j x,(i < r ∨ (i = r ∧ j < c)) → G r c i j x = Z5 m (a i j) (UInt8.ofNat x):=fun r c i j x h=>if_pos h
 have hGf : ∀ r c i j x,¬ (i < r ∨ (i = r ∧ j < c)) → G r c i j x = 0:=fun r c i j x h=>if_neg h
 have hGe : ∀ r c r' c' i j x,((i < r ∨ (i = r ∧ j < c)) ↔ (i < r' ∨ (i = r' ∧ j < c'))) → G r c i j x = G r' c' i j x:=fun r c r' c' i j x h=>by show (if _ then _ else _) = (if _ then _ else _); simp only [h]
 have z0 : ∀ i j,Z5 m (a i j) (UInt8.ofNat 0) = 0:=fun i j=>by rw [TV hm2 hm]; exact QR hm2 hm _
 have col : ∀ r : Nat,r < 4 → ∀ s0 : Tab × Int,s0.2 = (r : Int) → ZF (Wc (m : Int) s0 (vf 4 (a r))) (tb (G r 0),0) = some (tb (G (r + 1) 0)):=fun r hr s0 h0=>by
  have k1 : tb (G r 4) = tb (G (r + 1) 0):=KW fun i hi j hj x _=>by
   exact hGe _ _ _ _ _ _ _ (by omega)
  have:=Yl (f:=Wc (m : Int) s0 (vf 4 (a r))) (fun c : Nat=>(tb (G r c),(c : Int))) 0 4 (by omega) (t:=tb (G (r + 1) 0)) (fun c _ hc=>by
   unfold Wc
   have e1 : tb (G r c) = tb (Qq m a r c 1 (G r c)):=KW fun i _ j _ x _=>by
    unfold Qq
    by_cases h : i = r ∧ j = c
    ·obtain ⟨rfl,rfl⟩:=h
     simp only [and_self,if_true]
     rw [hGf _ _ _ _ _ (by omega)]
     by_cases hx : x < 1
     ·have : x = 0:=by omega
      subst this; rw [if_pos hx,z0]
     ·rw [if_neg hx]
    ·simp only [h,if_false]
   have e2 : tb (Qq m a r c 256 (G r c)) = tb (G r (c + 1)):=KW fun i _ j _ x hx=>by
    unfold Qq
    by_cases h : i = r ∧ j = c
    ·obtain ⟨rfl,rfl⟩:=h
     simp only [and_self,if_true,hx]
     rw [hGt _ _ _ _ _ (by omega)]
    ·simp only [h,if_false]
     exact hGe _ _ _ _ _ _ _ (by omega)
   have h3:=jg m hm hm2 a r c hr hc (G r c) s0 (tb (G r c),(c : Int)) h0 rfl
   rw [← e1,e2] at h3
   simp only [lt4 hc,if_true,ZS _ hc,h3,Option.bind_some,wr4 (show c < 1000 by omega)]) (by
   unfold Wc
   simp only [k1]
   simp)
  exact this
 have kz : tb (G 0 0) = Vector.replicate 4 (Vector.replicate 4 (Vector.replicate 256 (0 : UInt8))):=by
  rw [Us 256 (0 : UInt8),Us 4,Us 4]
  exact KW fun i _ j _ x _=>by
   exact hGf _ _ _ _ _ (by omega)
 have k4 : tb (G 4 0) = Jq m a:=KW fun i hi j _ x _=>by
  exact hGt _ _ _ _ _ (by omega)
 have:=Yl (f:=Wb (m : Int) (mf a)) (fun r : Nat=>(tb (G r 0),(r : Int))) 0 4 (by omega) (t:=Jq m a) (fun r _ hr=>by
  unfold Wb
  have h3:=col r hr (tb (G r 0),(r : Int)) rfl
  simp only [lt4 hr,if_true,V6 _ hr,h3,Option.bind_some,wr4 (show r < 1000 by omega)]) (by
  unfold Wb
  simp only [k4]
  simp)
 have h2 : ZF (Wb (m : Int) (mf a)) (tb (G 0 0),0) = _:=this
 rw [← kz,h2]; rfl
end

def Hs (n : Nat) (p : Vector UInt8 n) : Nat → Vector UInt8 n
 | 0=>Vector.replicate n 0
 | i + 1=>(Hs n p i).setIfInBounds (p.toList.getD i 0).toNat (Zz (i : Int))
theorem HJ (p : Vector UInt8 256) : Wv p = some (Hs 256 p 256):=by
 unfold Wv
 have:=Yl (f:=Xn p) (fun i : Nat=>(Hs 256 p i,(i : Int))) 0 256 (by omega) (t:=Hs 256 p 256) (fun i _ hi=>by
  unfold Xn
  have hd : decide ((i : Int) < 256) = true:=by simp; omega
  simp only [hd,if_true,H8 p hi,T2,Option.bind_some,Al,WQ (show i < 9223372036854775807 by omega)]
  rfl) (by unfold Xn; simp)
 have h2 : ZF (Xn p) (Vector.replicate 256 0,0) = _:=this
 rw [h2]; rfl
theorem jX (p : Blk) {i : Nat} (h : i < 16) : p.toList.getD i 0 = bf p i:=by
 have h1:=H8 p h
 rw [Ky p h] at h1
 exact (Option.some.inj h1).symm
theorem K2 (p : Blk) (hp : Te p = true) : Xu p = some (Hs 16 p 16):=by
 unfold Xu
 have:=Yl (f:=YT p) (fun i : Nat=>(Hs 16 p i,(i : Int))) 0 16 (by omega) (t:=Hs 16 p 16) (fun i _ hi=>by
  unfold YT
  have hlt:=K6 hp hi
  have hv : ZI (Hs 16 p i) (bI (bf p i)) = some (bf (Hs 16 p i) (bf p i).toNat):=Ky _ hlt
  simp only [Ko hi,if_true,Ky p hi,hv,Option.bind_some,Al,WQ (show i < 9223372036854775807 by omega)]
  rw [← jX p hi]
  rfl) (by unfold YT; simp)
 have h2 : ZF (YT p) (Vector.replicate 16 0,0) = _:=this
 rw [h2]; rfl

def Xr (c : GCipher) : Gengine:=⟨c.Box,Hs 256 c.Box 256,c.Places,Hs 16 c.Places 16,⟨Jq c.Field.toNat (Jr c.Mix)⟩,⟨Jq c.Field.toNat (Jr (invM c.Field.toNat c.Mix))⟩,c.Rounds⟩
theorem TJ {c : GCipher} (h : YS c = true) : Te c.Places = true:=by
 unfold YS at h
 simp only [Bool.and_eq_true] at h
 exact h.1.1.2
theorem QF {c : GCipher} (h : YS c = true) : 1 ≤ c.Rounds ∧ c.Rounds ≤ 20:=by
 unfold YS at h
 simp only [Bool.and_eq_true,decide_eq_true_eq] at h
 exact h.1.2
theorem Aq (c : GCipher) (h : YS c = true) : Vi c = some ⟨Xr c⟩:=by
 obtain ⟨m,hm,h1,h2⟩:=Kd h
 have e : c.Field.toNat = m:=by omega
 unfold Vi Xr
 rw [e]
 simp only [hm,yH m h2 h1,Option.bind_some,HJ,K2 _ (TJ h),Ht m h2 h1 (Jr c.Mix) c.Mix (JL _),Ht m h2 h1 (Jr (invM m c.Mix)) (invM m c.Mix) (JL _)]

def HG (c : GCipher) (n r : Nat) (k f : Nat → UInt8) : Nat → UInt8 :=
 Q1 (if r < n then VR c.Field.toNat (Jr c.Mix) (QI c.Places (Hy c.Box f)) else QI c.Places (Hy c.Box f)) k
def KH (c : GCipher) (k f : Nat → UInt8) (n : Nat) : Nat → Nat → UInt8
 | 0=>Q1 f k
 | r + 1=>HG c n (r + 1) (Bv c.Box k (r + 1)) (KH c k f n r)
def BD (c : GCipher) (k f : Nat → UInt8) (n : Nat) : Nat → UInt8:=KH c k f n n
theorem HP (c : GCipher) (h : YS c = true) (k f : Nat → UInt8) (n : Nat) (hn : n ≤ 1000) : Y8 c (vf 16 k) (vf 16 f) (n : Int) = some (vf 16 (BD c k f n)):=by
 obtain ⟨m,hm,h1,h2⟩:=Kd h
 have e : c.Field.toNat = m:=by omega
 have hp:=TJ h
 unfold Y8
 have i0 : idx (Vq c.Box k n) (0 : Int) = some (vf 16 k):=Kc c.Box k (Nat.zero_le n)
 simp only [z5 c k n hn,Option.bind_some,i0,Q5]
 have:=Yl (f:=Xj c (n : Int) (Vq c.Box k n)) (fun i : Nat=>(vf 16 (KH c k f n (i - 1)),(i : Int))) 1 (n + 1) (by omega) (t:=vf 16 (BD c k f n)) (fun i hi1 hi=>by
  unfold Xj
  obtain ⟨r,rfl⟩ : ∃ q,i = q + 1:=⟨i - 1,by omega⟩
  have e1 : decide (((r + 1 : Nat) : Int) ≤ (n : Int)) = true:=by simp only [decide_eq_true_eq]; omega
  have Yr:=yE m h2 h1 (Jr c.Mix) (QI c.Places (Hy c.Box (KH c k f n r)))
  rw [← JL] at Yr
  simp only [Nat.add_sub_cancel,e1,if_true,AU,Option.bind_some,yk c.Places hp,hm,Yr,Kc c.Box k (show r + 1 ≤ n by omega),WQ (show r + 1 < 9223372036854775807 by omega)]
  by_cases hr : r + 1 < n
  ·have e2 : decide (((r + 1 : Nat) : Int) < (n : Int)) = true:=by simp only [decide_eq_true_eq]; omega
   simp only [e2,if_true,Option.bind_some,Q5,KH,HG,hr,e]
  ·have e2 : decide (((r + 1 : Nat) : Int) < (n : Int)) = false:=by simp only [decide_eq_false_iff_not]; omega
   simp only [e2,Bool.false_eq_true,if_false,Option.bind_some,Q5,KH,HG,hr]) (by
  unfold Xj
  have e1 : decide (((n + 1 : Nat) : Int) ≤ (n : Int)) = false:=by simp only [decide_eq_false_iff_not]; omega
  simp only [e1,Bool.false_eq_true,if_false,Nat.add_sub_cancel,BD])
 have h3 : ZF (Xj c (n : Int) (Vq c.Box k n)) (vf 16 (Q1 f k),1) = _:=this
 rw [h3]; rfl
theorem A4 (e : Ref Gengine) (s : Blk × Int) (f : Nat → UInt8) (hs : s.1 = vf 16 f) : ZF (Yt e s) (vf 16 f,0) = some (vf 16 (Hy e.v.box f)):=by
 have:=Wf (Yt e s) f (Hy e.v.box f) (by omega) 0 (by omega) (fun j hj=>by omega) (fun i _ hi a _ ha=>by
  unfold Yt
  simp only [hs,Ko hi,if_true,ZS _ hi,Option.bind_some,Int.toNat_natCast,T2,Hy]) (fun v=>by unfold Yt; simp)
 exact this
theorem J4 (c : GCipher) (h : YS c = true) (k f : Nat → UInt8) (n : Nat) (hn : n ≤ 1000) : YO ⟨Xr c⟩ (Vq c.Box k n) (vf 16 f) = some (vf 16 (BD c k f n)):=by
 have hp:=TJ h
 unfold YO
 have i0 : idx (Vq c.Box k n) (0 : Int) = some (vf 16 k):=Kc c.Box k (Nat.zero_le n)
 simp only [Option.bind_some,i0,Uu]
 have:=Yl (f:=Ys ⟨Xr c⟩ (Vq c.Box k n)) (fun i : Nat=>(vf 16 (KH c k f n (i - 1)),(i : Int))) 1 (n + 1) (by omega) (t:=vf 16 (BD c k f n)) (fun i hi1 hi=>by
  unfold Ys
  obtain ⟨r,rfl⟩ : ∃ q,i = q + 1:=⟨i - 1,by omega⟩
  have e1 : decide (((r + 1 : Nat) : Int) < ((Vq c.Box k n).length : Int)) = true:=by rw [Ql]; simp only [decide_eq_true_eq]; omega
  have e3 : wr (((Vq c.Box k n).length : Int) - 1) = (n : Int):=by rw [Ql,Yd (by omega)]; omega
  have hb:=A4 ⟨Xr c⟩ (vf 16 (KH c k f n r),((r + 1 : Nat) : Int)) (KH c k f n r) rfl
  have hmv:=v_move c.Places hp (Hy c.Box (KH c k f n r))
  have Yr:=v_mix c.Field.toNat (Jr c.Mix) (QI c.Places (Hy c.Box (KH c k f n r)))
  have hsl : ∀ g : Nat → UInt8,slc (vf 16 g).toList (0 : Int) (16 : Int) = some (vf 16 g).toList:=fun g=>by
   have:=KK (l:=(vf 16 g).toList) (i:=0) (j:=16) (by omega) (by simp)
   simp only [List.drop_zero] at this
   rw [List.take_of_length_le (by simp)] at this
   exact this
  have q1 : (Xr c).box = c.Box:=rfl
  have q2 : (Xr c).places = c.Places:=rfl
  have q3 : (Xr c).mixer = ⟨Jq c.Field.toNat (Jr c.Mix)⟩:=rfl
  simp only [q1] at hb
  simp only [Nat.add_sub_cancel,e1,if_true,hb,Option.bind_some,q2,q3,hmv,e3,hsl,Yr,Kc c.Box k (show r + 1 ≤ n by omega),WQ (show r + 1 < 9223372036854775807 by omega)]
  by_cases hr : r + 1 < n
  ·have e2 : decide (((r + 1 : Nat) : Int) < (n : Int)) = true:=by simp only [decide_eq_true_eq]; omega
   simp only [e2,if_true,Option.bind_some,Uu,KH,HG,hr]
  ·have e2 : decide (((r + 1 : Nat) : Int) < (n : Int)) = false:=by simp only [decide_eq_false_iff_not]; omega
   simp only [e2,Bool.false_eq_true,if_false,Option.bind_some,Uu,KH,HG,hr]) (by
  unfold Ys
  have e1 : decide (((n + 1 : Nat) : Int) < ((Vq c.Box k n).length : Int)) = false:=by rw [Ql]; simp only [decide_eq_false_iff_not]; omega
  simp only [e1,Bool.false_eq_true,if_false,Nat.add_sub_cancel,BD])
 have h3 : ZF (Ys ⟨Xr c⟩ (Vq c.Box k n)) (vf 16 (Q1 f k),1) = _:=this
 rw [h3]; rfl
theorem Q3 (c : GCipher) (h : YS c = true) (k f : Nat → UInt8) : Yz ⟨Xr c⟩ (vf 16 k) (vf 16 f) = some (vf 16 (BD c k f c.Rounds.toNat)):=by
 have hr:=QF h
 obtain ⟨n,hn⟩ : ∃ n : Nat,c.Rounds = n:=⟨c.Rounds.toNat,by omega⟩
 have e1 : (Xr c).rounds = (n : Int):=hn
 have e2 : (Xr c).box = c.Box:=rfl
 have hk:=v_keys ⟨Xr c⟩ k n (by omega)
 rw [e2] at hk
 unfold Yz
 simp only [e1,hk,Option.bind_some,J4 c h k f n (by omega),hn,Int.toNat_natCast]
theorem Kq (c : GCipher) (h : YS c = true) (k f : Nat → UInt8) : Y8 c (vf 16 k) (vf 16 f) c.Rounds = some (vf 16 (BD c k f c.Rounds.toNat)):=by
 have hr:=QF h
 obtain ⟨n,hn⟩ : ∃ n : Nat,c.Rounds = n:=⟨c.Rounds.toNat,by omega⟩
 rw [hn]
 exact HP c h k f n (by omega)
theorem zZ (x : Nat) : UInt8.ofNat (x % 256) = UInt8.ofNat x:=by
 apply UInt8.toNat_inj.1; simp
def tab (n : Nat) (f : Nat → UInt8) : List UInt8:=(List.range n).map f
@[simp] theorem tab_len (n : Nat) (f : Nat → UInt8) : (tab n f).length = n:=by simp [tab]
theorem y7 {α : Type} (by_ : Nat) (z : α) (n : Nat) (h : n * by_ ≤ 140737488355328) (hby : 0 < by_) :
  ((if (decide ((n : Int) < 0)) = true then (none) else (some ()) : Option (Unit)).bind fun (_ : Unit)=>(if (decide ((wr ((n : Int) - (wr (0 - 0)))) > 0)) = true then ((mkS by_ z (wr ((n : Int) - (wr (0 - 0))))).bind fun (l14 : List α)=>(slc l14 (0 : Int) (0 : Int)).bind fun (l16 : List α)=>some l16) else (some ([])) : Option (List α)).bind fun (j6 : List α)=>some j6) = some []:=by
 have hn : n ≤ 140737488355328:=Nat.le_trans (Nat.le_mul_of_pos_right _ hby) h
 have e0 : wr (0 - 0) = 0:=by decide
 have e1 : wr ((n : Int) - (wr (0 - 0))) = (n : Int):=by rw [e0,Yd (by omega)]; omega
 have e2 : ¬ ((n : Int) < 0):=by omega
 rw [e1]
 simp only [e2,decide_false,Bool.false_eq_true,if_false,Option.bind_some]
 by_cases h3 : (n : Int) > 0
 ·have hm : mkS by_ z (n : Int) = some (List.replicate n z):=by
   have h4 : ((n * by_ : Nat) : Int) ≤ 140737488355328:=by omega
   rw [Int.natCast_mul] at h4
   unfold mkS
   rw [if_pos ⟨by omega,h4⟩,Int.toNat_natCast]
  have hs : slc (List.replicate n z) (0 : Int) (0 : Int) = some []:=by
   have:=KK (l:=List.replicate n z) (i:=0) (j:=0) (Nat.le_refl _) (Nat.zero_le _)
   simpa using this
  simp [h3,hm,hs]
 ·have h4 : decide ((n : Int) > 0) = false:=by simp only [decide_eq_false_iff_not]; exact h3
  simp only [h4,Bool.false_eq_true,if_false,Option.bind_some]
theorem B0 {α : Type} (by_ : Nat) (p0 : List (List α)) (L0 : Int × Int → Option (Fl (Int × Int) Int)) (L1 : Int × List α → Option (Fl (Int × List α) (List α)))
  (h0 : ∀ s,L0 s = if (decide (s.1 < (p0.length : Int))) = true then (((idx p0 s.1).bind fun (x : List α)=>(if (decide ((wr (s.2 + (x.length : Int))) < 0)) = true then (none) else (some ()) : Option (Unit)).bind fun (_ : Unit)=>some (wr (s.2 + (x.length : Int))) : Option (Int)).bind fun (j : Int)=>some (Fl.nx (wr (s.1 + 1),j))) else (some (Fl.ex s.2)))
  (h1 : ∀ s,L1 s = if (decide (s.1 < (p0.length : Int))) = true then ((idx p0 s.1).bind fun (x : List α)=>(app by_ s.2 x).bind fun (_ : List α)=>some (Fl.nx (wr (s.1 + 1),(s.2 ++ x)))) else (some (Fl.ex s.2)))
  (hl : p0.flatten.length * by_ ≤ 140737488355328) (hby : 0 < by_) (hn : p0.length < 9223372036854775807) :
  ZF L0 (0,0) = some (p0.flatten.length : Int) ∧ ZF L1 (0,[]) = some p0.flatten:=by
 have hlen : p0.flatten.length ≤ 140737488355328:=Nat.le_trans (Nat.le_mul_of_pos_right _ hby) hl
 have hstep : ∀ i (hi : i < p0.length),(p0.take (i + 1)).flatten = (p0.take i).flatten ++ p0[i]:=fun i hi=>by
  rw [List.take_succ_eq_append_getElem hi,List.flatten_append]; simp
 have hle : ∀ i,(p0.take i).flatten.length ≤ p0.flatten.length:=fun i=>by
  have : p0.flatten = (p0.take i).flatten ++ (p0.drop i).flatten:=by rw [← List.flatten_append,List.take_append_drop]
  rw [this,List.length_append]; omega
 constructor
 ·have:=Yl (f:=L0) (fun i : Nat=>((i : Int),((p0.take i).flatten.length : Int))) 0 p0.length (Nat.zero_le _) (t:=(p0.flatten.length : Int)) (fun i _ hi=>by
   have hs:=congrArg List.length (hstep i hi)
   rw [List.length_append] at hs
   have h3:=hle (i + 1)
   have e1 : wr (((p0.take i).flatten.length : Int) + (p0[i].length : Int)) = ((p0.take (i + 1)).flatten.length : Int):=by rw [Yd (by omega)]; omega
   have e2 : ¬ (((p0.take (i + 1)).flatten.length : Int) < 0):=by omega
   rw [h0]
   simp only [Int.ofNat_lt,hi,decide_true,if_true,YN,List.getElem?_eq_getElem hi,Option.bind_some,e1,e2,decide_false,Bool.false_eq_true,if_false,WQ (show i < 9223372036854775807 by omega)]) (by
   rw [h0]; simp)
  exact this
 ·have:=Yl (f:=L1) (fun i : Nat=>((i : Int),(p0.take i).flatten)) 0 p0.length (Nat.zero_le _) (t:=p0.flatten) (fun i _ hi=>by
   have hs:=congrArg List.length (hstep i hi)
   rw [List.length_append] at hs
   have h3:=hle (i + 1)
   have hap : app by_ (p0.take i).flatten p0[i] = some ((p0.take i).flatten ++ p0[i]):=XD (by
    have : ((p0.take i).flatten.length + p0[i].length) * by_ ≤ p0.flatten.length * by_:=Nat.mul_le_mul_right _ (by omega)
    omega)
   rw [h1]
   simp only [Int.ofNat_lt,hi,decide_true,if_true,YN,List.getElem?_eq_getElem hi,Option.bind_some,hap,WQ (show i < 9223372036854775807 by omega),hstep i hi]) (by
   rw [h1]; simp)
  exact this
def QU (k : Nat) (b : UInt8) : UInt8:=shlB b (k : Int) ||| JU b ((8 - k : Nat) : Int)
theorem v_rot1 (b : UInt8) : Yj b 1 = some (QU 1 b):=by
 have e1 : wru (BitVec.ofInt 64 (IntKind.u64.wrap 1) &&& BitVec.ofInt 64 7).toNat = 1:=by decide +kernel
 have e2 : IntKind.u64.wrap (8 - 1) = 7:=by decide +kernel
 have e3 : XE 1 = some ():=rfl
 have e4 : XE 7 = some ():=rfl
 unfold Yj
 simp only [e1,e2,e3,e4,Option.bind_some]
 rfl
theorem v_rot4 (b : UInt8) : Yj b 4 = some (QU 4 b):=by
 have e1 : wru (BitVec.ofInt 64 (IntKind.u64.wrap 4) &&& BitVec.ofInt 64 7).toNat = 4:=by decide +kernel
 have e2 : IntKind.u64.wrap (8 - 4) = 4:=by decide +kernel
 have e3 : XE 4 = some ():=rfl
 unfold Yj
 simp only [e1,e2,e3,Option.bind_some]
 rfl
def JW (k : Nat) (b : UInt8) : UInt8:=Zz (JB (orI (HM (bI b) (k : Int)) (Uy (HM (bI b) (k : Int)) 8)) 255)
theorem Ha {p : UInt8 → Bool} (h : ((List.range 256).all fun n=>p (UInt8.ofNat n)) = true) (b : UInt8) : p b = true:=by
 have:=List.all_eq_true.1 h b.toNat (by simpa using UInt8.toNat_lt b)
 simpa using this
theorem turn0 (b : UInt8) : JW 0 b = b:=by
 have:=Ha (p:=fun b=>JW 0 b == b) (by decide +kernel) b
 simpa using this
theorem turn1 (b : UInt8) : JW 1 b = QU 1 b:=by
 have:=Ha (p:=fun b=>JW 1 b == QU 1 b) (by decide +kernel) b
 simpa using this
theorem turn4 (b : UInt8) : JW 4 b = QU 4 b:=by
 have:=Ha (p:=fun b=>JW 4 b == QU 4 b) (by decide +kernel) b
 simpa using this
theorem AX (b : UInt8) (k : Nat) (h : k < 64) : XI b (k : Int) = some (JW k b):=by
 have e1 : IntKind.u64.wrap (k : Int) = (k : Int):=BO k (by omega)
 unfold XI
 rw [e1]
 have e2 : XE (k : Int) = some ():=by unfold XE; rw [if_pos (by omega)]
 rw [e2]; rfl
def JS (x : UInt8) : UInt8:=((Tr 285 x ^^^ QU 1 (Tr 285 x)) ^^^ QU 4 (Tr 285 x)) ^^^ 90
def UU (n : Int) : GCipher:=⟨285,vf 256 fun x=>JS (UInt8.ofNat x),mf fun i j=>Tr 285 (UInt8.ofNat (i ^^^ (4 + j))),vf 16 fun i=>UInt8.ofNat ((13 * i + 4) % 16),n⟩
theorem BM {i : Nat} (h : i < 256) : decide ((i : Int) < 256) = true:=by simp; omega
theorem JJ (L : Vector UInt8 256 × Int → Option (Fl (Vector UInt8 256 × Int) (Vector UInt8 256))) (h : Nat → UInt8) (hL : ∀ i : Nat,i < 256 → ∀ a : Nat → UInt8,L (vf 256 a,(i : Int)) = some (.nx ((vf 256 a).setIfInBounds i (h i),wr ((i : Int) + 1))))
  (he : ∀ v,L (v,256) = some (.ex v)) : ZF L (Vector.replicate 256 0,0) = some (vf 256 h):=by
 rw [Us]
 exact Wf L (fun _=>0) h (by omega) 0 (by omega) (fun j hj=>by omega) (fun i _ hi a _ _=>hL i hi a) he
theorem Ah (E : UInt8 → Option UInt8) (hE : ∀ a,E a = some (Tr 285 a)) (L1 : Mat × Int → Mat × Int → Option (Fl (Mat × Int) Mat)) (L0 : Mat × Int → Option (Fl (Mat × Int) Mat))
  (h1 : ∀ s t,L1 s t = if (decide (t.2 < 4)) = true then ((E (Zz (KY s.2 (wr (4 + t.2))))).bind fun r=>(ZI t.1 s.2).bind fun x=>(ZI x t.2).bind fun _=>some (Fl.nx ((t.1.setIfInBounds (s.2).toNat (x.setIfInBounds (t.2).toNat r)),wr (t.2 + 1)))) else (some (Fl.ex t.1)))
  (h0 : ∀ s,L0 s = if (decide (s.2 < 4)) = true then ((ZF (L1 s) (s.1,0) : Option Mat).bind fun j=>some (Fl.nx (j,wr (s.2 + 1)))) else (some (Fl.ex s.1))) :
  ZF L0 (Vector.replicate 4 (Vector.replicate 4 (0 : UInt8)),0) = some (mf fun i j=>Tr 285 (UInt8.ofNat (i ^^^ (4 + j)))):=by
 have inner : ∀ (i : Nat) (hi : i < 4) (g : MF),ZF (L1 (mf g,(i : Int))) (mf g,0) = some (mf fun r c=>if r = i then Tr 285 (UInt8.ofNat (i ^^^ (4 + c))) else g r c):=by
  intro i hi g
  have:=Yl (f:=L1 (mf g,(i : Int))) (fun j : Nat=>(mf fun r c=>if r = i ∧ c < j then Tr 285 (UInt8.ofNat (i ^^^ (4 + c))) else g r c,(j : Int))) 0 4 (by omega) (t:=mf fun r c=>if r = i then Tr 285 (UInt8.ofNat (i ^^^ (4 + c))) else g r c) (fun j _ hj=>by
   have e1 : wr (4 + (j : Int)) = ((4 + j : Nat) : Int):=by rw [Yd (by omega)]; omega
   rw [h1]
   simp only [lt4 hj,if_true,e1,Qr i (4 + j) (by omega) (by omega),Vk,hE,Option.bind_some,V6 _ hi,ZS _ hj,Int.toNat_natCast,UH,QM,wr4 (show j < 1000 by omega)]
   refine congrArg (fun z=>some (Fl.nx (z,((j + 1 : Nat) : Int)))) (Wu fun r _ c _=>?_)
   by_cases hr : r = i
   ·subst hr
    by_cases hc : c = j
    ·subst hc; simp
    ·by_cases hc2 : c < j
     ·simp [hc,hc2,show c < j + 1 by omega]
     ·simp [hc,hc2,show ¬ c < j + 1 by omega]
   ·simp [hr]) (by
   rw [h1]
   simp only [show decide (((4 : Nat) : Int) < 4) = false from rfl,Bool.false_eq_true,if_false]
   refine congrArg (fun z=>some (Fl.ex z)) (Wu fun r _ c hc=>?_)
   by_cases hr : r = i <;> simp [hr,hc])
  have e0 : (mf fun r c=>if r = i ∧ c < 0 then Tr 285 (UInt8.ofNat (i ^^^ (4 + c))) else g r c) = mf g:=Wu fun r _ c _=>by simp
  simp only [e0] at this
  exact this
 have:=Yl (f:=L0) (fun i : Nat=>(mf fun r c=>if r < i then Tr 285 (UInt8.ofNat (r ^^^ (4 + c))) else 0,(i : Int))) 0 4 (by omega) (t:=mf fun i j=>Tr 285 (UInt8.ofNat (i ^^^ (4 + j)))) (fun i _ hi=>by
  rw [h0]
  simp only [lt4 hi,if_true,inner i hi,Option.bind_some,wr4 (show i < 1000 by omega)]
  refine congrArg (fun z=>some (Fl.nx (z,((i + 1 : Nat) : Int)))) (Wu fun r _ c _=>?_)
  by_cases hr : r = i
  ·subst hr; simp
  ·by_cases hc2 : r < i
   ·simp [hr,hc2,show r < i + 1 by omega]
   ·simp [hr,hc2,show ¬ r < i + 1 by omega]) (by
  rw [h0]
  simp only [show decide (((4 : Nat) : Int) < 4) = false from rfl,Bool.false_eq_true,if_false]
  exact congrArg (fun z=>some (Fl.ex z)) (Wu fun r hr c hc=>by simp [hr]))
 have e0 : (mf fun r c=>if r < 0 then Tr 285 (UInt8.ofNat (r ^^^ (4 + c))) else 0) = mf fun _ _=>0:=Wu fun r _ c _=>by simp
 simp only [e0] at this
 rw [BQ]
 exact this
theorem J0 (L : Blk × Int → Option (Fl (Blk × Int) Blk))
  (hL : ∀ s,L s = if (decide (s.2 < 16)) = true then ((ZI s.1 s.2).bind fun _=>some (Fl.nx ((s.1.setIfInBounds (s.2).toNat (Zz (Int.tmod (wr ((wr (13 * s.2)) + 4)) 16))),wr (s.2 + 1)))) else (some (Fl.ex s.1))) :
  ZF L (Vector.replicate 16 0,0) = some (vf 16 fun i=>UInt8.ofNat ((13 * i + 4) % 16)):=by
 rw [Us]
 exact Wf L (fun _=>0) (fun i=>UInt8.ofNat ((13 * i + 4) % 16)) (by omega) 0 (by omega) (fun j hj=>by omega) (fun i _ hi a _ _=>by
  have e1 : wr (13 * (i : Int)) = 13 * (i : Int):=Yd (by omega)
  have e2 : wr (13 * (i : Int) + 4) = ((13 * i + 4 : Nat) : Int):=by rw [Yd (by omega)]; omega
  have e3 : Int.tmod ((13 * i + 4 : Nat) : Int) 16 = (((13 * i + 4) % 16 : Nat) : Int):=by rw [Int.tmod_eq_emod_of_nonneg (by omega)]; omega
  rw [hL]
  simp only [Ko hi,if_true,ZS _ hi,Option.bind_some,e1,e2,e3,Vk,Int.toNat_natCast]) (fun v=>by rw [hL]; simp)
theorem HO (n : Int) : Wr n = some (UU n):=by
 have hinv : ∀ a,Yo 285 a = some (Tr 285 a):=fun a=>T8 285 (by omega) a
 have h1:=JJ X1 (fun x=>JS (UInt8.ofNat x)) (fun i hi a=>by
  unfold X1
  simp only [BM hi,if_true,Vk,hinv,v_rot1,v_rot4,Option.bind_some,ZS _ hi,Int.toNat_natCast]
  rfl) (fun v=>by unfold X1; simp)
 have h2:=Ah (Yo 285) hinv WY WV (fun s t=>by unfold WY; rfl) (fun s=>by unfold WV; rfl)
 have h3:=J0 WW (fun s=>by unfold WW; rfl)
 unfold Wr UU
 simp only [h1,h2,h3,Option.bind_some]
theorem jm (L : UInt8 × UInt8 × Int → Option (Fl (UInt8 × UInt8 × Int) UInt8)) (T : UInt8 → UInt8 → Option UInt8) (hT : ∀ a b,T a b = some (Z5 285 a b))
  (hL : ∀ s,L s = if (decide (s.2.2 > 0)) = true then (((if ((Int.tmod s.2.2 2) == 1) = true then ((T s.1 s.2.1).bind fun r=>some r) else (some s.1) : Option UInt8).bind fun j24=>(T s.2.1 s.2.1).bind fun r32=>some (j24,r32) : Option (UInt8 × UInt8)).bind fun j21=>some (Fl.nx (j21.1,j21.2,wr (Int.tdiv s.2.2 2)))) else (some (Fl.ex s.1))) :
  ∀ (f k : Nat) (a o : UInt8),k < 2 ^ f → f ≤ 62 → ZF L (o,a,(k : Int)) = some (Jy 285 f a k o):=by
 intro f
 induction f with
 | zero =>
  intro k a o hk _
  have : k = 0:=by simpa using hk
  subst this
  exact Ym (by rw [hL]; simp [Jy])
 | succ f ih =>
  intro k a o hk hf
  by_cases h0 : k = 0
  ·subst h0
   exact Ym (by rw [hL]; simp [Jy])
  ·have hlt : k < 9223372036854775808:=Nat.lt_of_lt_of_le hk (Nat.pow_le_pow_right (by omega : 0 < 2) (by omega : f + 1 ≤ 63))
   have hst : L (o,a,(k : Int)) = some (.nx (if k % 2 = 1 then Z5 285 o a else o,Z5 285 a a,((k / 2 : Nat) : Int))):=by
    rw [hL]
    have c1 : (k : Int) > 0:=by omega
    have e3 : ((((k % 2 : Nat) : Int)) == 1) = decide (k % 2 = 1):=by
     rw [Bool.eq_iff_iff,beq_iff_eq,decide_eq_true_eq]; omega
    simp only [c1,decide_true,if_true,yw,yP,hT,e3,Option.bind_some,Aa (k / 2) (by omega)]
    by_cases c2 : k % 2 = 1 <;> simp [c2]
   rw [Yp hst,ih (k / 2) _ _ (by rw [Nat.pow_succ] at hk; omega) (by omega)]
   conv=>rhs; unfold Jy
   rw [if_neg h0]
theorem zn : Vx 285 254 = some (vf 256 fun x=>Tr 285 (UInt8.ofNat x)):=by
 have hp:=jm (Vc 285) (YQ 285) (QJ 285 (by omega) (by omega)) (fun s=>by unfold Vc; rfl)
 have hp2 : ∀ a,ZF (Vc 285) (1,a,254) = some (Tr 285 a):=fun a=>hp 8 254 a 1 (by omega) (by omega)
 have h1:=JJ (W9 285 254) (fun x=>Tr 285 (UInt8.ofNat x)) (fun i hi a=>by
  unfold W9
  simp only [BM hi,if_true,Vk,hp2,Option.bind_some,ZS _ hi,Int.toNat_natCast]) (fun v=>by unfold W9; simp)
 unfold Vx
 simp only [h1,Option.bind_some]
def rots (x : UInt8) : UInt8:=((90 ^^^ x) ^^^ QU 1 x) ^^^ QU 4 x
theorem J8 : X3 ([0,1,4] : List Int) 90 = some (vf 256 fun x=>rots (UInt8.ofNat x)):=by
 have t0 : ∀ b,XI b 0 = some b:=fun b=>by have:=AX b 0 (by omega); rw [turn0] at this; exact this
 have t1 : ∀ b,XI b 1 = some (QU 1 b):=fun b=>by have:=AX b 1 (by omega); rw [turn1] at this; exact this
 have t4 : ∀ b,XI b 4 = some (QU 4 b):=fun b=>by have:=AX b 4 (by omega); rw [turn4] at this; exact this
 have w1 : wr 1 = 1:=by decide
 have w2 : wr 2 = 2:=by decide
 have w3 : wr 3 = 3:=by decide
 have hin : ∀ (s : Vector UInt8 256 × Int),ZF (Ye [0,1,4] s) (90,0) = some (rots (Zz s.2)):=by
  intro s
  rw [Yp (f:=Ye [0,1,4] s) (s:=(90,0)) (s':=(90 ^^^ Zz s.2,1)) (by unfold Ye; simp [t0,w1,idx])]
  rw [Yp (f:=Ye [0,1,4] s) (s':=((90 ^^^ Zz s.2) ^^^ QU 1 (Zz s.2),2)) (by unfold Ye; simp [t1,w2,idx])]
  rw [Yp (f:=Ye [0,1,4] s) (s':=(((90 ^^^ Zz s.2) ^^^ QU 1 (Zz s.2)) ^^^ QU 4 (Zz s.2),3)) (by unfold Ye; simp [t4,w3,idx])]
  exact Ym (by unfold Ye; simp; rfl)
 have h1:=JJ (XF [0,1,4] 90) (fun x=>rots (UInt8.ofNat x)) (fun i hi a=>by
  unfold XF
  simp only [BM hi,if_true,hin,Vk,Option.bind_some,ZS _ hi,Int.toNat_natCast]) (fun v=>by unfold XF; simp)
 unfold X3
 simp only [h1,Option.bind_some]
theorem z6 (f g : Nat → UInt8) : VU (vf 256 f) (vf 256 g) = some (vf 256 fun x=>g (f x).toNat):=by
 have hv : ∀ x : UInt8,ZI (vf 256 g) (bI x) = some (g x.toNat):=fun x=>ZS g (UInt8.toNat_lt x)
 have h1:=JJ (VE (vf 256 f) (vf 256 g)) (fun x=>g (f x).toNat) (fun i hi a=>by
  unfold VE
  simp only [BM hi,if_true,Option.bind_some,ZS _ hi,hv,Int.toNat_natCast]) (fun v=>by unfold VE; simp)
 unfold VU
 simp only [h1,Option.bind_some]
theorem zk (x : UInt8) : rots (UInt8.ofNat (Tr 285 x).toNat) = JS x:=by
 rw [UInt8.ofNat_toNat]
 unfold rots JS
 ac_rfl
theorem A7 (n : Int) : Vy n = some (UU n):=by
 have hinv : ∀ a,WT 285 a = some (Tr 285 a):=fun a=>js 285 (by omega) (by omega) a
 have h2:=Ah (WT 285) hinv V7 Ua (fun s t=>by unfold V7; rfl) (fun s=>by unfold Ua; rfl)
 have h3:=J0 V8 (fun s=>by unfold V8; rfl)
 unfold Vy UU
 simp only [zn,J8,z6,zk,h2,h3,Option.bind_some]

theorem BS {α : Type} (n : Nat) (f : Nat → α) : (vf n f).toList = (List.range n).map f:=by
 apply List.ext_getElem
 ·simp
 ·intro i h1 h2
  simp at h1
  rw [Vector.getElem_toList,TX f h1]; simp
theorem zU : jd ((List.range 256).map fun x=>JS (UInt8.ofNat x)) = true:=by decide +kernel
theorem AL : Te (vf 16 fun i=>UInt8.ofNat ((13 * i + 4) % 16)) = true:=by
 unfold Te
 rw [BS]
 decide +kernel
theorem Ai : Kf 285 = true:=by decide +kernel
theorem yf : (detC 285 (mf fun i j=>Tr 285 (UInt8.ofNat (i ^^^ (4 + j)))) != 0) = true:=by decide +kernel
theorem AR (n : Int) (h : 1 ≤ n ∧ n ≤ 20) : YS (UU n) = true:=by
 unfold YS UU
 simp only [BS,zU,AL,Ai,Bool.true_and,h,decide_true,Bool.and_true,and_self]
 exact yf
theorem Kn (p0 : List (List UInt8)) (hl : p0.flatten.length ≤ 140737488355328) (hn : p0.length < 9223372036854775807) : Ya p0 = some p0.flatten:=by
 obtain ⟨a1,a2⟩:=B0 1 p0 (Xe p0) (Xf p0) (fun s=>by unfold Xe; rfl) (fun s=>by unfold Xf; rfl) (by omega) (by omega) hn
 have hg : YF (p0.flatten.length : Int) = some []:=by
  unfold YF
  exact y7 1 _ _ (by omega) (by omega)
 unfold Ya
 simp only [a1,a2,hg,Option.bind_some]
theorem AF (l : List UInt8) (h : l.length ≤ 140737488355328) : Y1 l = some l:=by
 unfold Y1
 rw [XD (by simp; omega)]; rfl
theorem z3 (l : List UInt8) (h : l.length ≤ 140737488355328) : V3 l = some l:=by
 unfold V3
 rw [XD (by simp; omega)]; rfl
theorem Hi {l : List UInt8} {n : Nat} (h : n ≤ l.length) : Tt n l = some (vf n fun j=>l.getD j 0):=by
 unfold Tt
 rw [dif_pos h]
 refine congrArg some (Kj fun i hi=>?_)
 rw [TX _ hi,List.getD_eq_getElem?_getD,List.getElem?_eq_getElem (by omega)]
 simp
theorem Au {l : List UInt8} {i j : Nat} (h : i ≤ j) (h2 : j ≤ l.length) : ∃ r,slc l (i : Int) (j : Int) = some r ∧ r.length = j - i ∧ ∀ k,k < j - i → r.getD k 0 = l.getD (i + k) 0:=by
 refine ⟨_,KK h h2,by simp; omega,fun k hk=>?_⟩
 rw [List.getD_eq_getElem?_getD,List.getD_eq_getElem?_getD,List.getElem?_drop,List.getElem?_take,if_pos (by omega)]

def beL (n : Int) : Nat → List UInt8
 | 0=>[]
 | k + 1=>Zz (Uy n ((8 * k : Nat) : Int)) :: beL n k
theorem BH (n : Int) : ∀ k,(beL n k).length = k
 | 0=>rfl
 | k + 1=>by rw [beL,List.length_cons,BH n k]
theorem zG (n : Int) (L : List UInt8 × Int → Option (Fl (List UInt8 × Int) (List UInt8))) (K : Nat)
  (hL : ∀ (k : Nat) (acc : List UInt8),k < K → acc.length ≤ 100000000 → L (acc,(k : Int)) = some (.nx (acc ++ [Zz (Uy n ((8 * k : Nat) : Int))],(k : Int) - 1))) (he : ∀ acc,L (acc,-1) = some (.ex acc)) :
  ∀ (k : Nat) (acc : List UInt8),k ≤ K → acc.length + k ≤ 100000000 → ZF L (acc,(k : Int) - 1) = some (acc ++ beL n k):=by
 intro k
 induction k with
 | zero=>intro acc _ _; rw [show ((0 : Nat) : Int) - 1 = -1 from rfl,Ym (he acc)]; simp [beL]
 | succ k ih =>
  intro acc hk hl
  have e : ((k + 1 : Nat) : Int) - 1 = (k : Int):=by omega
  rw [e,Yp (hL k acc (by omega) (by omega)),ih _ (by omega) (by simp; omega)]
  simp [beL]
theorem B4 (n : Int) (m : Nat) (hm : m ≤ 100) : Wd n (m : Int) = some (beL n m):=by
 have h:=zG n (WP n) 100 (fun k acc hk hl=>by
  unfold WP
  have e1 : wr (8 * (k : Int)) = ((8 * k : Nat) : Int):=by rw [Yd (by omega)]; omega
  have e2 : XE ((8 * k : Nat) : Int) = some ():=by unfold XE; rw [if_pos (by omega)]
  have e3 : wr ((k : Int) - 1) = (k : Int) - 1:=Yd (by omega)
  have e4 : decide ((k : Int) ≥ 0) = true:=by simp
  simp only [e1,e2,e3,e4,if_true,Option.bind_some]
  rw [XD (by simp; omega)]; rfl) (fun acc=>by unfold WP; simp) m [] hm (by simp; omega)
 have e : wr ((m : Int) - 1) = (m : Int) - 1:=Yd (by omega)
 unfold Wd
 rw [e,h]; rfl
theorem and255 (x : Int) : Zz (JB x 255) = Zz x:=by
 have h1 : (BitVec.ofInt 64 255) = (255 : BitVec 64):=rfl
 have h2 : (BitVec.ofInt 64 x &&& BitVec.ofInt 64 255).toNat = (x % 256).toNat:=by
  rw [BitVec.toNat_and,h1,show (255 : BitVec 64).toNat = 2 ^ 8 - 1 from rfl,Nat.and_two_pow_sub_one_eq_mod,BitVec.toNat_ofInt]
  omega
 unfold JB Zz
 rw [h2,Yd (by omega)]
 congr 1
 omega
def W6 (n : Nat) : Nat:=(24 - n % 16) % 16
def Qn (d : List UInt8) : List UInt8:=((d ++ [128]) ++ List.replicate (W6 (d.length + 1)) 0) ++ beL (d.length : Int) 8
theorem Ax (d : List UInt8) : ∃ n,(Qn d).length = 16 * n ∧ n ≤ d.length + 2:=by
 have : (Qn d).length = d.length + 1 + W6 (d.length + 1) + 8:=by simp [Qn,BH]; omega
 refine ⟨(d.length + 1 + W6 (d.length + 1) + 8) / 16,?_,?_⟩
 ·rw [this]; unfold W6; omega
 ·unfold W6; omega
theorem B9 (L : List UInt8 → Option (Fl (List UInt8) (List UInt8))) (hL : ∀ s,L s = if ((Int.tmod (s.length : Int) 16) != 8) = true then ((app 1 s ([0] : List UInt8)).bind fun (_ : List UInt8)=>some (Fl.nx (s ++ ([0] : List UInt8)))) else (some (Fl.ex s)))
  (l : List UInt8) (hl : l.length ≤ 100000000) : ZF L l = some (l ++ List.replicate (W6 l.length) 0):=by
 have ht : ∀ n : Nat,Int.tmod (n : Int) 16 = ((n % 16 : Nat) : Int):=fun n=>by rw [Int.tmod_eq_emod_of_nonneg (by omega)]; omega
 have:=Yl (f:=L) (fun i : Nat=>l ++ List.replicate i 0) 0 (W6 l.length) (Nat.zero_le _) (t:=l ++ List.replicate (W6 l.length) 0) (fun i _ hi=>by
  rw [hL,ht]
  have hz : W6 l.length < 16:=by unfold W6; omega
  have e : ((((l ++ List.replicate i 0).length % 16 : Nat) : Int) != 8) = true:=by
   simp only [List.length_append,List.length_replicate,bne_iff_ne,ne_eq]
   unfold W6 at hi; omega
  rw [e,if_pos rfl,XD (by simp; omega)]
  simp [List.replicate_succ']) (by
  rw [hL,ht]
  have e : ((((l ++ List.replicate (W6 l.length) 0).length % 16 : Nat) : Int) != 8) = false:=by
   simp only [List.length_append,List.length_replicate,bne_eq_false_iff_eq]
   unfold W6; omega
  rw [e]; rfl)
 simpa using this
theorem By (d : List UInt8) (h : d.length ≤ 10000000) : WI d = some (Qn d):=by
 have h1:=B9 Vl (fun s=>by unfold Vl; rfl) (d ++ [128]) (by simp; omega)
 have h2:=B4 (d.length : Int) 8 (by omega)
 have h3 : Wd (d.length : Int) 8 = some (beL (d.length : Int) 8):=h2
 have hz : W6 (d.length + 1) < 16:=by unfold W6; omega
 have e : (d ++ [128]).length = d.length + 1:=by simp
 rw [e] at h1
 unfold WI Qn
 rw [AF d (by omega),Option.bind_some,XD (by simp; omega),Option.bind_some,h1,Option.bind_some,h3,Option.bind_some,XD (by simp [BH]; omega)]
 rfl
theorem yT (d : List UInt8) (h : d.length ≤ 10000000) : Uh d = some (Qn d):=by
 have h1:=B9 UD (fun s=>by unfold UD; rfl) (d ++ [128]) (by simp; omega)
 have hz : W6 (d.length + 1) < 16:=by unfold W6; omega
 have e : (d ++ [128]).length = d.length + 1:=by simp
 rw [e] at h1
 have h2:=zG (d.length : Int) (W3 d) 100 (fun k acc hk hl=>by
  unfold W3
  have e1 : wr (8 * (k : Int)) = ((8 * k : Nat) : Int):=by rw [Yd (by omega)]; omega
  have e5 : IntKind.u64.wrap ((8 * k : Nat) : Int) = ((8 * k : Nat) : Int):=BO _ (by omega)
  have e2 : XE ((8 * k : Nat) : Int) = some ():=by unfold XE; rw [if_pos (by omega)]
  have e3 : wr ((k : Int) - 1) = (k : Int) - 1:=Yd (by omega)
  have e4 : decide ((k : Int) ≥ 0) = true:=by simp
  simp only [e1,e5,e2,e3,e4,if_true,Option.bind_some,and255]
  rw [XD (by simp; omega)]; rfl) (fun acc=>by unfold W3; simp) 8 ((d ++ [128]) ++ List.replicate (W6 (d.length + 1)) 0) (by omega) (by simp; omega)
 have h3 : ZF (W3 d) ((d ++ [128]) ++ List.replicate (W6 (d.length + 1)) 0,7) = some (((d ++ [128]) ++ List.replicate (W6 (d.length + 1)) 0) ++ beL (d.length : Int) 8):=h2
 unfold Uh Qn
 rw [z3 d (by omega),Option.bind_some,XD (by simp; omega),Option.bind_some,h1,Option.bind_some,h3]
 rfl

def zH (l : List UInt8) (i : Nat) : Blk:=vf 16 fun j=>l.getD (16 * i + j) 0
def XQ (l : List UInt8) (n : Nat) : List Blk:=(List.range n).map (zH l)
theorem TG (l : List UInt8) (n : Nat) : (XQ l n).length = n:=by simp [XQ]
theorem Q7 (l : List UInt8) (n : Nat) : XQ l (n + 1) = XQ l n ++ [zH l n]:=by simp [XQ,List.range_succ]
theorem zf (l : List UInt8) (n : Nat) (hl : l.length = 16 * n) (hn : n ≤ 100000000) : Vs l = some (XQ l n):=by
 have:=Yl (f:=Wg l) (fun i : Nat=>(XQ l i,((16 * i : Nat) : Int))) 0 n (Nat.zero_le _) (t:=XQ l n) (fun i _ hi=>by
  unfold Wg
  have e1 : wr (((16 * i : Nat) : Int) + 16) = ((16 * (i + 1) : Nat) : Int):=by rw [Yd (by omega)]; omega
  have e2 : decide (((16 * i : Nat) : Int) < (l.length : Int)) = true:=by simp; omega
  obtain ⟨r,r1,r2,r3⟩:=Au (l:=l) (i:=16 * i) (j:=16 * (i + 1)) (by omega) (by omega)
  have e3 : Tt 16 r = some (zH l i):=by
   rw [Hi (by omega)]
   exact congrArg some (Y6 fun j hj=>r3 j (by omega))
  simp only [e1,e2,if_true,r1,e3,Option.bind_some]
  rw [XD (by rw [TG]; simp; omega),Q7]; rfl) (by
  unfold Wg
  have e2 : decide (((16 * n : Nat) : Int) < (l.length : Int)) = false:=by simp; omega
  simp only [e2,Bool.false_eq_true,if_false])
 have h2 : ZF (Wg l) ([],0) = _:=this
 unfold Vs
 rw [h2]; rfl
theorem AA (l : List UInt8) (n : Nat) (hl : l.length = 16 * n) (hn : n ≤ 100000000) : W4 l = some (XQ l n):=by
 have:=Yl (f:=XU l) (fun i : Nat=>(XQ l i,((16 * i : Nat) : Int))) 0 n (Nat.zero_le _) (t:=XQ l n) (fun i _ hi=>by
  unfold XU
  have e1 : wr (((16 * i : Nat) : Int) + 16) = ((16 * (i + 1) : Nat) : Int):=by rw [Yd (by omega)]; omega
  have e2 : decide (((16 * (i + 1) : Nat) : Int) ≤ (l.length : Int)) = true:=by simp; omega
  have h3:=Wf (XO l (XQ l i,((16 * i : Nat) : Int))) (fun _=>0) (fun j=>l.getD (16 * i + j) 0) (by omega) 0 (by omega) (fun j hj=>by omega) (fun j _ hj a _ _=>by
   unfold XO
   have e4 : wr (((16 * i : Nat) : Int) + (j : Int)) = ((16 * i + j : Nat) : Int):=by rw [Yd (by omega)]; omega
   have e5 : 16 * i + j < l.length:=by omega
   simp only [Ko hj,if_true,e4,YN,List.getElem?_eq_getElem e5,ZS _ hj,Option.bind_some,Int.toNat_natCast,List.getD_eq_getElem?_getD,Option.getD_some]) (fun v=>by unfold XO; simp)
  have h4 : ZF (XO l (XQ l i,((16 * i : Nat) : Int))) (Vector.replicate 16 0,0) = some (zH l i):=by rw [Us]; exact h3
  simp only [e1,e2,if_true,h4,Option.bind_some]
  rw [XD (by rw [TG]; simp; omega),Q7]; rfl) (by
  unfold XU
  have e1 : wr (((16 * n : Nat) : Int) + 16) = ((16 * (n + 1) : Nat) : Int):=by rw [Yd (by omega)]; omega
  have e2 : decide (((16 * (n + 1) : Nat) : Int) ≤ (l.length : Int)) = false:=by simp; omega
  simp only [e1,e2,Bool.false_eq_true,if_false])
 have h2 : ZF (XU l) ([],0) = _:=this
 unfold W4
 rw [h2]; rfl

abbrev Dig:=Vector UInt8 32
def df (v : Dig) (i : Nat) : UInt8:=v[i]?.getD default
theorem vf_df (v : Dig) : v = vf 32 (df v):=zE v
def TU : Dig:=vf 32 fun i=>UInt8.ofNat (17 * i)
theorem lt32 {i : Nat} (h : i < 32) : decide ((i : Int) < 32) = true:=by simp; omega
theorem jy : XL = some TU:=by
 have h:=Wf Y0 (fun _=>0) (fun i=>UInt8.ofNat (17 * i)) (by omega) 0 (by omega) (fun j hj=>by omega) (fun i _ hi a _ _=>by
  unfold Y0
  have e1 : wr (17 * (i : Int)) = ((17 * i : Nat) : Int):=by rw [Yd (by omega)]; omega
  simp only [lt32 hi,if_true,ZS _ hi,Option.bind_some,e1,Vk,Int.toNat_natCast]) (fun v=>by unfold Y0; simp)
 have h2 : ZF Y0 (Vector.replicate 32 0,0) = some TU:=by rw [Us]; exact h
 unfold XL
 rw [h2]; rfl
theorem A0 : Vw = some TU:=by
 have h:=Wf X7 (fun _=>0) (fun i=>UInt8.ofNat (17 * i)) (by omega) 0 (by omega) (fun j hj=>by omega) (fun i _ hi a _ _=>by
  unfold X7
  have e1 : wr (17 * (i : Int)) = ((17 * i : Nat) : Int):=by rw [Yd (by omega)]; omega
  have e2 : Int.tmod ((17 * i : Nat) : Int) 256 = ((17 * i % 256 : Nat) : Int):=by rw [Int.tmod_eq_emod_of_nonneg (by omega)]; omega
  simp only [lt32 hi,if_true,ZS _ hi,Option.bind_some,e1,e2,Vk,zZ,Int.toNat_natCast]) (fun v=>by unfold X7; simp)
 have h2 : ZF X7 (Vector.replicate 32 0,0) = some TU:=by rw [Us]; exact h
 unfold Vw
 rw [h2]; rfl
def hiF (s : Nat → UInt8) : Nat → UInt8:=fun i=>s (16 + i)
def Bm (f g : Nat → UInt8) : Nat → UInt8:=fun i=>if i < 16 then f i else g (i - 16)
def zJ (c : GCipher) (k a : Nat → UInt8) : Nat → UInt8:=Q1 (BD c k a c.Rounds.toNat) a
def absC (c : GCipher) (s m : Nat → UInt8) : Nat → UInt8 :=
 Bm (zJ c (hiF s) (Q1 s m)) (zJ c (zJ c (hiF s) (Q1 s m)) (Q1 (hiF s) m))
theorem Af (s : Nat → UInt8) : W2 (vf 32 s) = some (vf 16 s,vf 16 (hiF s)):=by
 have:=Yl (f:=XT (vf 32 s)) (fun i : Nat=>(vf 16 (fun j=>if j < i then hiF s j else 0),vf 16 (fun j=>if j < i then s j else 0),(i : Int))) 0 16 (by omega) (t:=(vf 16 (hiF s),vf 16 s)) (fun i _ hi=>by
  unfold XT
  have e1 : wr (16 + (i : Int)) = ((16 + i : Nat) : Int):=by rw [Yd (by omega)]; omega
  simp only [Ko hi,if_true,e1,ZS _ (show i < 32 by omega),ZS _ (show 16 + i < 32 by omega),ZS _ hi,Option.bind_some,Int.toNat_natCast,UH,WQ (show i < 9223372036854775807 by omega)]
  have e : ∀ f : Nat → UInt8,(vf 16 fun j=>if j = i then f i else if j < i then f j else 0) = vf 16 fun j=>if j < i + 1 then f j else 0:=fun f=>Y6 fun j _=>by
   by_cases h1 : j = i
   ·subst h1; simp
   ·by_cases h2 : j < i
    ·rw [if_neg h1,if_pos h2,if_pos (by omega)]
    ·rw [if_neg h1,if_neg h2,if_neg (by omega)]
  have ea:=e (hiF s)
  have eb:=e s
  rw [eb]
  have ea' : (vf 16 fun j=>if j = i then s (16 + i) else if j < i then hiF s j else 0) = vf 16 fun j=>if j < i + 1 then hiF s j else 0:=ea
  rw [ea']) (by
  unfold XT
  simp only [show decide (((16 : Nat) : Int) < 16) = false from rfl,Bool.false_eq_true,if_false]
  refine congrArg (fun z=>some (Fl.ex z)) (congr (congrArg Prod.mk (Y6 fun j hj=>by rw [if_pos hj])) (Y6 fun j hj=>by rw [if_pos hj])))
 have h2 : ZF (XT (vf 32 s)) (vf 16 (fun _=>0),vf 16 (fun _=>0),0) = some (vf 16 (hiF s),vf 16 s):=by
  have e0 : ∀ f : Nat → UInt8,(vf 16 fun j=>if j < 0 then f j else 0) = vf 16 fun _=>0:=fun f=>Y6 fun j _=>by simp
  simp only [e0] at this
  exact this
 unfold W2
 rw [Us,h2]; rfl
theorem AI (c : GCipher) (h : YS c = true) (s m : Nat → UInt8) : X5 c (vf 32 s) (vf 16 m) = some (vf 32 (absC c s m)):=by
 have hj : ∀ f g : Nat → UInt8,ZF (XV (vf 16 f) (vf 16 g)) (Vector.replicate 32 0,0) = some (vf 32 (Bm f g)):=by
  intro f g
  have:=Yl (f:=XV (vf 16 f) (vf 16 g)) (fun i : Nat=>(vf 32 (fun j=>if j < i then f j else if 16 ≤ j ∧ j < 16 + i then g (j - 16) else 0),(i : Int))) 0 16 (by omega) (t:=vf 32 (Bm f g)) (fun i _ hi=>by
   unfold XV
   have e1 : wr (16 + (i : Int)) = ((16 + i : Nat) : Int):=by rw [Yd (by omega)]; omega
   simp only [Ko hi,if_true,e1,ZS _ (show i < 32 by omega),ZS _ (show 16 + i < 32 by omega),ZS _ hi,Option.bind_some,Int.toNat_natCast,UH,WQ (show i < 9223372036854775807 by omega)]
   refine congrArg (fun z=>some (Fl.nx (z,((i + 1 : Nat) : Int)))) (Y6 fun j hj=>?_)
   by_cases h1 : j = 16 + i
   ·subst h1
    rw [if_pos rfl,if_neg (by omega),if_pos (by omega)]
    congr 1; omega
   ·rw [if_neg h1]
    by_cases h2 : j = i
    ·subst h2; rw [if_pos rfl,if_pos (by omega)]
    ·rw [if_neg h2]
     by_cases h3 : j < i
     ·rw [if_pos h3,if_pos (by omega)]
     ·rw [if_neg h3,if_neg (show ¬ j < i + 1 by omega)]
      by_cases h4 : 16 ≤ j ∧ j < 16 + i
      ·rw [if_pos h4,if_pos (by omega)]
      ·rw [if_neg h4,if_neg (by omega)]) (by
   unfold XV
   simp only [show decide (((16 : Nat) : Int) < 16) = false from rfl,Bool.false_eq_true,if_false]
   refine congrArg (fun z=>some (Fl.ex z)) (Y6 fun j hj=>?_)
   unfold Bm
   by_cases h3 : j < 16
   ·rw [if_pos h3,if_pos h3]
   ·rw [if_neg h3,if_neg h3,if_pos (by omega)])
  have e0 : (vf 32 fun j=>if j < 0 then f j else if 16 ≤ j ∧ j < 16 + 0 then g (j - 16) else 0) = vf 32 fun _=>0:=Y6 fun j _=>by rw [if_neg (by omega),if_neg (by omega)]
  simp only [e0] at this
  rw [Us]
  exact this
 unfold X5
 simp only [Af,Option.bind_some,Q5,Kq c h,hj]
 rfl
theorem je (c : GCipher) (h : YS c = true) (s m : Nat → UInt8) : Xb ⟨Xr c⟩ (vf 32 s) (vf 16 m) = some (vf 32 (absC c s m)):=by
 have g1 : ∀ {n : Nat} (f : Nat → UInt8) (k : Nat),k < n → (vf n f).toList.getD k 0 = f k:=fun f k hk=>by
  rw [BS,List.getD_eq_getElem?_getD,List.getElem?_map,List.getElem?_range hk]; rfl
 have hl : ∀ {n : Nat} (f : Nat → UInt8),(vf n f).toList.length = n:=fun f=>by simp
 have cut : ∀ {n : Nat} (f : Nat → UInt8) (i j : Nat),i ≤ j → j ≤ n → ∃ r,slc (vf n f).toList (i : Int) (j : Int) = some r ∧ r.length = j - i ∧ Tt (j - i) r = some (vf (j - i) fun k=>f (i + k)) ∧ ∀ k,k < j - i → r.getD k 0 = f (i + k):=by
  intro n f i j hij hjn
  obtain ⟨r,r1,r2,r3⟩:=Au (l:=(vf n f).toList) (i:=i) (j:=j) hij (by rw [hl]; exact hjn)
  have r4 : ∀ k,k < j - i → r.getD k 0 = f (i + k):=fun k hk=>by rw [r3 k hk,g1 f (i + k) (by omega)]
  refine ⟨r,r1,r2,?_,r4⟩
  rw [Hi (by omega)]
  exact congrArg some (Y6 r4)
 obtain ⟨l,l1,l2,l3,l4⟩:=cut (n:=32) s 0 16 (by omega) (by omega)
 obtain ⟨l',l1',l2',l3',l4'⟩:=cut (n:=32) s 16 32 (by omega) (by omega)
 have a1 : slc (vf 32 s).toList (0 : Int) (16 : Int) = some l:=l1
 have a2 : slc (vf 32 s).toList (16 : Int) (32 : Int) = some l':=l1'
 have a3 : Tt 16 l = some (vf 16 s):=by
  have : Tt 16 l = some (vf 16 fun k=>s (0 + k)):=l3
  rw [this]; exact congrArg some (Y6 fun k _=>by rw [Nat.zero_add])
 have a4 : Tt 16 l' = some (vf 16 (hiF s)):=l3'
 have join : ∀ f g : Nat → UInt8,((slc (vf 16 f).toList (0 : Int) (16 : Int)).bind fun (l56 : (List UInt8))=>(slc (vf 16 g).toList (0 : Int) (16 : Int)).bind fun (l59 : (List UInt8))=>(Ya ([l56,l59] : (List (List UInt8)))).bind fun (r64 : (List UInt8))=>(Tt 32 r64).bind fun (x67 : (Vector UInt8 32))=>some x67 : Option ((Vector UInt8 32))) = some (vf 32 (Bm f g)):=by
  intro f g
  obtain ⟨p,p1,p2,_,p4⟩:=cut (n:=16) f 0 16 (by omega) (by omega)
  obtain ⟨q,q1,q2,_,q4⟩:=cut (n:=16) g 0 16 (by omega) (by omega)
  have b1 : slc (vf 16 f).toList (0 : Int) (16 : Int) = some p:=p1
  have b2 : slc (vf 16 g).toList (0 : Int) (16 : Int) = some q:=q1
  have b3 : Ya [p,q] = some (p ++ q):=by
   have:=Kn [p,q] (by simp; omega) (by simp)
   simpa using this
  rw [b1,Option.bind_some,b2,Option.bind_some,b3,Option.bind_some,Hi (by simp; omega),Option.bind_some]
  refine congrArg some (Y6 fun k hk=>?_)
  unfold Bm
  rw [List.getD_eq_getElem?_getD]
  by_cases h1 : k < 16
  ·rw [if_pos h1,List.getElem?_append_left (by omega),← List.getD_eq_getElem?_getD,p4 k (by omega),Nat.zero_add]
  ·rw [if_neg h1,List.getElem?_append_right (by omega),← List.getD_eq_getElem?_getD,q4 (k - p.length) (by omega),Nat.zero_add,show p.length = 16 from p2]
 have in1 : ∀ k a : Nat → UInt8,((Yz ⟨Xr c⟩ (vf 16 k) (vf 16 a)).bind fun (r34 : (Vector UInt8 16))=>(Yw r34 (vf 16 a)).bind fun (r36 : (Vector UInt8 16))=>some r36 : Option (Vector UInt8 16)) = some (vf 16 (zJ c k a)):=fun k a=>by
  rw [Q3 c h,Option.bind_some,Uu,Option.bind_some]; rfl
 unfold Xb
 rw [a1,Option.bind_some,a3,Option.bind_some,a2,Option.bind_some,a4,Option.bind_some,Uu,Option.bind_some,in1,Option.bind_some,Uu,Option.bind_some,in1,Option.bind_some,join,Option.bind_some]
 rfl

def absV (c : GCipher) (s : Dig) (m : Blk) : Dig:=vf 32 (absC c (df s) (bf m))
theorem zS (c : GCipher) (h : YS c = true) (s : Dig) (m : Blk) : Xb ⟨Xr c⟩ s m = some (absV c s m) ∧ X5 c s m = some (absV c s m):=by
 have h1:=je c h (df s) (bf m)
 have h2:=AI c h (df s) (bf m)
 rw [← vf_df,← vf_bf] at h1 h2
 exact ⟨h1,h2⟩
def za (c : GCipher) (d : List UInt8) : Dig:=(XQ (Qn d) ((Qn d).length / 16)).foldl (absV c) TU
theorem AJ (c : GCipher) (h : YS c = true) (ps : List (List UInt8)) (hl : ps.flatten.length ≤ 10000000) (hn : ps.length < 9223372036854775807) : YL ⟨Xr c⟩ ps = some (za c ps.flatten):=by
 obtain ⟨n,n1,n2⟩:=Ax ps.flatten
 have e : (Qn ps.flatten).length / 16 = n:=by omega
 have h1:=Be (f:=YZ ⟨Xr c⟩ (XQ (Qn ps.flatten) n)) (XQ (Qn ps.flatten) n) (fun (b : Dig) i=>(b,i)) (absV c) TU (t:=za c ps.flatten) (by rw [TG]; omega) (fun i hi=>by
  unfold YZ
  simp only [Int.ofNat_lt,hi,decide_true,if_true,YN,List.getElem?_eq_getElem hi,Option.bind_some,(zS c h _ _).1]) (by
  unfold YZ za
  rw [e]; simp)
 unfold YL
 rw [jy,Option.bind_some,Kn ps (by omega) hn,Option.bind_some,By _ hl,Option.bind_some,zf _ n n1 (by omega),Option.bind_some]
 have h2 : ZF (YZ ⟨Xr c⟩ (XQ (Qn ps.flatten) n)) (TU,0) = _:=h1
 rw [h2]; rfl
theorem jL (c : GCipher) (h : YS c = true) (d : List UInt8) (hl : d.length ≤ 10000000) : Uz c d = some (za c d):=by
 obtain ⟨n,n1,n2⟩:=Ax d
 have e : (Qn d).length / 16 = n:=by omega
 have h1:=Be (f:=VI c (XQ (Qn d) n)) (XQ (Qn d) n) (fun (b : Dig) i=>(b,i)) (absV c) TU (t:=za c d) (by rw [TG]; omega) (fun i hi=>by
  unfold VI
  simp only [Int.ofNat_lt,hi,decide_true,if_true,YN,List.getElem?_eq_getElem hi,Option.bind_some,(zS c h _ _).2]) (by
  unfold VI za
  rw [e]; simp)
 unfold Uz
 rw [yT _ hl,Option.bind_some,AA _ n n1 (by omega),Option.bind_some,A0,Option.bind_some]
 have h2 : ZF (VI c (XQ (Qn d) n)) (TU,0) = _:=h1
 rw [h2]; rfl
theorem AT : YS (UU 8) = true:=AR 8 (by omega)
theorem jF (n : Int) (h : 1 ≤ n ∧ n ≤ 20) : UA n = some ⟨Xr (UU n)⟩:=by
 unfold UA
 rw [HO,Option.bind_some,Aq _ (AR n h)]; rfl
theorem QY (d : Dig) : slc d.toList (0 : Int) (32 : Int) = some d.toList:=by
 have h1 : slc d.toList ((0 : Nat) : Int) ((32 : Nat) : Int) = _:=KK (Nat.zero_le _) (by simp)
 have h2 : slc d.toList (0 : Int) (32 : Int) = _:=h1
 rw [h2,List.drop_zero,List.take_of_length_le (by simp)]
theorem JK : ∀ (a b : List UInt8),Wz a b = 0 ↔ a = b
 | [],[]=>by simp [Wz]
 | [],_ :: _=>by simp [Wz]
 | _ :: _,[]=>by simp [Wz]
 | x :: a,y :: b=>by
  unfold Wz
  by_cases h1 : x < y
  ·have : x ≠ y:=fun e=>by subst e; exact absurd h1 (UInt8.lt_irrefl x)
   simp [h1,this]
  ·by_cases h2 : y < x
   ·have : x ≠ y:=fun e=>by subst e; exact absurd h2 (UInt8.lt_irrefl x)
    simp [h1,h2,this]
   ·have : x = y:=by
     apply UInt8.toNat_inj.1
     rw [UInt8.lt_iff_toNat_lt] at h1 h2
     omega
    subst this
    simp only [h1,if_false,JK a b]
    simp
theorem Bl : ∀ (a b c : List UInt8),Wz a b < 0 → Wz b c < 0 → Wz a c < 0
 | [],_,[],h1,h2=>by
  rename_i b
  cases b with
  | nil=>exact h2
  | cons y b=>simp [Wz] at h2
 | [],_,_ :: _,_,_=>by simp [Wz]
 | _ :: _,[],_,h1,_=>by simp [Wz] at h1
 | _ :: _,_ :: _,[],_,h2=>by simp [Wz] at h2
 | x :: a,y :: b,z :: c,h1,h2=>by
  unfold Wz at h1 h2 ⊢
  have ih:=Bl a b c
  simp only [UInt8.lt_iff_toNat_lt] at h1 h2 ⊢
  by_cases a1 : x.toNat < y.toNat
  ·by_cases b1 : y.toNat < z.toNat
   ·rw [if_pos (by omega)]; omega
   ·rw [if_neg b1] at h2
    by_cases b2 : z.toNat < y.toNat
    ·rw [if_pos b2] at h2; omega
    ·rw [if_pos (by omega)]; omega
  ·rw [if_neg a1] at h1
   by_cases a2 : y.toNat < x.toNat
   ·rw [if_pos a2] at h1; omega
   ·rw [if_neg a2] at h1
    by_cases b1 : y.toNat < z.toNat
    ·rw [if_pos (by omega)]; omega
    ·rw [if_neg b1] at h2
     by_cases b2 : z.toNat < y.toNat
     ·rw [if_pos b2] at h2; omega
     ·rw [if_neg b2] at h2
      rw [if_neg (by omega),if_neg (by omega)]
      exact ih h1 h2
def ltD (a b : Dig) : Bool:=decide (Wz a.toList b.toList < 0)
theorem Jb {a b c : Dig} (h1 : ltD a b = true) (h2 : ltD b c = true) : ltD a c = true:=by
 unfold ltD at *
 simp only [decide_eq_true_eq] at *
 exact Bl _ _ _ h1 h2
theorem Qu (a b : Dig) : ZT a b = some (Wz a.toList b.toList):=by
 unfold ZT Up
 simp only [QY,Option.bind_some]
theorem Bc (a b : Dig) : ∀ (k i : Nat),i + k = 32 → ZF (XY a b) (i : Int) = some (if Wz (a.toList.drop i) (b.toList.drop i) = 0 then .nx () else .ex (decide (Wz (a.toList.drop i) (b.toList.drop i) < 0)))
 | 0,i,h=>by
  have : i = 32:=by omega
  subst this
  have e1 : a.toList.drop 32 = []:=by simp
  have e2 : b.toList.drop 32 = []:=by simp
  rw [Ym (t:=.nx ()) (by unfold XY; simp),e1,e2]
  simp [Wz]
 | k + 1,i,h=>by
  have hi : i < 32:=by omega
  have e1 : a.toList.drop i = a[i] :: a.toList.drop (i + 1):=by rw [List.drop_eq_getElem_cons (by simp; omega)]; simp
  have e2 : b.toList.drop i = b[i] :: b.toList.drop (i + 1):=by rw [List.drop_eq_getElem_cons (by simp; omega)]; simp
  have ih:=Bc a b k (i + 1) (by omega)
  have hst : XY a b (i : Int) = some (if a[i] = b[i] then .nx ((i + 1 : Nat) : Int) else .ex (.ex (decide (a[i] < b[i])))):=by
   unfold XY
   simp only [lt32 hi,if_true,VG,Vector.getElem?_eq_getElem hi,Option.bind_some,WQ (show i < 9223372036854775807 by omega)]
   by_cases hab : a[i] = b[i]
   ·simp [hab]
   ·have : (a[i] != b[i]) = true:=by simpa using hab
    simp [hab,this]
  rw [e1,e2]
  unfold Wz
  by_cases hab : a[i] = b[i]
  ·rw [if_pos hab] at hst
   rw [Yp hst,ih]
   have n1 : ¬ (a[i] < b[i]):=by rw [hab]; exact UInt8.lt_irrefl _
   have n2 : ¬ (b[i] < a[i]):=by rw [hab]; exact UInt8.lt_irrefl _
   simp only [n1,n2,if_false]
  ·rw [if_neg hab] at hst
   rw [Ym hst]
   by_cases n1 : a[i] < b[i]
   ·simp [n1]
   ·have n2 : b[i] < a[i]:=by
     rw [UInt8.lt_iff_toNat_lt] at n1 ⊢
     have : a[i].toNat ≠ b[i].toNat:=fun e=>hab (UInt8.toNat_inj.1 e)
     omega
    simp [n1,n2]
theorem Qw (a b : Dig) : Y3 a b = some (ltD a b):=by
 have h:=Bc a b 32 0 (by omega)
 have h2 : ZF (XY a b) 0 = _:=h
 unfold Y3 ltD
 rw [h2,List.drop_zero,List.drop_zero,Option.bind_some]
 by_cases h0 : Wz a.toList b.toList = 0
 ·rw [if_pos h0]
  simp [Fl.el,h0]
 ·rw [if_neg h0]; rfl
def QX (l : List Dig) : Bool:=!((List.range' 1 (l.length - 1)).any fun i=>!ltD (l.getD (i - 1) default) (l.getD i default))
theorem AS (l : List Dig) (hl : l.length < 9223372036854775807) (E : Dig → Dig → Option Bool) (hE : ∀ a b,E a b = some (!ltD a b)) (L : Int → Option (Fl Int (Fl Unit Bool)))
  (hL : ∀ s,L s = if (decide (s < (l.length : Int))) = true then (((idx l (wr (s - 1))).bind fun x=>(idx l s).bind fun y=>E x y : Option Bool).bind fun j10=>if j10 = true then (some (Fl.ex (Fl.ex false))) else (some (Fl.nx (wr (s + 1))))) else (some (Fl.ex (Fl.nx ())))) :
  ((ZF L 1 : Option (Fl Unit Bool)).bind fun j1=>j1.el (fun _=>some true) (fun r=>some r)) = some (QX l):=by
 by_cases h0 : l.length = 0
 ·have : l = []:=List.eq_nil_of_length_eq_zero h0
  subst this
  rw [Ym (t:=.nx ()) (by rw [hL]; simp)]
  rfl
 have h:=ye (f:=L) l.length (fun i=>!ltD (l.getD (i - 1) default) (l.getD i default)) false hl 1 (by omega) (fun i hm hi=>by
  have e : wr ((i : Int) - 1) = ((i - 1 : Nat) : Int):=by rw [Yd (by omega)]; omega
  have e1 : i - 1 < l.length:=by omega
  rw [hL,e]
  simp only [Int.ofNat_lt,hi,decide_true,if_true,YN,List.getElem?_eq_getElem hi,List.getElem?_eq_getElem e1,Option.bind_some,hE,List.getD_eq_getElem?_getD,Option.getD_some]
  split <;> rfl) (by rw [hL]; simp)
 have h2 : ZF L 1 = _:=h
 rw [h2,Option.bind_some]
 unfold QX
 cases (List.range' 1 (l.length - 1)).any fun i=>!ltD (l.getD (i - 1) default) (l.getD i default) <;> rfl
theorem zX (l : List Dig) (hl : l.length < 9223372036854775807) : VY l = some (QX l):=by
 unfold VY
 exact AS l hl (fun a b=>(ZT a b).bind fun r=>some (decide (r ≥ 0))) (fun a b=>by
  rw [Qu]; unfold ltD
  simp only [Option.bind_some]
  congr 1
  by_cases h : Wz a.toList b.toList < 0
  ·have : ¬ (Wz a.toList b.toList ≥ 0):=by omega
   simp [h,this]
  ·have : Wz a.toList b.toList ≥ 0:=by omega
   simp [h,this]) _ (fun s=>by unfold U7; rfl)
theorem Hq (l : List Dig) (hl : l.length < 9223372036854775807) : X0 l = some (QX l):=by
 unfold X0
 exact AS l hl (fun a b=>(Y3 a b).bind fun r=>some (!r)) (fun a b=>by rw [Qw]; rfl) _ (fun s=>by unfold V4; rfl)
theorem Q0 {l : List Dig} (h : QX l = true) : l.Pairwise fun a b=>ltD a b = true:=by
 have h1 : ∀ i (hi : i + 1 < l.length),ltD l[i] l[i + 1] = true:=by
  intro i hi
  unfold QX at h
  simp only [Bool.not_eq_true',List.any_eq_false,List.mem_range'_1] at h
  have:=h (i + 1) (by omega)
  simpa [List.getD_eq_getElem?_getD,List.getElem?_eq_getElem hi,List.getElem?_eq_getElem (show i < l.length by omega)] using this
 rw [List.pairwise_iff_getElem]
 intro i j hi hj hij
 have key : ∀ (k : Nat) (hk : i + 1 + k < l.length),ltD l[i] l[i + 1 + k] = true:=by
  intro k
  induction k with
  | zero=>intro hk; exact h1 i hk
  | succ k ih=>intro hk; exact Jb (ih (by omega)) (h1 (i + 1 + k) hk)
 have:=key (j - (i + 1)) (by omega)
 have e : i + 1 + (j - (i + 1)) = j:=by omega
 simpa only [e] using this

def YB (l : List Dig) (d : Dig) : Nat:=l.countP fun k=>ltD k d
theorem Qe (l : List Dig) (d : Dig) : YB l d ≤ l.length:=List.countP_le_length
theorem Bz {l : List Dig} (h : l.Pairwise fun a b=>ltD a b = true) (d : Dig) : ∀ i (hi : i < l.length),ltD l[i] d = decide (i < YB l d):=by
 induction l with
 | nil=>intro i hi; simp at hi
 | cons k l ih =>
  have h2:=List.pairwise_cons.1 h
  intro i hi
  cases hk : ltD k d with
  | true =>
   have e : YB (k :: l) d = YB l d + 1:=by unfold YB; rw [List.countP_cons]; simp [hk]
   rw [e]
   cases i with
   | zero=>simpa using hk
   | succ i =>
    have hi' : i < l.length:=by simpa using hi
    rw [List.getElem_cons_succ,ih h2.2 i hi']
    rw [decide_eq_decide]; omega
  | false =>
   have hno : ∀ x ∈ l,ltD x d = false:=by
    intro x hx
    cases hxd : ltD x d with
    | false=>rfl
    | true=>rw [Jb (h2.1 x hx) hxd] at hk; cases hk
   have e : YB (k :: l) d = 0:=by
    unfold YB
    rw [List.countP_eq_zero]
    intro x hx
    rcases List.mem_cons.1 hx with rfl | hx
    ·simp [hk]
    ·simp [hno x hx]
   rw [e]
   cases i with
   | zero=>simpa using hk
   | succ i =>
    have hi' : i < l.length:=by simpa using hi
    rw [List.getElem_cons_succ,hno _ (List.getElem_mem hi')]; simp
theorem AY (l : List Dig) (d : Dig) (hl : l.length < 1000000) : Vp l d = some (YB l d : Int):=by
 have hc : ∀ i,YB (l.take i) d ≤ 1000000:=fun i=>by have:=Qe (l.take i) d; rw [List.length_take] at this; omega
 have:=Yl (f:=X9 l d) (fun i : Nat=>((YB (l.take i) d : Nat),(i : Int))) 0 l.length (Nat.zero_le _) (t:=((YB l d : Nat) : Int)) (fun i _ hi=>by
  have hci:=hc i
  unfold X9
  simp only [Int.ofNat_lt,hi,decide_true,if_true,YN,List.getElem?_eq_getElem hi,Option.bind_some,Qw,WQ (show i < 9223372036854775807 by omega)]
  have e : YB (l.take (i + 1)) d = YB (l.take i) d + (if ltD l[i] d then 1 else 0):=by
   unfold YB
   rw [List.take_succ_eq_append_getElem hi,List.countP_append]
   congr 1
   rw [List.countP_cons]; simp
  rw [e]
  cases ltD l[i] d with
  | true =>
   simp only [if_true,Option.bind_some]
   rw [WQ (by omega)]
  | false=>simp) (by unfold X9; simp)
 have h2 : ZF (X9 l d) (0,0) = _:=this
 unfold Vp
 rw [h2]; rfl
theorem AG (l : List Dig) (hp : l.Pairwise fun a b=>ltD a b = true) (d : Dig) (hl : l.length < 1000000) : ∀ (n lo hi : Nat),hi - lo ≤ n → lo ≤ YB l d → YB l d ≤ hi → hi ≤ l.length →
  ZF (Zx l d fun z0 z1=>ZT z0 z1) ((hi : Int),(lo : Int)) = some ((YB l d : Nat) : Int):=by
 intro n
 induction n with
 | zero =>
  intro lo hi h1 h2 h3 h4
  have : lo = YB l d:=by omega
  have hge : ¬ (YB l d < hi):=by omega
  refine Ym ?_
  unfold Zx
  simp [hge,this]
 | succ n ih =>
  intro lo hi h1 h2 h3 h4
  by_cases hlt : lo < hi
  ·have e1 : wr ((lo : Int) + (hi : Int)) = ((lo + hi : Nat) : Int):=by rw [Yd (by omega)]; omega
   have e2 : IntKind.u64.wrap ((lo + hi : Nat) : Int) = ((lo + hi : Nat) : Int):=BO _ (by omega)
   have e3 : Uy ((lo + hi : Nat) : Int) 1 = (((lo + hi) / 2 : Nat) : Int):=by
    have:=Ac (lo + hi) 1 (by omega)
    rw [Nat.shiftRight_eq_div_pow] at this
    exact this
   have e4 : IntKind.i64.wrap (((lo + hi) / 2 : Nat) : Int) = (((lo + hi) / 2 : Nat) : Int):=Aa _ (by omega)
   have hm : (lo + hi) / 2 < l.length:=by omega
   have hat:=Bz hp d _ hm
   unfold ltD at hat
   have hst : Zx l d (fun z0 z1=>ZT z0 z1) ((hi : Int),(lo : Int)) = some (.nx (if (lo + hi) / 2 < YB l d then ((hi : Int),(((lo + hi) / 2 + 1 : Nat) : Int)) else ((((lo + hi) / 2 : Nat) : Int),(lo : Int)))):=by
    unfold Zx
    have c1 : decide ((lo : Int) < (hi : Int)) = true:=by simp; omega
    simp only [c1,if_true,e1,e2,e3,e4,YN,List.getElem?_eq_getElem hm,Option.bind_some,Qu,hat]
    by_cases c : (lo + hi) / 2 < YB l d
    ·simp only [c,decide_true,if_true,Option.bind_some]
     rw [WQ (by omega)]
    ·simp [c]
   rw [Yp hst]
   by_cases c : (lo + hi) / 2 < YB l d
   ·rw [if_pos c]
    exact ih _ _ (by omega) (by omega) h3 h4
   ·rw [if_neg c]
    exact ih _ _ (by omega) h2 (by omega) (by omega)
  ·exact ih lo hi (by omega) h2 h3 h4
def UC (l : List Dig) (d : Dig) : Bool:=l[YB l d]? == some d
theorem yr (l : List Dig) (hp : l.Pairwise fun a b=>ltD a b = true) (d : Dig) (hl : l.length < 1000000) : ZG l d (fun z0 z1=>ZT z0 z1) = some ((YB l d : Int),UC l d):=by
 have h:=AG l hp d hl l.length 0 l.length (by omega) (Nat.zero_le _) (Qe l d) (Nat.le_refl _)
 have h2 : ZF (Zx l d fun z0 z1=>ZT z0 z1) ((l.length : Int),0) = _:=h
 unfold ZG UC
 rw [h2,Option.bind_some]
 by_cases c : YB l d < l.length
 ·simp only [Int.ofNat_lt,c,decide_true,if_true,YN,List.getElem?_eq_getElem c,Option.bind_some,Qu]
  refine congrArg (fun z=>some (((YB l d : Nat) : Int),z)) ?_
  rw [Bool.eq_iff_iff,beq_iff_eq,beq_iff_eq,JK]
  constructor
  ·intro h; rw [Vector.toList_inj.1 h]
  ·intro h; rw [Option.some.inj h]
 ·simp [c,List.getElem?_eq_none (show l.length ≤ YB l d by omega)]
def Hr (d : List UInt8) : Dig:=za (UU 8) d
theorem TE (d : List UInt8) (h : d.length ≤ 10000000) : Xx d = some (Hr d):=by
 unfold Xx
 rw [A7,Option.bind_some,jL _ AT d h]; rfl
theorem Z2 {α β : Type} {o : Option α} {f : α → Option β} {P : α → Prop} {Q : β → Prop} (h : ∃ r,o = some r ∧ P r) (k : ∀ r,P r → ∃ q,f r = some q ∧ Q q) : ∃ q,(o.bind f) = some q ∧ Q q:=by
 obtain ⟨r,e,hr⟩:=h
 rw [e,Option.bind_some]
 exact k r hr
theorem AM {α β : Type} {x : α} {f : α → Option β} {Q : β → Prop} (k : ∃ q,f x = some q ∧ Q q) : ∃ q,((some x).bind f) = some q ∧ Q q:=k
theorem Th {β : Type} {c : Prop} [Decidable c] {a b : Option β} {Q : β → Prop} (h1 : c → ∃ q,a = some q ∧ Q q) (h2 : ¬ c → ∃ q,b = some q ∧ Q q) : ∃ q,(if c then a else b) = some q ∧ Q q:=by
 by_cases h : c
 ·rw [if_pos h]; exact h1 h
 ·rw [if_neg h]; exact h2 h
theorem KA {σ ρ : Type} {f : σ → Option (Fl σ ρ)} (I : Nat → σ → Prop) {R : ρ → Prop} (n : Nat) (h : ∀ i s,i < n → I i s → ∃ q,f s = some q ∧ ∃ s',q = .nx s' ∧ I (i + 1) s') (he : ∀ s,I n s → ∃ q,f s = some q ∧ ∃ r,q = .ex r ∧ R r) :
  ∀ (k i : Nat) (s : σ),i + k = n → I i s → ∃ r,ZF f s = some r ∧ R r
 | 0,i,s,hk,hi=>by
  have : i = n:=by omega
  subst this
  obtain ⟨q,e,r,rfl,hr⟩:=he s hi
  exact ⟨r,Ym e,hr⟩
 | k + 1,i,s,hk,hi=>by
  obtain ⟨q,e,s',rfl,hs⟩:=h i s (by omega) hi
  rw [Yp e]
  exact KA I n h he k (i + 1) s' (by omega) hs
theorem Ad {α : Type} {n : Nat} (v : Vector α n) {i : Int} (h : 0 ≤ i ∧ i < n) : ∃ x,ZI v i = some x ∧ True:=by
 obtain ⟨k,rfl⟩:=Int.eq_ofNat_of_zero_le h.1
 exact ⟨v[k]'(by omega),by rw [VG,Vector.getElem?_eq_getElem (by omega)],trivial⟩
theorem BR {α : Type} (l : List α) {i : Int} (h : 0 ≤ i ∧ i < l.length) : ∃ x,idx l i = some x ∧ x ∈ l:=by
 obtain ⟨k,rfl⟩:=Int.eq_ofNat_of_zero_le h.1
 have hk : k < l.length:=by omega
 exact ⟨l[k],by rw [YN,List.getElem?_eq_getElem hk],List.getElem_mem hk⟩
def TR (s : Int × Int) : Prop:=0 ≤ s.1 ∧ s.1 ≤ 4096
section
variable {p : List UInt8} (hp : p.length ≤ 4096) {s : Int × Int} (hs : TR s)
theorem zc (a : BitVec 64) : ∃ m : Nat,m ≤ 16777215 ∧ IntKind.i64.wrap (wru (a &&& BitVec.ofInt 64 16777215).toNat) = (m : Int):=by
 have h : (a &&& BitVec.ofInt 64 16777215).toNat ≤ 16777215:=by
  rw [BitVec.toNat_and]
  exact Nat.le_trans Nat.and_le_right (by decide)
 refine ⟨_,h,?_⟩
 generalize (a &&& BitVec.ofInt 64 16777215).toNat = m at *
 have e : wru (m : Int) = (m : Int):=BO m (by omega)
 rw [e]
 exact Yd (by omega)
include hp hs
theorem VB {n : Int} (hn : 1 ≤ n) : ∃ r,Yb p s n = some r ∧ (TR r.1 ∧ 0 ≤ r.2 ∧ r.2 < n):=by
 unfold Yb
 obtain ⟨m,hm,em⟩:=zc (BitVec.ofInt 64 (Uy (IntKind.u64.wrap ((IntKind.u64.wrap (s.2 * 6364136223846793005)) + 1442695040888963407)) 33))
 rw [em]
 have hz : KE n = some ():=by unfold KE; rw [if_pos (by omega)]
 obtain ⟨h1,h2⟩:=hs
 rw [if_neg (by simp only [decide_eq_true_eq]; omega)]
 refine Z2 (P:=fun j=>(0 ≤ j.1 ∧ j.1 ≤ 4096) ∧ 0 ≤ j.2) (AM (Th (fun hc=>?_) (fun _=>⟨_,rfl,⟨h1,h2⟩,by omega⟩))) fun j hj=>?_
 ·have hc : s.1 < (p.length : Int):=of_decide_eq_true hc
  refine Z2 (P:=fun x=>0 ≤ x) (Z2 (BR p ⟨h1,hc⟩) fun x _=>⟨_,rfl,?_⟩) fun x hx=>⟨_,rfl,?_,hx⟩
  ·have hb:=x.toNat_lt
   show 0 ≤ wr ((m : Int) + (x.toNat : Int))
   rw [Yd (by omega)]; omega
  ·show 0 ≤ wr (s.1 + 1) ∧ wr (s.1 + 1) ≤ 4096
   rw [Yd (by omega)]; omega
 ·rw [hz]
  refine ⟨_,rfl,hj.1,?_,?_⟩
  ·exact Int.tmod_nonneg _ hj.2
  ·exact Int.tmod_lt_of_pos _ (by omega)
theorem yL {l : List Int} (hl : 1 ≤ l.length) : ∃ r,V1 p s l = some r ∧ (TR r.1 ∧ r.2 ∈ l):=by
 unfold V1
 exact Z2 (VB hp hs (by omega)) fun r hr=>Z2 (BR l hr.2) fun x hx=>⟨_,rfl,hr.1,hx⟩
end
theorem B2 {p : List UInt8} (hp : p.length ≤ 4096) : ∃ r,W5 p = some r ∧ TR r:=by
 unfold W5
 refine Z2 (P:=fun _=>True) (KA (fun i t=>t.2 = (i : Int)) p.length (fun i t hi ht=>?_) (fun t ht=>?_) p.length 0 _ (by omega) rfl) fun j _=>⟨_,rfl,by show (0 : Int) ≤ 0; omega,by show (0 : Int) ≤ 4096; omega⟩
 ·unfold Uo
  rw [if_pos (by simp only [decide_eq_true_eq]; omega)]
  have h1 : decide (t.2 < 4096) = true:=by simp only [decide_eq_true_eq]; omega
  rw [h1]
  exact AM (Th (fun _=>Z2 (BR p (by omega)) fun x _=>⟨_,rfl,_,rfl,by show wr (t.2 + 1) = _; rw [ht,Yd (by omega)]; omega⟩) fun h=>absurd rfl h)
 ·unfold Uo
  rw [if_neg (by simp only [decide_eq_true_eq]; omega)]
  exact ⟨_,rfl,_,rfl,trivial⟩

theorem zy {k : Int} (h : 0 ≤ k) (h' : k ≤ 100000) : wr (k - 1) = k - 1:=Yd (by omega)
theorem ja {k : Int} (h : 0 < k) : (decide (k > 0)) = true:=by simpa using h
theorem yA {k : Int} (h : ¬ 0 < k) : ¬ (decide (k > 0)) = true:=by simpa using h
theorem U8 {a b : Int} (h : a < b) : (decide (a < b)) = true:=by simpa using h
theorem J7 {a b : Int} (h : ¬ a < b) : ¬ (decide (a < b)) = true:=by simpa using h
theorem AB {a b c x : Int} {m : Nat} (h : x ∈ [a,b,c]) (ha : 0 ≤ a ∧ a ≤ m) (hb : 0 ≤ b ∧ b ≤ m) (hc : 0 ≤ c ∧ c ≤ m) : ∃ k : Nat,x = k ∧ k ≤ m:=by
 simp only [List.mem_cons,List.not_mem_nil,or_false] at h
 exact ⟨x.toNat,by rcases h with e | e | e <;> omega,by rcases h with e | e | e <;> omega⟩
theorem Tg {α β : Type} {o : Option α} {r : α} {f : α → Option β} {x : Option β} (h : o = some r) (k : f r = x) : o.bind f = x:=by rw [h]; exact k
theorem elf_nx {β γ : Type} {o : Option (Fl Unit β)} {f : Unit → Option γ} {g : β → Option γ} {x : Option γ} (h : o = some (.nx ())) (k : f () = x) : (o.bind fun j=>j.el f g) = x:=by rw [h]; exact k
theorem BY {β : Type} {o : Option Bool} {A B x : Option β} (h : o = some false) (k : B = x) : (o.bind fun j=>if j = true then A else B) = x:=by rw [h]; exact k
theorem Jd (n : Int) : VW n = YI n:=by
 unfold VW YI
 have : Tb n = Xq n:=by
  funext s
  unfold Tb Xq
  rw [Int.mul_comm s 2]
 rw [this]
theorem Bp {n : Int} {m Q : Nat} (hm : m ≤ 17) (hQ : Q = 2 ^ m) (hn : n ≤ (Q : Int)) : ∀ (f j q : Nat),q = 2 ^ j → j + f = m → (2 ≤ n → (q : Int) < n) →
  ∃ t p : Nat,p = 2 ^ t ∧ ZF (Xq n) (q : Int) = some (p : Int) ∧ n ≤ 2 * (p : Int) ∧ (2 ≤ n → (p : Int) < n) ∧ (n < 2 → p = q)
 | f,j,q,hq,hj,h2=>by
  have hp : 2 ^ j ≤ 2 ^ 17:=Nat.pow_le_pow_right (by omega) (by omega)
  have hp : q ≤ 131072:=by rw [hq]; exact hp
  have hw : wr (2 * (q : Int)) = 2 * (q : Int):=Yd (by omega)
  have hq1 : 1 ≤ q:=by rw [hq]; exact Nat.pow_pos (by omega)
  by_cases c : 2 * (q : Int) < n
  ·cases f with
   | zero =>
    have e : j = m:=by omega
    have : q = Q:=by rw [hq,hQ,e]
    omega
   | succ f =>
    have e : 2 * q = 2 ^ (j + 1):=by rw [Nat.pow_succ,hq,Nat.mul_comm]
    obtain ⟨t,p,ht⟩:=Bp hm hQ hn f (j + 1) (2 * q) e (by omega) (fun _=>by omega)
    refine ⟨t,p,ht.1,?_,ht.2.2.1,ht.2.2.2.1,fun h=>by omega⟩
    rw [Yp (s':=((2 * q : Nat) : Int))]
    ·exact ht.2.1
    ·unfold Xq
     rw [hw,if_pos (U8 c)]; rfl
  ·refine ⟨j,q,hq,Ym ?_,by omega,h2,fun _=>rfl⟩
   unfold Xq
   rw [hw,if_neg (J7 c)]
theorem AK {n : Int} {m Q : Nat} (hm : m ≤ 17) (hQ : Q = 2 ^ m) (hn : n ≤ (Q : Int)) : ∃ t p : Nat,p = 2 ^ t ∧ YI n = some (p : Int) ∧ n ≤ 2 * (p : Int) ∧ (2 ≤ n → (p : Int) < n) ∧ (n < 2 → p = 1):=by
 obtain ⟨t,p,h0,h1,h2⟩:=Bp hm hQ hn m 0 1 rfl (by omega) (fun h=>by omega)
 refine ⟨t,p,h0,?_,h2⟩
 unfold YI
 have h1 : ZF (Xq n) 1 = _:=h1
 rw [h1]; rfl
theorem Bn {n D : Nat} (h2 : 2 ≤ n) (h : n ≤ 2 ^ (D + 1)) (hD : D ≤ 10) : ∃ k : Nat,YI (n : Int) = some (k : Int) ∧ 1 ≤ k ∧ k < n ∧ k ≤ 2 ^ D ∧ n - k ≤ 2 ^ D:=by
 obtain ⟨t,p,h0,h1,h3,h4,_⟩:=AK (n:=(n : Int)) (m:=D + 1) (Q:=2 ^ (D + 1)) (by omega) rfl (by omega)
 have h4:=h4 (by omega)
 have hlt : p < 2 ^ (D + 1):=by omega
 have ht : t < D + 1:=(Nat.pow_lt_pow_iff_right (by omega)).1 (h0 ▸ hlt)
 have hle : p ≤ 2 ^ D:=by rw [h0]; exact Nat.pow_le_pow_right (by omega) (by omega)
 have h0' : 0 < p:=by rw [h0]; exact Nat.pow_pos (by omega)
 exact ⟨p,h1,by omega,by omega,hle,by omega⟩

abbrev hH : Ghasher:=⟨⟨Xr (UU 8)⟩⟩
def Ao (a b : Dig) : Dig:=Hr (([1] ++ a.toList) ++ b.toList)
theorem Ux (a b : Dig) : Wo a b = some (Ao a b):=by
 unfold Wo
 have e1 : app 1 ([1] : List UInt8) a.toList = _:=XD (by simp)
 have e2 : app 1 (([1] : List UInt8) ++ a.toList) b.toList = _:=XD (by simp)
 rw [QY,Option.bind_some,e1,Option.bind_some,QY,Option.bind_some,e2,Option.bind_some,TE _ (by simp)]
 rfl
theorem Qk (a b : Dig) : Y7 hH a b = some (Ao a b):=by
 unfold Y7
 have:=AJ (UU 8) AT [[1],a.toList,b.toList] (by simp) (by simp)
 rw [QY,Option.bind_some,QY,Option.bind_some,this]
 simp [Ao,Hr]
theorem Qi : XB = some hH:=by
 unfold XB
 rw [jF 8 (by omega)]; rfl
theorem jH : YL ⟨Xr (UU 8)⟩ ([] : List (List UInt8)) = some (Hr []):=AJ (UU 8) AT [] (by simp) (by simp)

theorem JI : ∀ (fu : Nat) (l : List Dig),Z9 fu hH l = Yc fu l
 | 0,_=>rfl
 | fu + 1,l=>by
  unfold Z9 Yc
  simp only [Jd,JI fu,Qk,Ux,jH,TE [] (by simp)]
theorem As : ∀ (fu : Nat) (l : List Dig) (i : Int),YE fu hH l i = Z4 fu l i
 | 0,_,_=>rfl
 | fu + 1,l,i=>by
  unfold YE Z4
  simp only [Jd,As fu,JI]
theorem Qh {l : List Dig} {k : Nat} (h : k ≤ l.length) : slc l (0 : Int) (k : Int) = some (l.take k):=by
 have : slc l ((0 : Nat) : Int) (k : Int) = _:=KK (Nat.zero_le _) h
 exact this
theorem Hp {l : List Dig} {k : Nat} (h : k ≤ l.length) : slc l (k : Int) (l.length : Int) = some (l.drop k):=by
 rw [KK h (Nat.le_refl _),List.take_length]
theorem Hd : ∀ (fu : Nat) (d : Dig) (i n : Int) (l : List Dig),n ≤ 1000 → l.length ≤ 100 → (l.length : Int) - 1000 ≤ n → (Yu fu hH d i n l = ZY fu d i n l) ∧ (l.length < fu → ∃ r,ZY fu d i n l = some r)
 | 0,_,_,_,_,_,_,_=>⟨rfl,fun h=>absurd h (by omega)⟩
 | fu + 1,d,i,n,l,hn,hn',hl=>by
  unfold Yu ZY
  by_cases c1 : (n == 1) = true
  ·rw [if_pos c1,if_pos c1]
   exact ⟨rfl,fun _=>⟨_,rfl⟩⟩
  rw [if_neg c1,if_neg c1]
  by_cases c2 : ((l.length : Int) == 0) = true
  ·rw [if_pos c2,if_pos c2]
   exact ⟨rfl,fun _=>⟨_,rfl⟩⟩
  rw [if_neg c2,if_neg c2]
  have c1 : ¬ n = 1:=by simpa using c1
  have c2 : 0 < l.length:=by
   have : ¬ l.length = 0:=by simpa using c2
   omega
  obtain ⟨t,p,h0,h1,h3,h4,h5⟩:=AK (n:=n) (m:=10) (Q:=1024) (by omega) rfl (by omega)
  have hp1 : 1 ≤ p:=by rw [h0]; exact Nat.pow_pos (by omega)
  have hp2 : (p : Int) = 1 ∨ (p : Int) < n:=by
   by_cases c : 2 ≤ n
   ·exact .inr (h4 c)
   ·left
    have:=h5 (by omega)
    omega
  have hw : wr ((l.length : Int) - 1) = ((l.length - 1 : Nat) : Int):=by rw [Yd (by omega)]; omega
  have hx : idx l ((l.length - 1 : Nat) : Int) = some l[l.length - 1]:=by rw [YN,List.getElem?_eq_getElem (by omega)]
  have ht : (l.take (l.length - 1)).length = l.length - 1:=by rw [List.length_take]; omega
  have hw2 : wr (n - (p : Int)) = n - (p : Int):=Yd (by omega)
  rw [Jd,h1,hw,hx,Qh (by omega)]
  simp only [Option.bind_some]
  by_cases c3 : decide (i < (p : Int)) = true
  ·rw [if_pos c3,if_pos c3]
   have ih:=Hd fu d i p (l.take (l.length - 1)) (by omega) (by omega) (by omega)
   rw [ih.1]
   simp only [Qk,Ux]
   refine ⟨by first | trivial | rfl,fun hf=>?_⟩
   obtain ⟨r,er⟩:=ih.2 (by omega)
   rw [er]; exact ⟨_,rfl⟩
  ·rw [if_neg c3,if_neg c3,hw2]
   have ih:=Hd fu d (wr (i - p)) (n - p) (l.take (l.length - 1)) (by omega) (by omega) (by omega)
   rw [ih.1]
   simp only [Qk,Ux]
   refine ⟨by first | trivial | rfl,fun hf=>?_⟩
   obtain ⟨r,er⟩:=ih.2 (by omega)
   rw [er]; exact ⟨_,rfl⟩

noncomputable def H3 (n : Nat) : Nat:=((YI (n : Int)).getD 0).toNat
noncomputable def WJ : Nat → List Dig → Dig
 | 0,l=>l.headD (Hr [])
 | D + 1,l=>if l.length ≤ 1 then l.headD (Hr []) else Ao (WJ D (l.take (H3 l.length))) (WJ D (l.drop (H3 l.length)))
theorem TY (fu : Nat) {l : List Dig} (h : l.length ≤ 1) : Yc (fu + 1) l = some (l.headD (Hr [])):=by
 unfold Yc
 match l,h with
 | [],_=>rw [if_pos (by simp),TE [] (by simp)]; simp only [Option.bind_some,List.headD_nil]
 | [x],_=>rw [if_neg (by simp),if_pos (by simp),ji]; rfl
theorem Qv : ∀ (D fu : Nat) (l : List Dig),D ≤ 10 → D < fu → l.length ≤ 2 ^ D → Yc fu l = some (WJ D l)
 | 0,fu + 1,l,_,_,h=>TY fu h
 | D + 1,fu + 1,l,hD,hf,h=>by
  by_cases c : l.length ≤ 1
  ·rw [TY fu c,WJ,if_pos c]
  ·obtain ⟨k,e,k1,k2,k3,k4⟩:=Bn (n:=l.length) (D:=D) (by omega) h (by omega)
   have ek : H3 l.length = k:=by unfold H3; rw [e]; rfl
   rw [WJ,if_neg c,ek]
   unfold Yc
   rw [if_neg (by rw [beq_iff_eq]; omega),if_neg (by rw [beq_iff_eq]; omega),e,Option.bind_some,Qh (by omega),Option.bind_some,Qv D fu _ (by omega) (by omega) (by rw [List.length_take]; omega),Option.bind_some,Hp (by omega),Option.bind_some,Qv D fu _ (by omega) (by omega) (by rw [List.length_drop]; omega),Option.bind_some,Ux]
   rfl

theorem yl (fu : Nat) {l : List Dig} (h : l.length = 1) (i : Int) : Z4 (fu + 1) l i = some []:=by
 unfold Z4
 rw [if_pos (by simp; omega)]
theorem zY (fu : Nat) (d : Dig) (i : Int) : ZY (fu + 1) d i 1 [] = some (d,true):=by
 unfold ZY
 rfl
theorem yU : ∀ (D : Nat) (l : List Dig) (i : Nat) (hi : i < l.length),D ≤ 10 → l.length ≤ 2 ^ D → ∃ pr : List Dig,(∀ fu,D < fu → Z4 fu l (i : Int) = some pr) ∧ pr.length ≤ D ∧ ∀ fu,D < fu → ZY fu l[i] (i : Int) (l.length : Int) pr = some (WJ D l,true):=by
 intro D
 have one : ∀ (D : Nat) (l : List Dig) (i : Nat) (hi : i < l.length),l.length = 1 → ∃ pr : List Dig,(∀ fu,D < fu → Z4 fu l (i : Int) = some pr) ∧ pr.length ≤ D ∧ ∀ fu,D < fu → ZY fu l[i] (i : Int) (l.length : Int) pr = some (WJ D l,true):=fun D l i hi h1=>by
  refine ⟨[],fun fu hf=>?_,Nat.zero_le _,fun fu hf=>?_⟩
  ·obtain ⟨f,rfl⟩ : ∃ f,fu = f + 1:=⟨fu - 1,by omega⟩
   exact yl f h1 _
  ·obtain ⟨f,rfl⟩ : ∃ f,fu = f + 1:=⟨fu - 1,by omega⟩
   match l,h1 with
   | [x],_ =>
    have : i = 0:=by simp at hi; omega
    subst this
    have e : WJ D [x] = x:=by cases D <;> simp [WJ]
    rw [e]
    exact zY f x _
 induction D with
 | zero=>intro l i hi _ h; exact one 0 l i hi (by simp at h; omega)
 | succ D ih =>
  intro l i hi hD h
  by_cases c : l.length = 1
  ·exact one (D + 1) l i hi c
  obtain ⟨k,e,k1,k2,k3,k4⟩:=Bn (n:=l.length) (D:=D) (by omega) h (by omega)
  have ek : H3 l.length = k:=by unfold H3; rw [e]; rfl
  have hlt : (l.take k).length = k:=by rw [List.length_take]; omega
  have hld : (l.drop k).length = l.length - k:=by rw [List.length_drop]
  have er : WJ (D + 1) l = Ao (WJ D (l.take k)) (WJ D (l.drop k)):=by rw [WJ,if_neg (by omega),ek]
  have hn1 : ¬ ((l.length : Int) == 1) = true:=by simp; omega
  have hl1 : ∀ (pr : List Dig) (x : Dig),idx (pr ++ [x]) ((pr.length : Int)) = some x:=fun pr x=>by rw [YN]; simp
  have hl2 : ∀ (pr : List Dig) (x : Dig),slc (pr ++ [x]) (0 : Int) (pr.length : Int) = some pr:=fun pr x=>by rw [Qh (by simp),List.take_left' rfl]
  have hl3 : ∀ (pr : List Dig) (x : Dig),pr.length ≤ 100 → wr (((pr ++ [x]).length : Int) - 1) = (pr.length : Int):=fun pr x hp=>by rw [List.length_append,List.length_singleton,Yd (by omega)]; omega
  have hl4 : ∀ (pr : List Dig) (x : Dig),¬ (((pr ++ [x]).length : Int) == 0) = true:=fun pr x=>by simp; omega
  by_cases ci : i < k
  ·obtain ⟨pr,p1,p2,p3⟩:=ih (l.take k) i (by omega) (by omega) (by omega)
   refine ⟨pr ++ [WJ D (l.drop k)],fun fu hf=>?_,by simp; omega,fun fu hf=>?_⟩
   ·obtain ⟨f,rfl⟩ : ∃ f,fu = f + 1:=⟨fu - 1,by omega⟩
    have ha : app 32 pr ([WJ D (l.drop k)] : List Dig) = _:=XD (by simp only [List.length_singleton]; omega)
    unfold Z4
    rw [if_neg hn1,e,Option.bind_some,if_pos (U8 (by omega)),Qh (by omega),Option.bind_some,p1 f (by omega),Option.bind_some,Hp (by omega),Option.bind_some,Qv D 64 _ (by omega) (by omega) (by omega),Option.bind_some,ha]
    rfl
   ·obtain ⟨f,rfl⟩ : ∃ f,fu = f + 1:=⟨fu - 1,by omega⟩
    unfold ZY
    have p4:=p3 f (by omega)
    simp only [hlt,List.getElem_take] at p4
    rw [if_neg hn1,if_neg (hl4 _ _),hl3 _ _ (by omega),hl1,Option.bind_some,hl2,Option.bind_some,e,Option.bind_some,if_pos (U8 (by omega)),p4,Option.bind_some,Ux,er]
    rfl
  ·have hi2 : i - k < (l.drop k).length:=by omega
   obtain ⟨pr,p1,p2,p3⟩:=ih (l.drop k) (i - k) hi2 (by omega) (by omega)
   have hpw : 2 ^ (D + 1) ≤ 2 ^ 11:=Nat.pow_le_pow_right (by omega) (by omega)
   have hpw : 2 ^ (D + 1) ≤ 2048:=hpw
   have w1 : wr ((i : Int) - (k : Int)) = ((i - k : Nat) : Int):=by rw [Yd (by omega)]; omega
   have w2 : wr ((l.length : Int) - (k : Int)) = ((l.length - k : Nat) : Int):=by rw [Yd (by omega)]; omega
   refine ⟨pr ++ [WJ D (l.take k)],fun fu hf=>?_,by simp; omega,fun fu hf=>?_⟩
   ·obtain ⟨f,rfl⟩ : ∃ f,fu = f + 1:=⟨fu - 1,by omega⟩
    have ha : app 32 pr ([WJ D (l.take k)] : List Dig) = _:=XD (by simp only [List.length_singleton]; omega)
    unfold Z4
    rw [if_neg hn1,e,Option.bind_some,if_neg (J7 (by omega)),Hp (by omega),Option.bind_some,w1,p1 f (by omega),Option.bind_some,Qh (by omega),Option.bind_some,Qv D 64 _ (by omega) (by omega) (by omega),Option.bind_some,ha]
    rfl
   ·obtain ⟨f,rfl⟩ : ∃ f,fu = f + 1:=⟨fu - 1,by omega⟩
    unfold ZY
    have p4:=p3 f (by omega)
    have e5 : (l.drop k)[i - k] = l[i]:=by rw [List.getElem_drop]; congr 1; omega
    rw [e5] at p4
    simp only [hld] at p4
    rw [if_neg hn1,if_neg (hl4 _ _),hl3 _ _ (by omega),hl1,Option.bind_some,hl2,Option.bind_some,e,Option.bind_some,if_neg (J7 (by omega)),w1,w2,p4,Option.bind_some,Ux,er]
    rfl
theorem Hm : ∀ (a b : List UInt8),Wz a b = - Wz b a
 | [],[]=>rfl
 | [],_ :: _=>rfl
 | _ :: _,[]=>rfl
 | x :: a,y :: b=>by
  unfold Wz
  have ih:=Hm a b
  simp only [UInt8.lt_iff_toNat_lt]
  by_cases c1 : x.toNat < y.toNat
  ·rw [if_pos c1,if_neg (by omega),if_pos c1]
  ·by_cases c2 : y.toNat < x.toNat
   ·rw [if_neg c1,if_pos c2,if_pos c2]; rfl
   ·rw [if_neg c1,if_neg c2,if_neg c2,if_neg c1,ih]
theorem BG (a : Dig) : ltD a a = false:=by
 unfold ltD
 rw [(JK a.toList a.toList).2 rfl]; rfl
theorem yp {a b : Dig} (h : ltD a b = true) : ltD b a = false:=by
 cases h2 : ltD b a with
 | false=>rfl
 | true=>rw [← BG a,Jb h h2]
theorem jP {a b : Dig} (h : ltD a b = false) (hn : a ≠ b) : ltD b a = true:=by
 unfold ltD at *
 have e:=Hm a.toList b.toList
 have hne : Wz a.toList b.toList ≠ 0:=fun h=>hn (Vector.toList_inj.1 ((JK _ _).1 h))
 simp only [decide_eq_false_iff_not,decide_eq_true_eq] at *
 omega

noncomputable def TB (l : List Dig) (i : Nat) : List Dig:=(Z4 64 l (i : Int)).getD []
theorem zB {l : List Dig} (h : l.length ≤ 64) {i : Nat} (hi : i < l.length) : Z4 64 l (i : Int) = some (TB l i) ∧ (TB l i).length ≤ 6 ∧ ZY 64 l[i] (i : Int) (l.length : Int) (TB l i) = some (WJ 6 l,true):=by
 obtain ⟨pr,h1,h2,h3⟩:=yU 6 l i hi (by omega) h
 have e : TB l i = pr:=by unfold TB; rw [h1 64 (by omega)]; rfl
 rw [e]
 exact ⟨h1 64 (by omega),h2,h3 64 (by omega)⟩
def nbN (low n : Nat) : List Nat:=if 1 ≤ low then (if low < n then [low - 1,low] else [low - 1]) else if low < n then [low] else []
noncomputable def Ts (l : List Dig) (d : Dig) : GAbsence × Int :=
 if 64 < l.length ∨ QX l = false then (⟨0,[],[]⟩,2) else if UC l d then (⟨0,[],[]⟩,5) else
  (⟨(YB l d : Int),(nbN (YB l d) l.length).map fun i=>l.getD i default,(nbN (YB l d) l.length).map (TB l)⟩,0)
theorem two0 (a b : Int) : ZI (((Vector.replicate 2 (0 : Int)).setIfInBounds 0 a).setIfInBounds 1 b) 0 = some a:=rfl
theorem two1 (a b : Int) : ZI (((Vector.replicate 2 (0 : Int)).setIfInBounds 0 a).setIfInBounds 1 b) (0 + 1) = some b:=rfl
theorem TP {l : List Dig} {i : Nat} (h : i < l.length) : l.getD i default = l[i]:=by rw [List.getD_eq_getElem?_getD,List.getElem?_eq_getElem h]; rfl
section
variable {l : List Dig} (h64 : l.length ≤ 64) (low : Nat) (b : Bool) (hlow : low ≤ l.length)
include h64
theorem K1 {N : List Dig} {P : List (List Dig)} (hN : N.length ≤ 10) (hP : P.length ≤ 10) {t x : Int} (ht : 0 ≤ t ∧ t < 2) (hx : ZI (((Vector.replicate 2 (0 : Int)).setIfInBounds 0 (wr ((low : Int) - 1))).setIfInBounds 1 (low : Int)) t = some x) (k : Nat) (hk : k < l.length) (e : x = k) :
  YH l ((low : Int),b) hH (N,P,t) = some (.nx (N ++ [l.getD k default],P ++ [TB l k],t + 1)):=by
 subst e
 unfold YH YU
 have hw : wr ((l.length : Int) - 1) = (l.length : Int) - 1:=Yd (by omega)
 have hw2 : wr (t + 1) = t + 1:=Yd (by omega)
 have hi : idx l (k : Int) = some (l.getD k default):=by rw [YN,List.getElem?_eq_getElem hk,TP hk]
 have ha : app 32 N ([l.getD k default] : List Dig) = _:=XD (by simp only [List.length_singleton]; omega)
 have hb : app 24 P ([TB l k] : List (List Dig)) = _:=XD (by simp only [List.length_singleton]; omega)
 have hd : decide ((0 : Int) ≤ (k : Int) ∧ (k : Int) ≤ (l.length : Int) - 1) = true:=by simp only [decide_eq_true_eq]; omega
 simp only [U8 ht.2,if_true,hx,Option.bind_some,hw,hw2,TN,hd,hi,ha,As,(zB h64 hk).1,hb]
theorem Ja {N : List Dig} {P : List (List Dig)} {t x : Int} (ht : 0 ≤ t ∧ t < 2) (hx : ZI (((Vector.replicate 2 (0 : Int)).setIfInBounds 0 (wr ((low : Int) - 1))).setIfInBounds 1 (low : Int)) t = some x) (e : ¬ (0 ≤ x ∧ x ≤ (l.length : Int) - 1)) :
  YH l ((low : Int),b) hH (N,P,t) = some (.nx (N,P,t + 1)):=by
 unfold YH YU
 have hw : wr ((l.length : Int) - 1) = (l.length : Int) - 1:=Yd (by omega)
 have hw2 : wr (t + 1) = t + 1:=Yd (by omega)
 simp only [U8 ht.2,if_true,hx,Option.bind_some,hw,hw2,TN,decide_eq_false e,Bool.false_eq_true,if_false]
omit h64 in
theorem Ks (N : List Dig) (P : List (List Dig)) {t : Int} (ht : ¬ t < 2) : YH l ((low : Int),b) hH (N,P,t) = some (.ex (N,P)):=by
 unfold YH
 rw [if_neg (J7 ht)]
include hlow
theorem z4 : ZF (YH l ((low : Int),b) hH) ([],[],0) = some ((nbN low l.length).map fun i=>l.getD i default,(nbN low l.length).map (TB l)):=by
 have hw : wr ((low : Int) - 1) = (low : Int) - 1:=Yd (by omega)
 have x0:=two0 (wr ((low : Int) - 1)) (low : Int)
 have x1:=two1 (wr ((low : Int) - 1)) (low : Int)
 by_cases c0 : 1 ≤ low
 ·rw [Yp (K1 h64 low b (N:=[]) (P:=[]) (t:=0) (by simp) (by simp) (by omega) x0 (low - 1) (by omega) (by rw [hw]; omega))]
  by_cases c1 : low < l.length
  ·rw [Yp (K1 h64 low b (N:=[] ++ [l.getD (low - 1) default]) (P:=[] ++ [TB l (low - 1)]) (t:=0 + 1) (by simp) (by simp) (by omega) x1 low c1 rfl),Ym (Ks low b _ _ (by omega))]
   unfold nbN
   rw [if_pos c0,if_pos c1]; rfl
  ·rw [Yp (Ja h64 low b (N:=[] ++ [l.getD (low - 1) default]) (P:=[] ++ [TB l (low - 1)]) (t:=0 + 1) (by omega) x1 (by omega)),Ym (Ks low b _ _ (by omega))]
   unfold nbN
   rw [if_pos c0,if_neg c1]; rfl
 ·rw [Yp (Ja h64 low b (N:=[]) (P:=[]) (t:=0) (by omega) x0 (by rw [hw]; omega))]
  by_cases c1 : low < l.length
  ·rw [Yp (K1 h64 low b (N:=[]) (P:=[]) (t:=0 + 1) (by simp) (by simp) (by omega) x1 low c1 rfl),Ym (Ks low b _ _ (by omega))]
   unfold nbN
   rw [if_neg c0,if_pos c1]; rfl
  ·rw [Yp (Ja h64 low b (N:=[]) (P:=[]) (t:=0 + 1) (by omega) x1 (by omega)),Ym (Ks low b _ _ (by omega))]
   unfold nbN
   rw [if_neg c0,if_neg c1]; rfl
omit hlow in
theorem K8 {N : List Dig} {P : List (List Dig)} (hN : N.length ≤ 10) (hP : P.length ≤ 10) (k : Nat) (hk : k < l.length) (hl : k ≤ low) :
  Xg l (low : Int) (N,P,(k : Int)) = some (.nx (N ++ [l.getD k default],P ++ [TB l k],((k + 1 : Nat) : Int))):=by
 unfold Xg
 have hw2 : wr ((k : Int) + 1) = ((k + 1 : Nat) : Int):=by rw [Yd (by omega)]; omega
 have hi : idx l (k : Int) = some (l.getD k default):=by rw [YN,List.getElem?_eq_getElem hk,TP hk]
 have ha : app 32 N ([l.getD k default] : List Dig) = _:=XD (by simp only [List.length_singleton]; omega)
 have hb : app 24 P ([TB l k] : List (List Dig)) = _:=XD (by simp only [List.length_singleton]; omega)
 have hd : decide ((k : Int) ≤ (low : Int)) = true:=by simp only [decide_eq_true_eq]; omega
 have hd2 : decide ((k : Int) < (l.length : Int)) = true:=U8 (by omega)
 simp only [hd,hd2,if_true,Option.bind_some,hw2,hi,ha,(zB h64 hk).1,hb]
omit h64 hlow in
theorem Kw (N : List Dig) (P : List (List Dig)) (k : Nat) (h : ¬ (k ≤ low ∧ k < l.length)) : Xg l (low : Int) (N,P,(k : Int)) = some (.ex (N,P)):=by
 unfold Xg
 by_cases c : k ≤ low
 ·have hd : decide ((k : Int) ≤ (low : Int)) = true:=by simp only [decide_eq_true_eq]; omega
  have hd2 : decide ((k : Int) < (l.length : Int)) = false:=by simp only [decide_eq_false_iff_not]; omega
  simp only [hd,hd2,if_true,Option.bind_some,Bool.false_eq_true,if_false]
 ·have hd : decide ((k : Int) ≤ (low : Int)) = false:=by simp only [decide_eq_false_iff_not]; omega
  simp only [hd,Option.bind_some,Bool.false_eq_true,if_false]
omit h64 hlow in
theorem HZ (low : Nat) (h : low ≤ 1000) : (if (wr ((low : Int) - 1)) > 0 then (wr ((low : Int) - 1)) else 0) = ((low - 1 : Nat) : Int):=by
 rw [Yd (by omega)]
 split <;> omega
theorem zV : ZF (Xg l (low : Int)) ([],[],((low - 1 : Nat) : Int)) = some ((nbN low l.length).map fun i=>l.getD i default,(nbN low l.length).map (TB l)):=by
 by_cases c0 : 1 ≤ low
 ·rw [Yp (K8 h64 low (N:=[]) (P:=[]) (by simp) (by simp) (low - 1) (by omega) (by omega))]
  have e : low - 1 + 1 = low:=by omega
  rw [e]
  by_cases c1 : low < l.length
  ·rw [Yp (K8 h64 low (N:=[] ++ [l.getD (low - 1) default]) (P:=[] ++ [TB l (low - 1)]) (by simp) (by simp) low c1 (Nat.le_refl _)),Ym (Kw low _ _ _ (by omega))]
   unfold nbN
   rw [if_pos c0,if_pos c1]; rfl
  ·rw [Ym (Kw low _ _ _ (by omega))]
   unfold nbN
   rw [if_pos c0,if_neg c1]; rfl
 ·have e : low - 1 = low:=by omega
  rw [e]
  by_cases c1 : low < l.length
  ·rw [Yp (K8 h64 low (N:=[]) (P:=[]) (by simp) (by simp) low c1 (Nat.le_refl _)),Ym (Kw low _ _ _ (by omega))]
   unfold nbN
   rw [if_neg c0,if_pos c1]; rfl
  ·rw [Ym (Kw low _ _ _ (by omega))]
   unfold nbN
   rw [if_neg c0,if_neg c1]; rfl
end
theorem KG (l : List Dig) (d : Dig) (hl : l.length ≤ 100000) : Vb l d = some (Ts l d):=by
 unfold Vb Ts
 by_cases c : 64 < l.length
 ·have e : decide ((l.length : Int) > 64) = true:=by simp only [decide_eq_true_eq]; omega
  rw [e,if_pos rfl,Option.bind_some,if_pos rfl,if_pos (.inl c)]
 ·have e : decide ((l.length : Int) > 64) = false:=by simp only [decide_eq_false_iff_not]; omega
  rw [e,if_neg (by decide),zX l (by omega)]
  simp only [Option.bind_some]
  cases ha : QX l with
  | false=>simp
  | true =>
   simp only [Bool.not_true,Bool.false_eq_true,if_false]
   rw [if_neg (by simp; omega),yr l (Q0 ha) d (by omega)]
   simp only [Option.bind_some]
   cases hf : UC l d with
   | true=>rfl
   | false =>
    rw [if_neg (by decide),if_neg (by decide),Qi,Option.bind_some,z4 (by omega) _ _ (Qe l d)]
    rfl
theorem TS (l : List Dig) (d : Dig) (hl : l.length ≤ 100000) : Wa l d = some (Ts l d):=by
 unfold Wa Ts
 by_cases c : 64 < l.length
 ·have e : decide ((l.length : Int) > 64) = true:=by simp only [decide_eq_true_eq]; omega
  rw [e,if_pos rfl,Option.bind_some,if_pos rfl,if_pos (.inl c)]
 ·have e : decide ((l.length : Int) > 64) = false:=by simp only [decide_eq_false_iff_not]; omega
  rw [e,if_neg (by decide),Hq l (by omega)]
  simp only [Option.bind_some]
  cases ha : QX l with
  | false=>simp
  | true =>
   have hlow:=Qe l d
   simp only [Bool.not_true,Bool.false_eq_true,if_false]
   rw [if_neg (by simp; omega),AY l d (by omega)]
   simp only [Option.bind_some]
   have hfound : (if (decide ((YB l d : Int) < (l.length : Int))) = true then ((idx l (YB l d : Int)).bind fun (x26 : Dig)=>some (decide (x26 = d))) else (some false) : Option (Bool)) = some (UC l d):=by
    unfold UC
    by_cases c1 : YB l d < l.length
    ·rw [if_pos (U8 (by omega)),YN,List.getElem?_eq_getElem c1,Option.bind_some,Option.some_beq_some]
     by_cases c2 : l[YB l d] = d <;> simp [c2]
    ·rw [if_neg (J7 (by omega)),List.getElem?_eq_none (by omega)]; rfl
   rw [hfound,Option.bind_some]
   cases hf : UC l d with
   | true=>rfl
   | false =>
    simp only [Bool.false_eq_true,if_false]
    rw [HZ _ (by omega),zV (by omega) _ hlow]
    rfl
noncomputable def shD (root : Dig) (n : Int) (x : Dig) (i : Int) (pr : List Dig) : Bool:=match ZY 64 x i n pr with | some r=>r.2 && decide (r.1 = root) | none=>false
noncomputable def okD (root : Dig) (n : Int) (d : Dig) (q : Nat) (N : List Dig) (P : List (List Dig)) (t i : Nat) : Bool:=(if i < q then ltD (N.getD t default) d else ltD d (N.getD t default)) && shD root n (N.getD t default) (i : Int) (P.getD t [])
noncomputable def isD (root : Dig) (n : Int) (d : Dig) (a : GAbsence) : Bool :=
 decide (0 ≤ n ∧ n ≤ 64) && (decide (0 ≤ a.Place ∧ a.Place ≤ n) &&
  (decide (a.Neighbours.length = (nbN a.Place.toNat n.toNat).length) && decide (a.Proofs.length = (nbN a.Place.toNat n.toNat).length) && (decide (0 < n) || decide (root = Hr [])) && (List.range' 0 (nbN a.Place.toNat n.toNat).length).all fun t=>okD root n d a.Place.toNat a.Neighbours a.Proofs t (a.Place.toNat - 1 + t)))
theorem Je {q m : Nat} (h : q ≤ m) (t : Nat) : t < (nbN q m).length ↔ (q - 1 + t ≤ q ∧ q - 1 + t < m):=by
 unfold nbN
 by_cases c0 : 1 ≤ q
 ·by_cases c1 : q < m
  ·rw [if_pos c0,if_pos c1]; simp; omega
  ·rw [if_pos c0,if_neg c1]; simp; omega
 ·by_cases c1 : q < m
  ·rw [if_neg c0,if_pos c1]; simp; omega
  ·rw [if_neg c0,if_neg c1]; simp; omega
theorem zg {q m t : Nat} (h : t < (nbN q m).length) : (nbN q m)[t] = q - 1 + t:=by
 unfold nbN at h ⊢
 by_cases c0 : 1 ≤ q
 ·by_cases c1 : q < m
  ·simp only [if_pos c0,if_pos c1] at h ⊢
   have : t = 0 ∨ t = 1:=by simp at h; omega
   rcases this with rfl | rfl
   ·rfl
   ·show q = q - 1 + 1; omega
  ·simp only [if_pos c0,if_neg c1] at h ⊢
   have : t = 0:=by simp at h; omega
   subst this; rfl
 ·by_cases c1 : q < m
  ·simp only [if_neg c0,if_pos c1] at h ⊢
   have : t = 0:=by simp at h; omega
   subst this
   show q = q - 1 + 0; omega
  ·simp only [if_neg c0,if_neg c1] at h
   simp at h
theorem JN (q m : Nat) : (nbN q m).length ≤ 2:=by
 unfold nbN
 split <;> split <;> simp
theorem jS {m : Nat} (hm : m ≤ 64) (a : GAbsence) {q : Nat} (hq : q ≤ m) (ha : a.Place = q) : ZF (YG (m : Int) a) (0,([] : List Int)) = some ((nbN q m).map fun i : Nat=>(i : Int)):=by
 have hw : wr ((q : Int) - 1) = (q : Int) - 1:=Yd (by omega)
 have hw2 : wr ((m : Int) - 1) = (m : Int) - 1:=Yd (by omega)
 have x0:=two0 (wr ((q : Int) - 1)) (q : Int)
 have x1:=two1 (wr ((q : Int) - 1)) (q : Int)
 have take : ∀ (l : List Int) (t x : Int),l.length ≤ 10 → 0 ≤ t → t < 2 → ZI (((Vector.replicate 2 (0 : Int)).setIfInBounds 0 (wr ((q : Int) - 1))).setIfInBounds 1 (q : Int)) t = some x → (0 ≤ x ∧ x ≤ (m : Int) - 1) → YG (m : Int) a (t,l) = some (.nx (t + 1,l ++ [x])):=fun l t x hl h0 ht hx hr=>by
  unfold YG
  have h3 : wr (t + 1) = t + 1:=Yd (by omega)
  have hap : app 8 l ([x] : List Int) = _:=XD (by simp only [List.length_singleton]; omega)
  simp only [U8 ht,if_true,ha,hx,Option.bind_some,hw2,TN,decide_eq_true hr,hap,h3]
 have skip : ∀ (l : List Int) (t x : Int),0 ≤ t → t < 2 → ZI (((Vector.replicate 2 (0 : Int)).setIfInBounds 0 (wr ((q : Int) - 1))).setIfInBounds 1 (q : Int)) t = some x → ¬ (0 ≤ x ∧ x ≤ (m : Int) - 1) → YG (m : Int) a (t,l) = some (.nx (t + 1,l)):=fun l t x h0 ht hx hr=>by
  unfold YG
  have h3 : wr (t + 1) = t + 1:=Yd (by omega)
  simp only [U8 ht,if_true,ha,hx,Option.bind_some,hw2,TN,decide_eq_false hr,Bool.false_eq_true,if_false,h3]
 have fin : ∀ (l : List Int) (t : Int),¬ t < 2 → YG (m : Int) a (t,l) = some (.ex l):=fun l t ht=>by
  unfold YG
  rw [if_neg (J7 ht)]
 by_cases c0 : 1 ≤ q
 ·rw [Yp (take [] 0 _ (by simp) (by omega) (by omega) x0 (by rw [hw]; omega))]
  by_cases c1 : q < m
  ·rw [Yp (take _ (0 + 1) _ (by simp) (by omega) (by omega) x1 (by omega)),Ym (fin _ _ (by omega))]
   unfold nbN
   rw [if_pos c0,if_pos c1,hw]
   simp; omega
  ·rw [Yp (skip _ (0 + 1) _ (by omega) (by omega) x1 (by omega)),Ym (fin _ _ (by omega))]
   unfold nbN
   rw [if_pos c0,if_neg c1,hw]
   simp; omega
 ·rw [Yp (skip [] 0 _ (by omega) (by omega) x0 (by rw [hw]; omega))]
  by_cases c1 : q < m
  ·rw [Yp (take _ (0 + 1) _ (by simp) (by omega) (by omega) x1 (by omega)),Ym (fin _ _ (by omega))]
   unfold nbN
   rw [if_neg c0,if_pos c1]
   simp
  ·rw [Yp (skip _ (0 + 1) _ (by omega) (by omega) x1 (by omega)),Ym (fin _ _ (by omega))]
   unfold nbN
   rw [if_neg c0,if_neg c1]
   simp
theorem B7 {m : Nat} (hm : m ≤ 64) (x : Dig) (i : Int) (pr : List Dig) (hp : pr.length ≤ 10) : ∃ r,ZY 64 x i (m : Int) pr = some r ∧ Yu 64 hH x i (m : Int) pr = some r:=by
 have h:=Hd 64 x i (m : Int) pr (by omega) (by omega) (by omega)
 obtain ⟨r,e⟩:=h.2 (by omega)
 exact ⟨r,e,by rw [h.1,e]⟩
theorem ltD_le (a b : Dig) : decide (Wz a.toList b.toList ≥ 0) = !ltD a b:=by
 unfold ltD
 by_cases c : Wz a.toList b.toList < 0
 ·have : ¬ Wz a.toList b.toList ≥ 0:=by omega
  simp [c,this]
 ·have : Wz a.toList b.toList ≥ 0:=by omega
  simp [c,this]
theorem ltD_ge (a b : Dig) : decide (Wz a.toList b.toList ≤ 0) = !ltD b a:=by
 have e:=Hm a.toList b.toList
 unfold ltD
 by_cases c : Wz b.toList a.toList < 0
 ·have : ¬ Wz a.toList b.toList ≤ 0:=by omega
  simp [c,this]
 ·have : Wz a.toList b.toList ≤ 0:=by omega
  simp [c,this]
theorem US (root : Dig) (n : Int) (d : Dig) (a : GAbsence) (hP : ∀ p ∈ a.Proofs,p.length ≤ 10) : Xy root n d a = some (isD root n d a):=by
 unfold Xy isD
 simp only [TN,Option.bind_some]
 by_cases c1 : 0 ≤ n ∧ n ≤ 64
 ·by_cases c2 : 0 ≤ a.Place ∧ a.Place ≤ n
  ·obtain ⟨m,rfl⟩:=Int.eq_ofNat_of_zero_le c1.1
   obtain ⟨q,hq⟩:=Int.eq_ofNat_of_zero_le c2.1
   have hm : m ≤ 64:=by omega
   have hqm : q ≤ m:=by omega
   have c2' : decide (0 ≤ (q : Int) ∧ (q : Int) ≤ (m : Int)) = true:=by simp only [decide_eq_true_eq]; omega
   simp only [decide_eq_true c1,c2',Bool.true_and,Bool.not_true,Bool.false_eq_true,if_false,Option.bind_some,jS hm a hqm hq,Qi,hq,Int.toNat_natCast,List.length_map]
   generalize hM : (nbN q m).length = M
   have h2:=JN q m
   by_cases e1 : a.Neighbours.length = M
   ·by_cases e2 : a.Proofs.length = M
    ·have b1 : ((a.Neighbours.length : Int) != (M : Int)) = false:=by simp [e1]
     have b2 : ((a.Proofs.length : Int) != (M : Int)) = false:=by simp [e2]
     simp only [b1,b2,Option.bind_some,Bool.false_eq_true,if_false]
     have hl:=Hz (f:=XS root (m : Int) d a ((nbN q m).map fun i : Nat=>(i : Int)) hH) (fun t=>!okD root (m : Int) d q a.Neighbours a.Proofs t (q - 1 + t)) (t:=false) (n:=M) (m:=0) (Nat.zero_le _) (fun t _ ht=>by
      have ht' : t < (nbN q m).length:=by omega
      have hN : t < a.Neighbours.length:=by omega
      have hPt : t < a.Proofs.length:=by omega
      obtain ⟨hq1,hq2⟩:=(Je hqm t).1 ht'
      obtain ⟨r,r1,r2⟩:=B7 hm a.Neighbours[t] ((q - 1 + t : Nat) : Int) a.Proofs[t] (hP _ (List.getElem_mem hPt))
      have hx : idx ((nbN q m).map fun i : Nat=>(i : Int)) (t : Int) = some ((q - 1 + t : Nat) : Int):=by
       rw [YN,List.getElem?_map,List.getElem?_eq_getElem ht',Option.map_some,zg ht']
      have hd : decide ((t : Int) < ((((nbN q m).map fun i : Nat=>(i : Int)).length : Nat) : Int)) = true:=by rw [List.length_map]; exact U8 (by omega)
      have eN : a.Neighbours.getD t default = a.Neighbours[t]:=TP hN
      have eP : a.Proofs.getD t [] = a.Proofs[t]:=by rw [List.getD_eq_getElem?_getD,List.getElem?_eq_getElem hPt]; rfl
      have esh : shD root (m : Int) a.Neighbours[t] ((q - 1 + t : Nat) : Int) a.Proofs[t] = (r.2 && decide (r.1 = root)):=by unfold shD; rw [r1]
      unfold XS okD
      simp only [hd,if_true,hx,Option.bind_some,YN,List.getElem?_eq_getElem hN,List.getElem?_eq_getElem hPt,Qu,r2,hq,eN,eP,esh,ltD_le,ltD_ge]
      have hwt : wr ((t : Int) + 1) = ((t + 1 : Nat) : Int):=by rw [Yd (by omega)]; omega
      by_cases ci : q - 1 + t < q
      ·have h1 : decide (((q - 1 + t : Nat) : Int) < (q : Int)) = true:=U8 (by omega)
       have h3 : (((q - 1 + t : Nat) : Int) == (q : Int)) = false:=by rw [beq_eq_false_iff_ne]; omega
       simp only [h1,h3,if_true,Bool.false_eq_true,if_false,if_pos ci,hwt]
       cases ltD a.Neighbours[t] d <;> cases r.2 <;> cases decide (r.1 = root) <;> rfl
      ·have h1 : decide (((q - 1 + t : Nat) : Int) < (q : Int)) = false:=by simp only [decide_eq_false_iff_not]; omega
       have h3 : (((q - 1 + t : Nat) : Int) == (q : Int)) = true:=by rw [beq_iff_eq]; omega
       simp only [h1,h3,if_true,Bool.false_eq_true,if_false,if_neg ci,hwt]
       cases ltD d a.Neighbours[t] <;> cases r.2 <;> cases decide (r.1 = root) <;> rfl) (by
      unfold XS
      rw [List.length_map,hM,if_neg (J7 (by omega))])
     have hl' : ZF (XS root (m : Int) d a ((nbN q m).map fun i : Nat=>(i : Int)) hH) 0 = _:=hl
     have eall : ((List.range' 0 (M - 0)).any fun t=>!okD root (m : Int) d q a.Neighbours a.Proofs t (q - 1 + t)) = !((List.range' 0 M).all fun t=>okD root (m : Int) d q a.Neighbours a.Proofs t (q - 1 + t)):=by rw [Nat.sub_zero,List.all_eq_not_any_not,Bool.not_not]
     rw [hl',eall,Option.bind_some,decide_eq_true e1,decide_eq_true e2]
     simp only [Bool.true_and]
     cases ((List.range' 0 M).all fun t=>okD root (m : Int) d q a.Neighbours a.Proofs t (q - 1 + t)) with
     | false=>simp [Fl.el]
     | true =>
      simp only [Bool.not_true,Bool.false_eq_true,if_false,Fl.el,Bool.and_true]
      by_cases c0 : (m : Int) > 0
      ·have : 0 < m:=by omega
       simp [this]
      ·have hm0 : ¬ 0 < m:=by omega
       have hr : Z9 64 hH ([] : List Dig) = some (Hr []):=by rw [JI,TY 63 (by simp),List.headD_nil]
       rw [hr]
       simp [hm0]
    ·have b1 : ((a.Neighbours.length : Int) != (M : Int)) = false:=by simp [e1]
     have b2 : ((a.Proofs.length : Int) != (M : Int)) = true:=by simp; omega
     simp [b1,b2,e2]
   ·have b1 : ((a.Neighbours.length : Int) != (M : Int)) = true:=by simp; omega
    simp [b1,e1]
  ·simp only [decide_eq_true c1,decide_eq_false c2,Bool.true_and,Bool.false_and,Bool.not_true,Bool.false_eq_true,if_false,Option.bind_some,Bool.not_false,if_true]
 ·simp only [decide_eq_false c1,Bool.false_and,Bool.not_false,if_true,Option.bind_some]
theorem AW {m : Nat} (hm : m ≤ 64) (root x : Dig) {i : Nat} (hi : i < m) (pr : List Dig) (hp : pr.length ≤ 10) : Vr root x (i : Int) (m : Int) pr = some (shD root (m : Int) x (i : Int) pr):=by
 obtain ⟨r,r1,_⟩:=B7 hm x (i : Int) pr hp
 unfold Vr shD
 have hw : wr ((m : Int) - 1) = (m : Int) - 1:=Yd (by omega)
 have d1 : decide ((1 : Int) ≤ (m : Int) ∧ (m : Int) ≤ 64) = true:=by simp only [decide_eq_true_eq]; omega
 have d2 : decide ((0 : Int) ≤ (i : Int) ∧ (i : Int) ≤ (m : Int) - 1) = true:=by simp only [decide_eq_true_eq]; omega
 have d3 : decide ((pr.length : Int) > 10) = false:=by simp only [decide_eq_false_iff_not]; omega
 simp only [zt,Option.bind_some,hw,d1,d2,d3,Bool.not_true,Bool.false_eq_true,if_false,r1]
 cases r.2 <;> rfl
theorem H0 {m : Nat} (hm : m ≤ 64) (root d : Dig) (a : GAbsence) (hP : ∀ p ∈ a.Proofs,p.length ≤ 10) {q : Nat} (hq : q ≤ m) (ha : a.Place = q) (hNP : a.Neighbours.length = a.Proofs.length) :
  ∀ (k t : Nat),t + k = (nbN q m).length → t ≤ a.Neighbours.length → ∃ res,ZF (YX root (m : Int) d a) (((q - 1 + t : Nat) : Int),(t : Int)) = some res ∧ (match res with | .nx s=>s == (a.Neighbours.length : Int) | .ex b=>b) = (decide (a.Neighbours.length = (nbN q m).length) && (List.range' t k).all fun u=>okD root (m : Int) d q a.Neighbours a.Proofs u (q - 1 + u))
 | 0,t,hk,ht=>by
  have hnb:=(Je hq t)
  refine ⟨.nx (t : Int),Ym ?_,?_⟩
  ·unfold YX
   by_cases c : q - 1 + t ≤ q
   ·have h1 : decide (((q - 1 + t : Nat) : Int) ≤ a.Place) = true:=by rw [ha]; simp only [decide_eq_true_eq]; omega
    have h2 : decide (((q - 1 + t : Nat) : Int) < (m : Int)) = false:=by simp only [decide_eq_false_iff_not]; omega
    simp only [h1,h2,if_true,Option.bind_some,Bool.false_eq_true,if_false]
   ·have h1 : decide (((q - 1 + t : Nat) : Int) ≤ a.Place) = false:=by rw [ha]; simp only [decide_eq_false_iff_not]; omega
    simp only [h1,Option.bind_some,Bool.false_eq_true,if_false]
  ·have e : t = (nbN q m).length:=by omega
   subst e
   rw [Bool.eq_iff_iff]
   simp; omega
 | k + 1,t,hk,ht=>by
  have hlt : t < (nbN q m).length:=by omega
  obtain ⟨h1,h2⟩:=(Je hq t).1 hlt
  have d1 : decide (((q - 1 + t : Nat) : Int) ≤ a.Place) = true:=by rw [ha]; simp only [decide_eq_true_eq]; omega
  have d2 : decide (((q - 1 + t : Nat) : Int) < (m : Int)) = true:=U8 (by omega)
  have hn2:=JN q m
  by_cases c : t = a.Neighbours.length
  ·refine ⟨.ex false,Ym ?_,?_⟩
   ·unfold YX
    have d3 : decide ((t : Int) ≥ (a.Neighbours.length : Int)) = true:=by simp only [decide_eq_true_eq]; omega
    simp only [d1,d2,d3,if_true,Option.bind_some]
   ·have : decide (a.Neighbours.length = (nbN q m).length) = false:=by simp only [decide_eq_false_iff_not]; omega
    rw [this]; rfl
  ·have hN : t < a.Neighbours.length:=by omega
   have hPt : t < a.Proofs.length:=by omega
   have d3 : decide ((t : Int) ≥ (a.Neighbours.length : Int)) = false:=by simp only [decide_eq_false_iff_not]; omega
   have eN : a.Neighbours.getD t default = a.Neighbours[t]:=TP hN
   have eP : a.Proofs.getD t [] = a.Proofs[t]:=by rw [List.getD_eq_getElem?_getD,List.getElem?_eq_getElem hPt]; rfl
   have hsh:=AW hm root a.Neighbours[t] h2 a.Proofs[t] (hP _ (List.getElem_mem hPt))
   have hw1 : wr (((q - 1 + t : Nat) : Int) + 1) = ((q - 1 + (t + 1) : Nat) : Int):=by rw [Yd (by omega)]; omega
   have hw2 : wr ((t : Int) + 1) = ((t + 1 : Nat) : Int):=by rw [Yd (by omega)]; omega
   have hstep : YX root (m : Int) d a (((q - 1 + t : Nat) : Int),(t : Int)) = some (if okD root (m : Int) d q a.Neighbours a.Proofs t (q - 1 + t) then .nx (((q - 1 + (t + 1) : Nat) : Int),((t + 1 : Nat) : Int)) else .ex (.ex false)):=by
    have d1' : decide (((q - 1 + t : Nat) : Int) ≤ (q : Int)) = true:=by simp only [decide_eq_true_eq]; omega
    unfold YX okD
    rw [eN,eP]
    simp only [d1,d1',d2,d3,if_true,Option.bind_some,Bool.false_eq_true,if_false,YN,List.getElem?_eq_getElem hN,List.getElem?_eq_getElem hPt,hsh,hw1,hw2,ha]
    cases hs : shD root (m : Int) a.Neighbours[t] ((q - 1 + t : Nat) : Int) a.Proofs[t] with
    | false=>simp
    | true =>
     by_cases ci : q - 1 + t < q
     ·have h1 : decide (((q - 1 + t : Nat) : Int) < (q : Int)) = true:=U8 (by omega)
      have h3 : (((q - 1 + t : Nat) : Int) == (q : Int)) = false:=by rw [beq_eq_false_iff_ne]; omega
      simp only [h1,h3,if_true,Bool.false_eq_true,if_false,if_pos ci,Qw,Option.bind_some,Bool.not_true]
      cases ltD a.Neighbours[t] d <;> rfl
     ·have h1 : decide (((q - 1 + t : Nat) : Int) < (q : Int)) = false:=by simp only [decide_eq_false_iff_not]; omega
      have h3 : (((q - 1 + t : Nat) : Int) == (q : Int)) = true:=by rw [beq_iff_eq]; omega
      simp only [h1,h3,if_true,Bool.false_eq_true,if_false,if_neg ci,Qw,Option.bind_some,Bool.not_true]
      cases ltD d a.Neighbours[t] <;> rfl
   rw [List.range'_succ,List.all_cons]
   cases ho : okD root (m : Int) d q a.Neighbours a.Proofs t (q - 1 + t) with
   | false =>
    rw [ho] at hstep
    exact ⟨_,Ym hstep,by simp⟩
   | true =>
    rw [ho] at hstep
    obtain ⟨res,r1,r2⟩:=H0 hm root d a hP hq ha hNP k (t + 1) (by omega) (by omega)
    rw [Yp hstep]
    exact ⟨res,r1,by rw [r2]; simp⟩
theorem KS (root : Dig) (n : Int) (d : Dig) (a : GAbsence) (hP : ∀ p ∈ a.Proofs,p.length ≤ 10) : Va root n d a = some (isD root n d a):=by
 unfold Va isD
 simp only [zt,Option.bind_some]
 by_cases c1 : 0 ≤ n ∧ n ≤ 64
 ·by_cases c2 : 0 ≤ a.Place ∧ a.Place ≤ n
  ·obtain ⟨m,rfl⟩:=Int.eq_ofNat_of_zero_le c1.1
   obtain ⟨q,hq⟩:=Int.eq_ofNat_of_zero_le c2.1
   have hm : m ≤ 64:=by omega
   have hqm : q ≤ m:=by omega
   have c2' : decide (0 ≤ (q : Int) ∧ (q : Int) ≤ (m : Int)) = true:=by simp only [decide_eq_true_eq]; omega
   simp only [decide_eq_true c1,c2',Bool.true_and,Bool.not_true,Bool.false_eq_true,if_false,Option.bind_some,hq,Int.toNat_natCast]
   by_cases e : a.Neighbours.length = a.Proofs.length
   ·have b1 : ((a.Neighbours.length : Int) != (a.Proofs.length : Int)) = false:=by simp [e]
    simp only [b1,Bool.false_eq_true,if_false,TE [] (show ([] : List UInt8).length ≤ 10000000 by simp),Option.bind_some]
    have hst : (if (wr ((q : Int) - 1)) > 0 then (wr ((q : Int) - 1)) else 0) = ((q - 1 + 0 : Nat) : Int):=HZ q (by omega)
    have h0:=JN q m
    obtain ⟨res,r1,r2⟩:=H0 hm root d a hP hqm hq e (nbN q m).length 0 (by omega) (by omega)
    have r1 : ZF (YX root (m : Int) d a) (((q - 1 + 0 : Nat) : Int),0) = some res:=r1
    rw [hst,r1,← e]
    by_cases c0 : m = 0
    ·subst c0
     by_cases c3 : root = Hr []
     ·simp only [c3,decide_true,Bool.not_true,Option.bind_some,Bool.or_true,Bool.and_true,Bool.and_self]
      simp only [c3] at r2
      cases res with
      | nx s=>simpa [Fl.el] using r2
      | ex b=>simpa [Fl.el] using r2
     ·simp [c3]
    ·have c4 : ((m : Int) == 0) = false:=by rw [beq_eq_false_iff_ne]; omega
     have c5 : decide (0 < (m : Int)) = true:=by simp only [decide_eq_true_eq]; omega
     simp only [c4,c5,Bool.false_eq_true,if_false,Option.bind_some,Bool.true_or,Bool.and_true,Bool.and_self]
     cases res with
     | nx s=>simpa [Fl.el] using r2
     | ex b=>simpa [Fl.el] using r2
   ·have b1 : ((a.Neighbours.length : Int) != (a.Proofs.length : Int)) = true:=by simp; omega
    by_cases e1 : a.Neighbours.length = (nbN q m).length
    ·have e2 : ¬ a.Proofs.length = (nbN q m).length:=by omega
     simp only [b1,if_true,Option.bind_some]
     simp [e1,e2]
    ·simp only [b1,if_true,Option.bind_some]
     simp [e1]
  ·simp only [decide_eq_true c1,decide_eq_false c2,Bool.true_and,Bool.false_and,Bool.not_true,Bool.false_eq_true,if_false,Option.bind_some,Bool.not_false,if_true]
 ·simp only [decide_eq_false c1,Bool.false_and,Bool.not_false,if_true,Option.bind_some]
theorem QE (l : List Dig) (h : l.length ≤ 100000) : WD l l = some true:=by
 unfold WD
 have:=KU (f:=Vg l l) l (fun _=>false) (t:=false) (by omega) (fun i hi=>by
  unfold Vg
  rw [if_pos (U8 (by omega)),YN,List.getElem?_eq_getElem hi]
  simp) (by unfold Vg; simp)
 rw [this]; simp [Fl.el]
theorem HS (a : GAbsence) (h1 : a.Neighbours.length ≤ 100000) (h2 : a.Proofs.length ≤ 100000) (h3 : ∀ p ∈ a.Proofs,p.length ≤ 100000) : Vv a a = some true:=by
 unfold Vv
 have:=KU (f:=W8 a a) a.Proofs (fun _=>false) (t:=false) (by omega) (fun i hi=>by
  unfold W8
  rw [if_pos (U8 (by omega)),YN,List.getElem?_eq_getElem hi]
  simp [QE _ (h3 _ (List.getElem_mem hi))]) (by unfold W8; simp)
 rw [QE _ h1]
 simp [this,Fl.el]
theorem Hv (l : List Dig) (d : Dig) : (Ts l d).1.Neighbours.length ≤ 2 ∧ (Ts l d).1.Proofs.length ≤ 2 ∧ ∀ p ∈ (Ts l d).1.Proofs,p.length ≤ 6:=by
 unfold Ts
 by_cases c : 64 < l.length ∨ QX l = false
 ·rw [if_pos c]; exact ⟨by simp,by simp,fun p hp=>by cases hp⟩
 ·rw [if_neg c]
  have h64 : l.length ≤ 64:=by omega
  cases UC l d with
  | true=>exact ⟨by simp,by simp,fun p hp=>by cases hp⟩
  | false =>
   simp only [Bool.false_eq_true,if_false]
   refine ⟨by rw [List.length_map]; exact JN _ _,by rw [List.length_map]; exact JN _ _,fun p hp=>?_⟩
   obtain ⟨i,hi,rfl⟩:=List.mem_map.1 hp
   obtain ⟨t,ht,rfl⟩:=List.getElem_of_mem hi
   rw [zg ht]
   have:=(Je (Qe l d) t).1 ht
   exact (zB h64 (by omega)).2.1
theorem yZ {l : List Dig} {d : Dig} (h : (Ts l d).2 ≠ 0) : (Ts l d).1.Neighbours.length = 0:=by
 unfold Ts at h ⊢
 by_cases c : 64 < l.length ∨ QX l = false
 ·rw [if_pos c]; rfl
 ·rw [if_neg c] at h ⊢
  cases hf : UC l d with
  | true=>rfl
  | false=>rw [hf] at h; exact absurd rfl h
theorem zu {l : List Dig} {d : Dig} (h : (Ts l d).2 = 0) : l.length ≤ 64 ∧ QX l = true ∧ UC l d = false ∧ Ts l d = (⟨(YB l d : Int),(nbN (YB l d) l.length).map fun i=>l.getD i default,(nbN (YB l d) l.length).map (TB l)⟩,0):=by
 unfold Ts at h ⊢
 by_cases c : 64 < l.length ∨ QX l = false
 ·rw [if_pos c] at h; exact absurd h (by decide)
 ·rw [if_neg c] at h ⊢
  cases hf : UC l d with
  | true=>rw [hf,if_pos rfl] at h; exact absurd h (by decide)
  | false =>
   refine ⟨by omega,?_,rfl,rfl⟩
   cases ha : QX l with
   | true=>rfl
   | false=>exact absurd (.inr ha) c
theorem low_of {l : List Dig} (h : l.Pairwise fun a b=>ltD a b = true) {i : Nat} (hi : i < l.length) : YB l l[i] = i:=by
 have hl:=Qe l l[i]
 have e1:=Bz h l[i] i hi
 rw [BG] at e1
 have g1 : ¬ i < YB l l[i]:=fun c=>by rw [decide_eq_true c] at e1; cases e1
 by_cases c : YB l l[i] < i
 ·have e2:=Bz h l[i] (YB l l[i]) (by omega)
  have e3 : ltD l[YB l l[i]] l[i] = true:=List.pairwise_iff_getElem.1 h _ _ (by omega) hi c
  rw [e3] at e2
  have:=of_decide_eq_true e2.symm
  omega
 ·omega
theorem yY {l : List Dig} (h : l.Pairwise fun a b=>ltD a b = true) {d : Dig} (hf : UC l d = false) {i : Nat} (hi : i < l.length) : l[i] ≠ d:=by
 intro e
 subst e
 unfold UC at hf
 rw [low_of h hi,List.getElem?_eq_getElem hi] at hf
 simp at hf
section
variable {l : List Dig} {d : Dig} (h64 : l.length ≤ 64) (ha : QX l = true) (hf : UC l d = false)
include h64 ha hf
omit h64 ha hf in
theorem zK {t : Nat} (ht : t < (nbN (YB l d) l.length).length) : ((nbN (YB l d) l.length).map fun i=>l.getD i default).getD t default = l.getD (YB l d - 1 + t) default ∧ ((nbN (YB l d) l.length).map (TB l)).getD t [] = TB l (YB l d - 1 + t):=by
 have e : (nbN (YB l d) l.length)[t]? = some (YB l d - 1 + t):=by rw [List.getElem?_eq_getElem ht,zg ht]
 constructor
 ·rw [List.getD_eq_getElem?_getD (l:=(nbN (YB l d) l.length).map fun i=>l.getD i default),List.getElem?_map,e]; rfl
 ·rw [List.getD_eq_getElem?_getD,List.getElem?_map,e]; rfl
theorem yj : isD (WJ 6 l) (l.length : Int) d ⟨(YB l d : Int),(nbN (YB l d) l.length).map fun i=>l.getD i default,(nbN (YB l d) l.length).map (TB l)⟩ = true:=by
 have hl:=Qe l d
 have hp:=Q0 ha
 unfold isD
 simp only [Int.toNat_natCast,List.length_map,decide_true,Bool.true_and,Bool.and_eq_true,decide_eq_true_eq,Bool.or_eq_true,List.all_eq_true]
 refine ⟨by omega,by omega,?_,fun t ht=>?_⟩
 ·by_cases c : 0 < l.length
  ·exact .inl (by omega)
  ·right
   have : l = []:=List.length_eq_zero_iff.1 (by omega)
   rw [this,WJ,if_pos (by simp),List.headD_nil]
 ·have ht : t < (nbN (YB l d) l.length).length:=by rw [List.mem_range'_1] at ht; omega
  obtain ⟨g1,g2⟩:=(Je hl t).1 ht
  obtain ⟨n1,n2⟩:=zK ht
  unfold okD
  rw [n1,n2,TP g2]
  have hs:=(zB h64 g2).2.2
  have e : shD (WJ 6 l) (l.length : Int) l[YB l d - 1 + t] ((YB l d - 1 + t : Nat) : Int) (TB l (YB l d - 1 + t)) = true:=by unfold shD; rw [hs]; simp
  rw [e,Bool.and_true]
  have hlow:=Bz hp d (YB l d - 1 + t) g2
  by_cases c : YB l d - 1 + t < YB l d
  ·rw [if_pos c,hlow]; simpa using c
  ·rw [if_neg c]
   exact jP (by rw [hlow]; simpa using c) (yY hp hf g2)
omit hf in
theorem jp {i : Nat} (hi : i < l.length) : isD (WJ 6 l) (l.length : Int) l[i] ⟨(YB l d : Int),(nbN (YB l d) l.length).map fun i=>l.getD i default,(nbN (YB l d) l.length).map (TB l)⟩ = false:=by
 have hl:=Qe l d
 have hp:=Q0 ha
 cases hr : isD (WJ 6 l) (l.length : Int) l[i] ⟨(YB l d : Int),(nbN (YB l d) l.length).map fun i=>l.getD i default,(nbN (YB l d) l.length).map (TB l)⟩ with
 | false=>rfl
 | true =>
  exfalso
  unfold isD at hr
  simp only [Int.toNat_natCast,List.length_map,decide_true,Bool.true_and,Bool.and_eq_true,decide_eq_true_eq,Bool.or_eq_true,List.all_eq_true] at hr
  have hall:=hr.2.2.2
  have use : ∀ t,t < (nbN (YB l d) l.length).length → ∀ (g2 : YB l d - 1 + t < l.length),(if YB l d - 1 + t < YB l d then ltD l[YB l d - 1 + t] l[i] else ltD l[i] l[YB l d - 1 + t]) = true:=fun t ht g2=>by
   have:=hall t (List.mem_range'_1.2 (by omega))
   unfold okD at this
   obtain ⟨n1,n2⟩:=zK ht
   rw [n1,TP g2,Bool.and_eq_true] at this
   exact this.1
  have le_no : ∀ {x y : Nat} (hx : x < l.length) (hy : y < l.length),y ≤ x → ltD l[x] l[y] = false:=fun {x y} hx hy hxy=>by
   rcases Nat.lt_or_eq_of_le hxy with h | h
   ·exact yp (List.pairwise_iff_getElem.1 hp _ _ hy hx h)
   ·subst h; exact BG _
  by_cases c : i < YB l d
  ·have h0 : (0 : Nat) < (nbN (YB l d) l.length).length:=(Je hl 0).2 (by omega)
   have:=use 0 h0 (by omega)
   rw [if_pos (by omega),le_no (by omega) hi (by omega)] at this
   cases this
  ·by_cases c1 : 1 ≤ YB l d
   ·have h0 : (1 : Nat) < (nbN (YB l d) l.length).length:=(Je hl 1).2 (by omega)
    have:=use 1 h0 (by omega)
    rw [if_neg (by omega),le_no hi (by omega) (by omega)] at this
    cases this
   ·have h0 : (0 : Nat) < (nbN (YB l d) l.length).length:=(Je hl 0).2 (by omega)
    have:=use 0 h0 (by omega)
    rw [if_neg (by omega),le_no hi (by omega) (by omega)] at this
    cases this
end

section
variable {p : List UInt8} (hp : p.length ≤ 4096)
include hp
theorem zm {s : Int × Int} (hs : TR s) : ∃ r,Vh p s = some r ∧ (TR r.1 ∧ r.2.length ≤ 100):=by
 unfold Vh
 refine Z2 (VB hp hs (by omega)) fun r3 q3=>?_
 obtain ⟨k,ek⟩:=Int.eq_ofNat_of_zero_le q3.2.1
 have hk:=q3.2.2
 refine Z2 (P:=fun j=>TR (j.1,j.2.1) ∧ j.2.2.length ≤ 100) (KA (fun i t=>t.2.2.2.1 = ((k - i : Nat) : Int) ∧ t.2.2.1.length = i ∧ TR (t.1,t.2.1)) k (fun i t hi ht=>?_) (fun t ht=>?_) k 0 _ (by omega) ⟨ek,rfl,q3.1⟩) fun j hj=>⟨_,rfl,hj⟩
 ·obtain ⟨t1,t2,t3⟩:=ht
  unfold VQ
  rw [if_pos (ja (by omega))]
  refine Z2 (VB hp t3 (by omega)) fun r hr=>?_
  have ha : ∀ x : Dig,app 32 t.2.2.1 ([x] : List Dig) = _:=fun x=>XD (by simp only [List.length_singleton]; omega)
  rw [ha]
  exact ⟨_,rfl,_,rfl,by show wr (t.2.2.2.1 - 1) = _; rw [t1,zy (by omega) (by omega)]; omega,by simp; omega,hr.1⟩
 ·obtain ⟨t1,t2,t3⟩:=ht
  unfold VQ
  rw [if_neg (yA (by omega))]
  exact ⟨_,rfl,_,rfl,t3,by show t.2.2.1.length ≤ 100; omega⟩
theorem A1 {s : Int × Int} (hs : TR s) : ∃ r,W7 p s = some r ∧ (TR r.1 ∧ r.2.length ≤ 100):=by
 unfold W7
 refine Z2 (VB hp hs (by omega)) fun r3 q3=>Z2 (VB hp q3.1 (by omega)) fun r5 q5=>Z2 (VB hp q5.1 (by omega)) fun r7 q7=>Z2 (yL hp q7.1 (by simp)) fun r11 q11=>?_
 have b3:=q3.2; have b5:=q5.2; have b7:=q7.2
 obtain ⟨k,ek,hk⟩:=AB (m:=20) q11.2 (by omega) (by omega) (by omega)
 refine Z2 (P:=fun j=>TR (j.1,j.2.1) ∧ j.2.2.length ≤ 20) (KA (fun i t=>t.2.2.2 = ((k - i : Nat) : Int) ∧ t.2.2.1.length = i ∧ TR (t.1,t.2.1)) k (fun i t hi ht=>?_) (fun t ht=>?_) k 0 _ (by omega) ⟨ek,rfl,q11.1⟩) fun j hj=>Z2 (P:=fun j=>TR (j.1,j.2.1) ∧ j.2.2.length ≤ 100) (Z2 (VB hp hj.1 (by omega)) fun r q=>Th (fun _=>?_) (fun _=>⟨_,rfl,q.1,by show j.2.2.length ≤ 100; have:=hj.2; omega⟩)) fun z hz=>⟨_,rfl,hz⟩
 ·obtain ⟨t1,t2,t3⟩:=ht
  unfold VN
  rw [if_pos (ja (by omega))]
  refine Z2 (VB hp t3 (by omega)) fun r hr=>Z2 (VB hp hr.1 (by omega)) fun r' hr'=>?_
  have ha : ∀ x : Dig,app 32 t.2.2.1 ([x] : List Dig) = _:=fun x=>XD (by simp only [List.length_singleton]; omega)
  rw [ha]
  exact ⟨_,rfl,_,rfl,by show wr (t.2.2.2 - 1) = _; rw [t1,zy (by omega) (by omega)]; omega,by simp; omega,hr'.1⟩
 ·obtain ⟨t1,t2,t3⟩:=ht
  unfold VN
  rw [if_neg (yA (by omega))]
  exact ⟨_,rfl,_,rfl,t3,by show t.2.2.1.length ≤ 20; omega⟩
 ·have hj2:=hj.2
  refine Z2 (P:=fun z=>z.length ≤ 100) (KA (fun i t=>t.length = j.2.2.length + i) (65 - j.2.2.length) (fun i t hi ht=>?_) (fun t ht=>?_) (65 - j.2.2.length) 0 _ (by omega) rfl) fun z hz=>⟨_,rfl,q.1,hz⟩
  ·unfold VO
   have hd : decide ((t.length : Int) ≤ 64) = true:=by simp only [decide_eq_true_eq]; omega
   rw [if_pos hd]
   have ha : ∀ x : Dig,app 32 t ([x] : List Dig) = _:=fun x=>XD (by simp only [List.length_singleton]; omega)
   rw [ha]
   exact ⟨_,rfl,_,rfl,by simp; omega⟩
  ·unfold VO
   have hd : decide ((t.length : Int) ≤ 64) = false:=by simp only [decide_eq_false_iff_not]; omega
   rw [hd,if_neg (by decide)]
   exact ⟨_,rfl,_,rfl,by omega⟩
theorem Jj : ∃ r,Xa p = some r ∧ r.1.length ≤ 100:=by
 unfold Xa
 refine Z2 (B2 hp) fun r3 q3=>Z2 (zm hp q3) fun r7 q7=>Z2 (VB hp q7.1 (by omega)) fun r10 q10=>Z2 (P:=fun j=>j.length ≤ 100) (Z2 (VB hp q10.1 (by omega)) fun r q=>Th (fun _=>Z2 (A1 hp q.1) fun z hz=>⟨_,rfl,hz.2⟩) (fun _=>⟨_,rfl,q7.2⟩)) fun j hj=>⟨_,rfl,hj⟩
theorem Hn : ∃ r,XM p = some r ∧ ∀ x ∈ r.2.2.2.Proofs,x.length ≤ 10:=by
 unfold XM
 have hroot0 : Yc 64 ([] : List Dig) = some (Hr []):=by rw [TY 63 (by simp),List.headD_nil]
 refine Z2 (B2 hp) fun r7 q7=>Z2 (Jj hp) fun r11 q11=>Z2 (P:=fun a=>a = Ts r11.1 r11.2) ⟨_,TS r11.1 r11.2 (by omega),rfl⟩ fun a ha=>?_
 subst ha
 obtain ⟨s1,s2,s3⟩:=Hv r11.1 r11.2
 refine Z2 (P:=fun _=>True) ⟨_,hroot0,trivial⟩ fun r22 _=>Z2 (P:=fun _=>True) (Th (fun c=>?_) (fun _=>⟨_,rfl,trivial⟩)) fun j26 _=>Z2 (P:=fun _=>True) (Z2 (VB hp q7 (by omega)) fun r39 q39=>Z2 (P:=fun _=>True) ?_ fun j41 _=>⟨_,rfl,trivial⟩) fun j34 _=>⟨_,rfl,fun x hx=>?_⟩
 ·have h64:=(zu (l:=r11.1) (d:=r11.2) (by simpa using c)).1
  exact Z2 (P:=fun _=>True) ⟨_,Qv 6 64 _ (by omega) (by omega) h64,trivial⟩ fun _ _=>⟨_,rfl,trivial⟩
 ·have ha : ∀ x : Dig,app 32 (Ts r11.1 r11.2).1.Neighbours ([x] : List Dig) = _:=fun x=>XD (by simp only [List.length_singleton]; omega)
  rw [ha]
  exact Th (fun _=>Z2 (Ad _ (by omega)) fun x _=>Z2 (Ad _ (by omega)) fun y _=>⟨_,rfl,trivial⟩) fun _=>Th (fun _=>⟨_,rfl,trivial⟩) fun _=>Th (fun _=>⟨_,rfl,trivial⟩) fun _=>Th (fun _=>⟨_,rfl,trivial⟩) fun _=>⟨_,rfl,trivial⟩
 ·have:=s3 x hx
  omega
end
theorem yx {l : List Dig} (h : l.length ≤ 64) : Uf l = some (WJ 6 l,0):=by
 unfold Uf
 have hd : decide ((l.length : Int) > 64) = false:=by simp only [decide_eq_false_iff_not]; omega
 rw [hd,if_neg (by decide),Qi,Option.bind_some,JI,Qv 6 64 _ (by omega) (by omega) h]
 rfl
theorem HE (p : List UInt8) (_ : Dat.bd p) : VP p = some true:=by
 unfold VP
 refine Tg (r:=decide ((p.length : Int) > 4096)) rfl ?_
 by_cases hbig : (p.length : Int) > 4096
 ·rw [if_pos (by simpa using hbig)]
 rw [if_neg (by simpa using hbig)]
 have hp : p.length ≤ 4096:=by omega
 obtain ⟨⟨l,d⟩,e1,h1⟩:=Jj hp
 have h1 : l.length ≤ 100:=h1
 obtain ⟨s1,s2,s3⟩:=Hv l d
 refine Tg e1 (Tg (KG l d (by omega)) (Tg (TS l d (by omega)) (BY ?_ ?_)))
 ·rw [if_neg (by simp),HS _ (by omega) (by omega) (fun x hx=>by have:=s3 x hx; omega)]; rfl
 obtain ⟨⟨root,n,d2,a⟩,e2,h2⟩:=Hn hp
 have h2 : ∀ x ∈ a.Proofs,x.length ≤ 10:=h2
 refine Tg e2 (BY (Tg (US root n d2 a h2) (Tg (KS root n d2 a h2) (by simp))) ?_)
 by_cases hz : (Ts l d).2 = 0
 ·obtain ⟨h64,ha,hf,he⟩:=zu hz
  rw [if_neg (by simp [hz])]
  have hP : ∀ x ∈ (Ts l d).1.Proofs,x.length ≤ 10:=fun x hx=>by have:=s3 x hx; omega
  have i1:=US (WJ 6 l) (l.length : Int) d (Ts l d).1 hP
  have i2 : isD (WJ 6 l) (l.length : Int) d (Ts l d).1 = true:=by rw [he]; exact yj h64 ha hf
  rw [i2] at i1
  refine Tg (yx h64) (BY ?_ ?_)
  ·rw [if_neg (by simp)]
   exact Tg i1 rfl
  ·have hl:=KU (f:=Wm (l,d) (Ts l d) (WJ 6 l,0)) l (fun _=>false) (t:=false) (by omega) (fun i hi=>by
    have j1:=US (WJ 6 l) (l.length : Int) l[i] (Ts l d).1 hP
    have j2 : isD (WJ 6 l) (l.length : Int) l[i] (Ts l d).1 = false:=by rw [he]; exact jp h64 ha hi
    rw [j2] at j1
    have hne : decide (l[i] = d) = false:=decide_eq_false (yY (Q0 ha) hf hi)
    unfold Wm
    rw [if_pos (U8 (show (i : Int) < (l.length : Int) by omega)),YN,List.getElem?_eq_getElem hi]
    simp only [Option.bind_some,hne,j1,Bool.false_eq_true,if_false]) (by unfold Wm; simp)
   exact elf_nx (hl.trans (by simp)) rfl
 ·rw [if_pos (by simpa using hz),yZ hz]; rfl
end Go.Proofs.Ytkajmkegelcfjaa
