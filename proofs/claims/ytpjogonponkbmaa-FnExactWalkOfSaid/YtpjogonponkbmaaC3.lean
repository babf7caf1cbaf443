/- Plain laws, no program in sight. -/
import Derived.Test.YtpjogonponkbmaaC2
set_option linter.unusedVariables false
set_option linter.unusedSimpArgs false
set_option maxRecDepth 20000
set_option maxHeartbeats 400000
namespace Go.Proofs.Ytpjogonponkbmaa
open Go
open Flat (enc)
theorem XU {i : Nat} (h : i < 9223372036854775807) : wr ((i : Int) + 1) = ((i + 1 : Nat) : Int):=by
 rw [XO (by omega)]; rfl

section
variable {S T : Type} {f : S → Option (Fl S T)}
theorem H7 (g : Nat → S) (m n : Nat) (hmn : m ≤ n) (h : ∀ i, m ≤ i → i < n → f (g i) = some (.nx (g (i + 1)))) : ZD f (g m) = ZD f (g n) := by
  induction n with
  | zero => have : m = 0 := by omega
            subst this; rfl
  | succ n ih =>
    rcases Nat.lt_or_ge m (n + 1) with h1 | h1
    · rw [ih (by omega) (fun i h2 h3 => h i h2 (by omega)), Wc (h n (by omega) (by omega))]
    · have : m = n + 1 := by omega
      subst this; rfl
theorem Ya (g : Nat → S) (m n : Nat) (hmn : m ≤ n) {t : T} (h : ∀ i,m ≤ i → i < n → f (g i) = some (.nx (g (i + 1)))) (he : f (g n) = some (.ex t)) : ZD f (g m) = some t:=by
 rw [H7 g m n hmn h,YW he]
theorem Vp (g : Nat → S) (p : Nat → Bool) (t : Nat → T) {e : T} (n : Nat) : ∀ (k m : Nat),m + k = n → (∀ i,m ≤ i → i < n → f (g i) = some (if p i then .ex (t i) else .nx (g (i + 1)))) → f (g n) = some (.ex e) →
  ZD f (g m) = some (((List.range' m k).find? p).elim e t)
 | 0,m,hk,_,he=>by
  have : m = n:=by omega
  subst this
  rw [YW he]; rfl
 | k + 1,m,hk,h,he=>by
  have h1:=h m (Nat.le_refl _) (by omega)
  rw [List.range'_succ,List.find?_cons]
  cases hp : p m with
  | true=>rw [hp] at h1; rw [YW h1]; rfl
  | false =>
   rw [hp] at h1
   rw [Wc h1,Vp g p t n k (m + 1) (by omega) (fun i h2 h3=>h i (by omega) h3) he]
end

theorem Ja {T : Type} {f : Int → Option (Fl Int (Fl Unit T))} (p : Nat → Bool) {t : T} {n m : Nat} (hm : m ≤ n)
  (h : ∀ i,m ≤ i → i < n → f (i : Int) = some (if p i then .ex (.ex t) else .nx ((i + 1 : Nat) : Int))) (he : f (n : Int) = some (.ex (.nx ()))) :
  ZD f (m : Int) = some (if (List.range' m (n - m)).any p then .ex t else .nx ()):=by
 rw [Vp (fun i : Nat=>(i : Int)) p (fun _=>.ex t) n (n - m) m (by omega) h he]
 cases hf : (List.range' m (n - m)).find? p with
 | none =>
  have : (List.range' m (n - m)).any p = false:=by
   rw [List.any_eq_false]
   rw [List.find?_eq_none] at hf
   exact hf
  rw [this]; rfl
 | some i =>
  have : (List.range' m (n - m)).any p = true:=by
   rw [List.any_eq_true]
   exact ⟨i,List.mem_of_find?_eq_some hf,List.find?_some hf⟩
  rw [this]; rfl
theorem X7 {p : Nat → Bool} {m n : Nat} : (List.range' m (n - m)).any p = true ↔ ∃ i,m ≤ i ∧ i < n ∧ p i = true:=by
 rw [List.any_eq_true]
 simp only [List.mem_range'_1]
 constructor
 ·rintro ⟨i,⟨h1,h2⟩,h3⟩; exact ⟨i,h1,by omega,h3⟩
 ·rintro ⟨i,h1,h2,h3⟩; exact ⟨i,⟨h1,by omega⟩,h3⟩
class Wt (α : Type) [Dat α] where
 wt : α → Nat
 ln : α → Prop
 bdln : ∀ x,Dat.bd x → ln x
 wtln : ∀ x,wt x ≤ 1048576 → ln x
instance : Wt Int:=⟨fun _=>0,fun _=>True,fun _ _=>trivial,fun _ _=>trivial⟩
instance : Wt UInt8:=⟨fun _=>0,fun _=>True,fun _ _=>trivial,fun _ _=>trivial⟩
instance : Wt Bool:=⟨fun _=>0,fun _=>True,fun _ _=>trivial,fun _ _=>trivial⟩
instance : Wt Str:=⟨fun s=>s.l.length,fun s=>s.l.length ≤ 9223372036854775807,fun _ h=>h,fun _ h=>by omega⟩
instance {n : Nat} : Wt (Vector UInt8 n):=⟨fun _=>0,fun _=>True,fun _ _=>trivial,fun _ _=>trivial⟩
instance {n m : Nat} : Wt (Vector (Vector UInt8 m) n):=⟨fun _=>0,fun _=>True,fun _ _=>trivial,fun _ _=>trivial⟩
theorem Bj {α : Type} {f : α → Nat} {l : List α} {x : α} (h : x ∈ l) : f x ≤ (l.map f).sum:=by
 induction l with
 | nil=>cases h
 | cons y l ih =>
  rw [List.map_cons,List.sum_cons]
  rcases List.mem_cons.1 h with rfl | h
  ·omega
  ·have:=ih h; omega
instance {α : Type} [Dat α] [Wt α] : Wt (List α):=⟨fun l=>l.length + (l.map Wt.wt).sum,fun l=>l.length ≤ 9223372036854775807 ∧ ∀ x ∈ l,Wt.ln x,fun _ h=>⟨h.1,fun x hx=>Wt.bdln x (h.2 x hx)⟩,
 fun l h=>⟨by omega,fun x hx=>Wt.wtln x (by have:=Bj (f:=Wt.wt) hx; omega)⟩⟩
instance {α β : Type} [Dat α] [Dat β] [Wt α] [Wt β] : Wt (α × β):=⟨fun x=>Wt.wt x.1 + Wt.wt x.2,fun x=>Wt.ln x.1 ∧ Wt.ln x.2,fun x h=>⟨Wt.bdln x.1 h.1,Wt.bdln x.2 h.2⟩,fun x h=>⟨Wt.wtln x.1 (by omega),Wt.wtln x.2 (by omega)⟩⟩
@[simp] theorem Vf {α : Type} (l : List α) (i : Nat) : idx l (i : Int) = l[i]?:=by unfold idx; simp
@[simp] theorem idx_zero {α : Type} (l : List α) : idx l (0 : Int) = l[0]?:=Vf l 0
theorem K0 {T : Type} {f : Int → Option (Fl Int (Fl Unit T))} (n : Nat) (p : Nat → Bool) (t : Nat → T) (hn : n < 9223372036854775807)
  (h : ∀ i,i < n → f (i : Int) = some (if p i then .ex (.ex (t i)) else .nx (wr ((i : Int) + 1)))) (he : f (n : Int) = some (.ex (.nx ()))) (m : Nat) (hm : m ≤ n) :
  ZD f (m : Int) = some (match (List.range' m (n - m)).find? p with | some i=>.ex (t i) | none=>.nx ()):=by
 rw [Vp (fun i : Nat=>(i : Int)) p (fun i=>.ex (t i)) n (n - m) m (by omega) (fun i _ hi=>by rw [h i hi,XU (by omega)]) he]
 cases (List.range' m (n - m)).find? p <;> rfl
theorem KY {T : Type} {f : Int → Option (Fl Int (Fl Unit T))} (n : Nat) (p : Nat → Bool) (t : T) (hn : n < 9223372036854775807)
  (h : ∀ i,i < n → f (i : Int) = some (if p i then .ex (.ex t) else .nx (wr ((i : Int) + 1)))) (he : f (n : Int) = some (.ex (.nx ()))) (m : Nat) (hm : m ≤ n) :
  ZD f (m : Int) = some (if (List.range' m (n - m)).any p then .ex t else .nx ()) :=
 Ja p hm (fun i _ hi=>by rw [h i hi,XU (by omega)]) he
theorem TA {T : Type} {f : Int → Option (Fl Int (Fl Unit T))} (n : Nat) (p : Nat → Bool) (t : T) (hn : n < 9223372036854775807) (m : Nat) (hm : m ≤ n)
  (h : ∀ i,m ≤ i → i < n → f (i : Int) = some (if p i then .ex (.ex t) else .nx (wr ((i : Int) + 1)))) (he : f (n : Int) = some (.ex (.nx ()))) :
  ZD f (m : Int) = some (if (List.range' m (n - m)).any p then .ex t else .nx ()) :=
 Ja p hm (fun i hmi hi=>by rw [h i hmi hi,XU (by omega)]) he
theorem HH {α : Type} {by_ : Nat} {l m : List α} (h : (l.length + m.length) * by_ ≤ 140737488355328) : app by_ l m = some (l ++ m):=by unfold app; rw [if_pos h]
theorem KK {α : Type} {l : List α} {i j : Nat} (h : i ≤ j) (h2 : j ≤ l.length) : slc l (i : Int) (j : Int) = some ((l.take j).drop i):=by
 unfold slc; rw [if_pos (by omega)]; simp

theorem VS {α : Type} {n : Nat} {v w : Vector α n} (h : ∀ i (hi : i < n),v[i] = w[i]) : v = w:=Vector.ext h
@[simp] theorem WC {α : Type} {n : Nat} (v : Vector α n) (i : Nat) : Zq v (i : Int) = v[i]?:=by unfold Zq; simp
theorem Tc {n : Nat} (p0 : Vector UInt8 n) (L : Vector UInt8 n × Int → Option (Fl (Vector UInt8 n × Int) (Vector UInt8 n)))
  (hL : ∀ s,L s = if decide (s.2 < (n : Int)) = true then ((Zq p0 s.2).bind fun x=>(Zq s.1 s.2).bind fun _=>some (Fl.nx (s.1.setIfInBounds (s.2).toNat x,wr (s.2 + 1)))) else (some (Fl.ex s.1))) (hn : n < 9223372036854775807) (z : Vector UInt8 n) :
  ZD L (z,0) = some p0:=by
 have:=Ya (f:=L) (fun i : Nat=>(Vector.ofFn fun j : Fin n=>if j.1 < i then p0[j] else z[j],(i : Int))) 0 n (Nat.zero_le _) (t:=p0) (fun i _ hi=>by
  rw [hL]
  simp only [Int.ofNat_lt,hi,decide_true,if_true,WC,Vector.getElem?_eq_getElem hi,Option.bind_some,Int.toNat_natCast,XU (show i < 9223372036854775807 by omega)]
  congr 3
  apply VS
  intro j hj
  rw [Vector.getElem_setIfInBounds]
  simp only [Vector.getElem_ofFn,Fin.getElem_fin]
  by_cases h : i = j
  ·subst h; simp
  ·by_cases h2 : j < i
   ·simp [h,h2,show j < i + 1 by omega]
   ·simp [h,h2,show ¬ j < i + 1 by omega]) (by
  rw [hL]
  simp only [Int.ofNat_lt,Nat.lt_irrefl,decide_false,Bool.false_eq_true,if_false]
  congr 2
  apply VS
  intro j hj
  simp [hj])
 have h0 : (Vector.ofFn fun j : Fin n=>if j.1 < 0 then p0[j] else z[j]) = z:=by
  apply VS
  intro j hj
  simp
 rw [h0] at this
 exact this
theorem Hs (x : Vector UInt8 16) : XP x = some x:=by
 unfold XP
 rw [Tc x (WN x) (fun s=>by unfold WN; rfl) (by omega)]; rfl
theorem Ts (n a b : Int) : Xb n a b = some (decide (a ≤ n ∧ n ≤ b)):=by
 unfold Xb
 by_cases h1 : a ≤ n <;> by_cases h2 : n ≤ b <;> simp [h1,h2]
theorem Kr (n a b : Int) : XV n a b = some (decide (a ≤ n ∧ n ≤ b)):=by
 unfold XV
 by_cases h1 : a ≤ n <;> by_cases h2 : n ≤ b <;> simp [h1,h2]
theorem TG (a : Nat) (h : a < 9223372036854775808) : (BitVec.ofInt 64 (a : Int)).toNat = a:=by
 rw [BitVec.toNat_ofInt]
 omega
theorem Ui (a b : Nat) (ha : a < 9223372036854775808) (hb : b < 9223372036854775808) : KO (a : Int) (b : Int) = ((a ^^^ b : Nat) : Int):=by
 unfold KO
 rw [BitVec.toNat_xor,TG a ha,TG b hb]
 have : a ^^^ b < 2 ^ 63:=Nat.xor_lt_two_pow ha hb
 exact XO (by omega)
theorem H1 (a b : Nat) (ha : a < 9223372036854775808) (hb : b < 9223372036854775808) : andI (a : Int) (b : Int) = ((a &&& b : Nat) : Int):=by
 unfold andI
 rw [BitVec.toNat_and,TG a ha,TG b hb]
 have : a &&& b < 2 ^ 63:=Nat.and_lt_two_pow _ hb
 exact XO (by omega)
theorem Up (a i : Nat) (hi : i ≤ 63) (h : a <<< i < 9223372036854775808) : TN (a : Int) (i : Int) = ((a <<< i : Nat) : Int):=by
 unfold TN
 rw [show min ((i : Int)).toNat 64 = i by omega]
 have : ((a : Int) * 2 ^ i) = ((a <<< i : Nat) : Int):=by rw [Nat.shiftLeft_eq]; simp
 rw [this]
 generalize a <<< i = x at h ⊢
 exact XO (by omega)
theorem KR (a i : Nat) (hi : i ≤ 63) : TL (a : Int) (i : Int) = ((a >>> i : Nat) : Int):=by
 unfold TL
 rw [show min ((i : Int)).toNat 64 = i by omega,Nat.shiftRight_eq_div_pow,Int.fdiv_eq_ediv_of_nonneg _ (by exact_mod_cast Nat.zero_le _)]
 simp
theorem Ks (a i : Nat) : ((a >>> i) &&& 1 = 1) ↔ a.testBit i = true:=by
 rw [Nat.testBit,Nat.and_comm]
 have h:=Nat.and_one_is_mod (a >>> i)
 rw [Nat.and_comm] at h
 rw [h]
 rcases Nat.mod_two_eq_zero_or_one (a >>> i) with h | h <;> simp [h]
theorem tmod2 (a : Nat) : Int.tmod (a : Int) 2 = ((a % 2 : Nat) : Int):=by
 rw [Int.tmod_eq_emod_of_nonneg (by omega)]; simp
theorem HS (a : Nat) : Int.tdiv (a : Int) 2 = ((a / 2 : Nat) : Int):=by
 rw [Int.tdiv_eq_ediv_of_nonneg (by omega)]; simp
theorem K3 (a : Nat) (h : a < 9223372036854775808) : wr (a : Int) = (a : Int):=XO (by omega)
theorem wru_nn (a : Nat) (h : a < 9223372036854775808) : IntKind.u64.wrap (a : Int) = (a : Int):=by
 simp only [IntKind.wrap,IntKind.bits,IntKind.signed]
 simp
 omega

def Z2 (m deg : Nat) : Nat → Nat → Nat
 | 0,a=>a
 | k + 1,a=>Z2 m deg k (if a.testBit (deg + k) then a ^^^ (m <<< k) else a)
theorem V7 {m k n : Nat} (h : m < 2 ^ n) : m <<< k < 2 ^ (n + k):=by
 rw [Nat.shiftLeft_eq,Nat.pow_add]
 exact Nat.mul_lt_mul_of_pos_right h (Nat.two_pow_pos _)
theorem TM {a n : Nat} (h : a < 2 ^ (n + 1)) (hb : a.testBit n = false) : a < 2 ^ n:=by
 apply Nat.lt_pow_two_of_testBit
 intro i hi
 rcases Nat.eq_or_lt_of_le hi with rfl | hi
 ·exact hb
 ·exact Nat.testBit_lt_two_pow (Nat.lt_of_lt_of_le h (Nat.pow_le_pow_right (by omega) hi))
theorem J4 {m d : Nat} (h1 : 2 ^ d ≤ m) (h2 : m < 2 ^ (d + 1)) : m.testBit d = true:=by
 rw [Nat.testBit,Nat.shiftRight_eq_div_pow]
 have : m / 2 ^ d = 1:=by
  apply Nat.div_eq_of_lt_le
  ·simpa using h1
  ·rw [Nat.pow_succ] at h2; omega
 rw [this]; rfl
theorem JW {m d k a : Nat} (h1 : 2 ^ d ≤ m) (h2 : m < 2 ^ (d + 1)) (ha : a < 2 ^ (d + (k + 1))) (hb : a.testBit (d + k) = true) : a ^^^ (m <<< k) < 2 ^ (d + k):=by
 have hm : m <<< k < 2 ^ (d + (k + 1)):=by have:=V7 (k:=k) h2; rwa [show d + 1 + k = d + (k + 1) by omega] at this
 refine TM (Nat.xor_lt_two_pow (by rwa [show d + k + 1 = d + (k + 1) by omega]) (by rwa [show d + k + 1 = d + (k + 1) by omega])) ?_
 rw [Nat.testBit_xor,hb,Nat.testBit_shiftLeft]
 simp [J4 h1 h2]
theorem Td {m d : Nat} (h1 : 2 ^ d ≤ m) (h2 : m < 2 ^ (d + 1)) : ∀ (k a : Nat),a < 2 ^ (d + k) → Z2 m d k a < 2 ^ d
 | 0,a,h=>by simpa [Z2] using h
 | k + 1,a,h=>by
  unfold Z2
  cases hb : a.testBit (d + k) with
  | true=>simp only [if_true]; exact Td h1 h2 k _ (JW h1 h2 h hb)
  | false=>simp only [Bool.false_eq_true,if_false]; exact Td h1 h2 k a (TM h hb)
theorem Vt (m d : Nat) : ∀ (k a b : Nat),Z2 m d k (a ^^^ b) = Z2 m d k a ^^^ Z2 m d k b
 | 0,_,_=>rfl
 | k + 1,a,b=>by
  simp only [Z2]
  rw [Nat.testBit_xor]
  cases a.testBit (d + k) <;> cases b.testBit (d + k) <;> simp only [Bool.xor_false,Bool.false_xor,Bool.xor_self,Bool.xor_true,Bool.not_false,Bool.not_true,Bool.false_eq_true,if_true,if_false]
  ·exact Vt m d k a b
  ·rw [Nat.xor_assoc]; exact Vt m d k a _
  ·rw [← Vt m d k]; congr 1; rw [Nat.xor_assoc,Nat.xor_comm b,← Nat.xor_assoc]
  ·rw [← Vt m d k]; congr 1
   rw [Nat.xor_assoc,← Nat.xor_assoc (m <<< k),Nat.xor_comm (m <<< k) b,Nat.xor_assoc,Nat.xor_self,Nat.xor_zero]
theorem Wy {m d : Nat} : ∀ (k a : Nat),a < 2 ^ d → Z2 m d k a = a
 | 0,_,_=>rfl
 | k + 1,a,h=>by
  unfold Z2
  rw [Nat.testBit_lt_two_pow (Nat.lt_of_lt_of_le h (Nat.pow_le_pow_right (by omega) (by omega)))]
  simp only [Bool.false_eq_true,if_false]
  exact Wy k a h
theorem TK {m d k a : Nat} (h : a < 2 ^ (d + k)) : Z2 m d (k + 1) a = Z2 m d k a:=by
 conv=>lhs; unfold Z2
 rw [Nat.testBit_lt_two_pow h]; rfl
theorem VE (m d : Nat) : ∀ (k x : Nat),Z2 m d (k + 1) (x <<< 1) = (if ((Z2 m d k x) <<< 1).testBit d then ((Z2 m d k x) <<< 1) ^^^ m else (Z2 m d k x) <<< 1)
 | 0,x=>by simp [Z2]
 | k + 1,x=>by
  conv=>lhs; unfold Z2
  conv=>rhs; unfold Z2
  have e : (x <<< 1).testBit (d + (k + 1)) = x.testBit (d + k):=by
   rw [Nat.testBit_shiftLeft]
   have : d + (k + 1) ≥ 1:=by omega
   simp only [this,decide_true,Bool.true_and]
   congr 1
  rw [e]
  cases x.testBit (d + k) with
  | false=>simp only [Bool.false_eq_true,if_false]; exact VE m d k x
  | true =>
   simp only [if_true]
   have e2 : x <<< 1 ^^^ m <<< (k + 1) = (x ^^^ m <<< k) <<< 1:=by
    rw [Nat.shiftLeft_xor_distrib,← Nat.shiftLeft_add]
   rw [e2]
   exact VE m d k _

def VM (n : Nat) : Nat:=if n = 0 then 0 else n.log2 + 1
theorem J9 (n : Nat) (h : 0 < n) : VM n = VM (n / 2) + 1:=by
 unfold VM
 rw [if_neg (by omega)]
 by_cases h2 : n / 2 = 0
 ·have : n = 1:=by omega
  subst this; rfl
 ·rw [if_neg h2]
  conv=>lhs; rw [Nat.log2_def]
  rw [if_pos (by omega)]
theorem Qn {n p : Nat} (h1 : 2 ^ p ≤ n) (h2 : n < 2 ^ (p + 1)) : VM n = p + 1:=by
 have h0 : n ≠ 0:=by have:=Nat.two_pow_pos p; omega
 unfold VM
 rw [if_neg h0,(Nat.log2_eq_iff h0).2 ⟨h1,h2⟩]
theorem Bc {n p : Nat} (h : n < 2 ^ p) : VM n ≤ p:=by
 unfold VM
 split
 ·omega
 ·rename_i h0
  have:=(Nat.log2_lt h0).2 h
  omega
theorem Uv (n : Nat) (h : n < 9223372036854775808) : YC (n : Int) = some ((VM n : Nat) : Int):=by
 have key : ∀ (f n c : Nat),n < 2 ^ f → f ≤ 63 → c + f ≤ 1000 → ZD Yc ((n : Int),(c : Int)) = some ((c + VM n : Nat) : Int):=by
  intro f
  induction f with
  | zero =>
   intro n c hn _ _
   have : n = 0:=by simpa using hn
   subst this
   rw [YW (t:=(c : Int))]
   ·simp [VM]
   ·unfold Yc; simp
  | succ f ih =>
   intro n c hn hf hc
   by_cases h0 : n = 0
   ·subst h0
    rw [YW (t:=(c : Int))]
    ·simp [VM]
    ·unfold Yc; simp
   ·have hp : 0 < n:=by omega
    have hlt : n < 9223372036854775808:=Nat.lt_of_lt_of_le hn (Nat.pow_le_pow_right (by omega : 0 < 2) hf)
    have hst : Yc ((n : Int),(c : Int)) = some (.nx (((n / 2 : Nat) : Int),((c + 1 : Nat) : Int))):=by
     unfold Yc
     have : (n : Int) > 0:=by omega
     simp only [this,decide_true,if_true,HS]
     rw [K3 _ (by omega),XU (by omega)]
    rw [Wc hst,ih (n / 2) (c + 1) (by rw [Nat.pow_succ] at hn; omega) (by omega) (by omega),J9 n hp]
    congr 2; omega
 unfold YC
 have:=key 63 n 0 h (by omega) (by omega)
 have h2 : ZD Yc ((n : Int),0) = _:=this
 rw [h2]
 simp
theorem Hk (a b d k : Nat) (hd : d ≤ 20) (hk : k ≤ 20) (h1 : 2 ^ d ≤ b) (h2 : b < 2 ^ (d + 1)) (ha : a < 2 ^ (d + k)) : Wv (a : Int) (b : Int) = some ((Z2 b d k a : Nat) : Int):=by
 have big : ∀ n,n ≤ 62 → ∀ x : Nat,x < 2 ^ n → x < 9223372036854775808:=fun n hn x hx=>Nat.lt_of_lt_of_le hx (Nat.pow_le_pow_right (by omega : 0 < 2) (by omega : n ≤ 63))
 have key : ∀ (k a : Nat),k ≤ 20 → a < 2 ^ (d + k) → ZD (Xp (b : Int) ((d + 1 : Nat) : Int)) ((a : Int),((VM a : Nat) : Int)) = some ((Z2 b d k a : Nat) : Int):=by
  intro k
  induction k with
  | zero =>
   intro a _ ha
   have hl:=Bc (p:=d) ha
   rw [YW (t:=(a : Int))]
   ·rfl
   ·unfold Xp
    have : ¬ (((VM a : Nat) : Int) ≥ ((d + 1 : Nat) : Int)):=by omega
    simp only [this,decide_false,Bool.false_eq_true,if_false]
  | succ k ih =>
   intro a hk ha
   cases hb : a.testBit (d + k) with
   | false =>
    have ha':=TM (by rwa [show d + k + 1 = d + (k + 1) by omega]) hb
    rw [ih a (by omega) ha',TK ha']
   | true =>
    have hge : 2 ^ (d + k) ≤ a:=Nat.ge_two_pow_of_testBit hb
    have hl : VM a = d + k + 1:=Qn hge (by rwa [show d + k + 1 = d + (k + 1) by omega])
    have hx:=JW h1 h2 ha hb
    have hshl : b <<< k < 2 ^ (d + 1 + k):=V7 h2
    have hst : Xp (b : Int) ((d + 1 : Nat) : Int) ((a : Int),((VM a : Nat) : Int)) = some (.nx (((a ^^^ b <<< k : Nat) : Int),((VM (a ^^^ b <<< k) : Nat) : Int))):=by
     unfold Xp
     have c1 : ((VM a : Nat) : Int) ≥ ((d + 1 : Nat) : Int):=by rw [hl]; omega
     have c2 : IntKind.u64.wrap (wr (((VM a : Nat) : Int) - ((d + 1 : Nat) : Int))) = ((k : Nat) : Int):=by
      rw [hl,show ((d + k + 1 : Nat) : Int) - ((d + 1 : Nat) : Int) = ((k : Nat) : Int) by omega,K3 _ (by omega),wru_nn _ (by omega)]
     simp only [c1,decide_true,if_true,c2]
     have c3 : XC ((k : Nat) : Int) = some ():=by unfold XC; rw [if_pos (by omega)]
     rw [c3,Up b k (by omega) (big _ (by omega) _ hshl),Ui a _ (big _ (by omega) _ ha) (big _ (by omega) _ hshl)]
     simp only [Option.bind_some]
     rw [Uv _ (big _ (by omega) _ hx)]
     rfl
    rw [Wc hst,ih _ (by omega) hx]
    conv=>rhs; unfold Z2
    rw [hb]; rfl
 unfold Wv
 rw [Uv b (big _ (by omega) _ h2),Uv a (big _ (by omega) _ ha)]
 simp only [Option.bind_some]
 rw [Qn h1 h2,key k a hk ha]
 rfl
theorem HP (a m d : Nat) (hd : d ≤ 15) (ha : a < 2 ^ 16) (hm : m < 2 ^ 20) : Wg (a : Int) (m : Int) (d : Int) = some ((Z2 m d (16 - d) a : Nat) : Int):=by
 have key : ∀ (k a : Nat),d + k ≤ 16 → a < 2 ^ 40 → ZD (WA (m : Int) (d : Int)) ((a : Int),((d + k : Nat) : Int) - 1) = some ((Z2 m d k a : Nat) : Int):=by
  intro k
  induction k with
  | zero =>
   intro a _ _
   rw [YW (t:=(a : Int))]
   ·rfl
   ·unfold WA
    have : ¬ (((d + 0 : Nat) : Int) - 1 ≥ (d : Int)):=by omega
    simp only [this,decide_false,Bool.false_eq_true,if_false]
  | succ k ih =>
   intro a hk ha
   have e0 : ((d + (k + 1) : Nat) : Int) - 1 = ((d + k : Nat) : Int):=by omega
   have hsh : m <<< k < 2 ^ (20 + k):=V7 hm
   have hsh2 : m <<< k < 2 ^ 40:=Nat.lt_of_lt_of_le hsh (Nat.pow_le_pow_right (by omega) (by omega))
   have hst : WA (m : Int) (d : Int) ((a : Int),((d + (k + 1) : Nat) : Int) - 1) = some (.nx (((if a.testBit (d + k) then a ^^^ (m <<< k) else a : Nat) : Int),((d + k : Nat) : Int) - 1)):=by
    rw [e0]
    unfold WA
    have c1 : ((d + k : Nat) : Int) ≥ (d : Int):=by omega
    have c2 : XC ((d + k : Nat) : Int) = some ():=by unfold XC; rw [if_pos (by omega)]
    have c3 : wr (((d + k : Nat) : Int) - (d : Int)) = ((k : Nat) : Int):=by rw [show ((d + k : Nat) : Int) - (d : Int) = ((k : Nat) : Int) by omega,K3 _ (by omega)]
    have c4 : XC ((k : Nat) : Int) = some ():=by unfold XC; rw [if_pos (by omega)]
    have c5 : wr (((d + k : Nat) : Int) - 1) = ((d + k : Nat) : Int) - 1:=XO (by omega)
    simp only [c1,decide_true,if_true,c2,c3,c4,c5,Option.bind_some]
    have c6 : andI (TL (a : Int) ((d + k : Nat) : Int)) 1 = (((a >>> (d + k)) &&& 1 : Nat) : Int):=by
     rw [KR a (d + k) (by omega)]
     exact H1 _ 1 (Nat.lt_of_le_of_lt (Nat.shiftRight_le _ _) (by omega)) (by omega)
    rw [c6,Up m k (by omega) (by omega),Ui a _ (by omega) (by omega)]
    cases hb : a.testBit (d + k) with
    | true =>
     have:=(Ks a (d + k)).2 hb
     rw [this]; rfl
    | false =>
     have : ¬ ((a >>> (d + k)) &&& 1 = 1):=fun h=>by rw [(Ks a (d + k)).1 h] at hb; cases hb
     have h2 : (((((a >>> (d + k)) &&& 1 : Nat) : Int)) == 1) = false:=by
      rw [beq_eq_false_iff_ne]; omega
     rw [h2]; rfl
   rw [Wc hst,ih _ (by omega) ?_]
   ·conv=>rhs; unfold Z2
   ·split
    ·exact Nat.xor_lt_two_pow ha hsh2
    ·exact ha
 unfold Wg
 have:=key (16 - d) a (by omega) (by omega)
 rw [show ((d + (16 - d) : Nat) : Int) - 1 = 15 by omega] at this
 rw [this]; rfl

def U8 : Nat → Nat → Nat → Nat
 | 0,_,_=>0
 | n + 1,a,b=>(if b % 2 = 1 then a else 0) ^^^ U8 n (a <<< 1) (b / 2)
theorem TB : ∀ (n a : Nat),U8 n a 0 = 0
 | 0,_=>rfl
 | n + 1,a=>by simp [U8,TB n]
theorem JZ : ∀ (n a b p : Nat),a < 2 ^ p → U8 n a b < 2 ^ (p + n)
 | 0,_,_,_,_=>by simp [U8]; exact Nat.two_pow_pos _
 | n + 1,a,b,p,h=>by
  unfold U8
  have h1 : a <<< 1 < 2 ^ (p + 1):=V7 h
  have h2:=JZ n (a <<< 1) (b / 2) (p + 1) h1
  rw [show p + 1 + n = p + (n + 1) by omega] at h2
  refine Nat.xor_lt_two_pow ?_ h2
  have h3 : 2 ^ p ≤ 2 ^ (p + (n + 1)):=Nat.pow_le_pow_right (by omega) (by omega)
  have h4:=Nat.two_pow_pos (p + (n + 1))
  split <;> omega
def prC : Nat → Nat → Nat → Nat
 | 0,_,_=>0
 | i + 1,a,b=>prC i a b ^^^ (if b.testBit i then a <<< i else 0)
theorem K9 : ∀ (n a b : Nat),prC (n + 1) a b = (if b % 2 = 1 then a else 0) ^^^ prC n (a <<< 1) (b / 2)
 | 0,a,b=>by
  simp only [prC,Nat.zero_xor,Nat.xor_zero,Nat.shiftLeft_zero]
  have : b.testBit 0 = decide (b % 2 = 1):=by simp [Nat.testBit_zero]
  rw [this]; simp
 | n + 1,a,b=>by
  conv=>lhs; unfold prC
  rw [K9 n a b]
  conv=>rhs; unfold prC
  rw [← Nat.xor_assoc]
  congr 1
  rw [Nat.testBit_succ,← Nat.shiftLeft_add,Nat.add_comm 1 n]
theorem HR : ∀ (n a b : Nat),prC n a b = U8 n a b
 | 0,_,_=>rfl
 | n + 1,a,b=>by rw [K9,HR n]; rfl
theorem Js (a b : Nat) (h : a < 256) : ∀ i,i ≤ 8 → prC i a b < 2 ^ 16
 | 0,_=>by simp [prC]
 | i + 1,hi=>by
  unfold prC
  have h1 : a <<< i < 2 ^ (8 + i):=V7 h
  have h2 : 2 ^ (8 + i) ≤ 2 ^ 16:=Nat.pow_le_pow_right (by omega) (by omega)
  refine Nat.xor_lt_two_pow (Js a b h i (by omega)) ?_
  split
  ·omega
  ·omega
def ZJ (m : Nat) (a b : UInt8) : UInt8:=ZO ((Z2 m 8 8 (U8 8 a.toNat b.toNat) : Nat) : Int)
theorem WJ (m : Nat) (hm : m < 512) (a b : UInt8) : ZN (m : Int) a b = some (ZJ m a b):=by
 have ha : a.toNat < 256:=a.toNat_lt
 have hb : b.toNat < 256:=b.toNat_lt
 have h:=Ya (f:=Ym a b) (fun i : Nat=>(((prC i a.toNat b.toNat : Nat) : Int),(i : Int))) 0 8 (Nat.zero_le _) (t:=((prC 8 a.toNat b.toNat : Nat) : Int)) (fun i _ hi=>by
  unfold Ym
  have c1 : ((i : Int) < 8):=by omega
  have c2 : XC (i : Int) = some ():=by unfold XC; rw [if_pos (by omega)]
  have c3 : prC i a.toNat b.toNat < 2 ^ 16:=Js _ _ ha i (by omega)
  have c4 : a.toNat <<< i < 2 ^ (8 + i):=V7 ha
  have c5 : 2 ^ (8 + i) ≤ 2 ^ 16:=Nat.pow_le_pow_right (by omega) (by omega)
  have c6 : (((K4 b (i : Int)) &&& 1) == 1) = b.toNat.testBit i:=by
   have e1 : (K4 b (i : Int)).toNat = b.toNat >>> i:=by
    unfold K4 ZO
    rw [show min ((i : Int)).toNat 8 = i by omega,Int.fdiv_eq_ediv_of_nonneg _ (by exact_mod_cast Nat.zero_le _)]
    have : ((b.toNat : Int) / 2 ^ i) = ((b.toNat >>> i : Nat) : Int):=by rw [Nat.shiftRight_eq_div_pow]; simp
    rw [this]
    have h3 : b.toNat >>> i ≤ b.toNat:=Nat.shiftRight_le _ _
    generalize b.toNat >>> i = q at h3 ⊢
    have h4 : (((q : Nat) : Int) % 256).toNat = q:=by omega
    rw [h4]
    simp
    omega
   rw [Bool.eq_iff_iff,beq_iff_eq,← Ks,← UInt8.toNat_inj,UInt8.toNat_and,e1]
   simp
  simp only [c1,decide_true,if_true,c2,Option.bind_some,c6,XU (show i < 9223372036854775807 by omega)]
  rw [Up _ i (by omega) (by omega),Ui _ _ (by omega) (by omega)]
  cases hbit : b.toNat.testBit i with
  | true=>simp [prC,hbit]
  | false=>simp [prC,hbit]) (by unfold Ym; simp)
 have h2 : ZD (Ym a b) (0,0) = _:=h
 unfold ZN
 rw [h2]
 simp only [Option.bind_some]
 have h3:=HP (prC 8 a.toNat b.toNat) m 8 (by omega) (Js _ _ ha 8 (by omega)) (by omega)
 have h4 : Wg ((prC 8 a.toNat b.toNat : Nat) : Int) (m : Int) 8 = _:=h3
 rw [h4,HR]
 rfl
theorem VB (m : Nat) (hm : m < 512) (hm2 : 256 ≤ m) (a b : UInt8) : ZW (m : Int) a b = some (ZJ m a b):=by
 have ha : a.toNat < 256:=a.toNat_lt
 have hb : b.toNat < 256:=b.toNat_lt
 have h1 : 2 ^ 8 ≤ m:=hm2
 have h2 : m < 2 ^ (8 + 1):=hm
 have hR : ∀ i,i ≤ 8 → Z2 m 8 8 (a.toNat <<< i) < 256:=fun i hi=>Td h1 h2 8 _ (by
  have:=V7 (k:=i) (show a.toNat < 2 ^ 8 from ha)
  exact Nat.lt_of_lt_of_le this (Nat.pow_le_pow_right (by omega) (by omega)))
 have hdbl : ∀ i,i ≤ 7 → Z2 m 8 8 (a.toNat <<< (i + 1)) = if 256 ≤ (Z2 m 8 8 (a.toNat <<< i)) * 2 then (Z2 m 8 8 (a.toNat <<< i)) * 2 ^^^ m else (Z2 m 8 8 (a.toNat <<< i)) * 2:=by
  intro i hi
  have hx : a.toNat <<< i < 2 ^ (8 + 7):=Nat.lt_of_lt_of_le (V7 (show a.toNat < 2 ^ 8 from ha)) (Nat.pow_le_pow_right (by omega) (by omega))
  have e : a.toNat <<< (i + 1) = (a.toNat <<< i) <<< 1:=by rw [← Nat.shiftLeft_add]
  rw [e,VE m 8 7,← TK hx]
  have hlt:=hR i (by omega)
  generalize Z2 m 8 8 (a.toNat <<< i) = y at hlt ⊢
  have e2 : y <<< 1 = y * 2:=by rw [Nat.shiftLeft_eq]
  rw [e2]
  have e3 : (y * 2).testBit 8 = decide (256 ≤ y * 2):=by
   by_cases hy : 256 ≤ y * 2
   ·rw [J4 (d:=8) hy (by omega)]; simp [hy]
   ·rw [Nat.testBit_lt_two_pow (by omega : y * 2 < 2 ^ 8)]; simp [hy]
  rw [e3]
  by_cases hy : 256 ≤ y * 2 <;> simp [hy]
 have key : ∀ (n i o r : Nat),i + n ≤ 8 → r < 2 ^ n → o < 256 → ZD (Ye (m : Int)) ((o : Int),((Z2 m 8 8 (a.toNat <<< i) : Nat) : Int),(r : Int)) = some ((o ^^^ Z2 m 8 8 (U8 n (a.toNat <<< i) r) : Nat) : Int):=by
  intro n
  induction n with
  | zero =>
   intro i o r _ hr ho
   have : r = 0:=by simpa using hr
   subst this
   rw [YW (t:=(o : Int))]
   ·rw [TB,Wy 8 0 (by omega),Nat.xor_zero]
   ·unfold Ye; simp
  | succ n ih =>
   intro i o r hi hr ho
   by_cases h0 : r = 0
   ·subst h0
    rw [YW (t:=(o : Int))]
    ·rw [TB,Wy 8 0 (by omega),Nat.xor_zero]
    ·unfold Ye; simp
   ·have hy:=hR i (by omega)
    have hst : Ye (m : Int) ((o : Int),((Z2 m 8 8 (a.toNat <<< i) : Nat) : Int),(r : Int)) = some (.nx (((o ^^^ Z2 m 8 8 (if r % 2 = 1 then a.toNat <<< i else 0) : Nat) : Int),((Z2 m 8 8 (a.toNat <<< (i + 1)) : Nat) : Int),((r / 2 : Nat) : Int))):=by
     rw [hdbl i (by omega)]
     unfold Ye
     have c1 : (r : Int) > 0:=by omega
     have hr2 : r < 512:=Nat.lt_of_lt_of_le hr (Nat.le_trans (Nat.pow_le_pow_right (by omega) (by omega : n + 1 ≤ 9)) (by omega))
     simp only [c1,decide_true,if_true,tmod2,HS]
     have e1 : wr (((Z2 m 8 8 (a.toNat <<< i) : Nat) : Int) * 2) = (((Z2 m 8 8 (a.toNat <<< i)) * 2 : Nat) : Int):=by rw [XO (by omega)]; omega
     have e2 : wr ((r / 2 : Nat) : Int) = ((r / 2 : Nat) : Int):=K3 _ (by omega)
     rw [e1,e2,Ui _ _ (by omega) (by omega),Ui _ _ (by omega) (by omega)]
     have e3 : ((((r % 2 : Nat) : Int)) == 1) = decide (r % 2 = 1):=by
      rw [Bool.eq_iff_iff,beq_iff_eq,decide_eq_true_eq]; omega
     rw [e3]
     have e4 : decide ((((Z2 m 8 8 (a.toNat <<< i)) * 2 : Nat) : Int) ≥ 256) = decide (256 ≤ (Z2 m 8 8 (a.toNat <<< i)) * 2):=by rw [decide_eq_decide]; omega
     rw [e4]
     have e5 : Z2 m 8 8 0 = 0:=Wy 8 0 (by omega)
     by_cases c2 : r % 2 = 1 <;> by_cases c3 : 256 ≤ (Z2 m 8 8 (a.toNat <<< i)) * 2 <;> simp only [c2,c3,decide_true,decide_false,Bool.false_eq_true,if_true,if_false,Option.bind_some,e5,Nat.xor_zero]
    rw [Wc hst,ih (i + 1) _ (r / 2) (by omega) (by rw [Nat.pow_succ] at hr; omega) ?_]
    ·conv=>rhs; unfold U8
     rw [Vt,Nat.xor_assoc,Nat.shiftLeft_add]
    ·refine Nat.xor_lt_two_pow (n:=8) ho ?_
     split
     ·exact hR i (by omega)
     ·rw [Wy 8 0 (by omega)]; omega
 have:=key 8 0 0 b.toNat (by omega) hb (by omega)
 rw [Nat.shiftLeft_zero,Wy 8 a.toNat ha,Nat.zero_xor] at this
 have h3 : ZD (Ye (m : Int)) (0,bI a,bI b) = _:=this
 unfold ZW
 rw [h3]
 rfl

def Jg (m : Nat) : Nat → UInt8 → Nat → UInt8 → UInt8
 | 0,_,_,o=>o
 | f + 1,a,k,o=>if k = 0 then o else Jg m f (ZJ m a a) (k / 2) (if k % 2 = 1 then ZJ m o a else o)
theorem Jk (m : Nat) (L : UInt8 × Int × UInt8 → Option (Fl (UInt8 × Int × UInt8) UInt8)) (T : UInt8 → UInt8 → Option UInt8) (hT : ∀ a b,T a b = some (ZJ m a b))
  (hL : ∀ s,L s = if (decide (s.2.1 > 0)) = true then (((if ((Int.tmod s.2.1 2) == 1) = true then ((T s.2.2 s.1).bind fun r=>some r) else (some s.2.2) : Option UInt8).bind fun j12=>(T s.1 s.1).bind fun r20=>some (r20,j12) : Option (UInt8 × UInt8)).bind fun j9=>some (Fl.nx (j9.1,wr (Int.tdiv s.2.1 2),j9.2))) else (some (Fl.ex s.2.2))) :
  ∀ (f k : Nat) (a o : UInt8),k < 2 ^ f → f ≤ 62 → ZD L (a,(k : Int),o) = some (Jg m f a k o):=by
 intro f
 induction f with
 | zero =>
  intro k a o hk _
  have : k = 0:=by simpa using hk
  subst this
  exact YW (by rw [hL]; simp [Jg])
 | succ f ih =>
  intro k a o hk hf
  by_cases h0 : k = 0
  ·subst h0
   exact YW (by rw [hL]; simp [Jg])
  ·have hlt : k < 9223372036854775808:=Nat.lt_of_lt_of_le hk (Nat.pow_le_pow_right (by omega : 0 < 2) (by omega : f + 1 ≤ 63))
   have hst : L (a,(k : Int),o) = some (.nx (ZJ m a a,((k / 2 : Nat) : Int),if k % 2 = 1 then ZJ m o a else o)):=by
    rw [hL]
    have c1 : (k : Int) > 0:=by omega
    have e3 : ((((k % 2 : Nat) : Int)) == 1) = decide (k % 2 = 1):=by
     rw [Bool.eq_iff_iff,beq_iff_eq,decide_eq_true_eq]; omega
    simp only [c1,decide_true,if_true,tmod2,HS,hT,e3,Option.bind_some,K3 (k / 2) (by omega)]
    by_cases c2 : k % 2 = 1 <;> simp [c2]
   rw [Wc hst,ih (k / 2) _ _ (by rw [Nat.pow_succ] at hk; omega) (by omega)]
   conv=>rhs; unfold Jg
   rw [if_neg h0]
theorem Q7 (m : Nat) (hm : m < 512) (a : UInt8) (k f : Nat) (hk : k < 2 ^ f) (hf : f ≤ 62) : YD (m : Int) a (k : Int) = some (Jg m f a k 1):=by
 unfold YD
 rw [Jk m (XG (m : Int)) _ (WJ m hm) (fun s=>by unfold XG; rfl) f k a 1 hk hf]; rfl
theorem JV (m : Nat) (hm : m < 512) (hm2 : 256 ≤ m) (a : UInt8) (k f : Nat) (hk : k < 2 ^ f) (hf : f ≤ 62) : Xo (m : Int) a (k : Int) = some (Jg m f a k 1):=by
 unfold Xo
 rw [Jk m (Ww (m : Int)) _ (VB m hm hm2) (fun s=>by unfold Ww; rfl) f k a 1 hk hf]; rfl
def invC (m : Nat) (a : UInt8) : UInt8:=Jg m 8 a 254 1
theorem Qe (m : Nat) (hm : m < 512) (a : UInt8) : YN (m : Int) a = some (invC m a):=by
 unfold YN
 have:=Q7 m hm a 254 8 (by omega) (by omega)
 have h2 : YD (m : Int) a 254 = _:=this
 rw [h2]; rfl
theorem HF (m : Nat) (hm : m < 512) (hm2 : 256 ≤ m) (a : UInt8) : WL (m : Int) a = some (invC m a):=by
 unfold WL
 have:=JV m hm hm2 a 254 8 (by omega) (by omega)
 have h2 : Xo (m : Int) a 254 = _:=this
 rw [h2]; rfl

def Qm (m d : Nat) : Bool:=Z2 d (VM d - 1) (16 - (VM d - 1)) m == 0
def WW (m : Int) : Bool:=decide (256 ≤ m ∧ m ≤ 511) && !((List.range' 2 30).any (Qm m.toNat))
theorem JC (m : Int) : X5 m = some (WW m):=by
 unfold X5 WW
 rw [Kr]
 by_cases hm : 256 ≤ m ∧ m ≤ 511
 ·obtain ⟨n,rfl⟩:=Int.eq_ofNat_of_zero_le (show 0 ≤ m by omega)
  have hn : n < 512:=by omega
  have h:=TA (f:=Y7 (n : Int)) 32 (Qm n) false (by omega) 2 (by omega) (fun d h2 hd=>by
   unfold Y7
   have c1 : (d : Int) < 32:=by omega
   have hp : ∃ p,p ≤ 4 ∧ 2 ^ p ≤ d ∧ d < 2 ^ (p + 1):=by
    refine ⟨d.log2,?_,Nat.log2_self_le (by omega),Nat.lt_log2_self⟩
    have:=(Nat.log2_lt (n:=d) (by omega)).2 (show d < 2 ^ 5 by omega)
    omega
   obtain ⟨p,h3,h4,h5⟩:=hp
   have hl:=Qn h4 h5
   rw [Hk n d p (16 - p) (by omega) (by omega) h4 h5 (by rw [show p + (16 - p) = 16 by omega]; omega)]
   simp only [c1,decide_true,if_true,Option.bind_some]
   unfold Qm
   rw [hl,show p + 1 - 1 = p by omega]
   generalize Z2 d p (16 - p) n = q
   have : ((((q : Nat) : Int)) == 0) = (q == 0):=by rw [Bool.eq_iff_iff,beq_iff_eq,beq_iff_eq]; omega
   rw [this]
   cases q == 0 <;> simp) (by unfold Y7; simp)
  have h2 : ZD (Y7 (n : Int)) 2 = _:=h
  rw [h2]
  simp only [hm,decide_true,and_self,Bool.not_true,Bool.false_eq_true,if_false,Option.bind_some,Bool.true_and,Int.toNat_natCast]
  cases (List.range' 2 30).any (Qm n) <;> rfl
 ·simp [hm]
theorem Hb (m : Int) : Wj m = some (WW m):=by
 unfold Wj WW
 rw [Ts]
 by_cases hm : 256 ≤ m ∧ m ≤ 511
 ·obtain ⟨n,rfl⟩:=Int.eq_ofNat_of_zero_le (show 0 ≤ m by omega)
  have hn : n < 512:=by omega
  have inner : ∀ p : Nat,p ≤ 4 → ZD (Xu (n : Int) (p : Int)) ((2 ^ p : Nat) : Int) = some (if (List.range' (2 ^ p) (2 ^ p)).any (Qm n) then Fl.ex false else Fl.nx ()):=by
   intro p hp
   have c2 : XC (p : Int) = some ():=by unfold XC; rw [if_pos (by omega)]
   have hpow : 2 ^ p ≤ 2 ^ 4:=Nat.pow_le_pow_right (by omega) hp
   have hpp:=Nat.two_pow_pos p
   have c3 : TN 2 (p : Int) = ((2 ^ (p + 1) : Nat) : Int):=by
    have:=Up 2 p (by omega) (by rw [Nat.shiftLeft_eq]; omega)
    rw [Nat.shiftLeft_eq] at this
    rw [show (2 : Int) = ((2 : Nat) : Int) from rfl,this,Nat.pow_succ,Nat.mul_comm]
   have h:=TA (f:=Xu (n : Int) (p : Int)) (2 ^ (p + 1)) (Qm n) false (by rw [Nat.pow_succ]; omega) (2 ^ p) (by rw [Nat.pow_succ]; omega) (fun d h4 h5=>by
    unfold Xu
    have c1 : (d : Int) < ((2 ^ (p + 1) : Nat) : Int):=by omega
    have hd : d < 32:=by rw [Nat.pow_succ] at h5; omega
    have hl:=Qn h4 h5
    rw [c2,c3,HP n d p (by omega) (by omega) (by omega)]
    simp only [c1,decide_true,if_true,Option.bind_some]
    unfold Qm
    rw [hl,show p + 1 - 1 = p by omega]
    generalize Z2 d p (16 - p) n = q
    have : ((((q : Nat) : Int)) == 0) = (q == 0):=by rw [Bool.eq_iff_iff,beq_iff_eq,beq_iff_eq]; omega
    rw [this]
    cases q == 0 <;> simp) (by
     unfold Xu
     rw [c2,c3]; simp)
   rw [show 2 ^ (p + 1) - 2 ^ p = 2 ^ p by rw [Nat.pow_succ]; omega] at h
   exact h
  have h:=TA (f:=Xs (n : Int)) 5 (fun p=>(List.range' (2 ^ p) (2 ^ p)).any (Qm n)) false (by omega) 1 (by omega) (fun p _ hp=>by
   unfold Xs
   have c1 : (p : Int) ≤ 4:=by omega
   have c2 : XC (p : Int) = some ():=by unfold XC; rw [if_pos (by omega)]
   have c3 : TN 1 (p : Int) = ((2 ^ p : Nat) : Int):=by
    have hpow : 2 ^ p ≤ 2 ^ 4:=Nat.pow_le_pow_right (by omega) (by omega)
    have:=Up 1 p (by omega) (by rw [Nat.shiftLeft_eq]; omega)
    rw [Nat.shiftLeft_eq,Nat.one_mul] at this
    exact this
   rw [c2,c3,inner p (by omega)]
   simp only [c1,decide_true,if_true,Option.bind_some]
   cases (List.range' (2 ^ p) (2 ^ p)).any (Qm n) <;> rfl) (by unfold Xs; simp)
  have h2 : ZD (Xs (n : Int)) 1 = _:=h
  rw [h2]
  have e : ((List.range' 1 (5 - 1)).any fun p=>(List.range' (2 ^ p) (2 ^ p)).any (Qm n)) = (List.range' 2 30).any (Qm n):=by
   have e1 : List.range' 2 30 = List.range' 2 2 ++ (List.range' 4 4 ++ (List.range' 8 8 ++ List.range' 16 16)):=by decide
   have e2 : List.range' 1 (5 - 1) = [1,2,3,4]:=by decide
   rw [e1,e2]
   simp only [List.any_append,List.any_cons,List.any_nil,Bool.or_false,Nat.reducePow]
  rw [e]
  simp only [hm,decide_true,and_self,Bool.not_true,Bool.false_eq_true,if_false,Option.bind_some,Bool.true_and,Int.toNat_natCast]
  cases (List.range' 2 30).any (Qm n) <;> rfl
 ·simp [hm]
theorem Un {m : Int} (h : WW m = true) : ∃ n : Nat,m = n ∧ 256 ≤ n ∧ n < 512:=by
 unfold WW at h
 simp only [Bool.and_eq_true,decide_eq_true_eq] at h
 exact ⟨m.toNat,by omega,by omega,by omega⟩
def Vi (l : List UInt8) : Bool:=decide l.Nodup
theorem Kd (l : List UInt8) : ((List.range' 0 (l.length - 0)).any fun i=>(List.range' 0 (i - 0)).any fun k=>l[i]? == l[k]?) = !Vi l:=by
 rw [Bool.eq_iff_iff,X7]
 rw [Vi,Bool.not_eq_true',decide_eq_false_iff_not]
 unfold List.Nodup
 rw [List.pairwise_iff_getElem]
 simp only [X7,beq_iff_eq]
 constructor
 ·rintro ⟨i,_,hi,k,_,hk,h⟩ hn
  have hk' : k < l.length:=by omega
  rw [List.getElem?_eq_getElem hi,List.getElem?_eq_getElem hk'] at h
  exact hn k i hk' hi hk (by simpa using h.symm)
 ·intro h
  simp only [Classical.not_forall,ne_eq,Decidable.not_not] at h
  obtain ⟨k,i,hk,hi,hki,h⟩:=h
  exact ⟨i,Nat.zero_le _,hi,k,Nat.zero_le _,hki,by rw [List.getElem?_eq_getElem hi,List.getElem?_eq_getElem hk,h]⟩
theorem Q9 (l : List UInt8) (c : UInt8) : decide (indexByte l c ≥ 0) = l.contains c:=by
 induction l with
 | nil=>rfl
 | cons b l ih =>
  have hge:=Lib.indexByte_ge l c
  show decide (Lib.indexByte (b :: l) c ≥ 0) = _
  unfold Lib.indexByte
  rw [List.contains_cons,← ih]
  by_cases hb : b = c
  ·subst hb; simp
  ·have hb' : (c == b) = false:=by simpa using fun h=>hb h.symm
   simp only [beq_eq_false_iff_ne.2 hb,hb',Bool.false_eq_true,if_false,Bool.false_or]
   rw [decide_eq_decide]
   show _ ↔ Lib.indexByte l c ≥ 0
   by_cases h1 : Lib.indexByte l c = -1
   ·simp [h1]
   ·rw [if_neg (by simpa using h1)]; omega
theorem Qy (l : List UInt8) (h : l.length < 9223372036854775807) : YV l = some (Vi l):=by
 unfold YV
 have:=KY (f:=Yf l) l.length (fun i=>(l.take i).any fun x=>l[i]? == some x) false h (fun i hi=>by
  unfold Yf
  have e1 : slc l (0 : Int) (i : Int) = some (l.take i):=by have:=KK (l:=l) (i:=0) (j:=i) (Nat.zero_le _) (by omega); simpa using this
  simp only [Int.ofNat_lt,hi,decide_true,if_true,Vf,List.getElem?_eq_getElem hi,Option.bind_some,e1]
  unfold Wb
  simp only [Option.bind_some,Q9]
  have e2 : (l.take i).contains l[i] = (l.take i).any fun x=>some l[i] == some x:=by
   rw [Bool.eq_iff_iff]; simp [List.any_eq_true]
  rw [e2]
  split <;> rfl) (by unfold Yf; simp) 0 (Nat.zero_le _)
 have h3 : ZD (Yf l) 0 = _:=this
 have key : ((List.range' 0 (l.length - 0)).any fun i=>(l.take i).any fun x=>l[i]? == some x) = !Vi l:=by
  rw [← Kd,Bool.eq_iff_iff,X7,X7]
  refine exists_congr fun i=>and_congr_right fun _=>and_congr_right fun hi=>?_
  rw [X7,List.any_eq_true]
  constructor
  ·rintro ⟨x,hx,h⟩
   obtain ⟨k,hk,rfl⟩:=List.mem_iff_getElem.1 hx
   have hk2 : k < i ∧ k < l.length:=by simp at hk; omega
   exact ⟨k,Nat.zero_le _,hk2.1,by rw [List.getElem?_eq_getElem hk2.2]; simpa using h⟩
  ·rintro ⟨k,_,hk,h⟩
   have hkl : k < l.length:=by omega
   refine ⟨l[k],List.mem_iff_getElem.2 ⟨k,by simp; omega,by simp⟩,?_⟩
   rw [List.getElem?_eq_getElem hkl] at h; exact h
 rw [h3,key]
 cases Vi l <;> simp [Fl.el]
def dbl (m y : Nat) : Nat:=if (y <<< 1).testBit 8 then (y <<< 1) ^^^ m else y <<< 1
theorem KZ (a b c d : Nat) : (a ^^^ b) ^^^ (c ^^^ d) = (a ^^^ c) ^^^ (b ^^^ d):=by
 rw [Nat.xor_assoc,Nat.xor_assoc,← Nat.xor_assoc b,← Nat.xor_assoc c,Nat.xor_comm b c]
theorem JX (m x y : Nat) : dbl m (x ^^^ y) = dbl m x ^^^ dbl m y:=by
 unfold dbl
 rw [Nat.shiftLeft_xor_distrib,Nat.testBit_xor]
 cases (x <<< 1).testBit 8 <;> cases (y <<< 1).testBit 8 <;> simp only [Bool.xor_false,Bool.false_xor,Bool.xor_self,Bool.xor_true,Bool.not_false,Bool.not_true,Bool.false_eq_true,if_true,if_false]
 ·rw [Nat.xor_assoc]
 ·rw [Nat.xor_assoc,Nat.xor_assoc,Nat.xor_comm m]
 ·rw [KZ,Nat.xor_self,Nat.xor_zero]
theorem QC (m : Nat) : dbl m 0 = 0:=by simp [dbl]
def opP (m : Nat) : Nat → Nat → Nat → Nat
 | 0,_,_=>0
 | n + 1,b,x=>(if b % 2 = 1 then x else 0) ^^^ opP m n (b / 2) (dbl m x)
theorem Jb (m n b x : Nat) : opP m (n + 1) b x = (if b % 2 = 1 then x else 0) ^^^ opP m n (b / 2) (dbl m x):=rfl
theorem Kt (m : Nat) : ∀ (n b x y : Nat),opP m n b (x ^^^ y) = opP m n b x ^^^ opP m n b y
 | 0,_,_,_=>by simp [opP]
 | n + 1,b,x,y=>by
  unfold opP
  rw [JX,Kt m n,KZ]
  congr 1
  split <;> simp
theorem U2 (m : Nat) : ∀ (n b : Nat),opP m n b 0 = 0
 | 0,_=>rfl
 | n + 1,b=>by unfold opP; rw [QC,U2 m n]; simp
theorem JY (m : Nat) : ∀ (n b x : Nat),opP m n b (dbl m x) = dbl m (opP m n b x)
 | 0,_,_=>(QC m).symm
 | n + 1,b,x=>by
  unfold opP
  rw [JY m n,JX]
  congr 1
  split
  ·rfl
  ·exact (QC m).symm
theorem K1 (m : Nat) : ∀ (n b k c x : Nat),opP m n b (opP m k c x) = opP m k c (opP m n b x)
 | 0,_,k,c,_=>(U2 m k c).symm
 | n + 1,b,k,c,x=>by
  rw [Jb,Jb,← JY,K1 m n,Kt]
  congr 1
  split
  ·rfl
  ·exact (U2 m k c).symm
theorem He (a : Nat) : (if a % 2 = 1 then 1 else 0) ^^^ (a / 2) <<< 1 = a:=by
 rw [Nat.shiftLeft_eq]
 have h : (if a % 2 = 1 then 1 else 0) = a % 2:=by split <;> omega
 rw [h]
 apply Nat.eq_of_testBit_eq
 intro i
 rw [Nat.testBit_xor]
 cases i with
 | zero =>
  simp [Nat.testBit_zero]
 | succ i =>
  rw [Nat.testBit_succ,Nat.testBit_succ,Nat.testBit_succ]
  have h1 : a % 2 / 2 = 0:=by omega
  have h2 : a / 2 * 2 ^ 1 / 2 = a / 2:=by omega
  rw [h1,h2]; simp
theorem Bh (m i : Nat) (hi : i < 7) : dbl m (1 <<< i) = 1 <<< (i + 1):=by
 unfold dbl
 rw [← Nat.shiftLeft_add]
 have : (1 <<< (i + 1)).testBit 8 = false:=by
  apply Nat.testBit_lt_two_pow
  rw [Nat.shiftLeft_eq,Nat.one_mul]
  exact Nat.pow_lt_pow_right (by omega) (by omega)
 rw [this]; rfl
theorem KI (m : Nat) : ∀ (n i a : Nat), n + i ≤ 8 → a < 2 ^ n → opP m n a (1 <<< i) = a <<< i
  | 0, i, a, _, ha => by
    have : a = 0 := by simpa using ha
    subst this; simp [opP]
  | n + 1, i, a, hn, ha => by
    have e : a <<< i = (if a % 2 = 1 then 1 <<< i else 0) ^^^ (a / 2) <<< (i + 1) := by
      conv => lhs; rw [← He a]
      rw [Nat.shiftLeft_xor_distrib, ← Nat.shiftLeft_add, Nat.add_comm 1 i]
      congr 1
      split <;> simp
    unfold opP
    rw [e]
    congr 1
    rcases Nat.eq_zero_or_pos n with rfl | hp
    · have : a / 2 = 0 := by have : a < 2 := by simpa using ha
                             omega
      rw [this]; simp [opP]
    · rw [Bh m i (by omega)]
      exact KI m n (i + 1) (a / 2) (by omega) (by rw [Nat.pow_succ] at ha; omega)

theorem Hp (m x : Nat) (hx : x < 2 ^ 15) : Z2 m 8 8 (x <<< 1) = dbl m (Z2 m 8 8 x):=by
 rw [VE m 8 7,← TK (d:=8) (k:=7) hx]; rfl
theorem HD (m : Nat) : ∀ (n i a b : Nat),i + n ≤ 8 → a < 2 ^ 8 → Z2 m 8 8 (U8 n (a <<< i) b) = opP m n b (Z2 m 8 8 (a <<< i))
 | 0,_,_,_,_,_=>by simp [U8,opP,Wy 8 0]
 | n + 1,i,a,b,hn,ha=>by
  unfold U8 opP
  rw [Vt]
  have hx : a <<< i < 2 ^ 15:=Nat.lt_of_lt_of_le (V7 ha) (Nat.pow_le_pow_right (by omega) (by omega))
  rw [← Hp m _ hx,← Nat.shiftLeft_add,HD m n (i + 1) a (b / 2) (by omega) ha]
  congr 1
  split
  ·rfl
  ·exact Wy 8 0 (by omega)
theorem Vr (m : Nat) (h1 : 256 ≤ m) (h2 : m < 512) (a b : UInt8) : (ZJ m a b).toNat = opP m 8 b.toNat a.toNat:=by
 have ha : a.toNat < 2 ^ 8:=a.toNat_lt
 have hr : Z2 m 8 8 (U8 8 a.toNat b.toNat) < 256:=Td (d:=8) h1 h2 8 _ (JZ 8 a.toNat b.toNat 8 ha)
 have e:=HD m 8 0 a.toNat b.toNat (by omega) ha
 rw [Nat.shiftLeft_zero,Wy 8 _ ha] at e
 unfold ZJ ZO
 rw [e] at hr ⊢
 generalize opP m 8 b.toNat a.toNat = q at hr ⊢
 have : (((q : Nat) : Int) % 256).toNat = q:=by omega
 rw [this]
 simp
 omega
section
variable {m : Nat} (h1 : 256 ≤ m) (h2 : m < 512)
include h1 h2
theorem VR (a b : UInt8) : ZJ m a b = ZJ m b a:=by
 apply UInt8.toNat_inj.1
 rw [Vr m h1 h2,Vr m h1 h2]
 have ea:=KI m 8 0 a.toNat (by omega) a.toNat_lt
 have eb:=KI m 8 0 b.toNat (by omega) b.toNat_lt
 simp only [Nat.shiftLeft_zero] at ea eb
 rw [← ea,K1,eb,ea]
theorem J8 (a b c : UInt8) : ZJ m (a ^^^ b) c = ZJ m a c ^^^ ZJ m b c:=by
 apply UInt8.toNat_inj.1
 rw [UInt8.toNat_xor,Vr m h1 h2,Vr m h1 h2,Vr m h1 h2,UInt8.toNat_xor,Kt]
theorem JH (a b c : UInt8) : ZJ m a (b ^^^ c) = ZJ m a b ^^^ ZJ m a c:=by
 rw [VR h1 h2,J8 h1 h2,VR h1 h2 b,VR h1 h2 c]
theorem U0 (a : UInt8) : ZJ m 0 a = 0:=by
 apply UInt8.toNat_inj.1
 rw [Vr m h1 h2]
 exact U2 m 8 _
end
def vf {α : Type} (n : Nat) (f : Nat → α) : Vector α n:=Vector.ofFn fun i=>f i.1
theorem US {α : Type} {n i : Nat} (f : Nat → α) (h : i < n) : (vf n f)[i] = f i:=by simp [vf]
theorem VX {α : Type} {n i : Nat} (f : Nat → α) (h : i < n) : (vf n f)[i]? = some (f i):=by rw [Vector.getElem?_eq_getElem h,US f h]
theorem ZH {α : Type} {n i : Nat} (f : Nat → α) (h : i < n) : Zq (vf n f) (i : Int) = some (f i):=by rw [WC,VX f h]
theorem XE {α : Type} {n : Nat} {f g : Nat → α} (h : ∀ i,i < n → f i = g i) : vf n f = vf n g:=by
 apply VS
 intro i hi
 rw [US f hi,US g hi,h i hi]
theorem X9 {α : Type} {n : Nat} (f : Nat → α) (k : Nat) (x : α) : (vf n f).setIfInBounds k x = vf n (fun i=>if i = k then x else f i):=by
 apply VS
 intro i hi
 rw [Vector.getElem_setIfInBounds,US _ hi,US _ hi]
 by_cases h : k = i
 ·subst h; simp
 ·rw [if_neg h,if_neg (fun e=>h e.symm)]
theorem Vz {α : Type} (n : Nat) (x : α) : Vector.replicate n x = vf n (fun _=>x):=by
 apply VS
 intro i hi
 rw [US _ hi]; simp
theorem Jp {α : Type} [Inhabited α] {n : Nat} (v : Vector α n) : v = vf n (fun i=>v[i]?.getD default):=by
 apply VS
 intro i hi
 rw [US _ hi,Vector.getElem?_eq_getElem hi]; rfl
abbrev Mat:=Vector (Vector UInt8 4) 4
def mf (f : Nat → Nat → UInt8) : Mat:=vf 4 fun i=>vf 4 (f i)
theorem YX {f g : Nat → Nat → UInt8} (h : ∀ i,i < 4 → ∀ j,j < 4 → f i j = g i j) : mf f = mf g:=XE fun i hi=>XE fun j hj=>h i hi j hj
theorem YE {i : Nat} (f : Nat → Nat → UInt8) (h : i < 4) : Zq (mf f) (i : Int) = some (vf 4 (f i)):=ZH _ h
theorem VU (f : Nat → Nat → UInt8) (k : Nat) (g : Nat → UInt8) : (mf f).setIfInBounds k (vf 4 g) = mf (fun i j=>if i = k then g j else f i j):=by
 unfold mf
 rw [X9]
 apply XE
 intro i hi
 by_cases h : i = k
 ·simp [h]
 ·simp [h]
theorem mf_of (a : Mat) : ∃ f,a = mf f:=by
 refine ⟨fun i j=>(a[i]?.getD default)[j]?.getD default,?_⟩
 calc a = vf 4 (fun i=>a[i]?.getD default):=Jp a
  _ = _:=XE fun i _=>Jp _
theorem Qo : Vector.replicate 4 (Vector.replicate 4 (0 : UInt8)) = mf (fun _ _=>0):=by rw [Vz 4 (0 : UInt8),Vz]; rfl
theorem lt4 {i : Nat} (h : i < 4) : decide ((i : Int) < 4) = true:=by simp; omega
theorem lt4' {i : Nat} (h : ¬ i < 4) : decide ((i : Int) < 4) = false:=by simp; omega
theorem wr4 {i : Nat} (h : i < 1000) : wr ((i : Int) + 1) = ((i + 1 : Nat) : Int):=XU (by omega)

def VK (i j : Nat) : UInt8:=if i = j then 1 else 0
theorem Ki (L : Mat × Int → Option (Fl (Mat × Int) Mat))
  (hL : ∀ s8,L s8 = if (decide (s8.2 < 4)) = true then ((Zq s8.1 s8.2).bind fun (x14 : (Vector UInt8 4))=>(Zq x14 s8.2).bind fun (x17 : UInt8)=>some (Fl.nx ((s8.1.setIfInBounds (s8.2).toNat (x14.setIfInBounds (s8.2).toNat 1)),wr (s8.2 + 1)))) else (some (Fl.ex s8.1))) :
  ZD L (Vector.replicate 4 (Vector.replicate 4 (0 : UInt8)),0) = some (mf VK):=by
 have:=Ya (f:=L) (fun i : Nat=>(mf fun r c=>if r < i then VK r c else 0,(i : Int))) 0 4 (by omega) (t:=mf VK) (fun i _ hi=>by
  rw [hL]
  simp only [lt4 hi,if_true,YE _ hi,ZH _ hi,Option.bind_some,Int.toNat_natCast,X9,VU,wr4 (show i < 1000 by omega)]
  congr 3
  apply YX
  intro r hr c hc
  by_cases h1 : r = i
  ·subst h1; simp [VK,eq_comm]
  ·simp only [h1,if_false]
   by_cases h2 : r < i
   ·rw [if_pos h2,if_pos (by omega)]
   ·rw [if_neg h2,if_neg (by omega)]) (by
  rw [hL]
  simp only [lt4' (show ¬ 4 < 4 by omega),Bool.false_eq_true,if_false]
  exact congrArg (fun z=>some (Fl.ex z)) (YX fun r hr c hc=>by rw [if_pos hr]))
 rw [Qo]
 simpa using this
theorem U9 : Xw = some (mf VK):=by
 unfold Xw
 rw [Ki WO fun s=>rfl]; rfl
theorem U4 : Xz = some (mf VK):=by
 unfold Xz
 rw [Ki WP fun s=>rfl]; rfl

abbrev MF:=Nat → Nat → UInt8
def VG (f : MF) (k : Nat) : Nat:=((List.range' k (4 - k)).find? fun i=>!(f i k == 0)).getD 4
def H2 (f : MF) (i k : Nat) : MF:=fun r c=>if r = k then f i c else if r = i then f k c else f r c
def TV (m : Nat) (f : MF) (k : Nat) (by_ : UInt8) : MF:=fun r c=>if r = k then ZJ m (f k c) by_ else f r c
def Xk (m : Nat) (f g : MF) (k : Nat) : MF:=fun r c=>if r = k then g r c else g r c ^^^ ZJ m (f r k) (g k c)
structure Red where
 a : MF
 b : MF
 det : UInt8
def VZ (m : Nat) (s : Red) (k : Nat) : Option Red :=
 let i:=VG s.a k
 if i = 4 then none else
  let f:=H2 s.a i k
  let g:=H2 s.b i k
  let q:=invC m (f k k)
  let f2:=TV m f k q
  let g2:=TV m g k q
  some ⟨Xk m f2 f2 k,Xk m f2 g2 k,ZJ m s.det (f k k)⟩
def UD (m : Nat) : Nat → Nat → Red → Option Red
 | 0,_,s=>some s
 | n + 1,k,s=>(VZ m s k).bind (UD m n (k + 1))
def UC (m : Nat) (a : MF) : UInt8 × Mat:=match UD m 4 0 ⟨a,VK,1⟩ with
 | some s=>(s.det,mf s.b)
 | none=>(0,mf fun _ _=>0)
theorem QO (L : Int → Option (Fl Int Int)) (f : MF) (k : Nat) (hk : k < 4)
  (hL : ∀ s,L s = (if (decide (s < 4)) = true then ((Zq (mf f) s).bind fun (x30 : (Vector UInt8 4))=>(Zq x30 (k : Int)).bind fun (x33 : UInt8)=>some (x33 == 0)) else (some false) : Option (Bool)).bind fun (j25 : Bool)=>if j25 = true then (some (Fl.nx (wr (s + 1)))) else (some (Fl.ex s))) :
  ZD L (k : Int) = some ((VG f k : Nat) : Int):=by
 have:=Vp (f:=L) (fun i : Nat=>(i : Int)) (fun i=>!(f i k == 0)) (fun i=>(i : Int)) (e:=(4 : Int)) 4 (4 - k) k (by omega) (fun i _ hi=>by
  rw [hL]
  simp only [lt4 hi,if_true,YE _ hi,ZH _ hk,Option.bind_some]
  cases h : (f i k == 0)
  ·simp
  ·simp [wr4 (show i < 1000 by omega)]) (by rw [hL]; simp)
 rw [this]
 unfold VG
 cases (List.range' k (4 - k)).find? fun i=>!(f i k == 0) <;> rfl
theorem Jj {f : MF} {k : Nat} (h : VG f k ≠ 4) : VG f k < 4:=by
 unfold VG at h ⊢
 cases hf : (List.range' k (4 - k)).find? fun i=>!(f i k == 0) with
 | none=>rw [hf] at h; exact absurd rfl h
 | some i =>
  have:=List.mem_range'_1.1 (List.mem_of_find?_eq_some hf)
  simp only [Option.getD_some]
  omega
theorem UE (L : Mat × Mat × Int → Option (Fl (Mat × Mat × Int) (Mat × Mat))) (f g : MF) (k : Nat) (hk : k < 4) (p q : Nat → UInt8)
  (hL : ∀ c,c < 4 → ∀ a b : MF,(∀ r,r ≠ k → a r = f r) → (∀ r,r ≠ k → b r = g r) → a k c = f k c → b k c = g k c → L (mf a,mf b,(c : Int)) = some (Fl.nx ((mf a).setIfInBounds k ((vf 4 (a k)).setIfInBounds c (p c)),(mf b).setIfInBounds k ((vf 4 (b k)).setIfInBounds c (q c)),wr ((c : Int) + 1))))
  (he : ∀ a b : Mat,L (a,b,4) = some (Fl.ex (a,b))) :
  ZD L (mf f,mf g,0) = some (mf (fun r c=>if r = k then p c else f r c),mf (fun r c=>if r = k then q c else g r c)):=by
 have k1 : (mf fun r c=>if r = k then (if c < 4 then p c else f k c) else f r c) = mf fun r c=>if r = k then p c else f r c:=YX fun r _ c hc=>by rw [if_pos hc]
 have k2 : (mf fun r c=>if r = k then (if c < 4 then q c else g k c) else g r c) = mf fun r c=>if r = k then q c else g r c:=YX fun r _ c hc=>by rw [if_pos hc]
 have:=Ya (f:=L) (fun i : Nat=>(mf fun r c=>if r = k then (if c < i then p c else f k c) else f r c,mf fun r c=>if r = k then (if c < i then q c else g k c) else g r c,(i : Int))) 0 4 (by omega)
  (t:=(mf (fun r c=>if r = k then p c else f r c),mf (fun r c=>if r = k then q c else g r c))) (fun i _ hi=>by
  rw [hL i hi _ _ (fun r hr=>by funext c; rw [if_neg hr]) (fun r hr=>by funext c; rw [if_neg hr]) (by simp) (by simp)]
  simp only [X9,VU,wr4 (show i < 1000 by omega)]
  congr 3
  ·apply YX
   intro r hr c hc
   by_cases h : r = k
   ·simp only [h,if_true]
    by_cases h2 : c = i
    ·subst h2; simp
    ·by_cases h3 : c < i
     ·rw [if_neg h2,if_pos h3,if_pos (by omega)]
     ·rw [if_neg h2,if_neg h3,if_neg (by omega)]
   ·simp only [h,if_false]
  ·congr 1
   apply YX
   intro r hr c hc
   by_cases h : r = k
   ·simp only [h,if_true]
    by_cases h2 : c = i
    ·subst h2; simp
    ·by_cases h3 : c < i
     ·rw [if_neg h2,if_pos h3,if_pos (by omega)]
     ·rw [if_neg h2,if_neg h3,if_neg (by omega)]
   ·simp only [h,if_false]) (by
  simp only [k1,k2]
  exact he _ _)
 have e1 : mf (fun r c=>if r = k then (if c < 0 then p c else f k c) else f r c) = mf f:=YX fun r hr c hc=>by
  by_cases h : r = k
  ·subst h; simp
  ·simp [h]
 have e2 : mf (fun r c=>if r = k then (if c < 0 then q c else g k c) else g r c) = mf g:=YX fun r hr c hc=>by
  by_cases h : r = k
  ·subst h; simp
  ·simp [h]
 simp only [e1,e2] at this
 exact this
theorem QR {S : Type} (m : Nat) (L : S → Option (Fl S (Fl (Mat × UInt8) (UInt8 × Mat)))) (pk : Red → Nat → S)
  (hstep : ∀ k,k < 4 → ∀ s,L (pk s k) = some (match VZ m s k with | none=>.ex (.ex (0,mf fun _ _=>0)) | some s'=>.nx (pk s' (k + 1))))
  (hend : ∀ s,L (pk s 4) = some (.ex (.nx (mf s.b,s.det)))) : ∀ (n k : Nat) (s : Red),k + n = 4 → ZD L (pk s k) = some (match UD m n k s with | some s'=>.nx (mf s'.b,s'.det) | none=>.ex (0,mf fun _ _=>0))
 | 0,k,s,h=>by
  have : k = 4:=by omega
  subst this
  rw [YW (hend s)]; rfl
 | n + 1,k,s,h=>by
  have h1:=hstep k (by omega) s
  unfold UD
  cases hr : VZ m s k with
  | none=>rw [hr] at h1; rw [YW h1]; rfl
  | some s'=>rw [hr] at h1; rw [Wc h1]; exact QR m L pk hstep hend n (k + 1) s' (by omega)
theorem J5 {i k : Nat} : (((i : Int)) != ((k : Nat) : Int)) = decide (i ≠ k):=by
 by_cases h : i = k
 ·subst h; simp
 ·have : (i : Int) ≠ (k : Int):=by omega
  simp [h,this]
theorem Kc (m : Nat) (L : Mat × Mat × Int → Option (Fl (Mat × Mat × Int) (Mat × Mat))) (f g : MF) (k : Nat)
  (hL : ∀ i,i < 4 → ∀ a b : MF,(a i = f i) → (b i = g i) → (a k = f k) → (b k = g k) → L (mf a,mf b,(i : Int)) = some (Fl.nx (mf (fun r c=>if r = i then Xk m f f k r c else a r c),mf (fun r c=>if r = i then Xk m f g k r c else b r c),wr ((i : Int) + 1))))
  (he : ∀ a b : Mat,L (a,b,4) = some (Fl.ex (a,b))) : ZD L (mf f,mf g,0) = some (mf (Xk m f f k),mf (Xk m f g k)):=by
 have ek : ∀ h : MF,Xk m f h k k = h k:=fun h=>by funext c; simp [Xk]
 have k1 : (mf fun r c=>if r < 4 then Xk m f f k r c else f r c) = mf (Xk m f f k):=YX fun r hr c _=>by rw [if_pos hr]
 have k2 : (mf fun r c=>if r < 4 then Xk m f g k r c else g r c) = mf (Xk m f g k):=YX fun r hr c _=>by rw [if_pos hr]
 have:=Ya (f:=L) (fun i : Nat=>(mf fun r c=>if r < i then Xk m f f k r c else f r c,mf fun r c=>if r < i then Xk m f g k r c else g r c,(i : Int))) 0 4 (by omega)
  (t:=(mf (Xk m f f k),mf (Xk m f g k))) (fun i _ hi=>by
  rw [hL i hi _ _ (by funext c; simp) (by funext c; simp) (by funext c; by_cases h : k < i <;> simp [h,ek]) (by funext c; by_cases h : k < i <;> simp [h,ek])]
  rw [wr4 (show i < 1000 by omega)]
  have e : ∀ (x y : MF),(mf fun r c=>if r = i then x r c else if r < i then x r c else y r c) = mf fun r c=>if r < i + 1 then x r c else y r c:=fun x y=>YX fun r _ c _=>by
   by_cases h1 : r = i
   ·subst h1; simp
   ·by_cases h2 : r < i
    ·rw [if_neg h1,if_pos h2,if_pos (by omega)]
    ·rw [if_neg h1,if_neg h2,if_neg (by omega)]
  rw [e,e]) (by
  simp only [k1,k2]
  exact he _ _)
 simpa using this

theorem Jm (f : MF) {i k : Nat} : ((mf f).setIfInBounds i (vf 4 (f k))).setIfInBounds k (vf 4 (f i)) = mf (H2 f i k):=by
 rw [VU,VU]; rfl
section
variable (m : Nat) (hm : m < 512) (hm2 : 256 ≤ m)
include hm
theorem Jv (A B : Mat) (det : UInt8) (q : UInt8) (f g : MF) (k : Nat) (hk : k < 4) : ZD (YH (m : Int) (A,B,(k : Int),det) q) (mf f,mf g,0) = some (mf (TV m f k q),mf (TV m g k q)):=by
 refine UE _ f g k hk (fun c=>ZJ m (f k c) q) (fun c=>ZJ m (g k c) q) (fun c hc a b _ _ ha hb=>?_) (fun a b=>?_)
 ·unfold YH
  simp only [lt4 hc,if_true,YE _ hk,ZH _ hc,Option.bind_some,WJ m hm,ha,hb,Int.toNat_natCast]
 ·unfold YH; simp
theorem HA (A B : Mat) (det : UInt8) (s1 : Mat × Mat × Int) (x : UInt8) (f g : MF) (k i : Nat) (hk : k < 4) (hi : i < 4) (hik : i ≠ k) (hs : s1.2.2 = (i : Int)) :
  ZD (YG (m : Int) (A,B,(k : Int),det) s1 x) (mf f,mf g,0) = some (mf (fun r c=>if r = i then f i c ^^^ ZJ m x (f k c) else f r c),mf (fun r c=>if r = i then g i c ^^^ ZJ m x (g k c) else g r c)):=by
 refine UE _ f g i hi (fun c=>f i c ^^^ ZJ m x (f k c)) (fun c=>g i c ^^^ ZJ m x (g k c)) (fun c hc a b ha' hb' ha hb=>?_) (fun a b=>?_)
 ·unfold YG
  have e1:=ha' k (Ne.symm hik)
  have e2:=hb' k (Ne.symm hik)
  simp only [hs,lt4 hc,if_true,YE _ hk,YE _ hi,ZH _ hc,Option.bind_some,WJ m hm,ha,hb,e1,e2,Int.toNat_natCast]
 ·unfold YG; simp
include hm2
theorem Hn (A B : Mat) (det : UInt8) (f g : MF) (k : Nat) (hk : k < 4) : ZD (YM (m : Int) (A,B,(k : Int),det)) (mf f,mf g,0) = some (mf (Xk m f f k),mf (Xk m f g k)):=by
 refine Kc m _ f g k (fun i hi a b hai hbi hak hbk=>?_) (fun a b=>by unfold YM; simp)
 unfold YM
 have hfi : a i k = f i k:=by rw [hai]
 simp only [lt4 hi,if_true,YE _ hi,ZH _ hk,Option.bind_some,J5,hfi]
 by_cases h : i = k
 ·subst h
  simp only [ne_eq,not_true_eq_false,decide_false,Bool.false_eq_true,if_false,Option.bind_some]
  congr 3
  ·exact YX fun r _ c _=>by
    by_cases h : r = i
    ·subst h; simp [Xk,hai]
    ·simp [h]
  ·congr 1
   exact YX fun r _ c _=>by
    by_cases h : r = i
    ·subst h; simp [Xk,hbi]
    ·simp [h]
 ·have hd : decide (i ≠ k) = true:=by simpa using h
  simp only [hd,if_true,Option.bind_some]
  by_cases h0 : f i k = 0
  ·simp only [h0,bne_self_eq_false,Bool.false_eq_true,if_false,Option.bind_some]
   congr 3
   ·exact YX fun r _ c _=>by
     by_cases h2 : r = i
     ·subst h2; simp [Xk,hai,h,h0,U0 hm2 hm]
     ·simp [h2]
   ·congr 1
    exact YX fun r _ c _=>by
     by_cases h2 : r = i
     ·subst h2; simp [Xk,hbi,h,h0,U0 hm2 hm]
     ·simp [h2]
  ·have hb0 : (f i k != 0) = true:=by simpa using h0
   simp only [hb0,if_true,Option.bind_some]
   rw [HA m hm A B det _ _ a b k i hk hi h rfl]
   simp only [Option.bind_some]
   congr 3
   ·exact YX fun r _ c _=>by
     by_cases h2 : r = i
     ·subst h2; simp [Xk,hai,hak,h]
     ·simp [h2]
   ·congr 1
    exact YX fun r _ c _=>by
     by_cases h2 : r = i
     ·subst h2; simp [Xk,hbi,hbk,h]
     ·simp [h2]
theorem Hc (k : Nat) (hk : k < 4) (s : Red) : Z7 (m : Int) (mf s.a,mf s.b,(k : Int),s.det) = some (match VZ m s k with | none=>.ex (.ex (0,mf fun _ _=>0)) | some s'=>.nx (mf s'.a,mf s'.b,((k + 1 : Nat) : Int),s'.det)):=by
 unfold Z7
 have hp:=QO (Wm (mf s.a,mf s.b,(k : Int),s.det)) s.a k hk (fun x=>rfl)
 simp only [lt4 hk,if_true,hp,Option.bind_some]
 unfold VZ
 by_cases h4 : VG s.a k = 4
 ·have : ((4 : Nat) : Int) = 4:=rfl
  simp only [h4,this,beq_self_eq_true,if_true,Qo]
 ·have hi:=Jj h4
  have h5 : (((VG s.a k : Nat) : Int) == 4) = false:=by
   have : ((VG s.a k : Nat) : Int) ≠ 4:=by omega
   simpa using this
  generalize hpi : VG s.a k = i at *
  simp only [h4,h5,Bool.false_eq_true,if_false]
  have x1 : Zq ((mf s.a).setIfInBounds i (vf 4 (s.a k))) (k : Int) = some (vf 4 (fun c=>if k = i then s.a k c else s.a k c)):=by rw [VU]; exact YE _ hk
  have x2 : Zq ((mf s.b).setIfInBounds i (vf 4 (s.b k))) (k : Int) = some (vf 4 (fun c=>if k = i then s.b k c else s.b k c)):=by rw [VU]; exact YE _ hk
  simp only [YE _ hk,YE _ hi,Option.bind_some,Int.toNat_natCast,x1,x2,Jm,ZH _ hk,WJ m hm,Qe m hm,Jv m hm _ _ _ _ _ _ k hk,Hn m hm hm2 _ _ _ _ _ k hk,wr4 (show k < 1000 by omega)]
theorem Qr (f : MF) : Yb (m : Int) (mf f) = some (UC m f):=by
 unfold Yb
 have h:=QR m (Z7 (m : Int)) (fun s k=>(mf s.a,mf s.b,(k : Int),s.det)) (Hc m hm hm2) (fun s=>by unfold Z7; simp) 4 0 ⟨f,VK,1⟩ rfl
 have h2 : ZD (Z7 (m : Int)) (mf f,mf VK,0,1) = _:=h
 rw [U4,Option.bind_some,h2]
 unfold UC
 cases UD m 4 0 ⟨f,VK,1⟩ <;> rfl
theorem JE (A B : Mat) (det : UInt8) (q : UInt8) (f g : MF) (k : Nat) (hk : k < 4) : ZD (Xx (m : Int) (A,B,det,(k : Int)) q) (mf f,mf g,0) = some (mf (TV m f k q),mf (TV m g k q)):=by
 refine UE _ f g k hk (fun c=>ZJ m (f k c) q) (fun c=>ZJ m (g k c) q) (fun c hc a b _ _ ha hb=>?_) (fun a b=>?_)
 ·unfold Xx
  simp only [lt4 hc,if_true,YE _ hk,ZH _ hc,Option.bind_some,VB m hm hm2,ha,hb,Int.toNat_natCast]
 ·unfold Xx; simp
theorem HJ (A B : Mat) (det : UInt8) (s1 : Mat × Mat × Int) (x : UInt8) (f g : MF) (k i : Nat) (hk : k < 4) (hi : i < 4) (hik : i ≠ k) (hs : s1.2.2 = (i : Int)) :
  ZD (Yh (m : Int) (A,B,det,(k : Int)) s1 x) (mf f,mf g,0) = some (mf (fun r c=>if r = i then f i c ^^^ ZJ m x (f k c) else f r c),mf (fun r c=>if r = i then g i c ^^^ ZJ m x (g k c) else g r c)):=by
 have hd : decide (i ≠ k) = true:=by simpa using hik
 refine UE _ f g i hi (fun c=>f i c ^^^ ZJ m x (f k c)) (fun c=>g i c ^^^ ZJ m x (g k c)) (fun c hc a b ha' hb' ha hb=>?_) (fun a b=>?_)
 ·unfold Yh
  have e1:=ha' k (Ne.symm hik)
  have e2:=hb' k (Ne.symm hik)
  simp only [hs,lt4 hc,if_true,J5,hd,YE _ hk,YE _ hi,ZH _ hc,Option.bind_some,VB m hm hm2,ha,hb,e1,e2,Int.toNat_natCast]
 ·unfold Yh; simp
theorem Hd (A B : Mat) (det : UInt8) (f g : MF) (k : Nat) (hk : k < 4) : ZD (XB (m : Int) (A,B,det,(k : Int))) (mf f,mf g,0) = some (mf (Xk m f f k),mf (Xk m f g k)):=by
 refine Kc m _ f g k (fun i hi a b hai hbi hak hbk=>?_) (fun a b=>by unfold XB; simp)
 unfold XB
 have hfi : a i k = f i k:=by rw [hai]
 simp only [lt4 hi,if_true,YE _ hi,ZH _ hk,Option.bind_some,hfi]
 by_cases h : i = k
 ·subst h
  have h0 : ZD (Yh (m : Int) (A,B,det,(i : Int)) (mf a,mf b,(i : Int)) (f i i)) (mf a,mf b,0) = some (mf a,mf b):=by
   refine YW ?_
   unfold Yh
   simp
  rw [h0]
  simp only [Option.bind_some]
  congr 3
  ·exact YX fun r _ c _=>by
    by_cases h : r = i
    ·subst h; simp [Xk,hai]
    ·simp [h]
  ·congr 1
   exact YX fun r _ c _=>by
    by_cases h : r = i
    ·subst h; simp [Xk,hbi]
    ·simp [h]
 ·rw [HJ m hm hm2 A B det _ _ a b k i hk hi h rfl]
  simp only [Option.bind_some]
  congr 3
  ·exact YX fun r _ c _=>by
    by_cases h2 : r = i
    ·subst h2; simp [Xk,hai,hak,h]
    ·simp [h2]
  ·congr 1
   exact YX fun r _ c _=>by
    by_cases h2 : r = i
    ·subst h2; simp [Xk,hbi,hbk,h]
    ·simp [h2]
theorem Hj (k : Nat) (hk : k < 4) (s : Red) : Yj (m : Int) (mf s.a,mf s.b,s.det,(k : Int)) = some (match VZ m s k with | none=>.ex (.ex (0,mf fun _ _=>0)) | some s'=>.nx (mf s'.a,mf s'.b,s'.det,((k + 1 : Nat) : Int))):=by
 unfold Yj
 have hp:=QO (WT (mf s.a,mf s.b,s.det,(k : Int))) s.a k hk (fun x=>rfl)
 simp only [lt4 hk,if_true,hp,Option.bind_some]
 unfold VZ
 by_cases h4 : VG s.a k = 4
 ·have : ((4 : Nat) : Int) = 4:=rfl
  simp only [h4,this,beq_self_eq_true,if_true,Qo]
 ·have hi:=Jj h4
  have h5 : (((VG s.a k : Nat) : Int) == 4) = false:=by
   have : ((VG s.a k : Nat) : Int) ≠ 4:=by omega
   simpa using this
  generalize hpi : VG s.a k = i at *
  simp only [h4,h5,Bool.false_eq_true,if_false]
  have x1 : Zq ((mf s.a).setIfInBounds i (vf 4 (s.a k))) (k : Int) = some (vf 4 (fun c=>if k = i then s.a k c else s.a k c)):=by rw [VU]; exact YE _ hk
  have x2 : Zq ((mf s.b).setIfInBounds i (vf 4 (s.b k))) (k : Int) = some (vf 4 (fun c=>if k = i then s.b k c else s.b k c)):=by rw [VU]; exact YE _ hk
  simp only [YE _ hk,YE _ hi,Option.bind_some,Int.toNat_natCast,x1,x2,Jm,ZH _ hk,VB m hm hm2,HF m hm hm2,JE m hm hm2 _ _ _ _ _ _ k hk,Hd m hm hm2 _ _ _ _ _ k hk,wr4 (show k < 1000 by omega)]
theorem Jh (f : MF) : XJ (m : Int) (mf f) = some (UC m f):=by
 unfold XJ
 have h:=QR m (Yj (m : Int)) (fun s k=>(mf s.a,mf s.b,s.det,(k : Int))) (Hj m hm hm2) (fun s=>by unfold Yj; simp) 4 0 ⟨f,VK,1⟩ rfl
 have h2 : ZD (Yj (m : Int)) (mf f,mf VK,1,0) = _:=h
 rw [U9,Option.bind_some,h2]
 unfold UC
 cases UD m 4 0 ⟨f,VK,1⟩ <;> rfl
end
def YZ (l : List UInt8) (i b : Nat) : Bool:=(l.take i).any fun x=>x.toNat == b
theorem TS (l : List UInt8) {i : Nat} (h : i < l.length) : (fun b=>if b = l[i].toNat then true else YZ l i b) = YZ l (i + 1):=by
 funext b
 unfold YZ
 rw [List.take_succ_eq_append_getElem h,List.any_append]
 by_cases hb : b = l[i].toNat
 ·subst hb; simp
 ·have : (l[i].toNat == b) = false:=by simpa using fun e=>hb e.symm
  simp [hb,this]
theorem K5 (l : List UInt8) : ((List.range' 0 (l.length - 0)).any fun i=>YZ l i (l.getD i 0).toNat) = !Vi l:=by
 rw [← Kd,Bool.eq_iff_iff,X7,X7]
 refine exists_congr fun i=>and_congr_right fun _=>and_congr_right fun hi=>?_
 unfold YZ
 rw [X7,List.any_eq_true]
 have e0 : l.getD i 0 = l[i]:=by simp [List.getD_eq_getElem?_getD,List.getElem?_eq_getElem hi]
 rw [e0]
 constructor
 ·rintro ⟨x,hx,h⟩
  obtain ⟨k,hk,rfl⟩:=List.mem_iff_getElem.1 hx
  have hk2 : k < i ∧ k < l.length:=by simp at hk; omega
  refine ⟨k,Nat.zero_le _,hk2.1,?_⟩
  rw [List.getElem?_eq_getElem hk2.2,List.getElem?_eq_getElem hi]
  have h' : l[k].toNat = l[i].toNat:=by simpa using h
  simp [UInt8.toNat_inj.1 h']
 ·rintro ⟨k,_,hk,h⟩
  have hkl : k < l.length:=by omega
  refine ⟨l[k],List.mem_iff_getElem.2 ⟨k,by simp; omega,by simp⟩,?_⟩
  rw [List.getElem?_eq_getElem hkl,List.getElem?_eq_getElem hi] at h
  have : l[i] = l[k]:=by simpa using h
  simp [this]
theorem Vs {n i : Nat} (v : Vector UInt8 n) (h : i < n) : Zq v (i : Int) = some (v.toList.getD i 0):=by
 rw [WC,Vector.getElem?_eq_getElem h]
 simp [List.getD_eq_getElem?_getD,h]
theorem Wq {n i : Nat} (v : Vector UInt8 n) (h : i < n) : v.toList.getD i 0 = v.toList[i]'(by simpa using h):=by
 simp [List.getD_eq_getElem?_getD,h]
theorem TE (n : Nat) (f : Nat → Bool) (x : UInt8) (h : x.toNat < n) : Zq (vf n f) (bI x) = some (f x.toNat):=ZH f h
theorem Uq (x : UInt8) : (bI x).toNat = x.toNat:=rfl
theorem Tt (n : Nat) (l : List UInt8) : Vector.replicate n false = vf n (YZ l 0):=by rw [Vz]; rfl

theorem Tu : ∀ (k l : List Nat),k.Nodup → (∀ x ∈ k,x ∈ l) → k.length ≤ l.length
 | [],_,_,_=>by simp
 | x :: k,l,h,hs=>by
  have hx:=hs x (by simp)
  obtain ⟨h1,h2⟩:=List.nodup_cons.1 h
  have:=Tu k (l.erase x) h2 (fun y hy=>by
   have hne : y ≠ x:=fun e=>h1 (e ▸ hy)
   exact (List.mem_erase_of_ne hne).2 (hs y (by simp [hy])))
  rw [List.length_erase_of_mem hx] at this
  have hl : 0 < l.length:=List.length_pos_of_mem hx
  simp only [List.length_cons]; omega
theorem Je : ∀ (l : List Nat),¬ l.Nodup → ∃ l' : List Nat,l'.length + 1 = l.length ∧ ∀ x ∈ l,x ∈ l'
 | [],h=>absurd List.nodup_nil h
 | x :: l,h=>by
  by_cases hx : x ∈ l
  ·exact ⟨l,by simp,fun y hy=>by rcases List.mem_cons.1 hy with rfl | hy; exact hx; exact hy⟩
  ·have : ¬ l.Nodup:=fun hn=>h (List.nodup_cons.2 ⟨hx,hn⟩)
   obtain ⟨l',h1,h2⟩:=Je l this
   exact ⟨x :: l',by simp [h1],fun y hy=>by
    rcases List.mem_cons.1 hy with rfl | hy
    ·simp
    ·simp [h2 y hy]⟩
theorem HE (l : List Nat) (n : Nat) (hl : l.length = n) (hb : ∀ x ∈ l,x < n) : l.Nodup ↔ ∀ b,b < n → b ∈ l:=by
 constructor
 ·intro h b hbn
  refine Classical.byContradiction fun hne=>?_
  have:=Tu (b :: l) (List.range n) (List.nodup_cons.2 ⟨hne,h⟩) (fun x hx=>by
   rcases List.mem_cons.1 hx with rfl | hx
   ·simpa using hbn
   ·simpa using hb x hx)
  simp at this; omega
 ·intro h
  refine Classical.byContradiction fun hne=>?_
  obtain ⟨l',h1,h2⟩:=Je l hne
  have:=Tu (List.range n) l' List.nodup_range (fun x hx=>h2 x (h x (by simpa using hx)))
  simp at this; omega
theorem KS (l : List UInt8) : (l.map UInt8.toNat).Nodup ↔ l.Nodup:=by
 unfold List.Nodup
 rw [List.pairwise_map]
 constructor <;> intro h <;> refine h.imp ?_
 ·intro a b hab e; exact hab (by rw [e])
 ·intro a b hab e; exact hab (UInt8.toNat_inj.1 e)

theorem H5 (p : Vector UInt8 256) : W2 p = some (Vi p.toList):=by
 unfold W2
 have hl : p.toList.length = 256:=by simp
 have:=Vp (f:=X6 p) (fun i : Nat=>(vf 256 (YZ p.toList i),(i : Int))) (fun i=>YZ p.toList i (p.toList.getD i 0).toNat) (fun _=>Fl.ex false) (e:=Fl.nx ()) 256 256 0 rfl (fun i _ hi=>by
  unfold X6
  have hd : decide ((i : Int) < 256) = true:=by simp; omega
  have hx:=Vs p hi
  have hs:=TE 256 (YZ p.toList i) (p.toList.getD i 0) (UInt8.toNat_lt _)
  simp only [hd,if_true,hx,Option.bind_some,hs]
  have e:=TS p.toList (i:=i) (by simpa using hi)
  rw [← Wq p hi] at e
  cases YZ p.toList i (p.toList.getD i 0).toNat
  ·simp only [Bool.false_eq_true,if_false,Option.bind_some,Uq,X9,e,XU (show i < 9223372036854775807 by omega)]
  ·rfl) (by unfold X6; simp)
 have h2 : ZD (X6 p) (vf 256 (YZ p.toList 0),0) = _:=this
 rw [Tt 256 p.toList,h2]
 have h3:=K5 p.toList
 rw [hl] at h3
 cases hf : (List.range' 0 256).find? (fun i=>YZ p.toList i (p.toList.getD i 0).toNat) with
 | none =>
  have h4 : ((List.range' 0 (256 - 0)).any fun i=>YZ p.toList i (p.toList.getD i 0).toNat) = false:=by rw [List.any_eq_false]; exact List.find?_eq_none.1 hf
  rw [h4] at h3
  have : Vi p.toList = true:=by simpa using h3.symm
  rw [this]; rfl
 | some i =>
  have h4 : ((List.range' 0 (256 - 0)).any fun i=>YZ p.toList i (p.toList.getD i 0).toNat) = true:=by rw [List.any_eq_true]; exact ⟨i,List.mem_of_find?_eq_some hf,List.find?_some (p:=fun i=>YZ p.toList i (p.toList.getD i 0).toNat) hf⟩
  rw [h4] at h3
  have : Vi p.toList = false:=by simpa using h3.symm
  rw [this]; rfl
theorem Jl (l : List Bool) (h : l.length < 9223372036854775807) (b : Bool) : Z4 l b = some (l.contains b):=by
 unfold Z4 YF
 have:=K0 (f:=Z1 l b) l.length (fun i=>b == l.getD i false) (fun i=>(i : Int)) h (fun i hi=>by
  unfold Z1
  have e0 : l.getD i false = l[i]:=by simp [List.getD_eq_getElem?_getD,List.getElem?_eq_getElem hi]
  simp only [Int.ofNat_lt,hi,decide_true,if_true,Vf,List.getElem?_eq_getElem hi,Option.bind_some,e0]
  cases b == l[i] <;> rfl) (by unfold Z1; simp) 0 (Nat.zero_le _)
 have h3 : ZD (Z1 l b) 0 = _:=this
 rw [h3]
 cases hf : (List.range' 0 (l.length - 0)).find? (fun i=>b == l.getD i false) with
 | none =>
  have : l.contains b = false:=by
   rw [List.contains_eq_any_beq,List.any_eq_false]
   intro x hx
   obtain ⟨i,hi,rfl⟩:=List.mem_iff_getElem.1 hx
   have:=List.find?_eq_none.1 hf i (List.mem_range'_1.2 (by omega))
   simpa [List.getD_eq_getElem?_getD,List.getElem?_eq_getElem hi] using this
  rw [this]; rfl
 | some i =>
  have hi:=List.mem_range'_1.1 (List.mem_of_find?_eq_some hf)
  have hi' : i < l.length:=by omega
  have h4:=List.find?_some hf
  have : l.contains b = true:=by
   rw [List.contains_eq_any_beq,List.any_eq_true]
   exact ⟨l[i],List.getElem_mem hi',by simpa [List.getD_eq_getElem?_getD,List.getElem?_eq_getElem hi'] using h4⟩
  rw [this]
  simp [Fl.el]
theorem T6 (p : Vector UInt8 256) : YI p = some (Vi p.toList):=by
 unfold YI
 have hl : p.toList.length = 256:=by simp
 have:=Ya (f:=Yd p) (fun i : Nat=>(vf 256 (YZ p.toList i),(i : Int))) 0 256 (by omega) (t:=vf 256 (YZ p.toList 256)) (fun i _ hi=>by
  unfold Yd
  have hd : decide ((i : Int) < 256) = true:=by simp; omega
  have hx:=Vs p hi
  have hs:=TE 256 (YZ p.toList i) (p.toList.getD i 0) (UInt8.toNat_lt _)
  have e:=TS p.toList (i:=i) (by simpa using hi)
  rw [← Wq p hi] at e
  simp only [hd,if_true,hx,Option.bind_some,hs,Uq,X9,e,XU (show i < 9223372036854775807 by omega)]) (by unfold Yd; simp)
 have h2 : ZD (Yd p) (vf 256 (YZ p.toList 0),0) = _:=this
 have e1 : slc (vf 256 (YZ p.toList 256)).toList (0 : Int) (256 : Int) = some (vf 256 (YZ p.toList 256)).toList:=by
  have:=KK (l:=(vf 256 (YZ p.toList 256)).toList) (i:=0) (j:=256) (by omega) (by simp)
  simp only [List.drop_zero] at this
  rw [List.take_of_length_le (by simp)] at this
  exact this
 rw [Tt 256 p.toList,h2]
 have hlt : (vf 256 (YZ p.toList 256)).toList.length < 9223372036854775807:=by rw [Vector.length_toList]; omega
 rw [Option.bind_some,e1,Option.bind_some,Jl _ hlt,Option.bind_some]
 refine congrArg some ?_
 rw [Bool.eq_iff_iff]
 have hp:=HE (p.toList.map UInt8.toNat) 256 (by simp) (fun x hx=>by obtain ⟨y,_,rfl⟩:=List.mem_map.1 hx; exact UInt8.toNat_lt y)
 rw [KS] at hp
 unfold Vi
 rw [decide_eq_true_iff,hp,Bool.not_eq_true',List.contains_eq_any_beq,List.any_eq_false]
 have hseen : ∀ b,YZ p.toList 256 b = true ↔ b ∈ p.toList.map UInt8.toNat:=fun b=>by
  unfold YZ
  rw [List.take_of_length_le (by omega),List.any_eq_true,List.mem_map]
  refine exists_congr fun x=>and_congr_right fun _=>?_
  exact beq_iff_eq
 constructor
 ·intro h b hb
  rw [← hseen]
  have e : (vf 256 (YZ p.toList 256)).toList[b]? = some (YZ p.toList 256 b):=by rw [Vector.getElem?_toList]; exact VX _ hb
  have:=h _ (List.mem_of_getElem? e)
  generalize YZ p.toList 256 b = q at this
  cases q
  ·exact absurd rfl this
  ·rfl
 ·intro h x hx
  obtain ⟨b,hb⟩:=List.mem_iff_getElem?.1 hx
  have hb' : b < 256:=by have:=(List.getElem?_eq_some_iff.1 hb).1; rwa [Vector.length_toList] at this
  rw [Vector.getElem?_toList,VX _ hb',(hseen b).2 (h b hb')] at hb
  cases hb
  decide

def XF (p : Vector UInt8 16) : Bool:=p.toList.all (fun x=>decide (x < 16)) && Vi p.toList
def WY (l : List UInt8) (i : Nat) : Bool:=decide (16 ≤ (l.getD i 0).toNat)
theorem K7 (p : Vector UInt8 16) : XQ p = some (XF p):=by
 unfold XQ
 have hl : p.toList.length = 16:=by simp
 have:=KY (f:=YR p) 16 (WY p.toList) false (by omega) (fun i hi=>by
  unfold YR
  have hd : decide ((i : Int) < 16) = true:=by simp; omega
  have hx:=Vs p hi
  simp only [hd,if_true,hx,Option.bind_some]
  unfold WY
  have : (p.toList.getD i 0 > 15) ↔ (16 ≤ (p.toList.getD i 0).toNat):=by rw [gt_iff_lt,UInt8.lt_iff_toNat_lt]; exact Iff.rfl
  simp only [this]
  split <;> rfl) (by unfold YR; simp) 0 (by omega)
 have h2 : ZD (YR p) 0 = _:=this
 have e1 : slc p.toList (0 : Int) (16 : Int) = some p.toList:=by
  have:=KK (l:=p.toList) (i:=0) (j:=16) (by omega) (by simp)
  simp only [List.drop_zero] at this
  rw [List.take_of_length_le (by simp)] at this
  exact this
 have key : ((List.range' 0 (16 - 0)).any (WY p.toList)) = !(p.toList.all fun x=>decide (x < 16)):=by
  rw [Bool.eq_iff_iff,X7,Bool.not_eq_true',List.all_eq_false]
  constructor
  ·rintro ⟨i,_,hi,h⟩
   refine ⟨p.toList[i],List.getElem_mem _,?_⟩
   unfold WY at h
   rw [Wq p hi] at h
   simp only [decide_eq_true_eq,UInt8.lt_iff_toNat_lt] at h ⊢
   have : (16 : UInt8).toNat = 16:=rfl
   omega
  ·rintro ⟨x,hx,h⟩
   obtain ⟨i,hi,rfl⟩:=List.mem_iff_getElem.1 hx
   have hi' : i < 16:=by simpa using hi
   refine ⟨i,Nat.zero_le _,hi',?_⟩
   unfold WY
   rw [Wq p hi']
   simp only [decide_eq_true_eq,UInt8.lt_iff_toNat_lt] at h ⊢
   have : (16 : UInt8).toNat = 16:=rfl
   omega
 rw [h2,key]
 unfold XF
 cases p.toList.all fun x=>decide (x < 16)
 ·rfl
 ·simp [Fl.el,e1,Qy p.toList (by omega)]
theorem Bq (p : Vector UInt8 16) : ((List.range' 0 (16 - 0)).any (WY p.toList)) = !(p.toList.all fun x=>decide (x < 16)):=by
 rw [Bool.eq_iff_iff,X7,Bool.not_eq_true',List.all_eq_false]
 have h16 : (16 : UInt8).toNat = 16:=rfl
 have hl : p.toList.length = 16:=by simp
 constructor
 ·rintro ⟨i,_,hi,h⟩
  refine ⟨p.toList[i],List.getElem_mem _,?_⟩
  unfold WY at h
  rw [Wq p hi] at h
  simp only [decide_eq_true_eq,UInt8.lt_iff_toNat_lt] at h ⊢
  omega
 ·rintro ⟨x,hx,h⟩
  obtain ⟨i,hi,rfl⟩:=List.mem_iff_getElem.1 hx
  have hi' : i < 16:=by simpa using hi
  refine ⟨i,Nat.zero_le _,hi',?_⟩
  unfold WY
  rw [Wq p hi']
  simp only [decide_eq_true_eq,UInt8.lt_iff_toNat_lt] at h ⊢
  omega
theorem Hr (p : Vector UInt8 16) : Wi p = some (XF p):=by
 unfold Wi
 have hl : p.toList.length = 16:=by simp
 have h16 : (16 : UInt8).toNat = 16:=rfl
 have:=Vp (f:=Xv p) (fun i : Nat=>(vf 16 (YZ p.toList i),(i : Int))) (fun i=>WY p.toList i || YZ p.toList i (p.toList.getD i 0).toNat) (fun _=>Fl.ex false) (e:=Fl.nx ()) 16 16 0 rfl (fun i _ hi=>by
  unfold Xv
  have hd : decide ((i : Int) < 16) = true:=by simp; omega
  have hx:=Vs p hi
  simp only [hd,if_true,hx,Option.bind_some]
  unfold WY
  by_cases hf : 16 ≤ (p.toList.getD i 0).toNat
  ·have h1 : p.toList.getD i 0 ≥ 16:=by rw [ge_iff_le,UInt8.le_iff_toNat_le]; omega
   simp only [h1,decide_true,if_true,hf,Bool.true_or,Option.bind_some]
  ·have h1 : ¬ p.toList.getD i 0 ≥ 16:=by rw [ge_iff_le,UInt8.le_iff_toNat_le]; omega
   have hs:=TE 16 (YZ p.toList i) (p.toList.getD i 0) (by omega)
   have e:=TS p.toList (i:=i) (by simpa using hi)
   rw [← Wq p hi] at e
   simp only [h1,decide_false,Bool.false_eq_true,if_false,hf,Bool.false_or,Option.bind_some,hs]
   cases YZ p.toList i (p.toList.getD i 0).toNat
   ·simp only [Bool.false_eq_true,if_false,Option.bind_some,Uq,X9,e,XU (show i < 9223372036854775807 by omega)]
   ·rfl) (by unfold Xv; simp)
 have h2 : ZD (Xv p) (vf 16 (YZ p.toList 0),0) = _:=this
 rw [Tt 16 p.toList,h2]
 have h3:=K5 p.toList
 rw [hl] at h3
 have h5 : ((List.range' 0 (16 - 0)).any fun i=>WY p.toList i || YZ p.toList i (p.toList.getD i 0).toNat) = !XF p:=by
  have e : ((List.range' 0 (16 - 0)).any fun i=>WY p.toList i || YZ p.toList i (p.toList.getD i 0).toNat) = ((List.range' 0 (16 - 0)).any (WY p.toList) || (List.range' 0 (16 - 0)).any fun i=>YZ p.toList i (p.toList.getD i 0).toNat):=by
   induction List.range' 0 (16 - 0) with
   | nil=>rfl
   | cons x l ih=>simp only [List.any_cons,ih]; cases WY p.toList x <;> cases l.any (WY p.toList) <;> simp
  rw [e,Bq,h3]
  unfold XF
  cases (p.toList.all fun x=>decide (x < 16)) <;> cases Vi p.toList <;> rfl
 cases hf : (List.range' 0 16).find? (fun i=>WY p.toList i || YZ p.toList i (p.toList.getD i 0).toNat) with
 | none =>
  have h4 : ((List.range' 0 (16 - 0)).any fun i=>WY p.toList i || YZ p.toList i (p.toList.getD i 0).toNat) = false:=by rw [List.any_eq_false]; exact List.find?_eq_none.1 hf
  rw [h4] at h5
  have : XF p = true:=by simpa using h5.symm
  rw [this]; rfl
 | some i =>
  have h4 : ((List.range' 0 (16 - 0)).any fun i=>WY p.toList i || YZ p.toList i (p.toList.getD i 0).toNat) = true:=by rw [List.any_eq_true]; exact ⟨i,List.mem_of_find?_eq_some hf,List.find?_some (p:=fun i=>WY p.toList i || YZ p.toList i (p.toList.getD i 0).toNat) hf⟩
  rw [h4] at h5
  have : XF p = false:=by simpa using h5.symm
  rw [this]; rfl

def TH (a : Mat) : MF:=fun i j=>(a[i]?.getD default)[j]?.getD default
theorem U6 (a : Mat) : a = mf (TH a):=calc a = vf 4 (fun i=>a[i]?.getD default):=Jp a
  _ = _:=XE fun i _=>Jp _
def detC (m : Nat) (a : Mat) : UInt8:=(UC m (TH a)).1
def invM (m : Nat) (a : Mat) : Mat:=(UC m (TH a)).2
def ZY (c : GCipher) : Bool:=WW c.Field && Vi c.Box.toList && XF c.Places && decide (1 ≤ c.Rounds ∧ c.Rounds ≤ 20) && (detC c.Field.toNat c.Mix != 0)
theorem KU (m : Nat) (hm : m < 512) (hm2 : 256 ≤ m) (a : Mat) : Yb (m : Int) a = some (detC m a,invM m a):=by
 have:=Qr m hm hm2 (TH a)
 rw [← U6] at this
 exact this
theorem KD (m : Nat) (hm : m < 512) (hm2 : 256 ≤ m) (a : Mat) : Xy (m : Int) a = some (invM m a,detC m a != 0):=by
 have:=Jh m hm hm2 (TH a)
 rw [← U6] at this
 unfold Xy
 rw [this]; rfl
theorem JA (c : GCipher) : X0 c = some (ZY c):=by
 unfold X0 ZY XH
 rw [Hb]
 cases hf : WW c.Field
 ·rfl
 ·obtain ⟨m,hm,h1,h2⟩:=Un hf
  simp only [hm,Option.bind_some,if_true,T6,KU m h2 h1,K7,Ts,Int.toNat_natCast]
  cases Vi c.Box.toList <;> cases (detC m c.Mix != 0) <;> cases XF c.Places <;> simp
theorem H8 (c : GCipher) : WS c = some (ZY c):=by
 unfold WS ZY
 rw [JC]
 cases hf : WW c.Field
 ·rfl
 ·obtain ⟨m,hm,h1,h2⟩:=Un hf
  simp only [hm,Option.bind_some,Bool.not_true,Bool.false_eq_true,if_false,H5,Hr,Kr,KD m h2 h1,Int.toNat_natCast]
  cases Vi c.Box.toList <;> cases (detC m c.Mix != 0) <;> cases XF c.Places <;> cases decide (1 ≤ c.Rounds ∧ c.Rounds ≤ 20) <;> simp
theorem Tb {c : GCipher} (h : ZY c = true) : ∃ m : Nat,c.Field = m ∧ 256 ≤ m ∧ m < 512:=by
 unfold ZY at h
 simp only [Bool.and_eq_true] at h
 exact Un h.1.1.1.1
theorem WQ {n : Nat} (L : Vector UInt8 n × Int → Option (Fl (Vector UInt8 n × Int) (Vector UInt8 n))) (f h : Nat → UInt8) (hn : n < 9223372036854775807) (m : Nat) (hm : m ≤ n) (h0 : ∀ j,j < m → h j = f j)
  (hL : ∀ i,m ≤ i → i < n → ∀ a : Nat → UInt8,(∀ j,j < i → a j = h j) → (∀ j,i ≤ j → a j = f j) → L (vf n a,(i : Int)) = some (.nx ((vf n a).setIfInBounds i (h i),wr ((i : Int) + 1))))
  (he : ∀ v,L (v,(n : Int)) = some (.ex v)) : ZD L (vf n f,(m : Int)) = some (vf n h):=by
 have k1 : (vf n fun j=>if j < n then h j else f j) = vf n h:=XE fun j hj=>by rw [if_pos hj]
 have k0 : (vf n fun j=>if j < m then h j else f j) = vf n f:=XE fun j hj=>by
  by_cases h1 : j < m
  ·rw [if_pos h1,h0 j h1]
  ·rw [if_neg h1]
 have:=Ya (f:=L) (fun i : Nat=>(vf n fun j=>if j < i then h j else f j,(i : Int))) m n hm (t:=vf n h) (fun i hmi hi=>by
  rw [hL i hmi hi _ (fun j hj=>by rw [if_pos hj]) (fun j hj=>by rw [if_neg (by omega)]),X9,XU (show i < 9223372036854775807 by omega)]
  refine congrArg (fun z=>some (Fl.nx (z,((i + 1 : Nat) : Int)))) (XE fun j hj=>?_)
  by_cases h1 : j = i
  ·subst h1; simp
  ·by_cases h2 : j < i
   ·rw [if_neg h1,if_pos h2,if_pos (by omega)]
   ·rw [if_neg h1,if_neg h2,if_neg (by omega)]) (by
  simp only [k1]
  exact he _)
 simp only [k0] at this
 exact this
def Kf (b : Vector UInt8 256) (x : UInt8) : UInt8:=b[x.toNat]'(UInt8.toNat_lt x)
theorem VV (b : Vector UInt8 256) (x : UInt8) : Zq b (bI x) = some (Kf b x):=by
 have : Zq b ((x.toNat : Nat) : Int) = _:=WC b x.toNat
 rw [Vector.getElem?_eq_getElem (UInt8.toNat_lt x)] at this
 exact this
abbrev Blk:=Vector UInt8 16
def bf (v : Blk) (i : Nat) : UInt8:=v[i]?.getD default
theorem vf_bf (v : Blk) : v = vf 16 (bf v):=Jp v
theorem Q5 {i : Nat} (h : i < 16) : decide ((i : Int) < 16) = true:=by simp; omega
def Q4 (f g : Nat → UInt8) : Nat → UInt8:=fun i=>f i ^^^ g i
theorem QG (f g : Nat → UInt8) : X8 (vf 16 f) (vf 16 g) = some (vf 16 (Q4 f g)):=by
 unfold X8
 have:=WQ (XK (vf 16 g)) f (Q4 f g) (by omega) 0 (by omega) (fun j hj=>by omega) (fun i _ hi a _ ha=>by
  unfold XK
  simp only [Q5 hi,if_true,ZH _ hi,Option.bind_some,Int.toNat_natCast,ha i (Nat.le_refl _),Q4]) (fun v=>by unfold XK; simp)
 have h2 : ZD (XK (vf 16 g)) (vf 16 f,0) = _:=this
 rw [h2]; rfl
theorem Us (f g : Nat → UInt8) : Y3 (vf 16 f) (vf 16 g) = some (vf 16 (Q4 f g)):=by
 unfold Y3
 have:=WQ (YP (vf 16 g)) f (Q4 f g) (by omega) 0 (by omega) (fun j hj=>by omega) (fun i _ hi a _ ha=>by
  unfold YP
  simp only [Q5 hi,if_true,ZH _ hi,Option.bind_some,Int.toNat_natCast,ha i (Nat.le_refl _),Q4]) (fun v=>by unfold YP; simp)
 have h2 : ZD (YP (vf 16 g)) (vf 16 f,0) = _:=this
 rw [h2]; rfl
def QW (b : Vector UInt8 256) (f : Nat → UInt8) : Nat → UInt8:=fun i=>Kf b (f i)
theorem JF (b : Vector UInt8 256) (f : Nat → UInt8) : X4 b (vf 16 f) = some (vf 16 (QW b f)):=by
 unfold X4
 have:=WQ (Y5 b) f (QW b f) (by omega) 0 (by omega) (fun j hj=>by omega) (fun i _ hi a _ ha=>by
  unfold Y5
  simp only [Q5 hi,if_true,ZH _ hi,Option.bind_some,Int.toNat_natCast,ha i (Nat.le_refl _),VV,QW]) (fun v=>by unfold Y5; simp)
 have h2 : ZD (Y5 b) (vf 16 f,0) = _:=this
 rw [h2]; rfl
def UH (p : Blk) (f : Nat → UInt8) : Nat → UInt8:=fun i=>f (bf p i).toNat
theorem TO {p : Blk} (h : XF p = true) {i : Nat} (hi : i < 16) : (bf p i).toNat < 16:=by
 unfold XF at h
 simp only [Bool.and_eq_true,List.all_eq_true,decide_eq_true_eq] at h
 have e : bf p i = p[i]:=by unfold bf; rw [Vector.getElem?_eq_getElem hi]; rfl
 have:=h.1 p[i] (by simp)
 rw [UInt8.lt_iff_toNat_lt] at this
 rw [e]; exact this
theorem Tl (p : Blk) {i : Nat} (h : i < 16) : Zq p (i : Int) = some (bf p i):=by
 rw [WC]; unfold bf; rw [Vector.getElem?_eq_getElem h]; rfl
theorem KQ (f : Nat → UInt8) {x : UInt8} (h : x.toNat < 16) : Zq (vf 16 f) (bI x) = some (f x.toNat):=ZH f h
theorem J7 (p : Blk) (hp : XF p = true) (f : Nat → UInt8) : Wo p (vf 16 f) = some (vf 16 (UH p f)):=by
 unfold Wo
 have:=WQ (Xm p (vf 16 f)) (fun _=>0) (UH p f) (by omega) 0 (by omega) (fun j hj=>by omega) (fun i _ hi a _ ha=>by
  unfold Xm
  simp only [Q5 hi,if_true,ZH _ hi,Tl _ hi,Option.bind_some,Int.toNat_natCast,KQ f (TO hp hi),UH]) (fun v=>by unfold Xm; simp)
 have h2 : ZD (Xm p (vf 16 f)) (vf 16 (fun _=>0),0) = _:=this
 rw [Vz 16 (0 : UInt8),h2]; rfl
theorem v_move (p : Blk) (hp : XF p = true) (f : Nat → UInt8) : Xc p (vf 16 f) = some (vf 16 (UH p f)):=by
 unfold Xc
 have:=WQ (Yo p (vf 16 f)) (fun _=>0) (UH p f) (by omega) 0 (by omega) (fun j hj=>by omega) (fun i _ hi a _ ha=>by
  unfold Yo
  simp only [Q5 hi,if_true,ZH _ hi,Tl _ hi,Option.bind_some,Int.toNat_natCast,KQ f (TO hp hi),UH]) (fun v=>by unfold Yo; simp)
 have h2 : ZD (Yo p (vf 16 f)) (vf 16 (fun _=>0),0) = _:=this
 rw [Vz 16 (0 : UInt8),h2]; rfl

def VL (b : Vector UInt8 256) (f : Nat → UInt8) (r : Int) : Nat → UInt8
 | 0=>f 0 ^^^ Kf b (f 15 ^^^ ZO r)
 | i + 1=>f (i + 1) ^^^ Kf b (VL b f r i)
theorem Hv (b : Vector UInt8 256) (f : Nat → UInt8) (r : Int) : Wp b (vf 16 f) r = some (vf 16 (VL b f r)) := by
  unfold Wp
  have := WQ (Xn b r) f (VL b f r) (by omega) 0 (by omega) (fun j hj => by omega) (fun i _ hi a hb ha => by
    unfold Xn
    cases i with
    | zero =>
      have e1 : Int.tmod (wr (((0 : Nat) : Int) + 15)) 16 = ((15 : Nat) : Int) := by decide
      simp only [e1, Q5 hi, if_true, ZH a (show 15 < 16 by omega), Option.bind_some]
      have e2 : (((0 : Nat) : Int) == 0) = true := rfl
      simp only [e2, if_true, Option.bind_some, VV, ZH a hi, Int.toNat_natCast, ha 0 (by omega), ha 15 (by omega), VL]
    | succ i =>
      have e1 : Int.tmod (wr (((i + 1 : Nat) : Int) + 15)) 16 = ((i : Nat) : Int) := by
        rw [XO (by omega)]
        have : (((i + 1 : Nat) : Int) + 15) = ((i + 16 : Nat) : Int) := by omega
        rw [this]
        have : Int.tmod ((i + 16 : Nat) : Int) 16 = (((i + 16) % 16 : Nat) : Int) := rfl
        rw [this]
        omega
      have e2 : (((i + 1 : Nat) : Int) == 0) = false := by have : ((i + 1 : Nat) : Int) ≠ 0 := by omega
                                                           simpa using this
      simp only [e1, e2, Q5 hi, if_true, ZH a (show i < 16 by omega), Option.bind_some, Bool.false_eq_true, if_false, VV, ZH a hi, Int.toNat_natCast, ha (i + 1) (Nat.le_refl _), hb i (by omega), VL]) (fun v => by unfold Xn; simp)
  have h2 : ZD (Xn b r) (vf 16 f, 0) = _ := this
  rw [h2]; rfl
theorem Ho (e : Ref Gengine) (f : Nat → UInt8) (r : Int) : Yv e (vf 16 f) r = some (vf 16 (VL e.v.box f r)):=by
 unfold Yv
 have x0 : Zq (vf 16 f) (0 : Int) = some (f 0):=ZH f (show 0 < 16 by omega)
 have x15 : Zq (vf 16 f) (15 : Int) = some (f 15):=ZH f (show 15 < 16 by omega)
 have z : (0 : Int).toNat = 0:=rfl
 simp only [x0,x15,Option.bind_some,VV,z,X9]
 have:=WQ (Z8 e) (fun i=>if i = 0 then f 0 ^^^ Kf e.v.box (f 15 ^^^ ZO r) else f i) (VL e.v.box f r) (by omega) 1 (by omega) (fun j hj=>by
  have : j = 0:=by omega
  subst this; simp [VL]) (fun i h1 hi a hb ha=>by
  unfold Z8
  obtain ⟨i,rfl⟩ : ∃ k,i = k + 1:=⟨i - 1,by omega⟩
  have e1 : wr (((i + 1 : Nat) : Int) - 1) = ((i : Nat) : Int):=by rw [XO (by omega)]; omega
  simp only [e1,Q5 hi,if_true,ZH a (show i < 16 by omega),ZH a hi,Option.bind_some,VV,Int.toNat_natCast,ha (i + 1) (Nat.le_refl _),hb i (by omega),VL]
  simp) (fun v=>by unfold Z8; simp)
 have h2 : ZD (Z8 e) (vf 16 (fun i=>if i = 0 then f 0 ^^^ Kf e.v.box (f 15 ^^^ ZO r) else f i),1) = _:=this
 rw [h2]; rfl
def KC (b : Vector UInt8 256) (k : Nat → UInt8) : Nat → Nat → UInt8
 | 0=>k
 | r + 1=>VL b (KC b k r) ((r + 1 : Nat) : Int)
def XS (b : Vector UInt8 256) (k : Nat → UInt8) (n : Nat) : List Blk:=(List.range (n + 1)).map fun r=>vf 16 (KC b k r)
theorem Kl (b : Vector UInt8 256) (k : Nat → UInt8) (n : Nat) : XS b k (n + 1) = XS b k n ++ [vf 16 (VL b (KC b k n) ((n + 1 : Nat) : Int))]:=by
 unfold XS
 rw [List.range_succ,List.map_append]; rfl
theorem Uo (b : Vector UInt8 256) (k : Nat → UInt8) (n : Nat) : (XS b k n).length = n + 1:=by simp [XS]
theorem Th (b : Vector UInt8 256) (k : Nat → UInt8) {n r : Nat} (h : r ≤ n) : idx (XS b k n) (r : Int) = some (vf 16 (KC b k r)):=by
 rw [Vf]; unfold XS; rw [List.getElem?_map,List.getElem?_range (by omega)]; rfl
theorem Hl (c : GCipher) (k : Nat → UInt8) (n : Nat) (hn : n ≤ 1000) : Wu c (vf 16 k) (n : Int) = some (XS c.Box k n):=by
 unfold Wu
 have:=Ya (f:=Xl c (n : Int)) (fun i : Nat=>(vf 16 (KC c.Box k (i - 1)),XS c.Box k (i - 1),(i : Int))) 1 (n + 1) (by omega) (t:=XS c.Box k n) (fun i h1 hi=>by
  unfold Xl
  obtain ⟨i,rfl⟩ : ∃ q,i = q + 1:=⟨i - 1,by omega⟩
  have e1 : decide (((i + 1 : Nat) : Int) ≤ (n : Int)) = true:=by simp; omega
  have e2 : app 16 (XS c.Box k i) [vf 16 (VL c.Box (KC c.Box k i) ((i + 1 : Nat) : Int))] = _:=HH (by rw [Uo]; simp; omega)
  simp only [Nat.add_sub_cancel,e1,if_true,Hv,Option.bind_some,e2,XU (show i + 1 < 9223372036854775807 by omega),Kl]
  rfl) (by
  unfold Xl
  have e1 : decide (((n + 1 : Nat) : Int) ≤ (n : Int)) = false:=by simp; omega
  simp only [e1,Bool.false_eq_true,if_false,Nat.add_sub_cancel])
 have h2 : ZD (Xl c (n : Int)) (vf 16 k,[vf 16 k],1) = _:=this
 rw [h2]; rfl
theorem v_keys (e : Ref Gengine) (k : Nat → UInt8) (n : Nat) (hn : n ≤ 1000) : Xa e (vf 16 k) (n : Int) = some (XS e.v.box k n):=by
 unfold Xa
 have:=Ya (f:=Yp e (n : Int)) (fun i : Nat=>(vf 16 (KC e.v.box k (i - 1)),XS e.v.box k (i - 1),(i : Int))) 1 (n + 1) (by omega) (t:=XS e.v.box k n) (fun i h1 hi=>by
  unfold Yp
  obtain ⟨i,rfl⟩ : ∃ q,i = q + 1:=⟨i - 1,by omega⟩
  have e1 : decide (((i + 1 : Nat) : Int) ≤ (n : Int)) = true:=by simp; omega
  have e2 : app 16 (XS e.v.box k i) [vf 16 (VL e.v.box (KC e.v.box k i) ((i + 1 : Nat) : Int))] = _:=HH (by rw [Uo]; simp; omega)
  simp only [Nat.add_sub_cancel,e1,if_true,Ho,Option.bind_some,e2,XU (show i + 1 < 9223372036854775807 by omega),Kl]
  rfl) (by
  unfold Yp
  have e1 : decide (((n + 1 : Nat) : Int) ≤ (n : Int)) = false:=by simp; omega
  simp only [e1,Bool.false_eq_true,if_false,Nat.add_sub_cancel])
 have h2 : ZD (Yp e (n : Int)) (vf 16 k,[vf 16 k],1) = _:=this
 rw [h2]; rfl

def rowF (m : Nat) (a : MF) (f : Nat → UInt8) (c r : Nat) : UInt8:=((ZJ m (a r 0) (f c) ^^^ ZJ m (a r 1) (f (c + 1))) ^^^ ZJ m (a r 2) (f (c + 2))) ^^^ ZJ m (a r 3) (f (c + 3))
def Wd (m : Nat) (a : MF) (f : Nat → UInt8) : Nat → UInt8:=fun i=>rowF m a f (i / 4 * 4) (i % 4)
theorem Bb (f : Nat → UInt8) (k : Nat) (x y : UInt8) : (fun i=>if i = k then y else if i = k then x else f i) = fun i=>if i = k then y else f i:=by
 funext i; by_cases h : i = k <;> simp [h]
theorem wr_at {c r : Nat} (hc : c < 4) (hr : r < 4) : wr (wr (4 * (c : Int)) + (r : Int)) = ((c * 4 + r : Nat) : Int):=by
 rw [XO (x:=4 * (c : Int)) (by omega),XO (by omega)]; omega
theorem H9 (m : Nat) (hm : m < 512) (hm2 : 256 ≤ m) (a : MF) (f g : Nat → UInt8) (c r : Nat) (hc : c < 4) (hr : r < 4) (s1 s2 : Blk × Int) (h1 : s1.2 = (c : Int)) (h2 : s2.2 = (r : Int)) (hg : g (c * 4 + r) = 0) :
  ZD (YJ (m : Int) (mf a) (vf 16 f) s1 s2) (vf 16 g,0) = some (vf 16 fun i=>if i = c * 4 + r then rowF m a f (c * 4) r else g i):=by
 have hcr : c * 4 + r < 16:=by omega
 have step : ∀ (j : Nat) (h : Nat → UInt8),j < 4 → YJ (m : Int) (mf a) (vf 16 f) s1 s2 (vf 16 h,(j : Int)) = some (.nx (vf 16 (fun i=>if i = c * 4 + r then h (c * 4 + r) ^^^ ZJ m (a r j) (f (c * 4 + j)) else h i),((j + 1 : Nat) : Int))):=fun j h hj=>by
  unfold YJ
  simp only [h1,h2,lt4 hj,if_true,wr_at hc hr,wr_at hc hj,ZH _ hcr,YE _ hr,ZH _ hj,ZH f (show c * 4 + j < 16 by omega),Option.bind_some,VB m hm hm2,Int.toNat_natCast,X9,wr4 (show j < 1000 by omega)]
 have e0:=step 0 g (by omega)
 have e1:=step 1 (fun i=>if i = c * 4 + r then g (c * 4 + r) ^^^ ZJ m (a r 0) (f (c * 4 + 0)) else g i) (by omega)
 have e2:=step 2 (fun i=>if i = c * 4 + r then (g (c * 4 + r) ^^^ ZJ m (a r 0) (f (c * 4 + 0))) ^^^ ZJ m (a r 1) (f (c * 4 + 1)) else g i) (by omega)
 have e3:=step 3 (fun i=>if i = c * 4 + r then ((g (c * 4 + r) ^^^ ZJ m (a r 0) (f (c * 4 + 0))) ^^^ ZJ m (a r 1) (f (c * 4 + 1))) ^^^ ZJ m (a r 2) (f (c * 4 + 2)) else g i) (by omega)
 have e4 : ∀ v : Blk,YJ (m : Int) (mf a) (vf 16 f) s1 s2 (v,((4 : Nat) : Int)) = some (.ex v):=fun v=>by unfold YJ; simp
 simp only [if_true,Bb] at e1 e2 e3
 have e0' : YJ (m : Int) (mf a) (vf 16 f) s1 s2 (vf 16 g,0) = _:=e0
 rw [Wc e0',Wc e1,Wc e2,Wc e3,YW (e4 _)]
 refine congrArg some (XE fun i _=>?_)
 by_cases h : i = c * 4 + r
 ·simp [h,hg,rowF]
 ·simp [h]
theorem HT (m : Nat) (hm : m < 512) (hm2 : 256 ≤ m) (a : MF) (f : Nat → UInt8) : WG (m : Int) (mf a) (vf 16 f) = some (vf 16 (Wd m a f)):=by
 unfold WG
 -- after c columns and r rows of the next
 have inner : ∀ c : Nat,c < 4 → ∀ s1 : Blk × Int,s1.2 = (c : Int) → ZD (XR (m : Int) (mf a) (vf 16 f) s1) (vf 16 (fun i=>if i < c * 4 then Wd m a f i else 0),0) = some (vf 16 fun i=>if i < (c + 1) * 4 then Wd m a f i else 0):=fun c hc s1 h1=>by
  have k1 : (vf 16 fun i=>if i < c * 4 + 4 then Wd m a f i else 0) = vf 16 fun i=>if i < (c + 1) * 4 then Wd m a f i else 0:=by rw [show c * 4 + 4 = (c + 1) * 4 by omega]
  have:=Ya (f:=XR (m : Int) (mf a) (vf 16 f) s1) (fun r : Nat=>(vf 16 fun i=>if i < c * 4 + r then Wd m a f i else 0,(r : Int))) 0 4 (by omega) (t:=vf 16 fun i=>if i < (c + 1) * 4 then Wd m a f i else 0) (fun r _ hr=>by
   unfold XR
   have h2:=H9 m hm hm2 a f (fun i=>if i < c * 4 + r then Wd m a f i else 0) c r hc hr s1 (vf 16 fun i=>if i < c * 4 + r then Wd m a f i else 0,(r : Int)) h1 rfl (by simp)
   simp only [lt4 hr,if_true,h2,Option.bind_some,wr4 (show r < 1000 by omega)]
   refine congrArg (fun z=>some (Fl.nx (z,((r + 1 : Nat) : Int)))) (XE fun i _=>?_)
   by_cases h : i = c * 4 + r
   ·subst h
    have q1 : (c * 4 + r) / 4 = c:=by omega
    have q2 : (c * 4 + r) % 4 = r:=by omega
    rw [if_pos rfl,if_pos (by omega)]
    unfold Wd; rw [q1,q2]
   ·by_cases h3 : i < c * 4 + r
    ·rw [if_neg h,if_pos h3,if_pos (by omega)]
    ·rw [if_neg h,if_neg h3,if_neg (by omega)]) (by
   unfold XR
   simp only [k1]
   simp)
  exact this
 have:=Ya (f:=XN (m : Int) (mf a) (vf 16 f)) (fun c : Nat=>(vf 16 fun i=>if i < c * 4 then Wd m a f i else 0,(c : Int))) 0 4 (by omega) (t:=vf 16 (Wd m a f)) (fun c _ hc=>by
  unfold XN
  have h2:=inner c hc (vf 16 fun i=>if i < c * 4 then Wd m a f i else 0,(c : Int)) rfl
  simp only [lt4 hc,if_true,h2,Option.bind_some,wr4 (show c < 1000 by omega)]) (by
  unfold XN
  have : (vf 16 fun i=>if i < 4 * 4 then Wd m a f i else 0) = vf 16 (Wd m a f):=XE fun i hi=>by rw [if_pos (by omega)]
  simp only [this]
  simp)
 have e0 : (vf 16 fun i=>if i < 0 * 4 then Wd m a f i else 0) = vf 16 fun _=>(0 : UInt8):=XE fun i _=>by rw [if_neg (by omega)]
 simp only [e0] at this
 have h2 : ZD (XN (m : Int) (mf a) (vf 16 f)) (vf 16 fun _=>(0 : UInt8),0) = _:=this
 rw [Vz 16 (0 : UInt8),h2]; rfl

abbrev Tab:=Vector (Vector (Vector UInt8 256) 4) 4
def Qa (m : Nat) (a : MF) : Tab:=vf 4 fun i=>vf 4 fun j=>vf 256 fun x=>ZJ m (a i j) (UInt8.ofNat x)
theorem HO (m : Nat) (a : MF) (i j : Nat) (x : UInt8) : Zq (vf 256 fun x=>ZJ m (a i j) (UInt8.ofNat x)) (bI x) = some (ZJ m (a i j) x):=by
 rw [show bI x = ((x.toNat : Nat) : Int) from rfl,ZH _ (UInt8.toNat_lt x)]
 simp
theorem v_mix (m : Nat) (a : MF) (f : Nat → UInt8) : XL ⟨Qa m a⟩ (vf 16 f) = some (vf 16 (Wd m a f)):=by
 unfold XL
 have i0 : ∀ (v : Vector (Vector UInt8 256) 4),Zq v (0 : Int) = v[0]?:=fun v=>WC v 0
 have i1 : ∀ (v : Vector (Vector UInt8 256) 4),Zq v (1 : Int) = v[1]?:=fun v=>WC v 1
 have i2 : ∀ (v : Vector (Vector UInt8 256) 4),Zq v (2 : Int) = v[2]?:=fun v=>WC v 2
 have i3 : ∀ (v : Vector (Vector UInt8 256) 4),Zq v (3 : Int) = v[3]?:=fun v=>WC v 3
 have inner : ∀ c : Nat,c < 4 → ∀ s1 : Blk × Int,s1.2 = ((c * 4 : Nat) : Int) → ZD (YS ⟨Qa m a⟩ s1 (f (c * 4),f (c * 4 + 1),f (c * 4 + 2),f (c * 4 + 3))) (vf 16 (fun i=>if i < c * 4 then Wd m a f i else f i),0) = some (vf 16 fun i=>if i < (c + 1) * 4 then Wd m a f i else f i):=fun c hc s1 h1=>by
  have k1 : (vf 16 fun i=>if i < c * 4 + 4 then Wd m a f i else f i) = vf 16 fun i=>if i < (c + 1) * 4 then Wd m a f i else f i:=by rw [show c * 4 + 4 = (c + 1) * 4 by omega]
  have:=Ya (f:=YS ⟨Qa m a⟩ s1 (f (c * 4),f (c * 4 + 1),f (c * 4 + 2),f (c * 4 + 3))) (fun r : Nat=>(vf 16 fun i=>if i < c * 4 + r then Wd m a f i else f i,(r : Int))) 0 4 (by omega) (t:=vf 16 fun i=>if i < (c + 1) * 4 then Wd m a f i else f i) (fun r _ hr=>by
   unfold YS
   have e1 : wr (s1.2 + (r : Int)) = ((c * 4 + r : Nat) : Int):=by rw [h1,XO (by omega)]; omega
   have et : Zq (Qa m a) (r : Int) = some (vf 4 fun j=>vf 256 fun x=>ZJ m (a r j) (UInt8.ofNat x)):=ZH _ hr
   simp only [lt4 hr,if_true,et,i0,i1,i2,i3,VX _ (show 0 < 4 by omega),VX _ (show 1 < 4 by omega),VX _ (show 2 < 4 by omega),VX _ (show 3 < 4 by omega),HO,e1,ZH _ (show c * 4 + r < 16 by omega),Option.bind_some,Int.toNat_natCast,X9,wr4 (show r < 1000 by omega)]
   refine congrArg (fun z=>some (Fl.nx (z,((r + 1 : Nat) : Int)))) (XE fun i _=>?_)
   by_cases h : i = c * 4 + r
   ·subst h
    have q1 : (c * 4 + r) / 4 = c:=by omega
    have q2 : (c * 4 + r) % 4 = r:=by omega
    rw [if_pos rfl,if_pos (by omega)]
    unfold Wd; rw [q1,q2]; rfl
   ·by_cases h3 : i < c * 4 + r
    ·rw [if_neg h,if_pos h3,if_pos (by omega)]
    ·rw [if_neg h,if_neg h3,if_neg (by omega)]) (by
   unfold YS
   simp only [k1]
   simp)
  exact this
 have:=Ya (f:=YQ ⟨Qa m a⟩) (fun c : Nat=>(vf 16 fun i=>if i < c * 4 then Wd m a f i else f i,((c * 4 : Nat) : Int))) 0 4 (by omega) (t:=vf 16 (Wd m a f)) (fun c _ hc=>by
  unfold YQ
  have hd : decide (((c * 4 : Nat) : Int) < ((vf 16 fun i=>if i < c * 4 then Wd m a f i else f i).toList.length : Int)) = true:=by rw [Vector.length_toList]; simp; omega
  have x0:=ZH (n:=16) (fun i=>if i < c * 4 then Wd m a f i else f i) (show c * 4 < 16 by omega)
  have x1:=ZH (n:=16) (fun i=>if i < c * 4 then Wd m a f i else f i) (show c * 4 + 1 < 16 by omega)
  have x2:=ZH (n:=16) (fun i=>if i < c * 4 then Wd m a f i else f i) (show c * 4 + 2 < 16 by omega)
  have x3:=ZH (n:=16) (fun i=>if i < c * 4 then Wd m a f i else f i) (show c * 4 + 3 < 16 by omega)
  have w1 : wr (((c * 4 : Nat) : Int) + 1) = ((c * 4 + 1 : Nat) : Int):=by rw [XO (by omega)]; omega
  have w2 : wr (((c * 4 : Nat) : Int) + 2) = ((c * 4 + 2 : Nat) : Int):=by rw [XO (by omega)]; omega
  have w3 : wr (((c * 4 : Nat) : Int) + 3) = ((c * 4 + 3 : Nat) : Int):=by rw [XO (by omega)]; omega
  have w4 : wr (((c * 4 : Nat) : Int) + 4) = (((c + 1) * 4 : Nat) : Int):=by rw [XO (by omega)]; omega
  rw [if_neg (by omega)] at x0 x1 x2 x3
  have h2:=inner c hc (vf 16 fun i=>if i < c * 4 then Wd m a f i else f i,((c * 4 : Nat) : Int)) rfl
  simp only [hd,if_true,x0,w1,x1,w2,x2,w3,x3,Option.bind_some,h2,w4]) (by
  unfold YQ
  have : (vf 16 fun i=>if i < 4 * 4 then Wd m a f i else f i) = vf 16 (Wd m a f):=XE fun i hi=>by rw [if_pos (by omega)]
  simp only [this]
  simp)
 have e0 : (vf 16 fun i=>if i < 0 * 4 then Wd m a f i else f i) = vf 16 f:=XE fun i _=>by rw [if_neg (by omega)]
 simp only [e0] at this
 have h2 : ZD (YQ ⟨Qa m a⟩) (vf 16 f,0) = _:=this
 rw [h2]; rfl

def tb (g : Nat → Nat → Nat → UInt8) : Tab:=vf 4 fun i=>vf 4 fun j=>vf 256 (g i j)
theorem TQ {g h : Nat → Nat → Nat → UInt8} (e : ∀ i,i < 4 → ∀ j,j < 4 → ∀ x,x < 256 → g i j x = h i j x) : tb g = tb h :=
 XE fun i hi=>XE fun j hj=>XE fun x hx=>e i hi j hj x hx
theorem Bl (g : Nat → Nat → Nat → UInt8) {i : Nat} (hi : i < 4) : Zq (tb g) (i : Int) = some (vf 4 fun j=>vf 256 (g i j)):=ZH _ hi
theorem Hx (g : Nat → Nat → Nat → UInt8) (i : Nat) {j : Nat} (hj : j < 4) : Zq (vf 4 fun j=>vf 256 (g i j)) (j : Int) = some (vf 256 (g i j)):=ZH _ hj
theorem tb_set (g : Nat → Nat → Nat → UInt8) (i j : Nat) (h : Nat → UInt8) : (tb g).setIfInBounds i ((vf 4 fun j=>vf 256 (g i j)).setIfInBounds j (vf 256 h)) = tb (fun i' j'=>if i' = i ∧ j' = j then h else g i' j'):=by
 unfold tb
 rw [X9,X9]
 refine XE fun i' _=>?_
 by_cases h1 : i' = i
 ·subst h1
  rw [if_pos rfl]
  refine XE fun j' _=>?_
  by_cases h2 : j' = j
  ·subst h2; simp
  ·simp [h2]
 ·rw [if_neg h1]
  refine XE fun j' _=>?_
  simp [h1]
theorem Bi (a b : Nat) (ha : a < 9223372036854775808) (hb : b < 9223372036854775808) : orI (a : Int) (b : Int) = ((a ||| b : Nat) : Int):=by
 unfold orI
 rw [BitVec.toNat_or,TG a ha,TG b hb]
 have : a ||| b < 2 ^ 63:=Nat.or_lt_two_pow ha hb
 exact XO (by omega)
theorem Vc (n : Nat) : ZO (n : Int) = UInt8.ofNat n:=by
 unfold ZO
 have : ((n : Int) % 256).toNat = n % 256:=by omega
 rw [this]
 apply UInt8.toNat_inj.1
 simp
theorem Bn (g : Nat → Nat → Nat → UInt8) (i j : Nat) (h : Nat → UInt8) : (tb g).setIfInBounds i (vf 4 fun j'=>if j' = j then vf 256 h else vf 256 (g i j')) = tb (fun i' j'=>if i' = i ∧ j' = j then h else g i' j'):=by
 have:=tb_set g i j h
 rw [X9] at this
 exact this
theorem HG {p low : Nat} (h : low < 2 ^ p) : 2 ^ p ||| low = 2 ^ p + low:=by
 have:=Nat.two_pow_add_eq_or_of_lt h 1
 simpa using this.symm
theorem Hz {p low : Nat} (hp : p < 8) (h : low < 2 ^ p) : UInt8.ofNat (2 ^ p + low) = UInt8.ofNat (2 ^ p) ^^^ UInt8.ofNat low:=by
 apply UInt8.toNat_inj.1
 have h7 : 2 ^ p ≤ 2 ^ 7:=Nat.pow_le_pow_right (by omega) (by omega)
 rw [UInt8.toNat_xor]
 simp only [UInt8.toNat_ofNat']
 rw [Nat.mod_eq_of_lt (by omega),Nat.mod_eq_of_lt (by omega),Nat.mod_eq_of_lt (by omega)]
 rw [← HG h]
 apply Nat.eq_of_testBit_eq
 intro i
 rw [Nat.testBit_or,Nat.testBit_xor,Nat.testBit_two_pow]
 by_cases hi : p = i
 ·subst hi
  rw [Nat.testBit_lt_two_pow h]; simp
 ·simp [hi]
section
variable (m : Nat) (hm : m < 512) (hm2 : 256 ≤ m) (a : MF)
include hm hm2
def Uj (m : Nat) (a : MF) (i j n : Nat) (g : Nat → Nat → Nat → UInt8) : Nat → Nat → Nat → UInt8:=fun i' j'=>if i' = i ∧ j' = j then (fun x=>if x < n then ZJ m (a i j) (UInt8.ofNat x) else 0) else g i' j'
theorem Hw (i j p : Nat) (hi : i < 4) (hj : j < 4) (hp : p < 8) (g : Nat → Nat → Nat → UInt8) (s0 s1 s2 : Tab × Int) (h0 : s0.2 = (i : Int)) (h1 : s1.2 = (j : Int)) (h2 : s2.2 = ((2 ^ p : Nat) : Int)) :
  ZD (Y4 s0 s1 s2 (ZJ m (a i j) (UInt8.ofNat (2 ^ p)))) (tb (Uj m a i j (2 ^ p) g),0) = some (tb (Uj m a i j (2 ^ (p + 1)) g)):=by
 have h7 : 2 ^ p ≤ 2 ^ 7:=Nat.pow_le_pow_right (by omega) (by omega)
 have k1 : 2 ^ p + 2 ^ p = 2 ^ (p + 1):=by rw [Nat.pow_succ]; omega
 have:=Ya (f:=Y4 s0 s1 s2 (ZJ m (a i j) (UInt8.ofNat (2 ^ p)))) (fun low : Nat=>(tb (Uj m a i j (2 ^ p + low) g),(low : Int))) 0 (2 ^ p) (Nat.zero_le _) (t:=tb (Uj m a i j (2 ^ (p + 1)) g)) (fun low _ hl=>by
  unfold Y4
  have hd : decide ((low : Int) < ((2 ^ p : Nat) : Int)) = true:=by simp only [decide_eq_true_eq]; omega
  have ho : orI ((2 ^ p : Nat) : Int) (low : Int) = ((2 ^ p + low : Nat) : Int):=by rw [Bi _ _ (by omega) (by omega),HG hl]
  have eg : Uj m a i j (2 ^ p + low) g i j = fun x=>if x < 2 ^ p + low then ZJ m (a i j) (UInt8.ofNat x) else 0:=by simp [Uj]
  simp only [h0,h1,h2,hd,if_true,Bl _ hi,Hx _ i hj,eg,ZH _ (show low < 256 by omega),ho,ZH _ (show 2 ^ p + low < 256 by omega),Option.bind_some,Int.toNat_natCast,X9,XU (show low < 9223372036854775807 by omega)]
  rw [if_pos (show low < 2 ^ p + low from Nat.lt_add_of_pos_left (Nat.two_pow_pos p)),← JH hm2 hm,← Hz hp hl]
  have:=Bn (Uj m a i j (2 ^ p + low) g) i j (fun x=>if x = 2 ^ p + low then ZJ m (a i j) (UInt8.ofNat (2 ^ p + low)) else if x < 2 ^ p + low then ZJ m (a i j) (UInt8.ofNat x) else 0)
  rw [this]
  refine congrArg (fun z=>some (Fl.nx (z,((low + 1 : Nat) : Int)))) (TQ fun i' _ j' _ x _=>?_)
  unfold Uj
  by_cases h : i' = i ∧ j' = j
  ·simp only [h,and_self,if_true]
   by_cases hx : x = 2 ^ p + low
   ·subst hx; simp
   ·by_cases hx2 : x < 2 ^ p + low
    ·rw [if_neg hx,if_pos hx2,if_pos (by omega)]
    ·rw [if_neg hx,if_neg hx2,if_neg (by omega)]
  ·simp only [h,if_false]) (by
  unfold Y4
  simp only [h2,k1]
  simp)
 exact this
theorem H0 (i j : Nat) (hi : i < 4) (hj : j < 4) (g : Nat → Nat → Nat → UInt8) (s0 s1 : Tab × Int) (h0 : s0.2 = (i : Int)) (h1 : s1.2 = (j : Int)) :
  ZD (Y1 (m : Int) s0 s1 (a i j)) (tb (Uj m a i j 1 g),1) = some (tb (Uj m a i j 256 g)):=by
 have:=Ya (f:=Y1 (m : Int) s0 s1 (a i j)) (fun p : Nat=>(tb (Uj m a i j (2 ^ p) g),((2 ^ p : Nat) : Int))) 0 8 (by omega) (t:=tb (Uj m a i j 256 g)) (fun p _ hp=>by
  unfold Y1
  have h7 : 2 ^ p ≤ 2 ^ 7:=Nat.pow_le_pow_right (by omega) (by omega)
  have hd : decide (((2 ^ p : Nat) : Int) < 256) = true:=by simp only [decide_eq_true_eq]; omega
  have hb : ZO ((2 ^ p : Nat) : Int) = UInt8.ofNat (2 ^ p):=by rw [Vc]
  have hw : wr (((2 ^ p : Nat) : Int) * 2) = ((2 ^ (p + 1) : Nat) : Int):=by
   rw [Nat.pow_succ]
   generalize 2 ^ p = q at h7 ⊢
   rw [XO (by omega)]; omega
  have h3:=Hw m hm hm2 a i j p hi hj hp g s0 s1 (tb (Uj m a i j (2 ^ p) g),((2 ^ p : Nat) : Int)) h0 h1 rfl
  simp only [hd,if_true,hb,WJ m hm,Option.bind_some,h3,hw]) (by unfold Y1; simp)
 exact this
theorem Qx (A : Mat) (hA : A = mf a) : Xt (m : Int) A = some ⟨Qa m a⟩:=by
 subst hA
 unfold Xt
 let G : Nat → Nat → Nat → Nat → Nat → UInt8:=fun r c i j x=>if i < r ∨ (i = r ∧ j < c) then ZJ m (a i j) (UInt8.ofNat x) else 0
 have hGt : ∀ r c i j x,(i < r ∨ (i = r ∧ j < c)) → G r c i j x = ZJ m (a i j) (UInt8.ofNat x):=fun r c i j x h=>if_pos h
 have hGf : ∀ r c i j x,¬ (i < r ∨ (i = r ∧ j < c)) → G r c i j x = 0:=fun r c i j x h=>if_neg h
 have hGe : ∀ r c r' c' i j x,((i < r ∨ (i = r ∧ j < c)) ↔ (i < r' ∨ (i = r' ∧ j < c'))) → G r c i j x = G r' c' i j x:=fun r c r' c' i j x h=>by show (if _ then _ else _) = (if _ then _ else _); simp only [h]
 have z0 : ∀ i j,ZJ m (a i j) (UInt8.ofNat 0) = 0:=fun i j=>by rw [VR hm2 hm]; exact U0 hm2 hm _
 have col : ∀ r : Nat,r < 4 → ∀ s0 : Tab × Int,s0.2 = (r : Int) → ZD (Y0 (m : Int) s0 (vf 4 (a r))) (tb (G r 0),0) = some (tb (G (r + 1) 0)):=fun r hr s0 h0=>by
  have k1 : tb (G r 4) = tb (G (r + 1) 0):=TQ fun i hi j hj x _=>by
   exact hGe _ _ _ _ _ _ _ (by omega)
  have:=Ya (f:=Y0 (m : Int) s0 (vf 4 (a r))) (fun c : Nat=>(tb (G r c),(c : Int))) 0 4 (by omega) (t:=tb (G (r + 1) 0)) (fun c _ hc=>by
   unfold Y0
   have e1 : tb (G r c) = tb (Uj m a r c 1 (G r c)):=TQ fun i _ j _ x _=>by
    unfold Uj
    by_cases h : i = r ∧ j = c
    ·obtain ⟨rfl,rfl⟩:=h
     simp only [and_self,if_true]
     rw [hGf _ _ _ _ _ (by omega)]
     by_cases hx : x < 1
     ·have : x = 0:=by omega
      subst this; rw [if_pos hx,z0]
     ·rw [if_neg hx]
    ·simp only [h,if_false]
   have e2 : tb (Uj m a r c 256 (G r c)) = tb (G r (c + 1)):=TQ fun i _ j _ x hx=>by
    unfold Uj
    by_cases h : i = r ∧ j = c
    ·obtain ⟨rfl,rfl⟩:=h
     simp only [and_self,if_true,hx]
     rw [hGt _ _ _ _ _ (by omega)]
    ·simp only [h,if_false]
     exact hGe _ _ _ _ _ _ _ (by omega)
   have h3:=H0 m hm hm2 a r c hr hc (G r c) s0 (tb (G r c),(c : Int)) h0 rfl
   rw [← e1,e2] at h3
   simp only [lt4 hc,if_true,ZH _ hc,h3,Option.bind_some,wr4 (show c < 1000 by omega)]) (by
   unfold Y0
   simp only [k1]
   simp)
  exact this
 have kz : tb (G 0 0) = Vector.replicate 4 (Vector.replicate 4 (Vector.replicate 256 (0 : UInt8))):=by
  rw [Vz 256 (0 : UInt8),Vz 4,Vz 4]
  exact TQ fun i _ j _ x _=>by
   exact hGf _ _ _ _ _ (by omega)
 have k4 : tb (G 4 0) = Qa m a:=TQ fun i hi j _ x _=>by
  exact hGt _ _ _ _ _ (by omega)
 have:=Ya (f:=Y2 (m : Int) (mf a)) (fun r : Nat=>(tb (G r 0),(r : Int))) 0 4 (by omega) (t:=Qa m a) (fun r _ hr=>by
  unfold Y2
  have h3:=col r hr (tb (G r 0),(r : Int)) rfl
  simp only [lt4 hr,if_true,YE _ hr,h3,Option.bind_some,wr4 (show r < 1000 by omega)]) (by
  unfold Y2
  simp only [k4]
  simp)
 have h2 : ZD (Y2 (m : Int) (mf a)) (tb (G 0 0),0) = _:=this
 rw [← kz,h2]; rfl
end

def QY (n : Nat) (p : Vector UInt8 n) : Nat → Vector UInt8 n
 | 0=>Vector.replicate n 0
 | i + 1=>(QY n p i).setIfInBounds (p.toList.getD i 0).toNat (ZO (i : Int))
theorem Q1 (p : Vector UInt8 256) : Xe p = some (QY 256 p 256):=by
 unfold Xe
 have:=Ya (f:=Yn p) (fun i : Nat=>(QY 256 p i,(i : Int))) 0 256 (by omega) (t:=QY 256 p 256) (fun i _ hi=>by
  unfold Yn
  have hd : decide ((i : Int) < 256) = true:=by simp; omega
  simp only [hd,if_true,Vs p hi,VV,Option.bind_some,Uq,XU (show i < 9223372036854775807 by omega)]
  rfl) (by unfold Yn; simp)
 have h2 : ZD (Yn p) (Vector.replicate 256 0,0) = _:=this
 rw [h2]; rfl
theorem Bk (p : Blk) {i : Nat} (h : i < 16) : p.toList.getD i 0 = bf p i:=by
 have h1:=Vs p h
 rw [Tl p h] at h1
 exact (Option.some.inj h1).symm
theorem Tv (p : Blk) (hp : XF p = true) : Yx p = some (QY 16 p 16):=by
 unfold Yx
 have:=Ya (f:=Z9 p) (fun i : Nat=>(QY 16 p i,(i : Int))) 0 16 (by omega) (t:=QY 16 p 16) (fun i _ hi=>by
  unfold Z9
  have hlt:=TO hp hi
  have hv : Zq (QY 16 p i) (bI (bf p i)) = some (bf (QY 16 p i) (bf p i).toNat):=Tl _ hlt
  simp only [Q5 hi,if_true,Tl p hi,hv,Option.bind_some,Uq,XU (show i < 9223372036854775807 by omega)]
  rw [← Bk p hi]
  rfl) (by unfold Z9; simp)
 have h2 : ZD (Z9 p) (Vector.replicate 16 0,0) = _:=this
 rw [h2]; rfl

def WM (c : GCipher) : Gengine:=⟨c.Box,QY 256 c.Box 256,c.Places,QY 16 c.Places 16,⟨Qa c.Field.toNat (TH c.Mix)⟩,⟨Qa c.Field.toNat (TH (invM c.Field.toNat c.Mix))⟩,c.Rounds⟩
theorem VH {c : GCipher} (h : ZY c = true) : XF c.Places = true:=by
 unfold ZY at h
 simp only [Bool.and_eq_true] at h
 exact h.1.1.2
theorem VI {c : GCipher} (h : ZY c = true) : 1 ≤ c.Rounds ∧ c.Rounds ≤ 20:=by
 unfold ZY at h
 simp only [Bool.and_eq_true,decide_eq_true_eq] at h
 exact h.1.2
theorem KV (c : GCipher) (h : ZY c = true) : XI c = some ⟨WM c⟩:=by
 obtain ⟨m,hm,h1,h2⟩:=Tb h
 have e : c.Field.toNat = m:=by omega
 unfold XI WM
 rw [e]
 simp only [hm,KU m h2 h1,Option.bind_some,Q1,Tv _ (VH h),Qx m h2 h1 (TH c.Mix) c.Mix (U6 _),Qx m h2 h1 (TH (invM m c.Mix)) (invM m c.Mix) (U6 _)]

def Qq (c : GCipher) (n r : Nat) (k f : Nat → UInt8) : Nat → UInt8 :=
 Q4 (if r < n then Wd c.Field.toNat (TH c.Mix) (UH c.Places (QW c.Box f)) else UH c.Places (QW c.Box f)) k
def TD (c : GCipher) (k f : Nat → UInt8) (n : Nat) : Nat → Nat → UInt8
 | 0=>Q4 f k
 | r + 1=>Qq c n (r + 1) (KC c.Box k (r + 1)) (TD c k f n r)
def Ug (c : GCipher) (k f : Nat → UInt8) (n : Nat) : Nat → UInt8:=TD c k f n n
theorem QZ (c : GCipher) (h : ZY c = true) (k f : Nat → UInt8) (n : Nat) (hn : n ≤ 1000) : Yz c (vf 16 k) (vf 16 f) (n : Int) = some (vf 16 (Ug c k f n)):=by
 obtain ⟨m,hm,h1,h2⟩:=Tb h
 have e : c.Field.toNat = m:=by omega
 have hp:=VH h
 unfold Yz
 have i0 : idx (XS c.Box k n) (0 : Int) = some (vf 16 k):=Th c.Box k (Nat.zero_le n)
 simp only [Hl c k n hn,Option.bind_some,i0,QG]
 have:=Ya (f:=Yl c (n : Int) (XS c.Box k n)) (fun i : Nat=>(vf 16 (TD c k f n (i - 1)),(i : Int))) 1 (n + 1) (by omega) (t:=vf 16 (Ug c k f n)) (fun i hi1 hi=>by
  unfold Yl
  obtain ⟨r,rfl⟩ : ∃ q,i = q + 1:=⟨i - 1,by omega⟩
  have e1 : decide (((r + 1 : Nat) : Int) ≤ (n : Int)) = true:=by simp only [decide_eq_true_eq]; omega
  have Wa:=HT m h2 h1 (TH c.Mix) (UH c.Places (QW c.Box (TD c k f n r)))
  rw [← U6] at Wa
  simp only [Nat.add_sub_cancel,e1,if_true,JF,Option.bind_some,J7 c.Places hp,hm,Wa,Th c.Box k (show r + 1 ≤ n by omega),XU (show r + 1 < 9223372036854775807 by omega)]
  by_cases hr : r + 1 < n
  ·have e2 : decide (((r + 1 : Nat) : Int) < (n : Int)) = true:=by simp only [decide_eq_true_eq]; omega
   simp only [e2,if_true,Option.bind_some,QG,TD,Qq,hr,e]
  ·have e2 : decide (((r + 1 : Nat) : Int) < (n : Int)) = false:=by simp only [decide_eq_false_iff_not]; omega
   simp only [e2,Bool.false_eq_true,if_false,Option.bind_some,QG,TD,Qq,hr]) (by
  unfold Yl
  have e1 : decide (((n + 1 : Nat) : Int) ≤ (n : Int)) = false:=by simp only [decide_eq_false_iff_not]; omega
  simp only [e1,Bool.false_eq_true,if_false,Nat.add_sub_cancel,Ug])
 have h3 : ZD (Yl c (n : Int) (XS c.Box k n)) (vf 16 (Q4 f k),1) = _:=this
 rw [h3]; rfl
theorem JB (e : Ref Gengine) (s : Blk × Int) (f : Nat → UInt8) (hs : s.1 = vf 16 f) : ZD (ZS e s) (vf 16 f,0) = some (vf 16 (QW e.v.box f)):=by
 have:=WQ (ZS e s) f (QW e.v.box f) (by omega) 0 (by omega) (fun j hj=>by omega) (fun i _ hi a _ ha=>by
  unfold ZS
  simp only [hs,Q5 hi,if_true,ZH _ hi,Option.bind_some,Int.toNat_natCast,VV,QW]) (fun v=>by unfold ZS; simp)
 exact this
theorem QP (c : GCipher) (h : ZY c = true) (k f : Nat → UInt8) (n : Nat) (hn : n ≤ 1000) : Z6 ⟨WM c⟩ (XS c.Box k n) (vf 16 f) = some (vf 16 (Ug c k f n)):=by
 have hp:=VH h
 unfold Z6
 have i0 : idx (XS c.Box k n) (0 : Int) = some (vf 16 k):=Th c.Box k (Nat.zero_le n)
 simp only [Option.bind_some,i0,Us]
 have:=Ya (f:=ZT ⟨WM c⟩ (XS c.Box k n)) (fun i : Nat=>(vf 16 (TD c k f n (i - 1)),(i : Int))) 1 (n + 1) (by omega) (t:=vf 16 (Ug c k f n)) (fun i hi1 hi=>by
  unfold ZT
  obtain ⟨r,rfl⟩ : ∃ q,i = q + 1:=⟨i - 1,by omega⟩
  have e1 : decide (((r + 1 : Nat) : Int) < ((XS c.Box k n).length : Int)) = true:=by rw [Uo]; simp only [decide_eq_true_eq]; omega
  have e3 : wr (((XS c.Box k n).length : Int) - 1) = (n : Int):=by rw [Uo,XO (by omega)]; omega
  have hb:=JB ⟨WM c⟩ (vf 16 (TD c k f n r),((r + 1 : Nat) : Int)) (TD c k f n r) rfl
  have hmv:=v_move c.Places hp (QW c.Box (TD c k f n r))
  have Wa:=v_mix c.Field.toNat (TH c.Mix) (UH c.Places (QW c.Box (TD c k f n r)))
  have hsl : ∀ g : Nat → UInt8,slc (vf 16 g).toList (0 : Int) (16 : Int) = some (vf 16 g).toList:=fun g=>by
   have:=KK (l:=(vf 16 g).toList) (i:=0) (j:=16) (by omega) (by simp)
   simp only [List.drop_zero] at this
   rw [List.take_of_length_le (by simp)] at this
   exact this
  have q1 : (WM c).box = c.Box:=rfl
  have q2 : (WM c).places = c.Places:=rfl
  have q3 : (WM c).mixer = ⟨Qa c.Field.toNat (TH c.Mix)⟩:=rfl
  simp only [q1] at hb
  simp only [Nat.add_sub_cancel,e1,if_true,hb,Option.bind_some,q2,q3,hmv,e3,hsl,Wa,Th c.Box k (show r + 1 ≤ n by omega),XU (show r + 1 < 9223372036854775807 by omega)]
  by_cases hr : r + 1 < n
  ·have e2 : decide (((r + 1 : Nat) : Int) < (n : Int)) = true:=by simp only [decide_eq_true_eq]; omega
   simp only [e2,if_true,Option.bind_some,Us,TD,Qq,hr]
  ·have e2 : decide (((r + 1 : Nat) : Int) < (n : Int)) = false:=by simp only [decide_eq_false_iff_not]; omega
   simp only [e2,Bool.false_eq_true,if_false,Option.bind_some,Us,TD,Qq,hr]) (by
  unfold ZT
  have e1 : decide (((n + 1 : Nat) : Int) < ((XS c.Box k n).length : Int)) = false:=by rw [Uo]; simp only [decide_eq_false_iff_not]; omega
  simp only [e1,Bool.false_eq_true,if_false,Nat.add_sub_cancel,Ug])
 have h3 : ZD (ZT ⟨WM c⟩ (XS c.Box k n)) (vf 16 (Q4 f k),1) = _:=this
 rw [h3]; rfl
theorem Ba (x : Vector UInt8 256) : WV x = some x:=by
 unfold WV
 rw [Tc x (Va x) (fun s=>by unfold Va; rfl) (by omega)]; rfl
theorem Ju (x : Vector UInt8 16) : X3 x = some x:=by
 unfold X3
 rw [Tc x (Wz x) (fun s=>by unfold Wz; rfl) (by omega)]; rfl
theorem JU (x : Vector UInt8 4) : XZ x = some x:=by
 unfold XZ
 rw [Tc x (Wx x) (fun s=>by unfold Wx; rfl) (by omega)]; rfl
theorem JT (x : Mat) : XX x = some x:=by
 unfold XX
 obtain ⟨f,rfl⟩:=mf_of x
 have k0 : (mf fun r c=>if r < 0 then f r c else 0) = mf fun _ _=>0:=YX fun r _ c _=>by rw [if_neg (by omega)]
 have k4 : (mf fun r c=>if r < 4 then f r c else 0) = mf f:=YX fun r hr c _=>by rw [if_pos hr]
 have:=Ya (f:=Y6 (mf f)) (fun i : Nat=>(mf fun r c=>if r < i then f r c else 0,(i : Int))) 0 4 (by omega) (t:=mf f) (fun i _ hi=>by
  unfold Y6
  simp only [lt4 hi,if_true,YE _ hi,JU,Option.bind_some,Int.toNat_natCast,VU,wr4 (show i < 1000 by omega)]
  refine congrArg (fun z=>some (Fl.nx (z,((i + 1 : Nat) : Int)))) (YX fun r _ c _=>?_)
  by_cases h : r = i
  ·subst h; simp
  ·by_cases h2 : r < i
   ·rw [if_neg h,if_pos h2,if_pos (by omega)]
   ·rw [if_neg h,if_neg h2,if_neg (by omega)]) (by
  unfold Y6
  simp only [k4]
  simp)
 simp only [k0] at this
 have h2 : ZD (Y6 (mf f)) (mf fun _ _=>0,0) = _:=this
 rw [Qo,h2]; rfl
theorem JQ (c : GCipher) : Xr c = some c:=by
 unfold Xr
 simp only [Ba,JT,Ju,Option.bind_some]
theorem U7 (c : GCipher) (h : ZY c = true) (k f : Nat → UInt8) : Yz c (vf 16 k) (vf 16 f) c.Rounds = some (vf 16 (Ug c k f c.Rounds.toNat)):=by
 have hr:=VI h
 obtain ⟨n,hn⟩ : ∃ n : Nat,c.Rounds = n:=⟨c.Rounds.toNat,by omega⟩
 rw [hn]
 exact QZ c h k f n (by omega)
def Vn (c : GCipher) (x : Int) : Int:=if ZY c then (if decide (0 ≤ x ∧ x ≤ 65535) then 0 else 2) else 1
theorem Hu (c : GCipher) (x : Int) : Wk c x = some (Vn c x):=by
 unfold Wk Vn
 simp only [H8,Kr,Option.bind_some]
 cases ZY c <;> cases decide (0 ≤ x ∧ x ≤ 65535) <;> rfl
theorem JI (c : GCipher) (x : Int) : XY c x = some (Vn c x):=by
 unfold XY Vn
 simp only [JA,Ts,Option.bind_some]
 cases ZY c <;> cases decide (0 ≤ x ∧ x ≤ 65535) <;> rfl
def V9 (x : Nat) : Nat → UInt8:=fun i=>if i = 1 then UInt8.ofNat (x / 256) else if i = 0 then UInt8.ofNat x else 0
theorem Ha (x : Nat) : UInt8.ofNat (x % 256) = UInt8.ofNat x:=by
 apply UInt8.toNat_inj.1; simp
theorem J6 (x : Nat) (h : x ≤ 65535) : ((Vector.replicate 16 (0 : UInt8)).setIfInBounds 0 (ZO (Int.tmod (x : Int) 256))).setIfInBounds 1 (ZO (wr (Int.tdiv (x : Int) 256))) = vf 16 (V9 x):=by
 have e1 : Int.tmod (x : Int) 256 = ((x % 256 : Nat) : Int):=by rw [Int.tmod_eq_emod_of_nonneg (by omega)]; omega
 have e2 : Int.tdiv (x : Int) 256 = ((x / 256 : Nat) : Int):=by rw [Int.tdiv_eq_ediv_of_nonneg (by omega)]; omega
 rw [e1,e2,XO (by omega),Vc,Vc,Ha,Vz,X9,X9]; rfl
theorem Hh (x : Nat) (h : x ≤ 65535) : ((Vector.replicate 16 (0 : UInt8)).setIfInBounds 0 (ZO (x : Int))).setIfInBounds 1 (ZO (TL (x : Int) 8)) = vf 16 (V9 x):=by
 have e2 : TL (x : Int) 8 = ((x / 256 : Nat) : Int):=by
  have:=KR x 8 (by omega)
  rw [Nat.shiftRight_eq_div_pow] at this
  exact this
 rw [e2,Vc,Vc,Vz,X9,X9]; rfl
def TJ (c : GCipher) (k : Nat → UInt8) (x : Nat) : Int :=
 wr (bI (Ug c k (V9 x) c.Rounds.toNat 0) + wr (256 * bI (Ug c k (V9 x) c.Rounds.toNat 1)))
theorem JN (c : GCipher) (h : ZY c = true) (k : Nat → UInt8) (x : Nat) (hx : x ≤ 65535) : X2 c (vf 16 k) (x : Int) = some (TJ c k x):=by
 unfold X2 TJ
 have x0 : ∀ g : Nat → UInt8,Zq (vf 16 g) (0 : Int) = some (g 0):=fun g=>ZH g (show 0 < 16 by omega)
 have x1 : ∀ g : Nat → UInt8,Zq (vf 16 g) (1 : Int) = some (g 1):=fun g=>ZH g (show 1 < 16 by omega)
 rw [J6 x hx,U7 c h,Option.bind_some,x0,Option.bind_some,x1,Option.bind_some]
def UP (c : GCipher) (k : Nat → UInt8) : Gkeyed:=⟨⟨WM c⟩,XS c.Box k c.Rounds.toNat⟩
theorem JL (c : GCipher) (h : ZY c = true) (k : Nat → UInt8) : X1 c (vf 16 k) = some (UP c k):=by
 have hr:=VI h
 obtain ⟨n,hn⟩ : ∃ n : Nat,c.Rounds = n:=⟨c.Rounds.toNat,by omega⟩
 have hk:=v_keys ⟨WM c⟩ k n (by omega)
 have e2 : (WM c).box = c.Box:=rfl
 rw [e2] at hk
 unfold X1 UP
 rw [hn]
 simp only [KV c h,Option.bind_some,hk,Int.toNat_natCast]
theorem Tz (c : GCipher) (h : ZY c = true) (k f : Nat → UInt8) : Yw (UP c k) (vf 16 f) = some (vf 16 (Ug c k f c.Rounds.toNat)):=by
 have hr:=VI h
 unfold Yw UP
 simp only [QP c h k f c.Rounds.toNat (by omega),Option.bind_some]
theorem Q0 (c : GCipher) (h : ZY c = true) (k : Nat → UInt8) (x : Nat) (hx : x ≤ 65535) : Xf (UP c k) (x : Int) = some (TJ c k x):=by
 unfold Xf TJ
 have x0 : ∀ g : Nat → UInt8,Zq (vf 16 g) (0 : Int) = some (g 0):=fun g=>ZH g (show 0 < 16 by omega)
 have x1 : ∀ g : Nat → UInt8,Zq (vf 16 g) (1 : Int) = some (g 1):=fun g=>ZH g (show 1 < 16 by omega)
 rw [Hh x hx,Tz c h,Option.bind_some,x0,Option.bind_some,x1,Option.bind_some]
theorem JJ {c : GCipher} {x : Int} (h : Vn c x = 0) : ZY c = true ∧ ∃ n : Nat,x = n ∧ n ≤ 65535:=by
 unfold Vn at h
 split at h
 ·rename_i hc
  split at h
  ·rename_i hx
   simp only [decide_eq_true_eq] at hx
   exact ⟨hc,x.toNat,by omega,by omega⟩
  ·cases h
 ·cases h
def tab (n : Nat) (f : Nat → UInt8) : List UInt8:=(List.range n).map f
@[simp] theorem tab_len (n : Nat) (f : Nat → UInt8) : (tab n f).length = n:=by simp [tab]
theorem Kg {κ α : Type} [DecidableEq κ] (k k' : κ) (x : α) : ∀ m : List (κ × α),WZ (V1 m k x) k' = if k = k' then some x else WZ m k'
 | []=>by simp [V1,WZ]
 | p :: m=>by
  by_cases h : p.1 = k
  ·by_cases h2 : k = k'
   ·simp [V1,WZ,h,h2]
   ·have : ¬ p.1 = k':=fun e=>h2 (h.symm.trans e)
    simp [V1,WZ,h,h2]
  ·have ih:=Kg k k' x m
   by_cases h2 : p.1 = k'
   ·have h3 : ¬ k = k':=fun e=>h (h2.trans e.symm)
    rw [V1,if_neg h,WZ,if_pos h2,if_neg h3,WZ,if_pos h2]
   ·simp only [V1,WZ,h,h2,if_false,ih]
def UR (c : GCipher) (k : Nat → UInt8) (x : Nat) : Nat:=(Ug c k (V9 x) c.Rounds.toNat 0).toNat + 256 * (Ug c k (V9 x) c.Rounds.toNat 1).toNat
theorem Hq (c : GCipher) (k : Nat → UInt8) (x : Nat) : UR c k x < 65536:=by
 unfold UR
 have h1:=(Ug c k (V9 x) c.Rounds.toNat 0).toNat_lt
 have h2:=(Ug c k (V9 x) c.Rounds.toNat 1).toNat_lt
 omega
theorem JK (c : GCipher) (k : Nat → UInt8) (x : Nat) : TJ c k x = (UR c k x : Int):=by
 unfold TJ UR
 have h1:=(Ug c k (V9 x) c.Rounds.toNat 0).toNat_lt
 have h2:=(Ug c k (V9 x) c.Rounds.toNat 1).toNat_lt
 generalize Ug c k (V9 x) c.Rounds.toNat 0 = a at *
 generalize Ug c k (V9 x) c.Rounds.toNat 1 = b at *
 have e1 : wr (256 * bI b) = 256 * (b.toNat : Int):=XO (by show _ ≤ 256 * (b.toNat : Int) ∧ 256 * (b.toNat : Int) ≤ _; omega)
 have e2 : wr (bI a + 256 * (b.toNat : Int)) = (a.toNat : Int) + 256 * (b.toNat : Int):=XO (by show _ ≤ (a.toNat : Int) + _ ∧ (a.toNat : Int) + _ ≤ _; omega)
 rw [e1,e2]
 omega
theorem H6 (c : GCipher) (h : ZY c = true) (k : Nat → UInt8) : ∀ (z n x : Nat) (YZ : List (Int × Int)) (pl : List Int),pl.count 0 = z → pl.length = 65536 → x < 65536 → n + z = 65536 →
  (∀ y : Nat,y < 65536 → (WZ YZ (y : Int) = none ∧ pl[y]? = some 0) ∨ ∃ q : Nat,WZ YZ (y : Int) = some (q : Int) ∧ q < n ∧ pl[y]? = some ((q : Int) + 1)) →
  ∃ (q n' x' : Nat) (l' : List Int),q < n' ∧ n' ≤ 65536 ∧ ZD (Xi (UP c k)) (YZ,(n : Int),(x : Int)) = some ((q : Int),(n' : Int) - q,0) ∧
   ZD (Xh c (vf 16 k)) (pl,(n : Int) + 1,(x : Int)) = some (l',(n' : Int) + 1,(x' : Int)) ∧ l'[x']? = some ((q : Int) + 1):=by
 intro z
 induction z with
 | zero =>
  intro n x YZ pl hz hl hx hn hR
  rcases hR x hx with ⟨_,g⟩ | ⟨q,g1,g2,g3⟩
  ·have:=List.count_pos_iff.2 (List.mem_of_getElem? g)
   omega
  ·refine ⟨q,n,x,pl,g2,by omega,?_,?_,g3⟩
   ·refine YW ?_
    unfold Xi
    simp only [g1,Option.isSome_some,if_true,Option.getD_some]
    rw [XO (by omega)]
   ·refine YW ?_
    unfold Xh
    have e : (((q : Int) + 1) == 0) = false:=by simp; omega
    simp only [Vf,g3,Option.bind_some,e,Bool.false_eq_true,if_false]
 | succ z ih =>
  intro n x YZ pl hz hl hx hn hR
  rcases hR x hx with ⟨g1,g2⟩ | ⟨q,g1,g2,g3⟩
  ·have hst:=JK c k x
   have hcount : (pl.set x ((n : Int) + 1)).count 0 = z:=by
    have hx' : x < pl.length:=by omega
    have e0 : pl[x] = 0:=by rw [List.getElem?_eq_getElem hx'] at g2; simpa using g2
    rw [List.count_set hx']
    have e1 : (((n : Int) + 1) == 0) = false:=by simp; omega
    rw [e0,e1,hz]
    simp
   obtain ⟨q,n',x',l',r1,r2,r3,r4,r5⟩:=ih (n + 1) (UR c k x) (V1 YZ (x : Int) (n : Int)) (pl.set x ((n : Int) + 1)) hcount (by simpa using hl) (Hq c k x) (by omega) (fun y hy=>by
    rw [Kg]
    by_cases hxy : x = y
    ·subst hxy
     refine .inr ⟨n,by simp,by omega,?_⟩
     rw [List.getElem?_set_self (by omega)]
    ·have : ¬ ((x : Int) = (y : Int)):=by omega
     rw [if_neg this,List.getElem?_set_ne hxy]
     rcases hR y hy with h | ⟨q,h1,h2,h3⟩
     ·exact .inl h
     ·exact .inr ⟨q,h1,by omega,h3⟩)
   refine ⟨q,n',x',l',r1,r2,?_,?_,r5⟩
   ·rw [Wc (s':=(V1 YZ (x : Int) (n : Int),((n + 1 : Nat) : Int),((UR c k x : Nat) : Int)))]
    ·exact r3
    ·unfold Xi
     simp only [g1,Option.isSome_none,Bool.false_eq_true,if_false,Q0 c h k x (by omega),Option.bind_some,hst,XU (show n < 9223372036854775807 by omega)]
   ·rw [Wc (s':=(pl.set x ((n : Int) + 1),((n + 1 : Nat) : Int) + 1,((UR c k x : Nat) : Int)))]
    ·exact r4
    ·unfold Xh
     have e : wr ((n : Int) + 1 + 1) = ((n + 1 : Nat) : Int) + 1:=by rw [XO (by omega)]; omega
     simp only [Vf,g2,Option.bind_some,BEq.rfl,if_true,JN c h k x (by omega),hst,Int.toNat_natCast,e]
  ·refine ⟨q,n,x,pl,g2,by omega,?_,?_,g3⟩
   ·refine YW ?_
    unfold Xi
    simp only [g1,Option.isSome_some,if_true,Option.getD_some]
    rw [XO (by omega)]
   ·refine YW ?_
    unfold Xh
    have e : (((q : Int) + 1) == 0) = false:=by simp; omega
    simp only [Vf,g3,Option.bind_some,e,Bool.false_eq_true,if_false]
theorem HB (c : GCipher) (k : Blk) (x : Int) : ∃ r,WH c k x = some r ∧ WK c k x = some r:=by
 unfold WH WK
 simp only [Hu,JI,Option.bind_some]
 by_cases h0 : Vn c x = 0
 ·obtain ⟨hc,n,rfl,hn⟩:=JJ h0
  have hk:=JL c hc (bf k)
  have hz : mkS 8 (0 : Int) 65536 = some (List.replicate 65536 0):=by
   unfold mkS; rw [if_pos (by omega)]; rfl
  obtain ⟨q,n',x',l',r1,r2,r3,r4,r5⟩:=H6 c hc (bf k) 65536 0 n [] (List.replicate 65536 0) (by rw [List.count_replicate_self]) List.length_replicate (by omega) (by omega) (fun y hy=>.inl ⟨rfl,by rw [List.getElem?_replicate]; simp [hy]⟩)
  rw [← vf_bf] at hk r4
  have r3' : ZD (Xi (UP c (bf k))) ([],0,(n : Int)) = _:=r3
  have r4' : ZD (Xh c k) (List.replicate 65536 0,1,(n : Int)) = _:=r4
  have e1 : wr ((q : Int) + 1 - 1) = (q : Int):=by rw [XO (by omega)]; omega
  have e2 : wr ((n' : Int) + 1 - ((q : Int) + 1)) = (n' : Int) - q:=by rw [XO (by omega)]; omega
  refine ⟨((q : Int),(n' : Int) - q,0),?_,?_⟩
  ·simp only [h0,bne_self_eq_false,Bool.false_eq_true,if_false,hz,Option.bind_some]
   rw [r4']
   simp only [Option.bind_some,Vf,r5,e1,e2]
  ·simp only [h0,bne_self_eq_false,Bool.false_eq_true,if_false,hk,Option.bind_some]
   rw [r3']
   rfl
 ·have : (Vn c x != 0) = true:=by simpa using h0
  exact ⟨(0,0,Vn c x),by simp only [this,if_true],by simp only [this,if_true]⟩
theorem Tp (c : GCipher) (k : Blk) (x : Int) (_ : Dat.bd c) (_ : Dat.bd k) (_ : Dat.bd x) : XA c k x = some true:=by
 obtain ⟨r,h1,h2⟩:=HB c k x
 unfold XA
 simp [JQ,Hs,h1,h2]
end Go.Proofs.Ytpjogonponkbmaa
