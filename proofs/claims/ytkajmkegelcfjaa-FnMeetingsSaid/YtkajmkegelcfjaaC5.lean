/- Plain laws, no program in sight. -/
import Derived.Test.YtkajmkegelcfjaaC4
set_option linter.unusedVariables false
set_option linter.unusedSimpArgs false
set_option maxRecDepth 20000
set_option maxHeartbeats 400000
namespace Go.Proofs.Ytkajmkegelcfjaa
open Go
open Flat (enc)
theorem Xi {i : Nat} (h : i < 9223372036854775807) : wr ((i : Int) + 1) = ((i + 1 : Nat) : Int):=by
 rw [YT (by omega)]; rfl

section
variable {S T : Type} {f : S → Option (Fl S T)}
theorem jO (g : Nat → S) (m n : Nat) (hmn : m ≤ n) (h : ∀ i, m ≤ i → i < n → f (g i) = some (.nx (g (i + 1)))) : ZQ f (g m) = ZQ f (g n) := by
  induction n with
  | zero => have : m = 0 := by omega
            subst this; rfl
  | succ n ih =>
    rcases Nat.lt_or_ge m (n + 1) with h1 | h1
    · rw [ih (by omega) (fun i h2 h3 => h i h2 (by omega)), Wg (h n (by omega) (by omega))]
    · have : m = n + 1 := by omega
      subst this; rfl
theorem Ya (g : Nat → S) (m n : Nat) (hmn : m ≤ n) {t : T} (h : ∀ i,m ≤ i → i < n → f (g i) = some (.nx (g (i + 1)))) (he : f (g n) = some (.ex t)) : ZQ f (g m) = some t:=by
 rw [jO g m n hmn h,Y1 he]
theorem TU (g : Nat → S) (p : Nat → Bool) (t : Nat → T) {e : T} (n : Nat) : ∀ (k m : Nat),m + k = n → (∀ i,m ≤ i → i < n → f (g i) = some (if p i then .ex (t i) else .nx (g (i + 1)))) → f (g n) = some (.ex e) →
  ZQ f (g m) = some (((List.range' m k).find? p).elim e t)
 | 0,m,hk,_,he=>by
  have : m = n:=by omega
  subst this
  rw [Y1 he]; rfl
 | k + 1,m,hk,h,he=>by
  have h1:=h m (Nat.le_refl _) (by omega)
  rw [List.range'_succ,List.find?_cons]
  cases hp : p m with
  | true=>rw [hp] at h1; rw [Y1 h1]; rfl
  | false =>
   rw [hp] at h1
   rw [Wg h1,TU g p t n k (m + 1) (by omega) (fun i h2 h3=>h i (by omega) h3) he]
end

theorem AO {T : Type} {f : Int → Option (Fl Int (Fl Unit T))} (p : Nat → Bool) {t : T} {n m : Nat} (hm : m ≤ n)
  (h : ∀ i,m ≤ i → i < n → f (i : Int) = some (if p i then .ex (.ex t) else .nx ((i + 1 : Nat) : Int))) (he : f (n : Int) = some (.ex (.nx ()))) :
  ZQ f (m : Int) = some (if (List.range' m (n - m)).any p then .ex t else .nx ()):=by
 rw [TU (fun i : Nat=>(i : Int)) p (fun _=>.ex t) n (n - m) m (by omega) h he]
 cases hf : (List.range' m (n - m)).find? p with
 | none =>
  have : (List.range' m (n - m)).any p = false:=by
   rw [List.any_eq_false]
   rw [List.find?_eq_none] at hf
   exact hf
  rw [this]; rfl
 | some i =>
  have : (List.range' m (n - m)).any p = true:=by
   rw [List.any_eq_true]
   exact ⟨i,List.mem_of_find?_eq_some hf,List.find?_some hf⟩
  rw [this]; rfl
theorem VW {p : Nat → Bool} {m n : Nat} : (List.range' m (n - m)).any p = true ↔ ∃ i,m ≤ i ∧ i < n ∧ p i = true:=by
 rw [List.any_eq_true]
 simp only [List.mem_range'_1]
 constructor
 ·rintro ⟨i,⟨h1,h2⟩,h3⟩; exact ⟨i,h1,by omega,h3⟩
 ·rintro ⟨i,h1,h2,h3⟩; exact ⟨i,⟨h1,by omega⟩,h3⟩
class Wt (α : Type) [Dat α] where
 wt : α → Nat
 ln : α → Prop
 bdln : ∀ x,Dat.bd x → ln x
 wtln : ∀ x,wt x ≤ 1048576 → ln x
instance : Wt Int:=⟨fun _=>0,fun _=>True,fun _ _=>trivial,fun _ _=>trivial⟩
instance : Wt UInt8:=⟨fun _=>0,fun _=>True,fun _ _=>trivial,fun _ _=>trivial⟩
instance : Wt Bool:=⟨fun _=>0,fun _=>True,fun _ _=>trivial,fun _ _=>trivial⟩
instance : Wt Str:=⟨fun s=>s.l.length,fun s=>s.l.length ≤ 9223372036854775807,fun _ h=>h,fun _ h=>by omega⟩
instance {n : Nat} : Wt (Vector UInt8 n):=⟨fun _=>0,fun _=>True,fun _ _=>trivial,fun _ _=>trivial⟩
instance {n m : Nat} : Wt (Vector (Vector UInt8 m) n):=⟨fun _=>0,fun _=>True,fun _ _=>trivial,fun _ _=>trivial⟩
theorem ki {α : Type} {f : α → Nat} {l : List α} {x : α} (h : x ∈ l) : f x ≤ (l.map f).sum:=by
 induction l with
 | nil=>cases h
 | cons y l ih =>
  rw [List.map_cons,List.sum_cons]
  rcases List.mem_cons.1 h with rfl | h
  ·omega
  ·have:=ih h; omega
instance {α : Type} [Dat α] [Wt α] : Wt (List α):=⟨fun l=>l.length + (l.map Wt.wt).sum,fun l=>l.length ≤ 9223372036854775807 ∧ ∀ x ∈ l,Wt.ln x,fun _ h=>⟨h.1,fun x hx=>Wt.bdln x (h.2 x hx)⟩,
 fun l h=>⟨by omega,fun x hx=>Wt.wtln x (by have:=ki (f:=Wt.wt) hx; omega)⟩⟩
instance {α β : Type} [Dat α] [Dat β] [Wt α] [Wt β] : Wt (α × β):=⟨fun x=>Wt.wt x.1 + Wt.wt x.2,fun x=>Wt.ln x.1 ∧ Wt.ln x.2,fun x h=>⟨Wt.bdln x.1 h.1,Wt.bdln x.2 h.2⟩,fun x h=>⟨Wt.wtln x.1 (by omega),Wt.wtln x.2 (by omega)⟩⟩
@[simp] theorem VO {α : Type} (l : List α) (i : Nat) : idx l (i : Int) = l[i]?:=by unfold idx; simp
@[simp] theorem idx_zero {α : Type} (l : List α) : idx l (0 : Int) = l[0]?:=VO l 0
theorem AT {T : Type} {f : Int → Option (Fl Int (Fl Unit T))} (n : Nat) (p : Nat → Bool) (t : Nat → T) (hn : n < 9223372036854775807)
  (h : ∀ i,i < n → f (i : Int) = some (if p i then .ex (.ex (t i)) else .nx (wr ((i : Int) + 1)))) (he : f (n : Int) = some (.ex (.nx ()))) (m : Nat) (hm : m ≤ n) :
  ZQ f (m : Int) = some (match (List.range' m (n - m)).find? p with | some i=>.ex (t i) | none=>.nx ()):=by
 rw [TU (fun i : Nat=>(i : Int)) p (fun i=>.ex (t i)) n (n - m) m (by omega) (fun i _ hi=>by rw [h i hi,Xi (by omega)]) he]
 cases (List.range' m (n - m)).find? p <;> rfl
theorem A2 {T : Type} {f : Int → Option (Fl Int (Fl Unit T))} (n : Nat) (p : Nat → Bool) (t : T) (hn : n < 9223372036854775807)
  (h : ∀ i,i < n → f (i : Int) = some (if p i then .ex (.ex t) else .nx (wr ((i : Int) + 1)))) (he : f (n : Int) = some (.ex (.nx ()))) (m : Nat) (hm : m ≤ n) :
  ZQ f (m : Int) = some (if (List.range' m (n - m)).any p then .ex t else .nx ()) :=
 AO p hm (fun i _ hi=>by rw [h i hi,Xi (by omega)]) he
theorem JP {T : Type} {f : Int → Option (Fl Int (Fl Unit T))} (n : Nat) (p : Nat → Bool) (t : T) (hn : n < 9223372036854775807) (m : Nat) (hm : m ≤ n)
  (h : ∀ i,m ≤ i → i < n → f (i : Int) = some (if p i then .ex (.ex t) else .nx (wr ((i : Int) + 1)))) (he : f (n : Int) = some (.ex (.nx ()))) :
  ZQ f (m : Int) = some (if (List.range' m (n - m)).any p then .ex t else .nx ()) :=
 AO p hm (fun i hmi hi=>by rw [h i hmi hi,Xi (by omega)]) he
theorem KY {α : Type} {by_ : Nat} {l m : List α} (h : (l.length + m.length) * by_ ≤ 140737488355328) : app by_ l m = some (l ++ m):=by unfold app; rw [if_pos h]
theorem Bt {α : Type} {l : List α} {i j : Nat} (h : i ≤ j) (h2 : j ≤ l.length) : slc l (i : Int) (j : Int) = some ((l.take j).drop i):=by
 unfold slc; rw [if_pos (by omega)]; simp

theorem Hz {α : Type} {n : Nat} {v w : Vector α n} (h : ∀ i (hi : i < n),v[i] = w[i]) : v = w:=Vector.ext h
@[simp] theorem Ut {α : Type} {n : Nat} (v : Vector α n) (i : Nat) : ZI v (i : Int) = v[i]?:=by unfold ZI; simp
theorem Ku (n a b : Int) : Xn n a b = some (decide (a ≤ n ∧ n ≤ b)):=by
 unfold Xn
 by_cases h1 : a ≤ n <;> by_cases h2 : n ≤ b <;> simp [h1,h2]
theorem HA (n a b : Int) : Wq n a b = some (decide (a ≤ n ∧ n ≤ b)):=by
 unfold Wq
 by_cases h1 : a ≤ n <;> by_cases h2 : n ≤ b <;> simp [h1,h2]
theorem JW (a : Nat) (h : a < 9223372036854775808) : (BitVec.ofInt 64 (a : Int)).toNat = a:=by
 rw [BitVec.toNat_ofInt]
 omega
theorem Qo (a b : Nat) (ha : a < 9223372036854775808) (hb : b < 9223372036854775808) : KE (a : Int) (b : Int) = ((a ^^^ b : Nat) : Int):=by
 unfold KE
 rw [BitVec.toNat_xor,JW a ha,JW b hb]
 have : a ^^^ b < 2 ^ 63:=Nat.xor_lt_two_pow ha hb
 exact YT (by omega)
theorem ji (a b : Nat) (ha : a < 9223372036854775808) (hb : b < 9223372036854775808) : andI (a : Int) (b : Int) = ((a &&& b : Nat) : Int):=by
 unfold andI
 rw [BitVec.toNat_and,JW a ha,JW b hb]
 have : a &&& b < 2 ^ 63:=Nat.and_lt_two_pow _ hb
 exact YT (by omega)
theorem Q4 (a i : Nat) (hi : i ≤ 63) (h : a <<< i < 9223372036854775808) : Ka (a : Int) (i : Int) = ((a <<< i : Nat) : Int):=by
 unfold Ka
 rw [show min ((i : Int)).toNat 64 = i by omega]
 have : ((a : Int) * 2 ^ i) = ((a <<< i : Nat) : Int):=by rw [Nat.shiftLeft_eq]; simp
 rw [this]
 generalize a <<< i = x at h ⊢
 exact YT (by omega)
theorem A5 (a i : Nat) (hi : i ≤ 63) : Tc (a : Int) (i : Int) = ((a >>> i : Nat) : Int):=by
 unfold Tc
 rw [show min ((i : Int)).toNat 64 = i by omega,Nat.shiftRight_eq_div_pow,Int.fdiv_eq_ediv_of_nonneg _ (by exact_mod_cast Nat.zero_le _)]
 simp
theorem Ar (a i : Nat) : ((a >>> i) &&& 1 = 1) ↔ a.testBit i = true:=by
 rw [Nat.testBit,Nat.and_comm]
 have h:=Nat.and_one_is_mod (a >>> i)
 rw [Nat.and_comm] at h
 rw [h]
 rcases Nat.mod_two_eq_zero_or_one (a >>> i) with h | h <;> simp [h]
theorem y3 (a : Nat) : Int.tmod (a : Int) 2 = ((a % 2 : Nat) : Int):=by
 rw [Int.tmod_eq_emod_of_nonneg (by omega)]; simp
theorem zP (a : Nat) : Int.tdiv (a : Int) 2 = ((a / 2 : Nat) : Int):=by
 rw [Int.tdiv_eq_ediv_of_nonneg (by omega)]; simp
theorem BS (a : Nat) (h : a < 9223372036854775808) : wr (a : Int) = (a : Int):=YT (by omega)
theorem zn (a : Nat) (h : a < 9223372036854775808) : IntKind.u64.wrap (a : Int) = (a : Int):=by
 simp only [IntKind.wrap,IntKind.bits,IntKind.signed]
 simp
 omega

def YD (m deg : Nat) : Nat → Nat → Nat
 | 0,a=>a
 | k + 1,a=>YD m deg k (if a.testBit (deg + k) then a ^^^ (m <<< k) else a)
theorem QB {m k n : Nat} (h : m < 2 ^ n) : m <<< k < 2 ^ (n + k):=by
 rw [Nat.shiftLeft_eq,Nat.pow_add]
 exact Nat.mul_lt_mul_of_pos_right h (Nat.two_pow_pos _)
theorem JQ {a n : Nat} (h : a < 2 ^ (n + 1)) (hb : a.testBit n = false) : a < 2 ^ n:=by
 apply Nat.lt_pow_two_of_testBit
 intro i hi
 rcases Nat.eq_or_lt_of_le hi with rfl | hi
 ·exact hb
 ·exact Nat.testBit_lt_two_pow (Nat.lt_of_lt_of_le h (Nat.pow_le_pow_right (by omega) hi))
theorem zN {m d : Nat} (h1 : 2 ^ d ≤ m) (h2 : m < 2 ^ (d + 1)) : m.testBit d = true:=by
 rw [Nat.testBit,Nat.shiftRight_eq_div_pow]
 have : m / 2 ^ d = 1:=by
  apply Nat.div_eq_of_lt_le
  ·simpa using h1
  ·rw [Nat.pow_succ] at h2; omega
 rw [this]; rfl
theorem zU {m d k a : Nat} (h1 : 2 ^ d ≤ m) (h2 : m < 2 ^ (d + 1)) (ha : a < 2 ^ (d + (k + 1))) (hb : a.testBit (d + k) = true) : a ^^^ (m <<< k) < 2 ^ (d + k):=by
 have hm : m <<< k < 2 ^ (d + (k + 1)):=by have:=QB (k:=k) h2; rwa [show d + 1 + k = d + (k + 1) by omega] at this
 refine JQ (Nat.xor_lt_two_pow (by rwa [show d + k + 1 = d + (k + 1) by omega]) (by rwa [show d + k + 1 = d + (k + 1) by omega])) ?_
 rw [Nat.testBit_xor,hb,Nat.testBit_shiftLeft]
 simp [zN h1 h2]
theorem Jt {m d : Nat} (h1 : 2 ^ d ≤ m) (h2 : m < 2 ^ (d + 1)) : ∀ (k a : Nat),a < 2 ^ (d + k) → YD m d k a < 2 ^ d
 | 0,a,h=>by simpa [YD] using h
 | k + 1,a,h=>by
  unfold YD
  cases hb : a.testBit (d + k) with
  | true=>simp only [if_true]; exact Jt h1 h2 k _ (zU h1 h2 h hb)
  | false=>simp only [Bool.false_eq_true,if_false]; exact Jt h1 h2 k a (JQ h hb)
theorem TW (m d : Nat) : ∀ (k a b : Nat),YD m d k (a ^^^ b) = YD m d k a ^^^ YD m d k b
 | 0,_,_=>rfl
 | k + 1,a,b=>by
  simp only [YD]
  rw [Nat.testBit_xor]
  cases a.testBit (d + k) <;> cases b.testBit (d + k) <;> simp only [Bool.xor_false,Bool.false_xor,Bool.xor_self,Bool.xor_true,Bool.not_false,Bool.not_true,Bool.false_eq_true,if_true,if_false]
  ·exact TW m d k a b
  ·rw [Nat.xor_assoc]; exact TW m d k a _
  ·rw [← TW m d k]; congr 1; rw [Nat.xor_assoc,Nat.xor_comm b,← Nat.xor_assoc]
  ·rw [← TW m d k]; congr 1
   rw [Nat.xor_assoc,← Nat.xor_assoc (m <<< k),Nat.xor_comm (m <<< k) b,Nat.xor_assoc,Nat.xor_self,Nat.xor_zero]
theorem Ur {m d : Nat} : ∀ (k a : Nat),a < 2 ^ d → YD m d k a = a
 | 0,_,_=>rfl
 | k + 1,a,h=>by
  unfold YD
  rw [Nat.testBit_lt_two_pow (Nat.lt_of_lt_of_le h (Nat.pow_le_pow_right (by omega) (by omega)))]
  simp only [Bool.false_eq_true,if_false]
  exact Ur k a h
theorem JU {m d k a : Nat} (h : a < 2 ^ (d + k)) : YD m d (k + 1) a = YD m d k a:=by
 conv=>lhs; unfold YD
 rw [Nat.testBit_lt_two_pow h]; rfl
theorem T9 (m d : Nat) : ∀ (k x : Nat),YD m d (k + 1) (x <<< 1) = (if ((YD m d k x) <<< 1).testBit d then ((YD m d k x) <<< 1) ^^^ m else (YD m d k x) <<< 1)
 | 0,x=>by simp [YD]
 | k + 1,x=>by
  conv=>lhs; unfold YD
  conv=>rhs; unfold YD
  have e : (x <<< 1).testBit (d + (k + 1)) = x.testBit (d + k):=by
   rw [Nat.testBit_shiftLeft]
   have : d + (k + 1) ≥ 1:=by omega
   simp only [this,decide_true,Bool.true_and]
   congr 1
  rw [e]
  cases x.testBit (d + k) with
  | false=>simp only [Bool.false_eq_true,if_false]; exact T9 m d k x
  | true =>
   simp only [if_true]
   have e2 : x <<< 1 ^^^ m <<< (k + 1) = (x ^^^ m <<< k) <<< 1:=by
    rw [Nat.shiftLeft_xor_distrib,← Nat.shiftLeft_add]
   rw [e2]
   exact T9 m d k _

def Qs (n : Nat) : Nat:=if n = 0 then 0 else n.log2 + 1
theorem ys (n : Nat) (h : 0 < n) : Qs n = Qs (n / 2) + 1:=by
 unfold Qs
 rw [if_neg (by omega)]
 by_cases h2 : n / 2 = 0
 ·have : n = 1:=by omega
  subst this; rfl
 ·rw [if_neg h2]
  conv=>lhs; rw [Nat.log2_def]
  rw [if_pos (by omega)]
theorem HB {n p : Nat} (h1 : 2 ^ p ≤ n) (h2 : n < 2 ^ (p + 1)) : Qs n = p + 1:=by
 have h0 : n ≠ 0:=by have:=Nat.two_pow_pos p; omega
 unfold Qs
 rw [if_neg h0,(Nat.log2_eq_iff h0).2 ⟨h1,h2⟩]
theorem jT {n p : Nat} (h : n < 2 ^ p) : Qs n ≤ p:=by
 unfold Qs
 split
 ·omega
 ·rename_i h0
  have:=(Nat.log2_lt h0).2 h
  omega
theorem Kk (n : Nat) (h : n < 9223372036854775808) : XU (n : Int) = some ((Qs n : Nat) : Int):=by
 have key : ∀ (f n c : Nat),n < 2 ^ f → f ≤ 63 → c + f ≤ 1000 → ZQ YW ((n : Int),(c : Int)) = some ((c + Qs n : Nat) : Int):=by
  intro f
  induction f with
  | zero =>
   intro n c hn _ _
   have : n = 0:=by simpa using hn
   subst this
   rw [Y1 (t:=(c : Int))]
   ·simp [Qs]
   ·unfold YW; simp
  | succ f ih =>
   intro n c hn hf hc
   by_cases h0 : n = 0
   ·subst h0
    rw [Y1 (t:=(c : Int))]
    ·simp [Qs]
    ·unfold YW; simp
   ·have hp : 0 < n:=by omega
    have hlt : n < 9223372036854775808:=Nat.lt_of_lt_of_le hn (Nat.pow_le_pow_right (by omega : 0 < 2) hf)
    have hst : YW ((n : Int),(c : Int)) = some (.nx (((n / 2 : Nat) : Int),((c + 1 : Nat) : Int))):=by
     unfold YW
     have : (n : Int) > 0:=by omega
     simp only [this,decide_true,if_true,zP]
     rw [BS _ (by omega),Xi (by omega)]
    rw [Wg hst,ih (n / 2) (c + 1) (by rw [Nat.pow_succ] at hn; omega) (by omega) (by omega),ys n hp]
    congr 2; omega
 unfold XU
 have:=key 63 n 0 h (by omega) (by omega)
 have h2 : ZQ YW ((n : Int),0) = _:=this
 rw [h2]
 simp
theorem yN (a b d k : Nat) (hd : d ≤ 20) (hk : k ≤ 20) (h1 : 2 ^ d ≤ b) (h2 : b < 2 ^ (d + 1)) (ha : a < 2 ^ (d + k)) : Ul (a : Int) (b : Int) = some ((YD b d k a : Nat) : Int):=by
 have big : ∀ n,n ≤ 62 → ∀ x : Nat,x < 2 ^ n → x < 9223372036854775808:=fun n hn x hx=>Nat.lt_of_lt_of_le hx (Nat.pow_le_pow_right (by omega : 0 < 2) (by omega : n ≤ 63))
 have key : ∀ (k a : Nat),k ≤ 20 → a < 2 ^ (d + k) → ZQ (WR (b : Int) ((d + 1 : Nat) : Int)) ((a : Int),((Qs a : Nat) : Int)) = some ((YD b d k a : Nat) : Int):=by
  intro k
  induction k with
  | zero =>
   intro a _ ha
   have hl:=jT (p:=d) ha
   rw [Y1 (t:=(a : Int))]
   ·rfl
   ·unfold WR
    have : ¬ (((Qs a : Nat) : Int) ≥ ((d + 1 : Nat) : Int)):=by omega
    simp only [this,decide_false,Bool.false_eq_true,if_false]
  | succ k ih =>
   intro a hk ha
   cases hb : a.testBit (d + k) with
   | false =>
    have ha':=JQ (by rwa [show d + k + 1 = d + (k + 1) by omega]) hb
    rw [ih a (by omega) ha',JU ha']
   | true =>
    have hge : 2 ^ (d + k) ≤ a:=Nat.ge_two_pow_of_testBit hb
    have hl : Qs a = d + k + 1:=HB hge (by rwa [show d + k + 1 = d + (k + 1) by omega])
    have hx:=zU h1 h2 ha hb
    have hshl : b <<< k < 2 ^ (d + 1 + k):=QB h2
    have hst : WR (b : Int) ((d + 1 : Nat) : Int) ((a : Int),((Qs a : Nat) : Int)) = some (.nx (((a ^^^ b <<< k : Nat) : Int),((Qs (a ^^^ b <<< k) : Nat) : Int))):=by
     unfold WR
     have c1 : ((Qs a : Nat) : Int) ≥ ((d + 1 : Nat) : Int):=by rw [hl]; omega
     have c2 : IntKind.u64.wrap (wr (((Qs a : Nat) : Int) - ((d + 1 : Nat) : Int))) = ((k : Nat) : Int):=by
      rw [hl,show ((d + k + 1 : Nat) : Int) - ((d + 1 : Nat) : Int) = ((k : Nat) : Int) by omega,BS _ (by omega),zn _ (by omega)]
     simp only [c1,decide_true,if_true,c2]
     have c3 : Wp ((k : Nat) : Int) = some ():=by unfold Wp; rw [if_pos (by omega)]
     rw [c3,Q4 b k (by omega) (big _ (by omega) _ hshl),Qo a _ (big _ (by omega) _ ha) (big _ (by omega) _ hshl)]
     simp only [Option.bind_some]
     rw [Kk _ (big _ (by omega) _ hx)]
     rfl
    rw [Wg hst,ih _ (by omega) hx]
    conv=>rhs; unfold YD
    rw [hb]; rfl
 unfold Ul
 rw [Kk b (big _ (by omega) _ h2),Kk a (big _ (by omega) _ ha)]
 simp only [Option.bind_some]
 rw [HB h1 h2,key k a hk ha]
 rfl
theorem jc (a m d : Nat) (hd : d ≤ 15) (ha : a < 2 ^ 16) (hm : m < 2 ^ 20) : Uo (a : Int) (m : Int) (d : Int) = some ((YD m d (16 - d) a : Nat) : Int):=by
 have key : ∀ (k a : Nat),d + k ≤ 16 → a < 2 ^ 40 → ZQ (Uw (m : Int) (d : Int)) ((a : Int),((d + k : Nat) : Int) - 1) = some ((YD m d k a : Nat) : Int):=by
  intro k
  induction k with
  | zero =>
   intro a _ _
   rw [Y1 (t:=(a : Int))]
   ·rfl
   ·unfold Uw
    have : ¬ (((d + 0 : Nat) : Int) - 1 ≥ (d : Int)):=by omega
    simp only [this,decide_false,Bool.false_eq_true,if_false]
  | succ k ih =>
   intro a hk ha
   have e0 : ((d + (k + 1) : Nat) : Int) - 1 = ((d + k : Nat) : Int):=by omega
   have hsh : m <<< k < 2 ^ (20 + k):=QB hm
   have hsh2 : m <<< k < 2 ^ 40:=Nat.lt_of_lt_of_le hsh (Nat.pow_le_pow_right (by omega) (by omega))
   have hst : Uw (m : Int) (d : Int) ((a : Int),((d + (k + 1) : Nat) : Int) - 1) = some (.nx (((if a.testBit (d + k) then a ^^^ (m <<< k) else a : Nat) : Int),((d + k : Nat) : Int) - 1)):=by
    rw [e0]
    unfold Uw
    have c1 : ((d + k : Nat) : Int) ≥ (d : Int):=by omega
    have c2 : Wp ((d + k : Nat) : Int) = some ():=by unfold Wp; rw [if_pos (by omega)]
    have c3 : wr (((d + k : Nat) : Int) - (d : Int)) = ((k : Nat) : Int):=by rw [show ((d + k : Nat) : Int) - (d : Int) = ((k : Nat) : Int) by omega,BS _ (by omega)]
    have c4 : Wp ((k : Nat) : Int) = some ():=by unfold Wp; rw [if_pos (by omega)]
    have c5 : wr (((d + k : Nat) : Int) - 1) = ((d + k : Nat) : Int) - 1:=YT (by omega)
    simp only [c1,decide_true,if_true,c2,c3,c4,c5,Option.bind_some]
    have c6 : andI (Tc (a : Int) ((d + k : Nat) : Int)) 1 = (((a >>> (d + k)) &&& 1 : Nat) : Int):=by
     rw [A5 a (d + k) (by omega)]
     exact ji _ 1 (Nat.lt_of_le_of_lt (Nat.shiftRight_le _ _) (by omega)) (by omega)
    rw [c6,Q4 m k (by omega) (by omega),Qo a _ (by omega) (by omega)]
    cases hb : a.testBit (d + k) with
    | true =>
     have:=(Ar a (d + k)).2 hb
     rw [this]; rfl
    | false =>
     have : ¬ ((a >>> (d + k)) &&& 1 = 1):=fun h=>by rw [(Ar a (d + k)).1 h] at hb; cases hb
     have h2 : (((((a >>> (d + k)) &&& 1 : Nat) : Int)) == 1) = false:=by
      rw [beq_eq_false_iff_ne]; omega
     rw [h2]; rfl
   rw [Wg hst,ih _ (by omega) ?_]
   ·conv=>rhs; unfold YD
   ·split
    ·exact Nat.xor_lt_two_pow ha hsh2
    ·exact ha
 unfold Uo
 have:=key (16 - d) a (by omega) (by omega)
 rw [show ((d + (16 - d) : Nat) : Int) - 1 = 15 by omega] at this
 rw [this]; rfl

def Ja : Nat → Nat → Nat → Nat
 | 0,_,_=>0
 | n + 1,a,b=>(if b % 2 = 1 then a else 0) ^^^ Ja n (a <<< 1) (b / 2)
theorem JO : ∀ (n a : Nat),Ja n a 0 = 0
 | 0,_=>rfl
 | n + 1,a=>by simp [Ja,JO n]
theorem zS : ∀ (n a b p : Nat),a < 2 ^ p → Ja n a b < 2 ^ (p + n)
 | 0,_,_,_,_=>by simp [Ja]; exact Nat.two_pow_pos _
 | n + 1,a,b,p,h=>by
  unfold Ja
  have h1 : a <<< 1 < 2 ^ (p + 1):=QB h
  have h2:=zS n (a <<< 1) (b / 2) (p + 1) h1
  rw [show p + 1 + n = p + (n + 1) by omega] at h2
  refine Nat.xor_lt_two_pow ?_ h2
  have h3 : 2 ^ p ≤ 2 ^ (p + (n + 1)):=Nat.pow_le_pow_right (by omega) (by omega)
  have h4:=Nat.two_pow_pos (p + (n + 1))
  split <;> omega
def prC : Nat → Nat → Nat → Nat
 | 0,_,_=>0
 | i + 1,a,b=>prC i a b ^^^ (if b.testBit i then a <<< i else 0)
theorem AI : ∀ (n a b : Nat),prC (n + 1) a b = (if b % 2 = 1 then a else 0) ^^^ prC n (a <<< 1) (b / 2)
 | 0,a,b=>by
  simp only [prC,Nat.zero_xor,Nat.xor_zero,Nat.shiftLeft_zero]
  have : b.testBit 0 = decide (b % 2 = 1):=by simp [Nat.testBit_zero]
  rw [this]; simp
 | n + 1,a,b=>by
  conv=>lhs; unfold prC
  rw [AI n a b]
  conv=>rhs; unfold prC
  rw [← Nat.xor_assoc]
  congr 1
  rw [Nat.testBit_succ,← Nat.shiftLeft_add,Nat.add_comm 1 n]
theorem y4 : ∀ (n a b : Nat),prC n a b = Ja n a b
 | 0,_,_=>rfl
 | n + 1,a,b=>by rw [AI,y4 n]; rfl
theorem zd (a b : Nat) (h : a < 256) : ∀ i,i ≤ 8 → prC i a b < 2 ^ 16
 | 0,_=>by simp [prC]
 | i + 1,hi=>by
  unfold prC
  have h1 : a <<< i < 2 ^ (8 + i):=QB h
  have h2 : 2 ^ (8 + i) ≤ 2 ^ 16:=Nat.pow_le_pow_right (by omega) (by omega)
  refine Nat.xor_lt_two_pow (zd a b h i (by omega)) ?_
  split
  ·omega
  ·omega
def ZO (m : Nat) (a b : UInt8) : UInt8:=ZE ((YD m 8 8 (Ja 8 a.toNat b.toNat) : Nat) : Int)
theorem UF (m : Nat) (hm : m < 512) (a b : UInt8) : Yc (m : Int) a b = some (ZO m a b):=by
 have ha : a.toNat < 256:=a.toNat_lt
 have hb : b.toNat < 256:=b.toNat_lt
 have h:=Ya (f:=Xv a b) (fun i : Nat=>(((prC i a.toNat b.toNat : Nat) : Int),(i : Int))) 0 8 (Nat.zero_le _) (t:=((prC 8 a.toNat b.toNat : Nat) : Int)) (fun i _ hi=>by
  unfold Xv
  have c1 : ((i : Int) < 8):=by omega
  have c2 : Wp (i : Int) = some ():=by unfold Wp; rw [if_pos (by omega)]
  have c3 : prC i a.toNat b.toNat < 2 ^ 16:=zd _ _ ha i (by omega)
  have c4 : a.toNat <<< i < 2 ^ (8 + i):=QB ha
  have c5 : 2 ^ (8 + i) ≤ 2 ^ 16:=Nat.pow_le_pow_right (by omega) (by omega)
  have c6 : (((As b (i : Int)) &&& 1) == 1) = b.toNat.testBit i:=by
   have e1 : (As b (i : Int)).toNat = b.toNat >>> i:=by
    unfold As ZE
    rw [show min ((i : Int)).toNat 8 = i by omega,Int.fdiv_eq_ediv_of_nonneg _ (by exact_mod_cast Nat.zero_le _)]
    have : ((b.toNat : Int) / 2 ^ i) = ((b.toNat >>> i : Nat) : Int):=by rw [Nat.shiftRight_eq_div_pow]; simp
    rw [this]
    have h3 : b.toNat >>> i ≤ b.toNat:=Nat.shiftRight_le _ _
    generalize b.toNat >>> i = q at h3 ⊢
    have h4 : (((q : Nat) : Int) % 256).toNat = q:=by omega
    rw [h4]
    simp
    omega
   rw [Bool.eq_iff_iff,beq_iff_eq,← Ar,← UInt8.toNat_inj,UInt8.toNat_and,e1]
   simp
  simp only [c1,decide_true,if_true,c2,Option.bind_some,c6,Xi (show i < 9223372036854775807 by omega)]
  rw [Q4 _ i (by omega) (by omega),Qo _ _ (by omega) (by omega)]
  cases hbit : b.toNat.testBit i with
  | true=>simp [prC,hbit]
  | false=>simp [prC,hbit]) (by unfold Xv; simp)
 have h2 : ZQ (Xv a b) (0,0) = _:=h
 unfold Yc
 rw [h2]
 simp only [Option.bind_some]
 have h3:=jc (prC 8 a.toNat b.toNat) m 8 (by omega) (zd _ _ ha 8 (by omega)) (by omega)
 have h4 : Uo ((prC 8 a.toNat b.toNat : Nat) : Int) (m : Int) 8 = _:=h3
 rw [h4,y4]
 rfl
theorem UM (m : Nat) (hm : m < 512) (hm2 : 256 ≤ m) (a b : UInt8) : Yd (m : Int) a b = some (ZO m a b):=by
 have ha : a.toNat < 256:=a.toNat_lt
 have hb : b.toNat < 256:=b.toNat_lt
 have h1 : 2 ^ 8 ≤ m:=hm2
 have h2 : m < 2 ^ (8 + 1):=hm
 have hR : ∀ i,i ≤ 8 → YD m 8 8 (a.toNat <<< i) < 256:=fun i hi=>Jt h1 h2 8 _ (by
  have:=QB (k:=i) (show a.toNat < 2 ^ 8 from ha)
  exact Nat.lt_of_lt_of_le this (Nat.pow_le_pow_right (by omega) (by omega)))
 have hdbl : ∀ i,i ≤ 7 → YD m 8 8 (a.toNat <<< (i + 1)) = if 256 ≤ (YD m 8 8 (a.toNat <<< i)) * 2 then (YD m 8 8 (a.toNat <<< i)) * 2 ^^^ m else (YD m 8 8 (a.toNat <<< i)) * 2:=by
  intro i hi
  have hx : a.toNat <<< i < 2 ^ (8 + 7):=Nat.lt_of_lt_of_le (QB (show a.toNat < 2 ^ 8 from ha)) (Nat.pow_le_pow_right (by omega) (by omega))
  have e : a.toNat <<< (i + 1) = (a.toNat <<< i) <<< 1:=by rw [← Nat.shiftLeft_add]
  rw [e,T9 m 8 7,← JU hx]
  have hlt:=hR i (by omega)
  generalize YD m 8 8 (a.toNat <<< i) = y at hlt ⊢
  have e2 : y <<< 1 = y * 2:=by rw [Nat.shiftLeft_eq]
  rw [e2]
  have e3 : (y * 2).testBit 8 = decide (256 ≤ y * 2):=by
   by_cases hy : 256 ≤ y * 2
   ·rw [zN (d:=8) hy (by omega)]; simp [hy]
   ·rw [Nat.testBit_lt_two_pow (by omega : y * 2 < 2 ^ 8)]; simp [hy]
  rw [e3]
  by_cases hy : 256 ≤ y * 2 <;> simp [hy]
 have key : ∀ (n i o r : Nat),i + n ≤ 8 → r < 2 ^ n → o < 256 → ZQ (Xc (m : Int)) ((o : Int),((YD m 8 8 (a.toNat <<< i) : Nat) : Int),(r : Int)) = some ((o ^^^ YD m 8 8 (Ja n (a.toNat <<< i) r) : Nat) : Int):=by
  intro n
  induction n with
  | zero =>
   intro i o r _ hr ho
   have : r = 0:=by simpa using hr
   subst this
   rw [Y1 (t:=(o : Int))]
   ·rw [JO,Ur 8 0 (by omega),Nat.xor_zero]
   ·unfold Xc; simp
  | succ n ih =>
   intro i o r hi hr ho
   by_cases h0 : r = 0
   ·subst h0
    rw [Y1 (t:=(o : Int))]
    ·rw [JO,Ur 8 0 (by omega),Nat.xor_zero]
    ·unfold Xc; simp
   ·have hy:=hR i (by omega)
    have hst : Xc (m : Int) ((o : Int),((YD m 8 8 (a.toNat <<< i) : Nat) : Int),(r : Int)) = some (.nx (((o ^^^ YD m 8 8 (if r % 2 = 1 then a.toNat <<< i else 0) : Nat) : Int),((YD m 8 8 (a.toNat <<< (i + 1)) : Nat) : Int),((r / 2 : Nat) : Int))):=by
     rw [hdbl i (by omega)]
     unfold Xc
     have c1 : (r : Int) > 0:=by omega
     have hr2 : r < 512:=Nat.lt_of_lt_of_le hr (Nat.le_trans (Nat.pow_le_pow_right (by omega) (by omega : n + 1 ≤ 9)) (by omega))
     simp only [c1,decide_true,if_true,y3,zP]
     have e1 : wr (((YD m 8 8 (a.toNat <<< i) : Nat) : Int) * 2) = (((YD m 8 8 (a.toNat <<< i)) * 2 : Nat) : Int):=by rw [YT (by omega)]; omega
     have e2 : wr ((r / 2 : Nat) : Int) = ((r / 2 : Nat) : Int):=BS _ (by omega)
     rw [e1,e2,Qo _ _ (by omega) (by omega),Qo _ _ (by omega) (by omega)]
     have e3 : ((((r % 2 : Nat) : Int)) == 1) = decide (r % 2 = 1):=by
      rw [Bool.eq_iff_iff,beq_iff_eq,decide_eq_true_eq]; omega
     rw [e3]
     have e4 : decide ((((YD m 8 8 (a.toNat <<< i)) * 2 : Nat) : Int) ≥ 256) = decide (256 ≤ (YD m 8 8 (a.toNat <<< i)) * 2):=by rw [decide_eq_decide]; omega
     rw [e4]
     have e5 : YD m 8 8 0 = 0:=Ur 8 0 (by omega)
     by_cases c2 : r % 2 = 1 <;> by_cases c3 : 256 ≤ (YD m 8 8 (a.toNat <<< i)) * 2 <;> simp only [c2,c3,decide_true,decide_false,Bool.false_eq_true,if_true,if_false,Option.bind_some,e5,Nat.xor_zero]
    rw [Wg hst,ih (i + 1) _ (r / 2) (by omega) (by rw [Nat.pow_succ] at hr; omega) ?_]
    ·conv=>rhs; unfold Ja
     rw [TW,Nat.xor_assoc,Nat.shiftLeft_add]
    ·refine Nat.xor_lt_two_pow (n:=8) ho ?_
     split
     ·exact hR i (by omega)
     ·rw [Ur 8 0 (by omega)]; omega
 have:=key 8 0 0 b.toNat (by omega) hb (by omega)
 rw [Nat.shiftLeft_zero,Ur 8 a.toNat ha,Nat.zero_xor] at this
 have h3 : ZQ (Xc (m : Int)) (0,bI a,bI b) = _:=this
 unfold Yd
 rw [h3]
 rfl

def Ql (m : Nat) : Nat → UInt8 → Nat → UInt8 → UInt8
 | 0,_,_,o=>o
 | f + 1,a,k,o=>if k = 0 then o else Ql m f (ZO m a a) (k / 2) (if k % 2 = 1 then ZO m o a else o)
theorem AP (m : Nat) (L : UInt8 × Int × UInt8 → Option (Fl (UInt8 × Int × UInt8) UInt8)) (T : UInt8 → UInt8 → Option UInt8) (hT : ∀ a b,T a b = some (ZO m a b))
  (hL : ∀ s,L s = if (decide (s.2.1 > 0)) = true then (((if ((Int.tmod s.2.1 2) == 1) = true then ((T s.2.2 s.1).bind fun r=>some r) else (some s.2.2) : Option UInt8).bind fun j12=>(T s.1 s.1).bind fun r20=>some (r20,j12) : Option (UInt8 × UInt8)).bind fun j9=>some (Fl.nx (j9.1,wr (Int.tdiv s.2.1 2),j9.2))) else (some (Fl.ex s.2.2))) :
  ∀ (f k : Nat) (a o : UInt8),k < 2 ^ f → f ≤ 62 → ZQ L (a,(k : Int),o) = some (Ql m f a k o):=by
 intro f
 induction f with
 | zero =>
  intro k a o hk _
  have : k = 0:=by simpa using hk
  subst this
  exact Y1 (by rw [hL]; simp [Ql])
 | succ f ih =>
  intro k a o hk hf
  by_cases h0 : k = 0
  ·subst h0
   exact Y1 (by rw [hL]; simp [Ql])
  ·have hlt : k < 9223372036854775808:=Nat.lt_of_lt_of_le hk (Nat.pow_le_pow_right (by omega : 0 < 2) (by omega : f + 1 ≤ 63))
   have hst : L (a,(k : Int),o) = some (.nx (ZO m a a,((k / 2 : Nat) : Int),if k % 2 = 1 then ZO m o a else o)):=by
    rw [hL]
    have c1 : (k : Int) > 0:=by omega
    have e3 : ((((k % 2 : Nat) : Int)) == 1) = decide (k % 2 = 1):=by
     rw [Bool.eq_iff_iff,beq_iff_eq,decide_eq_true_eq]; omega
    simp only [c1,decide_true,if_true,y3,zP,hT,e3,Option.bind_some,BS (k / 2) (by omega)]
    by_cases c2 : k % 2 = 1 <;> simp [c2]
   rw [Wg hst,ih (k / 2) _ _ (by rw [Nat.pow_succ] at hk; omega) (by omega)]
   conv=>rhs; unfold Ql
   rw [if_neg h0]
theorem BI (m : Nat) (hm : m < 512) (a : UInt8) (k f : Nat) (hk : k < 2 ^ f) (hf : f ≤ 62) : XO (m : Int) a (k : Int) = some (Ql m f a k 1):=by
 unfold XO
 rw [AP m (Vi (m : Int)) _ (UF m hm) (fun s=>by unfold Vi; rfl) f k a 1 hk hf]; rfl
theorem zl (m : Nat) (hm : m < 512) (hm2 : 256 ≤ m) (a : UInt8) (k f : Nat) (hk : k < 2 ^ f) (hf : f ≤ 62) : W1 (m : Int) a (k : Int) = some (Ql m f a k 1):=by
 unfold W1
 rw [AP m (Ux (m : Int)) _ (UM m hm hm2) (fun s=>by unfold Ux; rfl) f k a 1 hk hf]; rfl
def V6 (m : Nat) (a : UInt8) : UInt8:=Ql m 8 a 254 1
theorem Hp (m : Nat) (hm : m < 512) (a : UInt8) : X5 (m : Int) a = some (V6 m a):=by
 unfold X5
 have:=BI m hm a 254 8 (by omega) (by omega)
 have h2 : XO (m : Int) a 254 = _:=this
 rw [h2]; rfl
theorem AR (m : Nat) (hm : m < 512) (hm2 : 256 ≤ m) (a : UInt8) : Wv (m : Int) a = some (V6 m a):=by
 unfold Wv
 have:=zl m hm hm2 a 254 8 (by omega) (by omega)
 have h2 : W1 (m : Int) a 254 = _:=this
 rw [h2]; rfl

def Jz (m d : Nat) : Bool:=YD d (Qs d - 1) (16 - (Qs d - 1)) m == 0
def YE (m : Int) : Bool:=decide (256 ≤ m ∧ m ≤ 511) && !((List.range' 2 30).any (Jz m.toNat))
theorem Br (m : Int) : W3 m = some (YE m):=by
 unfold W3 YE
 rw [HA]
 by_cases hm : 256 ≤ m ∧ m ≤ 511
 ·obtain ⟨n,rfl⟩:=Int.eq_ofNat_of_zero_le (show 0 ≤ m by omega)
  have hn : n < 512:=by omega
  have h:=JP (f:=WE (n : Int)) 32 (Jz n) false (by omega) 2 (by omega) (fun d h2 hd=>by
   unfold WE
   have c1 : (d : Int) < 32:=by omega
   have hp : ∃ p,p ≤ 4 ∧ 2 ^ p ≤ d ∧ d < 2 ^ (p + 1):=by
    refine ⟨d.log2,?_,Nat.log2_self_le (by omega),Nat.lt_log2_self⟩
    have:=(Nat.log2_lt (n:=d) (by omega)).2 (show d < 2 ^ 5 by omega)
    omega
   obtain ⟨p,h3,h4,h5⟩:=hp
   have hl:=HB h4 h5
   rw [yN n d p (16 - p) (by omega) (by omega) h4 h5 (by rw [show p + (16 - p) = 16 by omega]; omega)]
   simp only [c1,decide_true,if_true,Option.bind_some]
   unfold Jz
   rw [hl,show p + 1 - 1 = p by omega]
   generalize YD d p (16 - p) n = q
   have : ((((q : Nat) : Int)) == 0) = (q == 0):=by rw [Bool.eq_iff_iff,beq_iff_eq,beq_iff_eq]; omega
   rw [this]
   cases q == 0 <;> simp) (by unfold WE; simp)
  have h2 : ZQ (WE (n : Int)) 2 = _:=h
  rw [h2]
  simp only [hm,decide_true,and_self,Bool.not_true,Bool.false_eq_true,if_false,Option.bind_some,Bool.true_and,Int.toNat_natCast]
  cases (List.range' 2 30).any (Jz n) <;> rfl
 ·simp [hm]
theorem yP (m : Int) : Up m = some (YE m):=by
 unfold Up YE
 rw [Ku]
 by_cases hm : 256 ≤ m ∧ m ≤ 511
 ·obtain ⟨n,rfl⟩:=Int.eq_ofNat_of_zero_le (show 0 ≤ m by omega)
  have hn : n < 512:=by omega
  have inner : ∀ p : Nat,p ≤ 4 → ZQ (WP (n : Int) (p : Int)) ((2 ^ p : Nat) : Int) = some (if (List.range' (2 ^ p) (2 ^ p)).any (Jz n) then Fl.ex false else Fl.nx ()):=by
   intro p hp
   have c2 : Wp (p : Int) = some ():=by unfold Wp; rw [if_pos (by omega)]
   have hpow : 2 ^ p ≤ 2 ^ 4:=Nat.pow_le_pow_right (by omega) hp
   have hpp:=Nat.two_pow_pos p
   have c3 : Ka 2 (p : Int) = ((2 ^ (p + 1) : Nat) : Int):=by
    have:=Q4 2 p (by omega) (by rw [Nat.shiftLeft_eq]; omega)
    rw [Nat.shiftLeft_eq] at this
    rw [show (2 : Int) = ((2 : Nat) : Int) from rfl,this,Nat.pow_succ,Nat.mul_comm]
   have h:=JP (f:=WP (n : Int) (p : Int)) (2 ^ (p + 1)) (Jz n) false (by rw [Nat.pow_succ]; omega) (2 ^ p) (by rw [Nat.pow_succ]; omega) (fun d h4 h5=>by
    unfold WP
    have c1 : (d : Int) < ((2 ^ (p + 1) : Nat) : Int):=by omega
    have hd : d < 32:=by rw [Nat.pow_succ] at h5; omega
    have hl:=HB h4 h5
    rw [c2,c3,jc n d p (by omega) (by omega) (by omega)]
    simp only [c1,decide_true,if_true,Option.bind_some]
    unfold Jz
    rw [hl,show p + 1 - 1 = p by omega]
    generalize YD d p (16 - p) n = q
    have : ((((q : Nat) : Int)) == 0) = (q == 0):=by rw [Bool.eq_iff_iff,beq_iff_eq,beq_iff_eq]; omega
    rw [this]
    cases q == 0 <;> simp) (by
     unfold WP
     rw [c2,c3]; simp)
   rw [show 2 ^ (p + 1) - 2 ^ p = 2 ^ p by rw [Nat.pow_succ]; omega] at h
   exact h
  have h:=JP (f:=WQ (n : Int)) 5 (fun p=>(List.range' (2 ^ p) (2 ^ p)).any (Jz n)) false (by omega) 1 (by omega) (fun p _ hp=>by
   unfold WQ
   have c1 : (p : Int) ≤ 4:=by omega
   have c2 : Wp (p : Int) = some ():=by unfold Wp; rw [if_pos (by omega)]
   have c3 : Ka 1 (p : Int) = ((2 ^ p : Nat) : Int):=by
    have hpow : 2 ^ p ≤ 2 ^ 4:=Nat.pow_le_pow_right (by omega) (by omega)
    have:=Q4 1 p (by omega) (by rw [Nat.shiftLeft_eq]; omega)
    rw [Nat.shiftLeft_eq,Nat.one_mul] at this
    exact this
   rw [c2,c3,inner p (by omega)]
   simp only [c1,decide_true,if_true,Option.bind_some]
   cases (List.range' (2 ^ p) (2 ^ p)).any (Jz n) <;> rfl) (by unfold WQ; simp)
  have h2 : ZQ (WQ (n : Int)) 1 = _:=h
  rw [h2]
  have e : ((List.range' 1 (5 - 1)).any fun p=>(List.range' (2 ^ p) (2 ^ p)).any (Jz n)) = (List.range' 2 30).any (Jz n):=by
   have e1 : List.range' 2 30 = List.range' 2 2 ++ (List.range' 4 4 ++ (List.range' 8 8 ++ List.range' 16 16)):=by decide
   have e2 : List.range' 1 (5 - 1) = [1,2,3,4]:=by decide
   rw [e1,e2]
   simp only [List.any_append,List.any_cons,List.any_nil,Bool.or_false,Nat.reducePow]
  rw [e]
  simp only [hm,decide_true,and_self,Bool.not_true,Bool.false_eq_true,if_false,Option.bind_some,Bool.true_and,Int.toNat_natCast]
  cases (List.range' 2 30).any (Jz n) <;> rfl
 ·simp [hm]
theorem VB {m : Int} (h : YE m = true) : ∃ n : Nat,m = n ∧ 256 ≤ n ∧ n < 512:=by
 unfold YE at h
 simp only [Bool.and_eq_true,decide_eq_true_eq] at h
 exact ⟨m.toNat,by omega,by omega,by omega⟩
def UV (l : List UInt8) : Bool:=decide l.Nodup
theorem BP (l : List UInt8) : ((List.range' 0 (l.length - 0)).any fun i=>(List.range' 0 (i - 0)).any fun k=>l[i]? == l[k]?) = !UV l:=by
 rw [Bool.eq_iff_iff,VW]
 rw [UV,Bool.not_eq_true',decide_eq_false_iff_not]
 unfold List.Nodup
 rw [List.pairwise_iff_getElem]
 simp only [VW,beq_iff_eq]
 constructor
 ·rintro ⟨i,_,hi,k,_,hk,h⟩ hn
  have hk' : k < l.length:=by omega
  rw [List.getElem?_eq_getElem hi,List.getElem?_eq_getElem hk'] at h
  exact hn k i hk' hi hk (by simpa using h.symm)
 ·intro h
  simp only [Classical.not_forall,ne_eq,Decidable.not_not] at h
  obtain ⟨k,i,hk,hi,hki,h⟩:=h
  exact ⟨i,Nat.zero_le _,hi,k,Nat.zero_le _,hki,by rw [List.getElem?_eq_getElem hi,List.getElem?_eq_getElem hk,h]⟩
theorem BB (l : List UInt8) (c : UInt8) : decide (indexByte l c ≥ 0) = l.contains c:=by
 induction l with
 | nil=>rfl
 | cons b l ih =>
  have hge:=Lib.indexByte_ge l c
  show decide (Lib.indexByte (b :: l) c ≥ 0) = _
  unfold Lib.indexByte
  rw [List.contains_cons,← ih]
  by_cases hb : b = c
  ·subst hb; simp
  ·have hb' : (c == b) = false:=by simpa using fun h=>hb h.symm
   simp only [beq_eq_false_iff_ne.2 hb,hb',Bool.false_eq_true,if_false,Bool.false_or]
   rw [decide_eq_decide]
   show _ ↔ Lib.indexByte l c ≥ 0
   by_cases h1 : Lib.indexByte l c = -1
   ·simp [h1]
   ·rw [if_neg (by simpa using h1)]; omega
theorem H3 (l : List UInt8) (h : l.length < 9223372036854775807) : Wo l = some (UV l):=by
 unfold Wo
 have:=A2 (f:=Y8 l) l.length (fun i=>(l.take i).any fun x=>l[i]? == some x) false h (fun i hi=>by
  unfold Y8
  have e1 : slc l (0 : Int) (i : Int) = some (l.take i):=by have:=Bt (l:=l) (i:=0) (j:=i) (Nat.zero_le _) (by omega); simpa using this
  simp only [Int.ofNat_lt,hi,decide_true,if_true,VO,List.getElem?_eq_getElem hi,Option.bind_some,e1]
  unfold V4
  simp only [Option.bind_some,BB]
  have e2 : (l.take i).contains l[i] = (l.take i).any fun x=>some l[i] == some x:=by
   rw [Bool.eq_iff_iff]; simp [List.any_eq_true]
  rw [e2]
  split <;> rfl) (by unfold Y8; simp) 0 (Nat.zero_le _)
 have h3 : ZQ (Y8 l) 0 = _:=this
 have key : ((List.range' 0 (l.length - 0)).any fun i=>(l.take i).any fun x=>l[i]? == some x) = !UV l:=by
  rw [← BP,Bool.eq_iff_iff,VW,VW]
  refine exists_congr fun i=>and_congr_right fun _=>and_congr_right fun hi=>?_
  rw [VW,List.any_eq_true]
  constructor
  ·rintro ⟨x,hx,h⟩
   obtain ⟨k,hk,rfl⟩:=List.mem_iff_getElem.1 hx
   have hk2 : k < i ∧ k < l.length:=by simp at hk; omega
   exact ⟨k,Nat.zero_le _,hk2.1,by rw [List.getElem?_eq_getElem hk2.2]; simpa using h⟩
  ·rintro ⟨k,_,hk,h⟩
   have hkl : k < l.length:=by omega
   refine ⟨l[k],List.mem_iff_getElem.2 ⟨k,by simp; omega,by simp⟩,?_⟩
   rw [List.getElem?_eq_getElem hkl] at h; exact h
 rw [h3,key]
 cases UV l <;> simp [Fl.el]
def dbl (m y : Nat) : Nat:=if (y <<< 1).testBit 8 then (y <<< 1) ^^^ m else y <<< 1
theorem AG (a b c d : Nat) : (a ^^^ b) ^^^ (c ^^^ d) = (a ^^^ c) ^^^ (b ^^^ d):=by
 rw [Nat.xor_assoc,Nat.xor_assoc,← Nat.xor_assoc b,← Nat.xor_assoc c,Nat.xor_comm b c]
theorem yb (m x y : Nat) : dbl m (x ^^^ y) = dbl m x ^^^ dbl m y:=by
 unfold dbl
 rw [Nat.shiftLeft_xor_distrib,Nat.testBit_xor]
 cases (x <<< 1).testBit 8 <;> cases (y <<< 1).testBit 8 <;> simp only [Bool.xor_false,Bool.false_xor,Bool.xor_self,Bool.xor_true,Bool.not_false,Bool.not_true,Bool.false_eq_true,if_true,if_false]
 ·rw [Nat.xor_assoc]
 ·rw [Nat.xor_assoc,Nat.xor_assoc,Nat.xor_comm m]
 ·rw [AG,Nat.xor_self,Nat.xor_zero]
theorem HM (m : Nat) : dbl m 0 = 0:=by simp [dbl]
def opP (m : Nat) : Nat → Nat → Nat → Nat
 | 0,_,_=>0
 | n + 1,b,x=>(if b % 2 = 1 then x else 0) ^^^ opP m n (b / 2) (dbl m x)
theorem AS (m n b x : Nat) : opP m (n + 1) b x = (if b % 2 = 1 then x else 0) ^^^ opP m n (b / 2) (dbl m x):=rfl
theorem B6 (m : Nat) : ∀ (n b x y : Nat),opP m n b (x ^^^ y) = opP m n b x ^^^ opP m n b y
 | 0,_,_,_=>by simp [opP]
 | n + 1,b,x,y=>by
  unfold opP
  rw [yb,B6 m n,AG]
  congr 1
  split <;> simp
theorem Jd (m : Nat) : ∀ (n b : Nat),opP m n b 0 = 0
 | 0,_=>rfl
 | n + 1,b=>by unfold opP; rw [HM,Jd m n]; simp
theorem z6 (m : Nat) : ∀ (n b x : Nat),opP m n b (dbl m x) = dbl m (opP m n b x)
 | 0,_,_=>(HM m).symm
 | n + 1,b,x=>by
  unfold opP
  rw [z6 m n,yb]
  congr 1
  split
  ·rfl
  ·exact (HM m).symm
theorem Jg (m : Nat) : ∀ (n b k c x : Nat),opP m n b (opP m k c x) = opP m k c (opP m n b x)
 | 0,_,k,c,_=>(Jd m k c).symm
 | n + 1,b,k,c,x=>by
  rw [AS,AS,← z6,Jg m n,B6]
  congr 1
  split
  ·rfl
  ·exact (Jd m k c).symm
theorem yJ (a : Nat) : (if a % 2 = 1 then 1 else 0) ^^^ (a / 2) <<< 1 = a:=by
 rw [Nat.shiftLeft_eq]
 have h : (if a % 2 = 1 then 1 else 0) = a % 2:=by split <;> omega
 rw [h]
 apply Nat.eq_of_testBit_eq
 intro i
 rw [Nat.testBit_xor]
 cases i with
 | zero =>
  simp [Nat.testBit_zero]
 | succ i =>
  rw [Nat.testBit_succ,Nat.testBit_succ,Nat.testBit_succ]
  have h1 : a % 2 / 2 = 0:=by omega
  have h2 : a / 2 * 2 ^ 1 / 2 = a / 2:=by omega
  rw [h1,h2]; simp
theorem jR (m i : Nat) (hi : i < 7) : dbl m (1 <<< i) = 1 <<< (i + 1):=by
 unfold dbl
 rw [← Nat.shiftLeft_add]
 have : (1 <<< (i + 1)).testBit 8 = false:=by
  apply Nat.testBit_lt_two_pow
  rw [Nat.shiftLeft_eq,Nat.one_mul]
  exact Nat.pow_lt_pow_right (by omega) (by omega)
 rw [this]; rfl
theorem KA (m : Nat) : ∀ (n i a : Nat), n + i ≤ 8 → a < 2 ^ n → opP m n a (1 <<< i) = a <<< i
  | 0, i, a, _, ha => by
    have : a = 0 := by simpa using ha
    subst this; simp [opP]
  | n + 1, i, a, hn, ha => by
    have e : a <<< i = (if a % 2 = 1 then 1 <<< i else 0) ^^^ (a / 2) <<< (i + 1) := by
      conv => lhs; rw [← yJ a]
      rw [Nat.shiftLeft_xor_distrib, ← Nat.shiftLeft_add, Nat.add_comm 1 i]
      congr 1
      split <;> simp
    unfold opP
    rw [e]
    congr 1
    rcases Nat.eq_zero_or_pos n with rfl | hp
    · have : a / 2 = 0 := by have : a < 2 := by simpa using ha
                             omega
      rw [this]; simp [opP]
    · rw [jR m i (by omega)]
      exact KA m n (i + 1) (a / 2) (by omega) (by rw [Nat.pow_succ] at ha; omega)

theorem yL (m x : Nat) (hx : x < 2 ^ 15) : YD m 8 8 (x <<< 1) = dbl m (YD m 8 8 x):=by
 rw [T9 m 8 7,← JU (d:=8) (k:=7) hx]; rfl
theorem je (m : Nat) : ∀ (n i a b : Nat),i + n ≤ 8 → a < 2 ^ 8 → YD m 8 8 (Ja n (a <<< i) b) = opP m n b (YD m 8 8 (a <<< i))
 | 0,_,_,_,_,_=>by simp [Ja,opP,Ur 8 0]
 | n + 1,i,a,b,hn,ha=>by
  unfold Ja opP
  rw [TW]
  have hx : a <<< i < 2 ^ 15:=Nat.lt_of_lt_of_le (QB ha) (Nat.pow_le_pow_right (by omega) (by omega))
  rw [← yL m _ hx,← Nat.shiftLeft_add,je m n (i + 1) a (b / 2) (by omega) ha]
  congr 1
  split
  ·rfl
  ·exact Ur 8 0 (by omega)
theorem XV (m : Nat) (h1 : 256 ≤ m) (h2 : m < 512) (a b : UInt8) : (ZO m a b).toNat = opP m 8 b.toNat a.toNat:=by
 have ha : a.toNat < 2 ^ 8:=a.toNat_lt
 have hr : YD m 8 8 (Ja 8 a.toNat b.toNat) < 256:=Jt (d:=8) h1 h2 8 _ (zS 8 a.toNat b.toNat 8 ha)
 have e:=je m 8 0 a.toNat b.toNat (by omega) ha
 rw [Nat.shiftLeft_zero,Ur 8 _ ha] at e
 unfold ZO ZE
 rw [e] at hr ⊢
 generalize opP m 8 b.toNat a.toNat = q at hr ⊢
 have : (((q : Nat) : Int) % 256).toNat = q:=by omega
 rw [this]
 simp
 omega
section
variable {m : Nat} (h1 : 256 ≤ m) (h2 : m < 512)
include h1 h2
theorem Wn (a b : UInt8) : ZO m a b = ZO m b a:=by
 apply UInt8.toNat_inj.1
 rw [XV m h1 h2,XV m h1 h2]
 have ea:=KA m 8 0 a.toNat (by omega) a.toNat_lt
 have eb:=KA m 8 0 b.toNat (by omega) b.toNat_lt
 simp only [Nat.shiftLeft_zero] at ea eb
 rw [← ea,Jg,eb,ea]
theorem Xf (a b c : UInt8) : ZO m (ZO m a b) c = ZO m a (ZO m b c):=by
 rw [Wn h1 h2 a (ZO m b c)]
 apply UInt8.toNat_inj.1
 rw [XV m h1 h2,XV m h1 h2,XV m h1 h2,XV m h1 h2]
 have ea:=KA m 8 0 a.toNat (by omega) a.toNat_lt
 have eb:=KA m 8 0 b.toNat (by omega) b.toNat_lt
 simp only [Nat.shiftLeft_zero] at ea eb
 have e1 : opP m 8 b.toNat a.toNat = opP m 8 a.toNat b.toNat:=by
  conv=>lhs; rw [← ea]
  rw [Jg,eb]
 rw [e1,Jg]
theorem Qh (a b c : UInt8) : ZO m (a ^^^ b) c = ZO m a c ^^^ ZO m b c:=by
 apply UInt8.toNat_inj.1
 rw [UInt8.toNat_xor,XV m h1 h2,XV m h1 h2,XV m h1 h2,UInt8.toNat_xor,B6]
theorem UR (a b c : UInt8) : ZO m a (b ^^^ c) = ZO m a b ^^^ ZO m a c:=by
 rw [Wn h1 h2,Qh h1 h2,Wn h1 h2 b,Wn h1 h2 c]
theorem Tm (a : UInt8) : ZO m 1 a = a:=by
 apply UInt8.toNat_inj.1
 rw [XV m h1 h2]
 have ea:=KA m 8 0 a.toNat (by omega) a.toNat_lt
 simpa using ea
theorem zf (a : UInt8) : ZO m a 1 = a:=by rw [Wn h1 h2,Tm h1 h2]
theorem Tf (a : UInt8) : ZO m 0 a = 0:=by
 apply UInt8.toNat_inj.1
 rw [XV m h1 h2]
 exact Jd m 8 _
theorem QI (a b c d : UInt8) : ZO m (ZO m a b) (ZO m c d) = ZO m (ZO m a c) (ZO m b d):=by
 rw [Xf h1 h2,Xf h1 h2,← Xf h1 h2 b c d,Wn h1 h2 b c,Xf h1 h2 c b d]
theorem J5 : ∀ (f k : Nat) (a b o p : UInt8),Ql m f (ZO m a b) k (ZO m o p) = ZO m (Ql m f a k o) (Ql m f b k p)
 | 0,_,_,_,_,_=>rfl
 | f + 1,k,a,b,o,p=>by
  unfold Ql
  by_cases h : k = 0
  ·simp [h]
  ·rw [if_neg h,if_neg h,if_neg h]
   by_cases hk : k % 2 = 1
   ·rw [if_pos hk,if_pos hk,if_pos hk,QI h1 h2 a b,QI h1 h2 o p]
    exact J5 f (k / 2) _ _ _ _
   ·rw [if_neg hk,if_neg hk,if_neg hk,QI h1 h2 a b]
    exact J5 f (k / 2) _ _ _ _
theorem yv (a b : UInt8) : V6 m (ZO m a b) = ZO m (V6 m a) (V6 m b):=by
 unfold V6
 have:=J5 h1 h2 8 254 a b 1 1
 rwa [Tm h1 h2] at this
theorem zW : ∀ (f k : Nat),Ql m f 1 k 1 = 1
 | 0,_=>rfl
 | f + 1,k=>by
  unfold Ql
  rw [Tm h1 h2]
  split
  ·rfl
  ·split <;> exact zW f _
theorem jI : V6 m 1 = 1:=zW h1 h2 8 254

end
def vf {α : Type} (n : Nat) (f : Nat → α) : Vector α n:=Vector.ofFn fun i=>f i.1
theorem Qy {α : Type} {n i : Nat} (f : Nat → α) (h : i < n) : (vf n f)[i] = f i:=by simp [vf]
theorem TL {α : Type} {n i : Nat} (f : Nat → α) (h : i < n) : (vf n f)[i]? = some (f i):=by rw [Vector.getElem?_eq_getElem h,Qy f h]
theorem ZW {α : Type} {n i : Nat} (f : Nat → α) (h : i < n) : ZI (vf n f) (i : Int) = some (f i):=by rw [Ut,TL f h]
theorem WO {α : Type} {n : Nat} {f g : Nat → α} (h : ∀ i,i < n → f i = g i) : vf n f = vf n g:=by
 apply Hz
 intro i hi
 rw [Qy f hi,Qy g hi,h i hi]
theorem Vn {α : Type} {n : Nat} (f : Nat → α) (k : Nat) (x : α) : (vf n f).setIfInBounds k x = vf n (fun i=>if i = k then x else f i):=by
 apply Hz
 intro i hi
 rw [Vector.getElem_setIfInBounds,Qy _ hi,Qy _ hi]
 by_cases h : k = i
 ·subst h; simp
 ·rw [if_neg h,if_neg (fun e=>h e.symm)]
theorem UB {α : Type} (n : Nat) (x : α) : Vector.replicate n x = vf n (fun _=>x):=by
 apply Hz
 intro i hi
 rw [Qy _ hi]; simp
theorem jk {α : Type} [Inhabited α] {n : Nat} (v : Vector α n) : v = vf n (fun i=>v[i]?.getD default):=by
 apply Hz
 intro i hi
 rw [Qy _ hi,Vector.getElem?_eq_getElem hi]; rfl
abbrev Mat:=Vector (Vector UInt8 4) 4
def mf (f : Nat → Nat → UInt8) : Mat:=vf 4 fun i=>vf 4 (f i)
theorem XQ {f g : Nat → Nat → UInt8} (h : ∀ i,i < 4 → ∀ j,j < 4 → f i j = g i j) : mf f = mf g:=WO fun i hi=>WO fun j hj=>h i hi j hj
theorem X0 {i : Nat} (f : Nat → Nat → UInt8) (h : i < 4) : ZI (mf f) (i : Int) = some (vf 4 (f i)):=ZW _ h
theorem QF (f : Nat → Nat → UInt8) (k : Nat) (g : Nat → UInt8) : (mf f).setIfInBounds k (vf 4 g) = mf (fun i j=>if i = k then g j else f i j):=by
 unfold mf
 rw [Vn]
 apply WO
 intro i hi
 by_cases h : i = k
 ·simp [h]
 ·simp [h]
theorem HC : Vector.replicate 4 (Vector.replicate 4 (0 : UInt8)) = mf (fun _ _=>0):=by rw [UB 4 (0 : UInt8),UB]; rfl
theorem lt4 {i : Nat} (h : i < 4) : decide ((i : Int) < 4) = true:=by simp; omega
theorem lt4' {i : Nat} (h : ¬ i < 4) : decide ((i : Int) < 4) = false:=by simp; omega
theorem wr4 {i : Nat} (h : i < 1000) : wr ((i : Int) + 1) = ((i + 1 : Nat) : Int):=Xi (by omega)

def Vg (i j : Nat) : UInt8:=if i = j then 1 else 0
theorem BU (L : Mat × Int → Option (Fl (Mat × Int) Mat))
  (hL : ∀ s8,L s8 = if (decide (s8.2 < 4)) = true then ((ZI s8.1 s8.2).bind fun (x14 : (Vector UInt8 4))=>(ZI x14 s8.2).bind fun (x17 : UInt8)=>some (Fl.nx ((s8.1.setIfInBounds (s8.2).toNat (x14.setIfInBounds (s8.2).toNat 1)),wr (s8.2 + 1)))) else (some (Fl.ex s8.1))) :
  ZQ L (Vector.replicate 4 (Vector.replicate 4 (0 : UInt8)),0) = some (mf Vg):=by
 have:=Ya (f:=L) (fun i : Nat=>(mf fun r c=>if r < i then Vg r c else 0,(i : Int))) 0 4 (by omega) (t:=mf Vg) (fun i _ hi=>by
  rw [hL]
  simp only [lt4 hi,if_true,X0 _ hi,ZW _ hi,Option.bind_some,Int.toNat_natCast,Vn,QF,wr4 (show i < 1000 by omega)]
  congr 3
  apply XQ
  intro r hr c hc
  by_cases h1 : r = i
  ·subst h1; simp [Vg,eq_comm]
  ·simp only [h1,if_false]
   by_cases h2 : r < i
   ·rw [if_pos h2,if_pos (by omega)]
   ·rw [if_neg h2,if_neg (by omega)]) (by
  rw [hL]
  simp only [lt4' (show ¬ 4 < 4 by omega),Bool.false_eq_true,if_false]
  exact congrArg (fun z=>some (Fl.ex z)) (XQ fun r hr c hc=>by rw [if_pos hr]))
 rw [HC]
 simpa using this
theorem Jf : Va = some (mf Vg):=by
 unfold Va
 rw [BU UN fun s=>rfl]; rfl
theorem Jc : Vc = some (mf Vg):=by
 unfold Vc
 rw [BU UQ fun s=>rfl]; rfl

abbrev MF:=Nat → Nat → UInt8
def UH (f : MF) (k : Nat) : Nat:=((List.range' k (4 - k)).find? fun i=>!(f i k == 0)).getD 4
def Ui (f : MF) (i k : Nat) : MF:=fun r c=>if r = k then f i c else if r = i then f k c else f r c
def VZ (m : Nat) (f : MF) (k : Nat) (by_ : UInt8) : MF:=fun r c=>if r = k then ZO m (f k c) by_ else f r c
def Xh (m : Nat) (f g : MF) (k : Nat) : MF:=fun r c=>if r = k then g r c else g r c ^^^ ZO m (f r k) (g k c)
structure Red where
 a : MF
 b : MF
 det : UInt8
def TP (m : Nat) (s : Red) (k : Nat) : Option Red :=
 let i:=UH s.a k
 if i = 4 then none else
  let f:=Ui s.a i k
  let g:=Ui s.b i k
  let q:=V6 m (f k k)
  let f2:=VZ m f k q
  let g2:=VZ m g k q
  some ⟨Xh m f2 f2 k,Xh m f2 g2 k,ZO m s.det (f k k)⟩
def TQ (m : Nat) : Nat → Nat → Red → Option Red
 | 0,_,s=>some s
 | n + 1,k,s=>(TP m s k).bind (TQ m n (k + 1))
def QG (m : Nat) (a : MF) : UInt8 × Mat:=match TQ m 4 0 ⟨a,Vg,1⟩ with
 | some s=>(s.det,mf s.b)
 | none=>(0,mf fun _ _=>0)
theorem Bn (L : Int → Option (Fl Int Int)) (f : MF) (k : Nat) (hk : k < 4)
  (hL : ∀ s,L s = (if (decide (s < 4)) = true then ((ZI (mf f) s).bind fun (x30 : (Vector UInt8 4))=>(ZI x30 (k : Int)).bind fun (x33 : UInt8)=>some (x33 == 0)) else (some false) : Option (Bool)).bind fun (j25 : Bool)=>if j25 = true then (some (Fl.nx (wr (s + 1)))) else (some (Fl.ex s))) :
  ZQ L (k : Int) = some ((UH f k : Nat) : Int):=by
 have:=TU (f:=L) (fun i : Nat=>(i : Int)) (fun i=>!(f i k == 0)) (fun i=>(i : Int)) (e:=(4 : Int)) 4 (4 - k) k (by omega) (fun i _ hi=>by
  rw [hL]
  simp only [lt4 hi,if_true,X0 _ hi,ZW _ hk,Option.bind_some]
  cases h : (f i k == 0)
  ·simp
  ·simp [wr4 (show i < 1000 by omega)]) (by rw [hL]; simp)
 rw [this]
 unfold UH
 cases (List.range' k (4 - k)).find? fun i=>!(f i k == 0) <;> rfl
theorem Az {f : MF} {k : Nat} (h : UH f k ≠ 4) : UH f k < 4:=by
 unfold UH at h ⊢
 cases hf : (List.range' k (4 - k)).find? fun i=>!(f i k == 0) with
 | none=>rw [hf] at h; exact absurd rfl h
 | some i =>
  have:=List.mem_range'_1.1 (List.mem_of_find?_eq_some hf)
  simp only [Option.getD_some]
  omega
theorem Kx (L : Mat × Mat × Int → Option (Fl (Mat × Mat × Int) (Mat × Mat))) (f g : MF) (k : Nat) (hk : k < 4) (p q : Nat → UInt8)
  (hL : ∀ c,c < 4 → ∀ a b : MF,(∀ r,r ≠ k → a r = f r) → (∀ r,r ≠ k → b r = g r) → a k c = f k c → b k c = g k c → L (mf a,mf b,(c : Int)) = some (Fl.nx ((mf a).setIfInBounds k ((vf 4 (a k)).setIfInBounds c (p c)),(mf b).setIfInBounds k ((vf 4 (b k)).setIfInBounds c (q c)),wr ((c : Int) + 1))))
  (he : ∀ a b : Mat,L (a,b,4) = some (Fl.ex (a,b))) :
  ZQ L (mf f,mf g,0) = some (mf (fun r c=>if r = k then p c else f r c),mf (fun r c=>if r = k then q c else g r c)):=by
 have k1 : (mf fun r c=>if r = k then (if c < 4 then p c else f k c) else f r c) = mf fun r c=>if r = k then p c else f r c:=XQ fun r _ c hc=>by rw [if_pos hc]
 have k2 : (mf fun r c=>if r = k then (if c < 4 then q c else g k c) else g r c) = mf fun r c=>if r = k then q c else g r c:=XQ fun r _ c hc=>by rw [if_pos hc]
 have:=Ya (f:=L) (fun i : Nat=>(mf fun r c=>if r = k then (if c < i then p c else f k c) else f r c,mf fun r c=>if r = k then (if c < i then q c else g k c) else g r c,(i : Int))) 0 4 (by omega)
  (t:=(mf (fun r c=>if r = k then p c else f r c),mf (fun r c=>if r = k then q c else g r c))) (fun i _ hi=>by
  rw [hL i hi _ _ (fun r hr=>by funext c; rw [if_neg hr]) (fun r hr=>by funext c; rw [if_neg hr]) (by simp) (by simp)]
  simp only [Vn,QF,wr4 (show i < 1000 by omega)]
  congr 3
  ·apply XQ
   intro r hr c hc
   by_cases h : r = k
   ·simp only [h,if_true]
    by_cases h2 : c = i
    ·subst h2; simp
    ·by_cases h3 : c < i
     ·rw [if_neg h2,if_pos h3,if_pos (by omega)]
     ·rw [if_neg h2,if_neg h3,if_neg (by omega)]
   ·simp only [h,if_false]
  ·congr 1
   apply XQ
   intro r hr c hc
   by_cases h : r = k
   ·simp only [h,if_true]
    by_cases h2 : c = i
    ·subst h2; simp
    ·by_cases h3 : c < i
     ·rw [if_neg h2,if_pos h3,if_pos (by omega)]
     ·rw [if_neg h2,if_neg h3,if_neg (by omega)]
   ·simp only [h,if_false]) (by
  simp only [k1,k2]
  exact he _ _)
 have e1 : mf (fun r c=>if r = k then (if c < 0 then p c else f k c) else f r c) = mf f:=XQ fun r hr c hc=>by
  by_cases h : r = k
  ·subst h; simp
  ·simp [h]
 have e2 : mf (fun r c=>if r = k then (if c < 0 then q c else g k c) else g r c) = mf g:=XQ fun r hr c hc=>by
  by_cases h : r = k
  ·subst h; simp
  ·simp [h]
 simp only [e1,e2] at this
 exact this
theorem HT {S : Type} (m : Nat) (L : S → Option (Fl S (Fl (Mat × UInt8) (UInt8 × Mat)))) (pk : Red → Nat → S)
  (hstep : ∀ k,k < 4 → ∀ s,L (pk s k) = some (match TP m s k with | none=>.ex (.ex (0,mf fun _ _=>0)) | some s'=>.nx (pk s' (k + 1))))
  (hend : ∀ s,L (pk s 4) = some (.ex (.nx (mf s.b,s.det)))) : ∀ (n k : Nat) (s : Red),k + n = 4 → ZQ L (pk s k) = some (match TQ m n k s with | some s'=>.nx (mf s'.b,s'.det) | none=>.ex (0,mf fun _ _=>0))
 | 0,k,s,h=>by
  have : k = 4:=by omega
  subst this
  rw [Y1 (hend s)]; rfl
 | n + 1,k,s,h=>by
  have h1:=hstep k (by omega) s
  unfold TQ
  cases hr : TP m s k with
  | none=>rw [hr] at h1; rw [Y1 h1]; rfl
  | some s'=>rw [hr] at h1; rw [Wg h1]; exact HT m L pk hstep hend n (k + 1) s' (by omega)
theorem zR {i k : Nat} : (((i : Int)) != ((k : Nat) : Int)) = decide (i ≠ k):=by
 by_cases h : i = k
 ·subst h; simp
 ·have : (i : Int) ≠ (k : Int):=by omega
  simp [h,this]
theorem B2 (m : Nat) (L : Mat × Mat × Int → Option (Fl (Mat × Mat × Int) (Mat × Mat))) (f g : MF) (k : Nat)
  (hL : ∀ i,i < 4 → ∀ a b : MF,(a i = f i) → (b i = g i) → (a k = f k) → (b k = g k) → L (mf a,mf b,(i : Int)) = some (Fl.nx (mf (fun r c=>if r = i then Xh m f f k r c else a r c),mf (fun r c=>if r = i then Xh m f g k r c else b r c),wr ((i : Int) + 1))))
  (he : ∀ a b : Mat,L (a,b,4) = some (Fl.ex (a,b))) : ZQ L (mf f,mf g,0) = some (mf (Xh m f f k),mf (Xh m f g k)):=by
 have ek : ∀ h : MF,Xh m f h k k = h k:=fun h=>by funext c; simp [Xh]
 have k1 : (mf fun r c=>if r < 4 then Xh m f f k r c else f r c) = mf (Xh m f f k):=XQ fun r hr c _=>by rw [if_pos hr]
 have k2 : (mf fun r c=>if r < 4 then Xh m f g k r c else g r c) = mf (Xh m f g k):=XQ fun r hr c _=>by rw [if_pos hr]
 have:=Ya (f:=L) (fun i : Nat=>(mf fun r c=>if r < i then Xh m f f k r c else f r c,mf fun r c=>if r < i then Xh m f g k r c else g r c,(i : Int))) 0 4 (by omega)
  (t:=(mf (Xh m f f k),mf (Xh m f g k))) (fun i _ hi=>by
  rw [hL i hi _ _ (by funext c; simp) (by funext c; simp) (by funext c; by_cases h : k < i <;> simp [h,ek]) (by funext c; by_cases h : k < i <;> simp [h,ek])]
  rw [wr4 (show i < 1000 by omega)]
  have e : ∀ (x y : MF),(mf fun r c=>if r = i then x r c else if r < i then x r c else y r c) = mf fun r c=>if r < i + 1 then x r c else y r c:=fun x y=>XQ fun r _ c _=>by
   by_cases h1 : r = i
   ·subst h1; simp
   ·by_cases h2 : r < i
    ·rw [if_neg h1,if_pos h2,if_pos (by omega)]
    ·rw [if_neg h1,if_neg h2,if_neg (by omega)]
  rw [e,e]) (by
  simp only [k1,k2]
  exact he _ _)
 simpa using this

theorem AX (f : MF) {i k : Nat} : ((mf f).setIfInBounds i (vf 4 (f k))).setIfInBounds k (vf 4 (f i)) = mf (Ui f i k):=by
 rw [QF,QF]; rfl
section
variable (m : Nat) (hm : m < 512) (hm2 : 256 ≤ m)
include hm
theorem zq (A B : Mat) (det : UInt8) (q : UInt8) (f g : MF) (k : Nat) (hk : k < 4) : ZQ (X8 (m : Int) (A,B,(k : Int),det) q) (mf f,mf g,0) = some (mf (VZ m f k q),mf (VZ m g k q)):=by
 refine Kx _ f g k hk (fun c=>ZO m (f k c) q) (fun c=>ZO m (g k c) q) (fun c hc a b _ _ ha hb=>?_) (fun a b=>?_)
 ·unfold X8
  simp only [lt4 hc,if_true,X0 _ hk,ZW _ hc,Option.bind_some,UF m hm,ha,hb,Int.toNat_natCast]
 ·unfold X8; simp
theorem yX (A B : Mat) (det : UInt8) (s1 : Mat × Mat × Int) (x : UInt8) (f g : MF) (k i : Nat) (hk : k < 4) (hi : i < 4) (hik : i ≠ k) (hs : s1.2.2 = (i : Int)) :
  ZQ (X4 (m : Int) (A,B,(k : Int),det) s1 x) (mf f,mf g,0) = some (mf (fun r c=>if r = i then f i c ^^^ ZO m x (f k c) else f r c),mf (fun r c=>if r = i then g i c ^^^ ZO m x (g k c) else g r c)):=by
 refine Kx _ f g i hi (fun c=>f i c ^^^ ZO m x (f k c)) (fun c=>g i c ^^^ ZO m x (g k c)) (fun c hc a b ha' hb' ha hb=>?_) (fun a b=>?_)
 ·unfold X4
  have e1:=ha' k (Ne.symm hik)
  have e2:=hb' k (Ne.symm hik)
  simp only [hs,lt4 hc,if_true,X0 _ hk,X0 _ hi,ZW _ hc,Option.bind_some,UF m hm,ha,hb,e1,e2,Int.toNat_natCast]
 ·unfold X4; simp
include hm2
theorem yB (A B : Mat) (det : UInt8) (f g : MF) (k : Nat) (hk : k < 4) : ZQ (Wa (m : Int) (A,B,(k : Int),det)) (mf f,mf g,0) = some (mf (Xh m f f k),mf (Xh m f g k)):=by
 refine B2 m _ f g k (fun i hi a b hai hbi hak hbk=>?_) (fun a b=>by unfold Wa; simp)
 unfold Wa
 have hfi : a i k = f i k:=by rw [hai]
 simp only [lt4 hi,if_true,X0 _ hi,ZW _ hk,Option.bind_some,zR,hfi]
 by_cases h : i = k
 ·subst h
  simp only [ne_eq,not_true_eq_false,decide_false,Bool.false_eq_true,if_false,Option.bind_some]
  congr 3
  ·exact XQ fun r _ c _=>by
    by_cases h : r = i
    ·subst h; simp [Xh,hai]
    ·simp [h]
  ·congr 1
   exact XQ fun r _ c _=>by
    by_cases h : r = i
    ·subst h; simp [Xh,hbi]
    ·simp [h]
 ·have hd : decide (i ≠ k) = true:=by simpa using h
  simp only [hd,if_true,Option.bind_some]
  by_cases h0 : f i k = 0
  ·simp only [h0,bne_self_eq_false,Bool.false_eq_true,if_false,Option.bind_some]
   congr 3
   ·exact XQ fun r _ c _=>by
     by_cases h2 : r = i
     ·subst h2; simp [Xh,hai,h,h0,Tf hm2 hm]
     ·simp [h2]
   ·congr 1
    exact XQ fun r _ c _=>by
     by_cases h2 : r = i
     ·subst h2; simp [Xh,hbi,h,h0,Tf hm2 hm]
     ·simp [h2]
  ·have hb0 : (f i k != 0) = true:=by simpa using h0
   simp only [hb0,if_true,Option.bind_some]
   rw [yX m hm A B det _ _ a b k i hk hi h rfl]
   simp only [Option.bind_some]
   congr 3
   ·exact XQ fun r _ c _=>by
     by_cases h2 : r = i
     ·subst h2; simp [Xh,hai,hak,h]
     ·simp [h2]
   ·congr 1
    exact XQ fun r _ c _=>by
     by_cases h2 : r = i
     ·subst h2; simp [Xh,hbi,hbk,h]
     ·simp [h2]
theorem yl (k : Nat) (hk : k < 4) (s : Red) : YN (m : Int) (mf s.a,mf s.b,(k : Int),s.det) = some (match TP m s k with | none=>.ex (.ex (0,mf fun _ _=>0)) | some s'=>.nx (mf s'.a,mf s'.b,((k + 1 : Nat) : Int),s'.det)):=by
 unfold YN
 have hp:=Bn (Ue (mf s.a,mf s.b,(k : Int),s.det)) s.a k hk (fun x=>rfl)
 simp only [lt4 hk,if_true,hp,Option.bind_some]
 unfold TP
 by_cases h4 : UH s.a k = 4
 ·have : ((4 : Nat) : Int) = 4:=rfl
  simp only [h4,this,beq_self_eq_true,if_true,HC]
 ·have hi:=Az h4
  have h5 : (((UH s.a k : Nat) : Int) == 4) = false:=by
   have : ((UH s.a k : Nat) : Int) ≠ 4:=by omega
   simpa using this
  generalize hpi : UH s.a k = i at *
  simp only [h4,h5,Bool.false_eq_true,if_false]
  have x1 : ZI ((mf s.a).setIfInBounds i (vf 4 (s.a k))) (k : Int) = some (vf 4 (fun c=>if k = i then s.a k c else s.a k c)):=by rw [QF]; exact X0 _ hk
  have x2 : ZI ((mf s.b).setIfInBounds i (vf 4 (s.b k))) (k : Int) = some (vf 4 (fun c=>if k = i then s.b k c else s.b k c)):=by rw [QF]; exact X0 _ hk
  simp only [X0 _ hk,X0 _ hi,Option.bind_some,Int.toNat_natCast,x1,x2,AX,ZW _ hk,UF m hm,Hp m hm,zq m hm _ _ _ _ _ _ k hk,yB m hm hm2 _ _ _ _ _ k hk,wr4 (show k < 1000 by omega)]
theorem Bu (f : MF) : YV (m : Int) (mf f) = some (QG m f):=by
 unfold YV
 have h:=HT m (YN (m : Int)) (fun s k=>(mf s.a,mf s.b,(k : Int),s.det)) (yl m hm hm2) (fun s=>by unfold YN; simp) 4 0 ⟨f,Vg,1⟩ rfl
 have h2 : ZQ (YN (m : Int)) (mf f,mf Vg,0,1) = _:=h
 rw [Jc,Option.bind_some,h2]
 unfold QG
 cases TQ m 4 0 ⟨f,Vg,1⟩ <;> rfl
theorem zG (A B : Mat) (det : UInt8) (q : UInt8) (f g : MF) (k : Nat) (hk : k < 4) : ZQ (W8 (m : Int) (A,B,det,(k : Int)) q) (mf f,mf g,0) = some (mf (VZ m f k q),mf (VZ m g k q)):=by
 refine Kx _ f g k hk (fun c=>ZO m (f k c) q) (fun c=>ZO m (g k c) q) (fun c hc a b _ _ ha hb=>?_) (fun a b=>?_)
 ·unfold W8
  simp only [lt4 hc,if_true,X0 _ hk,ZW _ hc,Option.bind_some,UM m hm hm2,ha,hb,Int.toNat_natCast]
 ·unfold W8; simp
theorem jz (A B : Mat) (det : UInt8) (s1 : Mat × Mat × Int) (x : UInt8) (f g : MF) (k i : Nat) (hk : k < 4) (hi : i < 4) (hik : i ≠ k) (hs : s1.2.2 = (i : Int)) :
  ZQ (Xl (m : Int) (A,B,det,(k : Int)) s1 x) (mf f,mf g,0) = some (mf (fun r c=>if r = i then f i c ^^^ ZO m x (f k c) else f r c),mf (fun r c=>if r = i then g i c ^^^ ZO m x (g k c) else g r c)):=by
 have hd : decide (i ≠ k) = true:=by simpa using hik
 refine Kx _ f g i hi (fun c=>f i c ^^^ ZO m x (f k c)) (fun c=>g i c ^^^ ZO m x (g k c)) (fun c hc a b ha' hb' ha hb=>?_) (fun a b=>?_)
 ·unfold Xl
  have e1:=ha' k (Ne.symm hik)
  have e2:=hb' k (Ne.symm hik)
  simp only [hs,lt4 hc,if_true,zR,hd,X0 _ hk,X0 _ hi,ZW _ hc,Option.bind_some,UM m hm hm2,ha,hb,e1,e2,Int.toNat_natCast]
 ·unfold Xl; simp
theorem yQ (A B : Mat) (det : UInt8) (f g : MF) (k : Nat) (hk : k < 4) : ZQ (W6 (m : Int) (A,B,det,(k : Int))) (mf f,mf g,0) = some (mf (Xh m f f k),mf (Xh m f g k)):=by
 refine B2 m _ f g k (fun i hi a b hai hbi hak hbk=>?_) (fun a b=>by unfold W6; simp)
 unfold W6
 have hfi : a i k = f i k:=by rw [hai]
 simp only [lt4 hi,if_true,X0 _ hi,ZW _ hk,Option.bind_some,hfi]
 by_cases h : i = k
 ·subst h
  have h0 : ZQ (Xl (m : Int) (A,B,det,(i : Int)) (mf a,mf b,(i : Int)) (f i i)) (mf a,mf b,0) = some (mf a,mf b):=by
   refine Y1 ?_
   unfold Xl
   simp
  rw [h0]
  simp only [Option.bind_some]
  congr 3
  ·exact XQ fun r _ c _=>by
    by_cases h : r = i
    ·subst h; simp [Xh,hai]
    ·simp [h]
  ·congr 1
   exact XQ fun r _ c _=>by
    by_cases h : r = i
    ·subst h; simp [Xh,hbi]
    ·simp [h]
 ·rw [jz m hm hm2 A B det _ _ a b k i hk hi h rfl]
  simp only [Option.bind_some]
  congr 3
  ·exact XQ fun r _ c _=>by
    by_cases h2 : r = i
    ·subst h2; simp [Xh,hai,hak,h]
    ·simp [h2]
  ·congr 1
   exact XQ fun r _ c _=>by
    by_cases h2 : r = i
    ·subst h2; simp [Xh,hbi,hbk,h]
    ·simp [h2]
theorem yF (k : Nat) (hk : k < 4) (s : Red) : Xm (m : Int) (mf s.a,mf s.b,s.det,(k : Int)) = some (match TP m s k with | none=>.ex (.ex (0,mf fun _ _=>0)) | some s'=>.nx (mf s'.a,mf s'.b,s'.det,((k + 1 : Nat) : Int))):=by
 unfold Xm
 have hp:=Bn (UZ (mf s.a,mf s.b,s.det,(k : Int))) s.a k hk (fun x=>rfl)
 simp only [lt4 hk,if_true,hp,Option.bind_some]
 unfold TP
 by_cases h4 : UH s.a k = 4
 ·have : ((4 : Nat) : Int) = 4:=rfl
  simp only [h4,this,beq_self_eq_true,if_true,HC]
 ·have hi:=Az h4
  have h5 : (((UH s.a k : Nat) : Int) == 4) = false:=by
   have : ((UH s.a k : Nat) : Int) ≠ 4:=by omega
   simpa using this
  generalize hpi : UH s.a k = i at *
  simp only [h4,h5,Bool.false_eq_true,if_false]
  have x1 : ZI ((mf s.a).setIfInBounds i (vf 4 (s.a k))) (k : Int) = some (vf 4 (fun c=>if k = i then s.a k c else s.a k c)):=by rw [QF]; exact X0 _ hk
  have x2 : ZI ((mf s.b).setIfInBounds i (vf 4 (s.b k))) (k : Int) = some (vf 4 (fun c=>if k = i then s.b k c else s.b k c)):=by rw [QF]; exact X0 _ hk
  simp only [X0 _ hk,X0 _ hi,Option.bind_some,Int.toNat_natCast,x1,x2,AX,ZW _ hk,UM m hm hm2,AR m hm hm2,zG m hm hm2 _ _ _ _ _ _ k hk,yQ m hm hm2 _ _ _ _ _ k hk,wr4 (show k < 1000 by omega)]
theorem A3 (f : MF) : Vr (m : Int) (mf f) = some (QG m f):=by
 unfold Vr
 have h:=HT m (Xm (m : Int)) (fun s k=>(mf s.a,mf s.b,s.det,(k : Int))) (yF m hm hm2) (fun s=>by unfold Xm; simp) 4 0 ⟨f,Vg,1⟩ rfl
 have h2 : ZQ (Xm (m : Int)) (mf f,mf Vg,1,0) = _:=h
 rw [Jf,Option.bind_some,h2]
 unfold QG
 cases TQ m 4 0 ⟨f,Vg,1⟩ <;> rfl
end
def Ww (l : List UInt8) (i b : Nat) : Bool:=(l.take i).any fun x=>x.toNat == b
theorem JT (l : List UInt8) {i : Nat} (h : i < l.length) : (fun b=>if b = l[i].toNat then true else Ww l i b) = Ww l (i + 1):=by
 funext b
 unfold Ww
 rw [List.take_succ_eq_append_getElem h,List.any_append]
 by_cases hb : b = l[i].toNat
 ·subst hb; simp
 ·have : (l[i].toNat == b) = false:=by simpa using fun e=>hb e.symm
  simp [hb,this]
theorem AC (l : List UInt8) : ((List.range' 0 (l.length - 0)).any fun i=>Ww l i (l.getD i 0).toNat) = !UV l:=by
 rw [← BP,Bool.eq_iff_iff,VW,VW]
 refine exists_congr fun i=>and_congr_right fun _=>and_congr_right fun hi=>?_
 unfold Ww
 rw [VW,List.any_eq_true]
 have e0 : l.getD i 0 = l[i]:=by simp [List.getD_eq_getElem?_getD,List.getElem?_eq_getElem hi]
 rw [e0]
 constructor
 ·rintro ⟨x,hx,h⟩
  obtain ⟨k,hk,rfl⟩:=List.mem_iff_getElem.1 hx
  have hk2 : k < i ∧ k < l.length:=by simp at hk; omega
  refine ⟨k,Nat.zero_le _,hk2.1,?_⟩
  rw [List.getElem?_eq_getElem hk2.2,List.getElem?_eq_getElem hi]
  have h' : l[k].toNat = l[i].toNat:=by simpa using h
  simp [UInt8.toNat_inj.1 h']
 ·rintro ⟨k,_,hk,h⟩
  have hkl : k < l.length:=by omega
  refine ⟨l[k],List.mem_iff_getElem.2 ⟨k,by simp; omega,by simp⟩,?_⟩
  rw [List.getElem?_eq_getElem hkl,List.getElem?_eq_getElem hi] at h
  have : l[i] = l[k]:=by simpa using h
  simp [this]
theorem Tk {n i : Nat} (v : Vector UInt8 n) (h : i < n) : ZI v (i : Int) = some (v.toList.getD i 0):=by
 rw [Ut,Vector.getElem?_eq_getElem h]
 simp [List.getD_eq_getElem?_getD,h]
theorem X6 {n i : Nat} (v : Vector UInt8 n) (h : i < n) : v.toList.getD i 0 = v.toList[i]'(by simpa using h):=by
 simp [List.getD_eq_getElem?_getD,h]
theorem JH (n : Nat) (f : Nat → Bool) (x : UInt8) (h : x.toNat < n) : ZI (vf n f) (bI x) = some (f x.toNat):=ZW f h
theorem TZ (x : UInt8) : (bI x).toNat = x.toNat:=rfl
theorem J6 (n : Nat) (l : List UInt8) : Vector.replicate n false = vf n (Ww l 0):=by rw [UB]; rfl

theorem JI : ∀ (k l : List Nat),k.Nodup → (∀ x ∈ k,x ∈ l) → k.length ≤ l.length
 | [],_,_,_=>by simp
 | x :: k,l,h,hs=>by
  have hx:=hs x (by simp)
  obtain ⟨h1,h2⟩:=List.nodup_cons.1 h
  have:=JI k (l.erase x) h2 (fun y hy=>by
   have hne : y ≠ x:=fun e=>h1 (e ▸ hy)
   exact (List.mem_erase_of_ne hne).2 (hs y (by simp [hy])))
  rw [List.length_erase_of_mem hx] at this
  have hl : 0 < l.length:=List.length_pos_of_mem hx
  simp only [List.length_cons]; omega
theorem AW : ∀ (l : List Nat),¬ l.Nodup → ∃ l' : List Nat,l'.length + 1 = l.length ∧ ∀ x ∈ l,x ∈ l'
 | [],h=>absurd List.nodup_nil h
 | x :: l,h=>by
  by_cases hx : x ∈ l
  ·exact ⟨l,by simp,fun y hy=>by rcases List.mem_cons.1 hy with rfl | hy; exact hx; exact hy⟩
  ·have : ¬ l.Nodup:=fun hn=>h (List.nodup_cons.2 ⟨hx,hn⟩)
   obtain ⟨l',h1,h2⟩:=AW l this
   exact ⟨x :: l',by simp [h1],fun y hy=>by
    rcases List.mem_cons.1 hy with rfl | hy
    ·simp
    ·simp [h2 y hy]⟩
theorem AN (l : List Nat) (n : Nat) (hl : l.length = n) (hb : ∀ x ∈ l,x < n) : l.Nodup ↔ ∀ b,b < n → b ∈ l:=by
 constructor
 ·intro h b hbn
  refine Classical.byContradiction fun hne=>?_
  have:=JI (b :: l) (List.range n) (List.nodup_cons.2 ⟨hne,h⟩) (fun x hx=>by
   rcases List.mem_cons.1 hx with rfl | hx
   ·simpa using hbn
   ·simpa using hb x hx)
  simp at this; omega
 ·intro h
  refine Classical.byContradiction fun hne=>?_
  obtain ⟨l',h1,h2⟩:=AW l hne
  have:=JI (List.range n) l' List.nodup_range (fun x hx=>h2 x (h x (by simpa using hx)))
  simp at this; omega
theorem Hk (l : List UInt8) : (l.map UInt8.toNat).Nodup ↔ l.Nodup:=by
 unfold List.Nodup
 rw [List.pairwise_map]
 constructor <;> intro h <;> refine h.imp ?_
 ·intro a b hab e; exact hab (by rw [e])
 ·intro a b hab e; exact hab (UInt8.toNat_inj.1 e)

theorem kd (p : Vector UInt8 256) : U9 p = some (UV p.toList):=by
 unfold U9
 have hl : p.toList.length = 256:=by simp
 have:=TU (f:=VX p) (fun i : Nat=>(vf 256 (Ww p.toList i),(i : Int))) (fun i=>Ww p.toList i (p.toList.getD i 0).toNat) (fun _=>Fl.ex false) (e:=Fl.nx ()) 256 256 0 rfl (fun i _ hi=>by
  unfold VX
  have hd : decide ((i : Int) < 256) = true:=by simp; omega
  have hx:=Tk p hi
  have hs:=JH 256 (Ww p.toList i) (p.toList.getD i 0) (UInt8.toNat_lt _)
  simp only [hd,if_true,hx,Option.bind_some,hs]
  have e:=JT p.toList (i:=i) (by simpa using hi)
  rw [← X6 p hi] at e
  cases Ww p.toList i (p.toList.getD i 0).toNat
  ·simp only [Bool.false_eq_true,if_false,Option.bind_some,TZ,Vn,e,Xi (show i < 9223372036854775807 by omega)]
  ·rfl) (by unfold VX; simp)
 have h2 : ZQ (VX p) (vf 256 (Ww p.toList 0),0) = _:=this
 rw [J6 256 p.toList,h2]
 have h3:=AC p.toList
 rw [hl] at h3
 cases hf : (List.range' 0 256).find? (fun i=>Ww p.toList i (p.toList.getD i 0).toNat) with
 | none =>
  have h4 : ((List.range' 0 (256 - 0)).any fun i=>Ww p.toList i (p.toList.getD i 0).toNat) = false:=by rw [List.any_eq_false]; exact List.find?_eq_none.1 hf
  rw [h4] at h3
  have : UV p.toList = true:=by simpa using h3.symm
  rw [this]; rfl
 | some i =>
  have h4 : ((List.range' 0 (256 - 0)).any fun i=>Ww p.toList i (p.toList.getD i 0).toNat) = true:=by rw [List.any_eq_true]; exact ⟨i,List.mem_of_find?_eq_some hf,List.find?_some (p:=fun i=>Ww p.toList i (p.toList.getD i 0).toNat) hf⟩
  rw [h4] at h3
  have : UV p.toList = false:=by simpa using h3.symm
  rw [this]; rfl
theorem AU (l : List Bool) (h : l.length < 9223372036854775807) (b : Bool) : YJ l b = some (l.contains b):=by
 unfold YJ XY
 have:=AT (f:=YB l b) l.length (fun i=>b == l.getD i false) (fun i=>(i : Int)) h (fun i hi=>by
  unfold YB
  have e0 : l.getD i false = l[i]:=by simp [List.getD_eq_getElem?_getD,List.getElem?_eq_getElem hi]
  simp only [Int.ofNat_lt,hi,decide_true,if_true,VO,List.getElem?_eq_getElem hi,Option.bind_some,e0]
  cases b == l[i] <;> rfl) (by unfold YB; simp) 0 (Nat.zero_le _)
 have h3 : ZQ (YB l b) 0 = _:=this
 rw [h3]
 cases hf : (List.range' 0 (l.length - 0)).find? (fun i=>b == l.getD i false) with
 | none =>
  have : l.contains b = false:=by
   rw [List.contains_eq_any_beq,List.any_eq_false]
   intro x hx
   obtain ⟨i,hi,rfl⟩:=List.mem_iff_getElem.1 hx
   have:=List.find?_eq_none.1 hf i (List.mem_range'_1.2 (by omega))
   simpa [List.getD_eq_getElem?_getD,List.getElem?_eq_getElem hi] using this
  rw [this]; rfl
 | some i =>
  have hi:=List.mem_range'_1.1 (List.mem_of_find?_eq_some hf)
  have hi' : i < l.length:=by omega
  have h4:=List.find?_some hf
  have : l.contains b = true:=by
   rw [List.contains_eq_any_beq,List.any_eq_true]
   exact ⟨l[i],List.getElem_mem hi',by simpa [List.getD_eq_getElem?_getD,List.getElem?_eq_getElem hi'] using h4⟩
  rw [this]
  simp [Fl.el]
theorem Hx (p : Vector UInt8 256) : Wc p = some (UV p.toList):=by
 unfold Wc
 have hl : p.toList.length = 256:=by simp
 have:=Ya (f:=YY p) (fun i : Nat=>(vf 256 (Ww p.toList i),(i : Int))) 0 256 (by omega) (t:=vf 256 (Ww p.toList 256)) (fun i _ hi=>by
  unfold YY
  have hd : decide ((i : Int) < 256) = true:=by simp; omega
  have hx:=Tk p hi
  have hs:=JH 256 (Ww p.toList i) (p.toList.getD i 0) (UInt8.toNat_lt _)
  have e:=JT p.toList (i:=i) (by simpa using hi)
  rw [← X6 p hi] at e
  simp only [hd,if_true,hx,Option.bind_some,hs,TZ,Vn,e,Xi (show i < 9223372036854775807 by omega)]) (by unfold YY; simp)
 have h2 : ZQ (YY p) (vf 256 (Ww p.toList 0),0) = _:=this
 have e1 : slc (vf 256 (Ww p.toList 256)).toList (0 : Int) (256 : Int) = some (vf 256 (Ww p.toList 256)).toList:=by
  have:=Bt (l:=(vf 256 (Ww p.toList 256)).toList) (i:=0) (j:=256) (by omega) (by simp)
  simp only [List.drop_zero] at this
  rw [List.take_of_length_le (by simp)] at this
  exact this
 rw [J6 256 p.toList,h2]
 have hlt : (vf 256 (Ww p.toList 256)).toList.length < 9223372036854775807:=by rw [Vector.length_toList]; omega
 rw [Option.bind_some,e1,Option.bind_some,AU _ hlt,Option.bind_some]
 refine congrArg some ?_
 rw [Bool.eq_iff_iff]
 have hp:=AN (p.toList.map UInt8.toNat) 256 (by simp) (fun x hx=>by obtain ⟨y,_,rfl⟩:=List.mem_map.1 hx; exact UInt8.toNat_lt y)
 rw [Hk] at hp
 unfold UV
 rw [decide_eq_true_iff,hp,Bool.not_eq_true',List.contains_eq_any_beq,List.any_eq_false]
 have hseen : ∀ b,Ww p.toList 256 b = true ↔ b ∈ p.toList.map UInt8.toNat:=fun b=>by
  unfold Ww
  rw [List.take_of_length_le (by omega),List.any_eq_true,List.mem_map]
  refine exists_congr fun x=>and_congr_right fun _=>?_
  exact beq_iff_eq
 constructor
 ·intro h b hb
  rw [← hseen]
  have e : (vf 256 (Ww p.toList 256)).toList[b]? = some (Ww p.toList 256 b):=by rw [Vector.getElem?_toList]; exact TL _ hb
  have:=h _ (List.mem_of_getElem? e)
  generalize Ww p.toList 256 b = q at this
  cases q
  ·exact absurd rfl this
  ·rfl
 ·intro h x hx
  obtain ⟨b,hb⟩:=List.mem_iff_getElem?.1 hx
  have hb' : b < 256:=by have:=(List.getElem?_eq_some_iff.1 hb).1; rwa [Vector.length_toList] at this
  rw [Vector.getElem?_toList,TL _ hb',(hseen b).2 (h b hb')] at hb
  cases hb
  decide

def X1 (p : Vector UInt8 16) : Bool:=p.toList.all (fun x=>decide (x < 16)) && UV p.toList
def U7 (l : List UInt8) (i : Nat) : Bool:=decide (16 ≤ (l.getD i 0).toNat)
theorem AJ (p : Vector UInt8 16) : Vo p = some (X1 p):=by
 unfold Vo
 have hl : p.toList.length = 16:=by simp
 have:=A2 (f:=Wi p) 16 (U7 p.toList) false (by omega) (fun i hi=>by
  unfold Wi
  have hd : decide ((i : Int) < 16) = true:=by simp; omega
  have hx:=Tk p hi
  simp only [hd,if_true,hx,Option.bind_some]
  unfold U7
  have : (p.toList.getD i 0 > 15) ↔ (16 ≤ (p.toList.getD i 0).toNat):=by rw [gt_iff_lt,UInt8.lt_iff_toNat_lt]; exact Iff.rfl
  simp only [this]
  split <;> rfl) (by unfold Wi; simp) 0 (by omega)
 have h2 : ZQ (Wi p) 0 = _:=this
 have e1 : slc p.toList (0 : Int) (16 : Int) = some p.toList:=by
  have:=Bt (l:=p.toList) (i:=0) (j:=16) (by omega) (by simp)
  simp only [List.drop_zero] at this
  rw [List.take_of_length_le (by simp)] at this
  exact this
 have key : ((List.range' 0 (16 - 0)).any (U7 p.toList)) = !(p.toList.all fun x=>decide (x < 16)):=by
  rw [Bool.eq_iff_iff,VW,Bool.not_eq_true',List.all_eq_false]
  constructor
  ·rintro ⟨i,_,hi,h⟩
   refine ⟨p.toList[i],List.getElem_mem _,?_⟩
   unfold U7 at h
   rw [X6 p hi] at h
   simp only [decide_eq_true_eq,UInt8.lt_iff_toNat_lt] at h ⊢
   have : (16 : UInt8).toNat = 16:=rfl
   omega
  ·rintro ⟨x,hx,h⟩
   obtain ⟨i,hi,rfl⟩:=List.mem_iff_getElem.1 hx
   have hi' : i < 16:=by simpa using hi
   refine ⟨i,Nat.zero_le _,hi',?_⟩
   unfold U7
   rw [X6 p hi']
   simp only [decide_eq_true_eq,UInt8.lt_iff_toNat_lt] at h ⊢
   have : (16 : UInt8).toNat = 16:=rfl
   omega
 rw [h2,key]
 unfold X1
 cases p.toList.all fun x=>decide (x < 16)
 ·rfl
 ·simp [Fl.el,e1,H3 p.toList (by omega)]
theorem jM (p : Vector UInt8 16) : ((List.range' 0 (16 - 0)).any (U7 p.toList)) = !(p.toList.all fun x=>decide (x < 16)):=by
 rw [Bool.eq_iff_iff,VW,Bool.not_eq_true',List.all_eq_false]
 have h16 : (16 : UInt8).toNat = 16:=rfl
 have hl : p.toList.length = 16:=by simp
 constructor
 ·rintro ⟨i,_,hi,h⟩
  refine ⟨p.toList[i],List.getElem_mem _,?_⟩
  unfold U7 at h
  rw [X6 p hi] at h
  simp only [decide_eq_true_eq,UInt8.lt_iff_toNat_lt] at h ⊢
  omega
 ·rintro ⟨x,hx,h⟩
  obtain ⟨i,hi,rfl⟩:=List.mem_iff_getElem.1 hx
  have hi' : i < 16:=by simpa using hi
  refine ⟨i,Nat.zero_le _,hi',?_⟩
  unfold U7
  rw [X6 p hi']
  simp only [decide_eq_true_eq,UInt8.lt_iff_toNat_lt] at h ⊢
  omega
theorem yq (p : Vector UInt8 16) : V8 p = some (X1 p):=by
 unfold V8
 have hl : p.toList.length = 16:=by simp
 have h16 : (16 : UInt8).toNat = 16:=rfl
 have:=TU (f:=WX p) (fun i : Nat=>(vf 16 (Ww p.toList i),(i : Int))) (fun i=>U7 p.toList i || Ww p.toList i (p.toList.getD i 0).toNat) (fun _=>Fl.ex false) (e:=Fl.nx ()) 16 16 0 rfl (fun i _ hi=>by
  unfold WX
  have hd : decide ((i : Int) < 16) = true:=by simp; omega
  have hx:=Tk p hi
  simp only [hd,if_true,hx,Option.bind_some]
  unfold U7
  by_cases hf : 16 ≤ (p.toList.getD i 0).toNat
  ·have h1 : p.toList.getD i 0 ≥ 16:=by rw [ge_iff_le,UInt8.le_iff_toNat_le]; omega
   simp only [h1,decide_true,if_true,hf,Bool.true_or,Option.bind_some]
  ·have h1 : ¬ p.toList.getD i 0 ≥ 16:=by rw [ge_iff_le,UInt8.le_iff_toNat_le]; omega
   have hs:=JH 16 (Ww p.toList i) (p.toList.getD i 0) (by omega)
   have e:=JT p.toList (i:=i) (by simpa using hi)
   rw [← X6 p hi] at e
   simp only [h1,decide_false,Bool.false_eq_true,if_false,hf,Bool.false_or,Option.bind_some,hs]
   cases Ww p.toList i (p.toList.getD i 0).toNat
   ·simp only [Bool.false_eq_true,if_false,Option.bind_some,TZ,Vn,e,Xi (show i < 9223372036854775807 by omega)]
   ·rfl) (by unfold WX; simp)
 have h2 : ZQ (WX p) (vf 16 (Ww p.toList 0),0) = _:=this
 rw [J6 16 p.toList,h2]
 have h3:=AC p.toList
 rw [hl] at h3
 have h5 : ((List.range' 0 (16 - 0)).any fun i=>U7 p.toList i || Ww p.toList i (p.toList.getD i 0).toNat) = !X1 p:=by
  have e : ((List.range' 0 (16 - 0)).any fun i=>U7 p.toList i || Ww p.toList i (p.toList.getD i 0).toNat) = ((List.range' 0 (16 - 0)).any (U7 p.toList) || (List.range' 0 (16 - 0)).any fun i=>Ww p.toList i (p.toList.getD i 0).toNat):=by
   induction List.range' 0 (16 - 0) with
   | nil=>rfl
   | cons x l ih=>simp only [List.any_cons,ih]; cases U7 p.toList x <;> cases l.any (U7 p.toList) <;> simp
  rw [e,jM,h3]
  unfold X1
  cases (p.toList.all fun x=>decide (x < 16)) <;> cases UV p.toList <;> rfl
 cases hf : (List.range' 0 16).find? (fun i=>U7 p.toList i || Ww p.toList i (p.toList.getD i 0).toNat) with
 | none =>
  have h4 : ((List.range' 0 (16 - 0)).any fun i=>U7 p.toList i || Ww p.toList i (p.toList.getD i 0).toNat) = false:=by rw [List.any_eq_false]; exact List.find?_eq_none.1 hf
  rw [h4] at h5
  have : X1 p = true:=by simpa using h5.symm
  rw [this]; rfl
 | some i =>
  have h4 : ((List.range' 0 (16 - 0)).any fun i=>U7 p.toList i || Ww p.toList i (p.toList.getD i 0).toNat) = true:=by rw [List.any_eq_true]; exact ⟨i,List.mem_of_find?_eq_some hf,List.find?_some (p:=fun i=>U7 p.toList i || Ww p.toList i (p.toList.getD i 0).toNat) hf⟩
  rw [h4] at h5
  have : X1 p = false:=by simpa using h5.symm
  rw [this]; rfl

def V0 (a : Mat) : MF:=fun i j=>(a[i]?.getD default)[j]?.getD default
theorem KB (a : Mat) : a = mf (V0 a):=calc a = vf 4 (fun i=>a[i]?.getD default):=jk a
  _ = _:=WO fun i _=>jk _
def HI (m : Nat) (a : Mat) : UInt8:=(QG m (V0 a)).1
def KJ (m : Nat) (a : Mat) : Mat:=(QG m (V0 a)).2
def ZU (c : GCipher) : Bool:=YE c.Field && UV c.Box.toList && X1 c.Places && decide (1 ≤ c.Rounds ∧ c.Rounds ≤ 20) && (HI c.Field.toNat c.Mix != 0)
theorem Ay (m : Nat) (hm : m < 512) (hm2 : 256 ≤ m) (a : Mat) : YV (m : Int) a = some (HI m a,KJ m a):=by
 have:=Bu m hm hm2 (V0 a)
 rw [← KB] at this
 exact this
theorem QC (m : Nat) (hm : m < 512) (hm2 : 256 ≤ m) (a : Mat) : Xj (m : Int) a = some (KJ m a,HI m a != 0):=by
 have:=A3 m hm hm2 (V0 a)
 rw [← KB] at this
 unfold Xj
 rw [this]; rfl
theorem K5 (c : GCipher) : Wm c = some (ZU c):=by
 unfold Wm ZU Vh
 rw [yP]
 cases hf : YE c.Field
 ·rfl
 ·obtain ⟨m,hm,h1,h2⟩:=VB hf
  simp only [hm,Option.bind_some,if_true,Hx,Ay m h2 h1,AJ,Ku,Int.toNat_natCast]
  cases UV c.Box.toList <;> cases (HI m c.Mix != 0) <;> cases X1 c.Places <;> simp
theorem Ag (c : GCipher) : VC c = some (ZU c):=by
 unfold VC ZU
 rw [Br]
 cases hf : YE c.Field
 ·rfl
 ·obtain ⟨m,hm,h1,h2⟩:=VB hf
  simp only [hm,Option.bind_some,Bool.not_true,Bool.false_eq_true,if_false,kd,yq,HA,QC m h2 h1,Int.toNat_natCast]
  cases UV c.Box.toList <;> cases (HI m c.Mix != 0) <;> cases X1 c.Places <;> cases decide (1 ≤ c.Rounds ∧ c.Rounds ≤ 20) <;> simp
theorem TS {c : GCipher} (h : ZU c = true) : ∃ m : Nat,c.Field = m ∧ 256 ≤ m ∧ m < 512:=by
 unfold ZU at h
 simp only [Bool.and_eq_true] at h
 exact VB h.1.1.1.1
theorem WB {n : Nat} (L : Vector UInt8 n × Int → Option (Fl (Vector UInt8 n × Int) (Vector UInt8 n))) (f h : Nat → UInt8) (hn : n < 9223372036854775807) (m : Nat) (hm : m ≤ n) (h0 : ∀ j,j < m → h j = f j)
  (hL : ∀ i,m ≤ i → i < n → ∀ a : Nat → UInt8,(∀ j,j < i → a j = h j) → (∀ j,i ≤ j → a j = f j) → L (vf n a,(i : Int)) = some (.nx ((vf n a).setIfInBounds i (h i),wr ((i : Int) + 1))))
  (he : ∀ v,L (v,(n : Int)) = some (.ex v)) : ZQ L (vf n f,(m : Int)) = some (vf n h):=by
 have k1 : (vf n fun j=>if j < n then h j else f j) = vf n h:=WO fun j hj=>by rw [if_pos hj]
 have k0 : (vf n fun j=>if j < m then h j else f j) = vf n f:=WO fun j hj=>by
  by_cases h1 : j < m
  ·rw [if_pos h1,h0 j h1]
  ·rw [if_neg h1]
 have:=Ya (f:=L) (fun i : Nat=>(vf n fun j=>if j < i then h j else f j,(i : Int))) m n hm (t:=vf n h) (fun i hmi hi=>by
  rw [hL i hmi hi _ (fun j hj=>by rw [if_pos hj]) (fun j hj=>by rw [if_neg (by omega)]),Vn,Xi (show i < 9223372036854775807 by omega)]
  refine congrArg (fun z=>some (Fl.nx (z,((i + 1 : Nat) : Int)))) (WO fun j hj=>?_)
  by_cases h1 : j = i
  ·subst h1; simp
  ·by_cases h2 : j < i
   ·rw [if_neg h1,if_pos h2,if_pos (by omega)]
   ·rw [if_neg h1,if_neg h2,if_neg (by omega)]) (by
  simp only [k1]
  exact he _)
 simp only [k0] at this
 exact this
def QW (b : Vector UInt8 256) (x : UInt8) : UInt8:=b[x.toNat]'(UInt8.toNat_lt x)
theorem Tq (b : Vector UInt8 256) (x : UInt8) : ZI b (bI x) = some (QW b x):=by
 have : ZI b ((x.toNat : Nat) : Int) = _:=Ut b x.toNat
 rw [Vector.getElem?_eq_getElem (UInt8.toNat_lt x)] at this
 exact this
abbrev Blk:=Vector UInt8 16
def bf (v : Blk) (i : Nat) : UInt8:=v[i]?.getD default
theorem KK (v : Blk) : v = vf 16 (bf v):=jk v
theorem K1 {i : Nat} (h : i < 16) : decide ((i : Int) < 16) = true:=by simp; omega
def Kn (f g : Nat → UInt8) : Nat → UInt8:=fun i=>f i ^^^ g i
theorem Kg (f g : Nat → UInt8) : Wr (vf 16 f) (vf 16 g) = some (vf 16 (Kn f g)):=by
 unfold Wr
 have:=WB (Vl (vf 16 g)) f (Kn f g) (by omega) 0 (by omega) (fun j hj=>by omega) (fun i _ hi a _ ha=>by
  unfold Vl
  simp only [K1 hi,if_true,ZW _ hi,Option.bind_some,Int.toNat_natCast,ha i (Nat.le_refl _),Kn]) (fun v=>by unfold Vl; simp)
 have h2 : ZQ (Vl (vf 16 g)) (vf 16 f,0) = _:=this
 rw [h2]; rfl
theorem Tu (f g : Nat → UInt8) : Xe (vf 16 f) (vf 16 g) = some (vf 16 (Kn f g)):=by
 unfold Xe
 have:=WB (Wh (vf 16 g)) f (Kn f g) (by omega) 0 (by omega) (fun j hj=>by omega) (fun i _ hi a _ ha=>by
  unfold Wh
  simp only [K1 hi,if_true,ZW _ hi,Option.bind_some,Int.toNat_natCast,ha i (Nat.le_refl _),Kn]) (fun v=>by unfold Wh; simp)
 have h2 : ZQ (Wh (vf 16 g)) (vf 16 f,0) = _:=this
 rw [h2]; rfl
def Qc (b : Vector UInt8 256) (f : Nat → UInt8) : Nat → UInt8:=fun i=>QW b (f i)
theorem K7 (b : Vector UInt8 256) (f : Nat → UInt8) : WV b (vf 16 f) = some (vf 16 (Qc b f)):=by
 unfold WV
 have:=WB (WC b) f (Qc b f) (by omega) 0 (by omega) (fun j hj=>by omega) (fun i _ hi a _ ha=>by
  unfold WC
  simp only [K1 hi,if_true,ZW _ hi,Option.bind_some,Int.toNat_natCast,ha i (Nat.le_refl _),Tq,Qc]) (fun v=>by unfold WC; simp)
 have h2 : ZQ (WC b) (vf 16 f,0) = _:=this
 rw [h2]; rfl
def V5 (p : Blk) (f : Nat → UInt8) : Nat → UInt8:=fun i=>f (bf p i).toNat
theorem TV {p : Blk} (h : X1 p = true) {i : Nat} (hi : i < 16) : (bf p i).toNat < 16:=by
 unfold X1 at h
 simp only [Bool.and_eq_true,List.all_eq_true,decide_eq_true_eq] at h
 have e : bf p i = p[i]:=by unfold bf; rw [Vector.getElem?_eq_getElem hi]; rfl
 have:=h.1 p[i] (by simp)
 rw [UInt8.lt_iff_toNat_lt] at this
 rw [e]; exact this
theorem TO (p : Blk) {i : Nat} (h : i < 16) : ZI p (i : Int) = some (bf p i):=by
 rw [Ut]; unfold bf; rw [Vector.getElem?_eq_getElem h]; rfl
theorem JA (f : Nat → UInt8) {x : UInt8} (h : x.toNat < 16) : ZI (vf 16 f) (bI x) = some (f x.toNat):=ZW f h
theorem yK (p : Blk) (hp : X1 p = true) (f : Nat → UInt8) : Wb p (vf 16 f) = some (vf 16 (V5 p f)):=by
 unfold Wb
 have:=WB (YP p (vf 16 f)) (fun _=>0) (V5 p f) (by omega) 0 (by omega) (fun j hj=>by omega) (fun i _ hi a _ ha=>by
  unfold YP
  simp only [K1 hi,if_true,ZW _ hi,TO _ hi,Option.bind_some,Int.toNat_natCast,JA f (TV hp hi),V5]) (fun v=>by unfold YP; simp)
 have h2 : ZQ (YP p (vf 16 f)) (vf 16 (fun _=>0),0) = _:=this
 rw [UB 16 (0 : UInt8),h2]; rfl
theorem v_move (p : Blk) (hp : X1 p = true) (f : Nat → UInt8) : YL p (vf 16 f) = some (vf 16 (V5 p f)):=by
 unfold YL
 have:=WB (Yf p (vf 16 f)) (fun _=>0) (V5 p f) (by omega) 0 (by omega) (fun j hj=>by omega) (fun i _ hi a _ ha=>by
  unfold Yf
  simp only [K1 hi,if_true,ZW _ hi,TO _ hi,Option.bind_some,Int.toNat_natCast,JA f (TV hp hi),V5]) (fun v=>by unfold Yf; simp)
 have h2 : ZQ (Yf p (vf 16 f)) (vf 16 (fun _=>0),0) = _:=this
 rw [UB 16 (0 : UInt8),h2]; rfl

def Qv (b : Vector UInt8 256) (f : Nat → UInt8) (r : Int) : Nat → UInt8
 | 0=>f 0 ^^^ QW b (f 15 ^^^ ZE r)
 | i + 1=>f (i + 1) ^^^ QW b (Qv b f r i)
theorem yu (b : Vector UInt8 256) (f : Nat → UInt8) (r : Int) : Um b (vf 16 f) r = some (vf 16 (Qv b f r)) := by
  unfold Um
  have := WB (WZ b r) f (Qv b f r) (by omega) 0 (by omega) (fun j hj => by omega) (fun i _ hi a hb ha => by
    unfold WZ
    cases i with
    | zero =>
      have e1 : Int.tmod (wr (((0 : Nat) : Int) + 15)) 16 = ((15 : Nat) : Int) := by decide
      simp only [e1, K1 hi, if_true, ZW a (show 15 < 16 by omega), Option.bind_some]
      have e2 : (((0 : Nat) : Int) == 0) = true := rfl
      simp only [e2, if_true, Option.bind_some, Tq, ZW a hi, Int.toNat_natCast, ha 0 (by omega), ha 15 (by omega), Qv]
    | succ i =>
      have e1 : Int.tmod (wr (((i + 1 : Nat) : Int) + 15)) 16 = ((i : Nat) : Int) := by
        rw [YT (by omega)]
        have : (((i + 1 : Nat) : Int) + 15) = ((i + 16 : Nat) : Int) := by omega
        rw [this]
        have : Int.tmod ((i + 16 : Nat) : Int) 16 = (((i + 16) % 16 : Nat) : Int) := rfl
        rw [this]
        omega
      have e2 : (((i + 1 : Nat) : Int) == 0) = false := by have : ((i + 1 : Nat) : Int) ≠ 0 := by omega
                                                           simpa using this
      simp only [e1, e2, K1 hi, if_true, ZW a (show i < 16 by omega), Option.bind_some, Bool.false_eq_true, if_false, Tq, ZW a hi, Int.toNat_natCast, ha (i + 1) (Nat.le_refl _), hb i (by omega), Qv]) (fun v => by unfold WZ; simp)
  have h2 : ZQ (WZ b r) (vf 16 f, 0) = _ := this
  rw [h2]; rfl
theorem yy (e : Ref Gengine) (f : Nat → UInt8) (r : Int) : XD e (vf 16 f) r = some (vf 16 (Qv e.v.box f r)):=by
 unfold XD
 have x0 : ZI (vf 16 f) (0 : Int) = some (f 0):=ZW f (show 0 < 16 by omega)
 have x15 : ZI (vf 16 f) (15 : Int) = some (f 15):=ZW f (show 15 < 16 by omega)
 have z : (0 : Int).toNat = 0:=rfl
 simp only [x0,x15,Option.bind_some,Tq,z,Vn]
 have:=WB (YQ e) (fun i=>if i = 0 then f 0 ^^^ QW e.v.box (f 15 ^^^ ZE r) else f i) (Qv e.v.box f r) (by omega) 1 (by omega) (fun j hj=>by
  have : j = 0:=by omega
  subst this; simp [Qv]) (fun i h1 hi a hb ha=>by
  unfold YQ
  obtain ⟨i,rfl⟩ : ∃ k,i = k + 1:=⟨i - 1,by omega⟩
  have e1 : wr (((i + 1 : Nat) : Int) - 1) = ((i : Nat) : Int):=by rw [YT (by omega)]; omega
  simp only [e1,K1 hi,if_true,ZW a (show i < 16 by omega),ZW a hi,Option.bind_some,Tq,Int.toNat_natCast,ha (i + 1) (Nat.le_refl _),hb i (by omega),Qv]
  simp) (fun v=>by unfold YQ; simp)
 have h2 : ZQ (YQ e) (vf 16 (fun i=>if i = 0 then f 0 ^^^ QW e.v.box (f 15 ^^^ ZE r) else f i),1) = _:=this
 rw [h2]; rfl
def K2 (b : Vector UInt8 256) (k : Nat → UInt8) : Nat → Nat → UInt8
 | 0=>k
 | r + 1=>Qv b (K2 b k r) ((r + 1 : Nat) : Int)
def X3 (b : Vector UInt8 256) (k : Nat → UInt8) (n : Nat) : List Blk:=(List.range (n + 1)).map fun r=>vf 16 (K2 b k r)
theorem BQ (b : Vector UInt8 256) (k : Nat → UInt8) (n : Nat) : X3 b k (n + 1) = X3 b k n ++ [vf 16 (Qv b (K2 b k n) ((n + 1 : Nat) : Int))]:=by
 unfold X3
 rw [List.range_succ,List.map_append]; rfl
theorem Qt (b : Vector UInt8 256) (k : Nat → UInt8) (n : Nat) : (X3 b k n).length = n + 1:=by simp [X3]
theorem Tv (b : Vector UInt8 256) (k : Nat → UInt8) {n r : Nat} (h : r ≤ n) : idx (X3 b k n) (r : Int) = some (vf 16 (K2 b k r)):=by
 rw [VO]; unfold X3; rw [List.getElem?_map,List.getElem?_range (by omega)]; rfl
theorem B0 (c : GCipher) (k : Nat → UInt8) (n : Nat) (hn : n ≤ 1000) : Vv c (vf 16 k) (n : Int) = some (X3 c.Box k n):=by
 unfold Vv
 have:=Ya (f:=WS c (n : Int)) (fun i : Nat=>(vf 16 (K2 c.Box k (i - 1)),X3 c.Box k (i - 1),(i : Int))) 1 (n + 1) (by omega) (t:=X3 c.Box k n) (fun i h1 hi=>by
  unfold WS
  obtain ⟨i,rfl⟩ : ∃ q,i = q + 1:=⟨i - 1,by omega⟩
  have e1 : decide (((i + 1 : Nat) : Int) ≤ (n : Int)) = true:=by simp; omega
  have e2 : app 16 (X3 c.Box k i) [vf 16 (Qv c.Box (K2 c.Box k i) ((i + 1 : Nat) : Int))] = _:=KY (by rw [Qt]; simp; omega)
  simp only [Nat.add_sub_cancel,e1,if_true,yu,Option.bind_some,e2,Xi (show i + 1 < 9223372036854775807 by omega),BQ]
  rfl) (by
  unfold WS
  have e1 : decide (((n + 1 : Nat) : Int) ≤ (n : Int)) = false:=by simp; omega
  simp only [e1,Bool.false_eq_true,if_false,Nat.add_sub_cancel])
 have h2 : ZQ (WS c (n : Int)) (vf 16 k,[vf 16 k],1) = _:=this
 rw [h2]; rfl
theorem zB (e : Ref Gengine) (k : Nat → UInt8) (n : Nat) (hn : n ≤ 1000) : Y6 e (vf 16 k) (n : Int) = some (X3 e.v.box k n):=by
 unfold Y6
 have:=Ya (f:=Xt e (n : Int)) (fun i : Nat=>(vf 16 (K2 e.v.box k (i - 1)),X3 e.v.box k (i - 1),(i : Int))) 1 (n + 1) (by omega) (t:=X3 e.v.box k n) (fun i h1 hi=>by
  unfold Xt
  obtain ⟨i,rfl⟩ : ∃ q,i = q + 1:=⟨i - 1,by omega⟩
  have e1 : decide (((i + 1 : Nat) : Int) ≤ (n : Int)) = true:=by simp; omega
  have e2 : app 16 (X3 e.v.box k i) [vf 16 (Qv e.v.box (K2 e.v.box k i) ((i + 1 : Nat) : Int))] = _:=KY (by rw [Qt]; simp; omega)
  simp only [Nat.add_sub_cancel,e1,if_true,yy,Option.bind_some,e2,Xi (show i + 1 < 9223372036854775807 by omega),BQ]
  rfl) (by
  unfold Xt
  have e1 : decide (((n + 1 : Nat) : Int) ≤ (n : Int)) = false:=by simp; omega
  simp only [e1,Bool.false_eq_true,if_false,Nat.add_sub_cancel])
 have h2 : ZQ (Xt e (n : Int)) (vf 16 k,[vf 16 k],1) = _:=this
 rw [h2]; rfl

def rowF (m : Nat) (a : MF) (f : Nat → UInt8) (c r : Nat) : UInt8:=((ZO m (a r 0) (f c) ^^^ ZO m (a r 1) (f (c + 1))) ^^^ ZO m (a r 2) (f (c + 2))) ^^^ ZO m (a r 3) (f (c + 3))
def Vf (m : Nat) (a : MF) (f : Nat → UInt8) : Nat → UInt8:=fun i=>rowF m a f (i / 4 * 4) (i % 4)
theorem ke (f : Nat → UInt8) (k : Nat) (x y : UInt8) : (fun i=>if i = k then y else if i = k then x else f i) = fun i=>if i = k then y else f i:=by
 funext i; by_cases h : i = k <;> simp [h]
theorem wr_at {c r : Nat} (hc : c < 4) (hr : r < 4) : wr (wr (4 * (c : Int)) + (r : Int)) = ((c * 4 + r : Nat) : Int):=by
 rw [YT (x:=4 * (c : Int)) (by omega),YT (by omega)]; omega
theorem kj (m : Nat) (hm : m < 512) (hm2 : 256 ≤ m) (a : MF) (f g : Nat → UInt8) (c r : Nat) (hc : c < 4) (hr : r < 4) (s1 s2 : Blk × Int) (h1 : s1.2 = (c : Int)) (h2 : s2.2 = (r : Int)) (hg : g (c * 4 + r) = 0) :
  ZQ (Wf (m : Int) (mf a) (vf 16 f) s1 s2) (vf 16 g,0) = some (vf 16 fun i=>if i = c * 4 + r then rowF m a f (c * 4) r else g i):=by
 have hcr : c * 4 + r < 16:=by omega
 have step : ∀ (j : Nat) (h : Nat → UInt8),j < 4 → Wf (m : Int) (mf a) (vf 16 f) s1 s2 (vf 16 h,(j : Int)) = some (.nx (vf 16 (fun i=>if i = c * 4 + r then h (c * 4 + r) ^^^ ZO m (a r j) (f (c * 4 + j)) else h i),((j + 1 : Nat) : Int))):=fun j h hj=>by
  unfold Wf
  simp only [h1,h2,lt4 hj,if_true,wr_at hc hr,wr_at hc hj,ZW _ hcr,X0 _ hr,ZW _ hj,ZW f (show c * 4 + j < 16 by omega),Option.bind_some,UM m hm hm2,Int.toNat_natCast,Vn,wr4 (show j < 1000 by omega)]
 have e0:=step 0 g (by omega)
 have e1:=step 1 (fun i=>if i = c * 4 + r then g (c * 4 + r) ^^^ ZO m (a r 0) (f (c * 4 + 0)) else g i) (by omega)
 have e2:=step 2 (fun i=>if i = c * 4 + r then (g (c * 4 + r) ^^^ ZO m (a r 0) (f (c * 4 + 0))) ^^^ ZO m (a r 1) (f (c * 4 + 1)) else g i) (by omega)
 have e3:=step 3 (fun i=>if i = c * 4 + r then ((g (c * 4 + r) ^^^ ZO m (a r 0) (f (c * 4 + 0))) ^^^ ZO m (a r 1) (f (c * 4 + 1))) ^^^ ZO m (a r 2) (f (c * 4 + 2)) else g i) (by omega)
 have e4 : ∀ v : Blk,Wf (m : Int) (mf a) (vf 16 f) s1 s2 (v,((4 : Nat) : Int)) = some (.ex v):=fun v=>by unfold Wf; simp
 simp only [if_true,ke] at e1 e2 e3
 have e0' : Wf (m : Int) (mf a) (vf 16 f) s1 s2 (vf 16 g,0) = _:=e0
 rw [Wg e0',Wg e1,Wg e2,Wg e3,Y1 (e4 _)]
 refine congrArg some (WO fun i _=>?_)
 by_cases h : i = c * 4 + r
 ·simp [h,hg,rowF]
 ·simp [h]
theorem A4 (m : Nat) (hm : m < 512) (hm2 : 256 ≤ m) (a : MF) (f : Nat → UInt8) : VY (m : Int) (mf a) (vf 16 f) = some (vf 16 (Vf m a f)):=by
 unfold VY
 -- after c columns and r rows of the next
 have inner : ∀ c : Nat,c < 4 → ∀ s1 : Blk × Int,s1.2 = (c : Int) → ZQ (Vk (m : Int) (mf a) (vf 16 f) s1) (vf 16 (fun i=>if i < c * 4 then Vf m a f i else 0),0) = some (vf 16 fun i=>if i < (c + 1) * 4 then Vf m a f i else 0):=fun c hc s1 h1=>by
  have k1 : (vf 16 fun i=>if i < c * 4 + 4 then Vf m a f i else 0) = vf 16 fun i=>if i < (c + 1) * 4 then Vf m a f i else 0:=by rw [show c * 4 + 4 = (c + 1) * 4 by omega]
  have:=Ya (f:=Vk (m : Int) (mf a) (vf 16 f) s1) (fun r : Nat=>(vf 16 fun i=>if i < c * 4 + r then Vf m a f i else 0,(r : Int))) 0 4 (by omega) (t:=vf 16 fun i=>if i < (c + 1) * 4 then Vf m a f i else 0) (fun r _ hr=>by
   unfold Vk
   have h2:=kj m hm hm2 a f (fun i=>if i < c * 4 + r then Vf m a f i else 0) c r hc hr s1 (vf 16 fun i=>if i < c * 4 + r then Vf m a f i else 0,(r : Int)) h1 rfl (by simp)
   simp only [lt4 hr,if_true,h2,Option.bind_some,wr4 (show r < 1000 by omega)]
   refine congrArg (fun z=>some (Fl.nx (z,((r + 1 : Nat) : Int)))) (WO fun i _=>?_)
   by_cases h : i = c * 4 + r
   ·subst h
    have q1 : (c * 4 + r) / 4 = c:=by omega
    have q2 : (c * 4 + r) % 4 = r:=by omega
    rw [if_pos rfl,if_pos (by omega)]
    unfold Vf; rw [q1,q2]
   ·by_cases h3 : i < c * 4 + r
    ·rw [if_neg h,if_pos h3,if_pos (by omega)]
    ·rw [if_neg h,if_neg h3,if_neg (by omega)]) (by
   unfold Vk
   simp only [k1]
   simp)
  exact this
 have:=Ya (f:=Vu (m : Int) (mf a) (vf 16 f)) (fun c : Nat=>(vf 16 fun i=>if i < c * 4 then Vf m a f i else 0,(c : Int))) 0 4 (by omega) (t:=vf 16 (Vf m a f)) (fun c _ hc=>by
  unfold Vu
  have h2:=inner c hc (vf 16 fun i=>if i < c * 4 then Vf m a f i else 0,(c : Int)) rfl
  simp only [lt4 hc,if_true,h2,Option.bind_some,wr4 (show c < 1000 by omega)]) (by
  unfold Vu
  have : (vf 16 fun i=>if i < 4 * 4 then Vf m a f i else 0) = vf 16 (Vf m a f):=WO fun i hi=>by rw [if_pos (by omega)]
  simp only [this]
  simp)
 have e0 : (vf 16 fun i=>if i < 0 * 4 then Vf m a f i else 0) = vf 16 fun _=>(0 : UInt8):=WO fun i _=>by rw [if_neg (by omega)]
 simp only [e0] at this
 have h2 : ZQ (Vu (m : Int) (mf a) (vf 16 f)) (vf 16 fun _=>(0 : UInt8),0) = _:=this
 rw [UB 16 (0 : UInt8),h2]; rfl

abbrev Tab:=Vector (Vector (Vector UInt8 256) 4) 4
def J4 (m : Nat) (a : MF) : Tab:=vf 4 fun i=>vf 4 fun j=>vf 256 fun x=>ZO m (a i j) (UInt8.ofNat x)
theorem js (m : Nat) (a : MF) (i j : Nat) (x : UInt8) : ZI (vf 256 fun x=>ZO m (a i j) (UInt8.ofNat x)) (bI x) = some (ZO m (a i j) x):=by
 rw [show bI x = ((x.toNat : Nat) : Int) from rfl,ZW _ (UInt8.toNat_lt x)]
 simp
theorem v_mix (m : Nat) (a : MF) (f : Nat → UInt8) : Wy ⟨J4 m a⟩ (vf 16 f) = some (vf 16 (Vf m a f)):=by
 unfold Wy
 have i0 : ∀ (v : Vector (Vector UInt8 256) 4),ZI v (0 : Int) = v[0]?:=fun v=>Ut v 0
 have i1 : ∀ (v : Vector (Vector UInt8 256) 4),ZI v (1 : Int) = v[1]?:=fun v=>Ut v 1
 have i2 : ∀ (v : Vector (Vector UInt8 256) 4),ZI v (2 : Int) = v[2]?:=fun v=>Ut v 2
 have i3 : ∀ (v : Vector (Vector UInt8 256) 4),ZI v (3 : Int) = v[3]?:=fun v=>Ut v 3
 have inner : ∀ c : Nat,c < 4 → ∀ s1 : Blk × Int,s1.2 = ((c * 4 : Nat) : Int) → ZQ (Wk ⟨J4 m a⟩ s1 (f (c * 4),f (c * 4 + 1),f (c * 4 + 2),f (c * 4 + 3))) (vf 16 (fun i=>if i < c * 4 then Vf m a f i else f i),0) = some (vf 16 fun i=>if i < (c + 1) * 4 then Vf m a f i else f i):=fun c hc s1 h1=>by
  have k1 : (vf 16 fun i=>if i < c * 4 + 4 then Vf m a f i else f i) = vf 16 fun i=>if i < (c + 1) * 4 then Vf m a f i else f i:=by rw [show c * 4 + 4 = (c + 1) * 4 by omega]
  have:=Ya (f:=Wk ⟨J4 m a⟩ s1 (f (c * 4),f (c * 4 + 1),f (c * 4 + 2),f (c * 4 + 3))) (fun r : Nat=>(vf 16 fun i=>if i < c * 4 + r then Vf m a f i else f i,(r : Int))) 0 4 (by omega) (t:=vf 16 fun i=>if i < (c + 1) * 4 then Vf m a f i else f i) (fun r _ hr=>by
   unfold Wk
   have e1 : wr (s1.2 + (r : Int)) = ((c * 4 + r : Nat) : Int):=by rw [h1,YT (by omega)]; omega
   have et : ZI (J4 m a) (r : Int) = some (vf 4 fun j=>vf 256 fun x=>ZO m (a r j) (UInt8.ofNat x)):=ZW _ hr
   simp only [lt4 hr,if_true,et,i0,i1,i2,i3,TL _ (show 0 < 4 by omega),TL _ (show 1 < 4 by omega),TL _ (show 2 < 4 by omega),TL _ (show 3 < 4 by omega),js,e1,ZW _ (show c * 4 + r < 16 by omega),Option.bind_some,Int.toNat_natCast,Vn,wr4 (show r < 1000 by omega)]
   refine congrArg (fun z=>some (Fl.nx (z,((r + 1 : Nat) : Int)))) (WO fun i _=>?_)
   by_cases h : i = c * 4 + r
   ·subst h
    have q1 : (c * 4 + r) / 4 = c:=by omega
    have q2 : (c * 4 + r) % 4 = r:=by omega
    rw [if_pos rfl,if_pos (by omega)]
    unfold Vf; rw [q1,q2]; rfl
   ·by_cases h3 : i < c * 4 + r
    ·rw [if_neg h,if_pos h3,if_pos (by omega)]
    ·rw [if_neg h,if_neg h3,if_neg (by omega)]) (by
   unfold Wk
   simp only [k1]
   simp)
  exact this
 have:=Ya (f:=Wj ⟨J4 m a⟩) (fun c : Nat=>(vf 16 fun i=>if i < c * 4 then Vf m a f i else f i,((c * 4 : Nat) : Int))) 0 4 (by omega) (t:=vf 16 (Vf m a f)) (fun c _ hc=>by
  unfold Wj
  have hd : decide (((c * 4 : Nat) : Int) < ((vf 16 fun i=>if i < c * 4 then Vf m a f i else f i).toList.length : Int)) = true:=by rw [Vector.length_toList]; simp; omega
  have x0:=ZW (n:=16) (fun i=>if i < c * 4 then Vf m a f i else f i) (show c * 4 < 16 by omega)
  have x1:=ZW (n:=16) (fun i=>if i < c * 4 then Vf m a f i else f i) (show c * 4 + 1 < 16 by omega)
  have x2:=ZW (n:=16) (fun i=>if i < c * 4 then Vf m a f i else f i) (show c * 4 + 2 < 16 by omega)
  have x3:=ZW (n:=16) (fun i=>if i < c * 4 then Vf m a f i else f i) (show c * 4 + 3 < 16 by omega)
  have w1 : wr (((c * 4 : Nat) : Int) + 1) = ((c * 4 + 1 : Nat) : Int):=by rw [YT (by omega)]; omega
  have w2 : wr (((c * 4 : Nat) : Int) + 2) = ((c * 4 + 2 : Nat) : Int):=by rw [YT (by omega)]; omega
  have w3 : wr (((c * 4 : Nat) : Int) + 3) = ((c * 4 + 3 : Nat) : Int):=by rw [YT (by omega)]; omega
  have w4 : wr (((c * 4 : Nat) : Int) + 4) = (((c + 1) * 4 : Nat) : Int):=by rw [YT (by omega)]; omega
  rw [if_neg (by omega)] at x0 x1 x2 x3
  have h2:=inner c hc (vf 16 fun i=>if i < c * 4 then Vf m a f i else f i,((c * 4 : Nat) : Int)) rfl
  simp only [hd,if_true,x0,w1,x1,w2,x2,w3,x3,Option.bind_some,h2,w4]) (by
  unfold Wj
  have : (vf 16 fun i=>if i < 4 * 4 then Vf m a f i else f i) = vf 16 (Vf m a f):=WO fun i hi=>by rw [if_pos (by omega)]
  simp only [this]
  simp)
 have e0 : (vf 16 fun i=>if i < 0 * 4 then Vf m a f i else f i) = vf 16 f:=WO fun i _=>by rw [if_neg (by omega)]
 simp only [e0] at this
 have h2 : ZQ (Wj ⟨J4 m a⟩) (vf 16 f,0) = _:=this
 rw [h2]; rfl

def tb (g : Nat → Nat → Nat → UInt8) : Tab:=vf 4 fun i=>vf 4 fun j=>vf 256 (g i j)
theorem Ha {g h : Nat → Nat → Nat → UInt8} (e : ∀ i,i < 4 → ∀ j,j < 4 → ∀ x,x < 256 → g i j x = h i j x) : tb g = tb h :=
 WO fun i hi=>WO fun j hj=>WO fun x hx=>e i hi j hj x hx
theorem kf (g : Nat → Nat → Nat → UInt8) {i : Nat} (hi : i < 4) : ZI (tb g) (i : Int) = some (vf 4 fun j=>vf 256 (g i j)):=ZW _ hi
theorem jg (g : Nat → Nat → Nat → UInt8) (i : Nat) {j : Nat} (hj : j < 4) : ZI (vf 4 fun j=>vf 256 (g i j)) (j : Int) = some (vf 256 (g i j)):=ZW _ hj
theorem tb_set (g : Nat → Nat → Nat → UInt8) (i j : Nat) (h : Nat → UInt8) : (tb g).setIfInBounds i ((vf 4 fun j=>vf 256 (g i j)).setIfInBounds j (vf 256 h)) = tb (fun i' j'=>if i' = i ∧ j' = j then h else g i' j'):=by
 unfold tb
 rw [Vn,Vn]
 refine WO fun i' _=>?_
 by_cases h1 : i' = i
 ·subst h1
  rw [if_pos rfl]
  refine WO fun j' _=>?_
  by_cases h2 : j' = j
  ·subst h2; simp
  ·simp [h2]
 ·rw [if_neg h1]
  refine WO fun j' _=>?_
  simp [h1]
theorem kh (a b : Nat) (ha : a < 9223372036854775808) (hb : b < 9223372036854775808) : orI (a : Int) (b : Int) = ((a ||| b : Nat) : Int):=by
 unfold orI
 rw [BitVec.toNat_or,JW a ha,JW b hb]
 have : a ||| b < 2 ^ 63:=Nat.or_lt_two_pow ha hb
 exact YT (by omega)
theorem X2 (n : Nat) : ZE (n : Int) = UInt8.ofNat n:=by
 unfold ZE
 have : ((n : Int) % 256).toNat = n % 256:=by omega
 rw [this]
 apply UInt8.toNat_inj.1
 simp
theorem jF (g : Nat → Nat → Nat → UInt8) (i j : Nat) (h : Nat → UInt8) : (tb g).setIfInBounds i (vf 4 fun j'=>if j' = j then vf 256 h else vf 256 (g i j')) = tb (fun i' j'=>if i' = i ∧ j' = j then h else g i' j'):=by
 have:=tb_set g i j h
 rw [Vn] at this
 exact this
theorem jd {p low : Nat} (h : low < 2 ^ p) : 2 ^ p ||| low = 2 ^ p + low:=by
 have:=Nat.two_pow_add_eq_or_of_lt h 1
 simpa using this.symm
theorem jA {p low : Nat} (hp : p < 8) (h : low < 2 ^ p) : UInt8.ofNat (2 ^ p + low) = UInt8.ofNat (2 ^ p) ^^^ UInt8.ofNat low:=by
 apply UInt8.toNat_inj.1
 have h7 : 2 ^ p ≤ 2 ^ 7:=Nat.pow_le_pow_right (by omega) (by omega)
 rw [UInt8.toNat_xor]
 simp only [UInt8.toNat_ofNat']
 rw [Nat.mod_eq_of_lt (by omega),Nat.mod_eq_of_lt (by omega),Nat.mod_eq_of_lt (by omega)]
 rw [← jd h]
 apply Nat.eq_of_testBit_eq
 intro i
 rw [Nat.testBit_or,Nat.testBit_xor,Nat.testBit_two_pow]
 by_cases hi : p = i
 ·subst hi
  rw [Nat.testBit_lt_two_pow h]; simp
 ·simp [hi]
section
variable (m : Nat) (hm : m < 512) (hm2 : 256 ≤ m) (a : MF)
include hm hm2
def Ki (m : Nat) (a : MF) (i j n : Nat) (g : Nat → Nat → Nat → UInt8) : Nat → Nat → Nat → UInt8:=fun i' j'=>if i' = i ∧ j' = j then (fun x=>if x < n then ZO m (a i j) (UInt8.ofNat x) else 0) else g i' j'
theorem jC (i j p : Nat) (hi : i < 4) (hj : j < 4) (hp : p < 8) (g : Nat → Nat → Nat → UInt8) (s0 s1 s2 : Tab × Int) (h0 : s0.2 = (i : Int)) (h1 : s1.2 = (j : Int)) (h2 : s2.2 = ((2 ^ p : Nat) : Int)) :
  ZQ (WD s0 s1 s2 (ZO m (a i j) (UInt8.ofNat (2 ^ p)))) (tb (Ki m a i j (2 ^ p) g),0) = some (tb (Ki m a i j (2 ^ (p + 1)) g)):=by
 have h7 : 2 ^ p ≤ 2 ^ 7:=Nat.pow_le_pow_right (by omega) (by omega)
 have k1 : 2 ^ p + 2 ^ p = 2 ^ (p + 1):=by rw [Nat.pow_succ]; omega
 have:=Ya (f:=WD s0 s1 s2 (ZO m (a i j) (UInt8.ofNat (2 ^ p)))) (fun low : Nat=>(tb (Ki m a i j (2 ^ p + low) g),(low : Int))) 0 (2 ^ p) (Nat.zero_le _) (t:=tb (Ki m a i j (2 ^ (p + 1)) g)) (fun low _ hl=>by
  unfold WD
  have hd : decide ((low : Int) < ((2 ^ p : Nat) : Int)) = true:=by simp only [decide_eq_true_eq]; omega
  have ho : orI ((2 ^ p : Nat) : Int) (low : Int) = ((2 ^ p + low : Nat) : Int):=by rw [kh _ _ (by omega) (by omega),jd hl]
  have eg : Ki m a i j (2 ^ p + low) g i j = fun x=>if x < 2 ^ p + low then ZO m (a i j) (UInt8.ofNat x) else 0:=by simp [Ki]
  simp only [h0,h1,h2,hd,if_true,kf _ hi,jg _ i hj,eg,ZW _ (show low < 256 by omega),ho,ZW _ (show 2 ^ p + low < 256 by omega),Option.bind_some,Int.toNat_natCast,Vn,Xi (show low < 9223372036854775807 by omega)]
  rw [if_pos (show low < 2 ^ p + low from Nat.lt_add_of_pos_left (Nat.two_pow_pos p)),← UR hm2 hm,← jA hp hl]
  have:=jF (Ki m a i j (2 ^ p + low) g) i j (fun x=>if x = 2 ^ p + low then ZO m (a i j) (UInt8.ofNat (2 ^ p + low)) else if x < 2 ^ p + low then ZO m (a i j) (UInt8.ofNat x) else 0)
  rw [this]
  refine congrArg (fun z=>some (Fl.nx (z,((low + 1 : Nat) : Int)))) (Ha fun i' _ j' _ x _=>?_)
  unfold Ki
  by_cases h : i' = i ∧ j' = j
  ·simp only [h,and_self,if_true]
   by_cases hx : x = 2 ^ p + low
   ·subst hx; simp
   ·by_cases hx2 : x < 2 ^ p + low
    ·rw [if_neg hx,if_pos hx2,if_pos (by omega)]
    ·rw [if_neg hx,if_neg hx2,if_neg (by omega)]
  ·simp only [h,if_false]) (by
  unfold WD
  simp only [h2,k1]
  simp)
 exact this
theorem jn (i j : Nat) (hi : i < 4) (hj : j < 4) (g : Nat → Nat → Nat → UInt8) (s0 s1 : Tab × Int) (h0 : s0.2 = (i : Int)) (h1 : s1.2 = (j : Int)) :
  ZQ (WA (m : Int) s0 s1 (a i j)) (tb (Ki m a i j 1 g),1) = some (tb (Ki m a i j 256 g)):=by
 have:=Ya (f:=WA (m : Int) s0 s1 (a i j)) (fun p : Nat=>(tb (Ki m a i j (2 ^ p) g),((2 ^ p : Nat) : Int))) 0 8 (by omega) (t:=tb (Ki m a i j 256 g)) (fun p _ hp=>by
  unfold WA
  have h7 : 2 ^ p ≤ 2 ^ 7:=Nat.pow_le_pow_right (by omega) (by omega)
  have hd : decide (((2 ^ p : Nat) : Int) < 256) = true:=by simp only [decide_eq_true_eq]; omega
  have hb : ZE ((2 ^ p : Nat) : Int) = UInt8.ofNat (2 ^ p):=by rw [X2]
  have hw : wr (((2 ^ p : Nat) : Int) * 2) = ((2 ^ (p + 1) : Nat) : Int):=by
   rw [Nat.pow_succ]
   generalize 2 ^ p = q at h7 ⊢
   rw [YT (by omega)]; omega
  have h3:=jC m hm hm2 a i j p hi hj hp g s0 s1 (tb (Ki m a i j (2 ^ p) g),((2 ^ p : Nat) : Int)) h0 h1 rfl
  simp only [hd,if_true,hb,UF m hm,Option.bind_some,h3,hw]) (by unfold WA; simp)
 exact this
theorem HQ (A : Mat) (hA : A = mf a) : WY (m : Int) A = some ⟨J4 m a⟩:=by
 subst hA
 unfold WY
 let G : Nat → Nat → Nat → Nat → Nat → UInt8:=fun r c i j x=>if i < r ∨ (i = r ∧ j < c) then ZO m (a i j) (UInt8.ofNat x) else 0
 have hGt : ∀ r c i j x,(i < r ∨ (i = r ∧ j < c)) → G r c i j x = ZO m (a i j) (UInt8.ofNat x):=fun r c i j x h=>if_pos h
 have hGf : ∀ r c i j x,¬ (i < r ∨ (i = r ∧ j < c)) → G r c i j x = 0:=fun r c i j x h=>if_neg h
 have hGe : ∀ r c r' c' i j x,((i < r ∨ (i = r ∧ j < c)) ↔ (i < r' ∨ (i = r' ∧ j < c'))) → G r c i j x = G r' c' i j x:=fun r c r' c' i j x h=>by show (if _ then _ else _) = (if _ then _ else _); simp only [h]
 have z0 : ∀ i j,ZO m (a i j) (UInt8.ofNat 0) = 0:=fun i j=>by rw [Wn hm2 hm]; exact Tf hm2 hm _
 have col : ∀ r : Nat,r < 4 → ∀ s0 : Tab × Int,s0.2 = (r : Int) → ZQ (Wz (m : Int) s0 (vf 4 (a r))) (tb (G r 0),0) = some (tb (G (r + 1) 0)):=fun r hr s0 h0=>by
  have k1 : tb (G r 4) = tb (G (r + 1) 0):=Ha fun i hi j hj x _=>by
   exact hGe _ _ _ _ _ _ _ (by omega)
  have:=Ya (f:=Wz (m : Int) s0 (vf 4 (a r))) (fun c : Nat=>(tb (G r c),(c : Int))) 0 4 (by omega) (t:=tb (G (r + 1) 0)) (fun c _ hc=>by
   unfold Wz
   have e1 : tb (G r c) = tb (Ki m a r c 1 (G r c)):=Ha fun i _ j _ x _=>by
    unfold Ki
    by_cases h : i = r ∧ j = c
    ·obtain ⟨rfl,rfl⟩:=h
     simp only [and_self,if_true]
     rw [hGf _ _ _ _ _ (by omega)]
     by_cases hx : x < 1
     ·have : x = 0:=by omega
      subst this; rw [if_pos hx,z0]
     ·rw [if_neg hx]
    ·simp only [h,if_false]
   have e2 : tb (Ki m a r c 256 (G r c)) = tb (G r (c + 1)):=Ha fun i _ j _ x hx=>by
    unfold Ki
    by_cases h : i = r ∧ j = c
    ·obtain ⟨rfl,rfl⟩:=h
     simp only [and_self,if_true,hx]
     rw [hGt _ _ _ _ _ (by omega)]
    ·simp only [h,if_false]
     exact hGe _ _ _ _ _ _ _ (by omega)
   have h3:=jn m hm hm2 a r c hr hc (G r c) s0 (tb (G r c),(c : Int)) h0 rfl
   rw [← e1,e2] at h3
   simp only [lt4 hc,if_true,ZW _ hc,h3,Option.bind_some,wr4 (show c < 1000 by omega)]) (by
   unfold Wz
   simp only [k1]
   simp)
  exact this
 have kz : tb (G 0 0) = Vector.replicate 4 (Vector.replicate 4 (Vector.replicate 256 (0 : UInt8))):=by
  rw [UB 256 (0 : UInt8),UB 4,UB 4]
  exact Ha fun i _ j _ x _=>by
   exact hGf _ _ _ _ _ (by omega)
 have k4 : tb (G 4 0) = J4 m a:=Ha fun i hi j _ x _=>by
  exact hGt _ _ _ _ _ (by omega)
 have:=Ya (f:=Wx (m : Int) (mf a)) (fun r : Nat=>(tb (G r 0),(r : Int))) 0 4 (by omega) (t:=J4 m a) (fun r _ hr=>by
  unfold Wx
  have h3:=col r hr (tb (G r 0),(r : Int)) rfl
  simp only [lt4 hr,if_true,X0 _ hr,h3,Option.bind_some,wr4 (show r < 1000 by omega)]) (by
  unfold Wx
  simp only [k4]
  simp)
 have h2 : ZQ (Wx (m : Int) (mf a)) (tb (G 0 0),0) = _:=this
 rw [← kz,h2]; rfl
end

def Vw (n : Nat) (p : Vector UInt8 n) : Nat → Vector UInt8 n
 | 0=>Vector.replicate n 0
 | i + 1=>(Vw n p i).setIfInBounds (p.toList.getD i 0).toNat (ZE (i : Int))
theorem Bz (p : Vector UInt8 256) : WF p = some (Vw 256 p 256):=by
 unfold WF
 have:=Ya (f:=Xs p) (fun i : Nat=>(Vw 256 p i,(i : Int))) 0 256 (by omega) (t:=Vw 256 p 256) (fun i _ hi=>by
  unfold Xs
  have hd : decide ((i : Int) < 256) = true:=by simp; omega
  simp only [hd,if_true,Tk p hi,Tq,Option.bind_some,TZ,Xi (show i < 9223372036854775807 by omega)]
  rfl) (by unfold Xs; simp)
 have h2 : ZQ (Xs p) (Vector.replicate 256 0,0) = _:=this
 rw [h2]; rfl
theorem B9 (p : Vector UInt8 256) : W5 p = some (Vw 256 p 256):=by
 unfold W5
 have:=Ya (f:=XK p) (fun i : Nat=>(Vw 256 p i,(i : Int))) 0 256 (by omega) (t:=Vw 256 p 256) (fun i _ hi=>by
  unfold XK
  have hd : decide ((i : Int) < 256) = true:=by simp; omega
  simp only [hd,if_true,Tk p hi,Tq,Option.bind_some,TZ,Xi (show i < 9223372036854775807 by omega)]
  rfl) (by unfold XK; simp)
 have h2 : ZQ (XK p) (Vector.replicate 256 0,0) = _:=this
 rw [h2]; rfl
theorem Kz (p : Blk) {i : Nat} (h : i < 16) : p.toList.getD i 0 = bf p i:=by
 have h1:=Tk p h
 rw [TO p h] at h1
 exact (Option.some.inj h1).symm
theorem JJ (p : Blk) (hp : X1 p = true) : XA p = some (Vw 16 p 16):=by
 unfold XA
 have:=Ya (f:=YR p) (fun i : Nat=>(Vw 16 p i,(i : Int))) 0 16 (by omega) (t:=Vw 16 p 16) (fun i _ hi=>by
  unfold YR
  have hlt:=TV hp hi
  have hv : ZI (Vw 16 p i) (bI (bf p i)) = some (bf (Vw 16 p i) (bf p i).toNat):=TO _ hlt
  simp only [K1 hi,if_true,TO p hi,hv,Option.bind_some,TZ,Xi (show i < 9223372036854775807 by omega)]
  rw [← Kz p hi]
  rfl) (by unfold YR; simp)
 have h2 : ZQ (YR p) (Vector.replicate 16 0,0) = _:=this
 rw [h2]; rfl

def YF (c : GCipher) : Gengine:=⟨c.Box,Vw 256 c.Box 256,c.Places,Vw 16 c.Places 16,⟨J4 c.Field.toNat (V0 c.Mix)⟩,⟨J4 c.Field.toNat (V0 (KJ c.Field.toNat c.Mix))⟩,c.Rounds⟩
theorem VU {c : GCipher} (h : ZU c = true) : X1 c.Places = true:=by
 unfold ZU at h
 simp only [Bool.and_eq_true] at h
 exact h.1.1.2
theorem VV {c : GCipher} (h : ZU c = true) : 1 ≤ c.Rounds ∧ c.Rounds ≤ 20:=by
 unfold ZU at h
 simp only [Bool.and_eq_true,decide_eq_true_eq] at h
 exact h.1.2
theorem Kh (c : GCipher) (h : ZU c = true) : XR c = some ⟨YF c⟩:=by
 obtain ⟨m,hm,h1,h2⟩:=TS h
 have e : c.Field.toNat = m:=by omega
 unfold XR YF
 rw [e]
 simp only [hm,Ay m h2 h1,Option.bind_some,Bz,JJ _ (VU h),HQ m h2 h1 (V0 c.Mix) c.Mix (KB _),HQ m h2 h1 (V0 (KJ m c.Mix)) (KJ m c.Mix) (KB _)]

def TG (c : GCipher) (n r : Nat) (k f : Nat → UInt8) : Nat → UInt8 :=
 Kn (if r < n then Vf c.Field.toNat (V0 c.Mix) (V5 c.Places (Qc c.Box f)) else V5 c.Places (Qc c.Box f)) k
def Q9 (c : GCipher) (k f : Nat → UInt8) (n : Nat) : Nat → Nat → UInt8
 | 0=>Kn f k
 | r + 1=>TG c n (r + 1) (K2 c.Box k (r + 1)) (Q9 c k f n r)
def T2 (c : GCipher) (k f : Nat → UInt8) (n : Nat) : Nat → UInt8:=Q9 c k f n n
theorem BC (c : GCipher) (h : ZU c = true) (k f : Nat → UInt8) (n : Nat) (hn : n ≤ 1000) : Yk c (vf 16 k) (vf 16 f) (n : Int) = some (vf 16 (T2 c k f n)):=by
 obtain ⟨m,hm,h1,h2⟩:=TS h
 have e : c.Field.toNat = m:=by omega
 have hp:=VU h
 unfold Yk
 have i0 : idx (X3 c.Box k n) (0 : Int) = some (vf 16 k):=Tv c.Box k (Nat.zero_le n)
 simp only [B0 c k n hn,Option.bind_some,i0,Kg]
 have:=Ya (f:=Xq c (n : Int) (X3 c.Box k n)) (fun i : Nat=>(vf 16 (Q9 c k f n (i - 1)),(i : Int))) 1 (n + 1) (by omega) (t:=vf 16 (T2 c k f n)) (fun i hi1 hi=>by
  unfold Xq
  obtain ⟨r,rfl⟩ : ∃ q,i = q + 1:=⟨i - 1,by omega⟩
  have e1 : decide (((r + 1 : Nat) : Int) ≤ (n : Int)) = true:=by simp only [decide_eq_true_eq]; omega
  have YS:=A4 m h2 h1 (V0 c.Mix) (V5 c.Places (Qc c.Box (Q9 c k f n r)))
  rw [← KB] at YS
  simp only [Nat.add_sub_cancel,e1,if_true,K7,Option.bind_some,yK c.Places hp,hm,YS,Tv c.Box k (show r + 1 ≤ n by omega),Xi (show r + 1 < 9223372036854775807 by omega)]
  by_cases hr : r + 1 < n
  ·have e2 : decide (((r + 1 : Nat) : Int) < (n : Int)) = true:=by simp only [decide_eq_true_eq]; omega
   simp only [e2,if_true,Option.bind_some,Kg,Q9,TG,hr,e]
  ·have e2 : decide (((r + 1 : Nat) : Int) < (n : Int)) = false:=by simp only [decide_eq_false_iff_not]; omega
   simp only [e2,Bool.false_eq_true,if_false,Option.bind_some,Kg,Q9,TG,hr]) (by
  unfold Xq
  have e1 : decide (((n + 1 : Nat) : Int) ≤ (n : Int)) = false:=by simp only [decide_eq_false_iff_not]; omega
  simp only [e1,Bool.false_eq_true,if_false,Nat.add_sub_cancel,T2])
 have h3 : ZQ (Xq c (n : Int) (X3 c.Box k n)) (vf 16 (Kn f k),1) = _:=this
 rw [h3]; rfl
theorem zD (e : Ref Gengine) (s : Blk × Int) (f : Nat → UInt8) (hs : s.1 = vf 16 f) : ZQ (Ym e s) (vf 16 f,0) = some (vf 16 (Qc e.v.box f)):=by
 have:=WB (Ym e s) f (Qc e.v.box f) (by omega) 0 (by omega) (fun j hj=>by omega) (fun i _ hi a _ ha=>by
  unfold Ym
  simp only [hs,K1 hi,if_true,ZW _ hi,Option.bind_some,Int.toNat_natCast,Tq,Qc]) (fun v=>by unfold Ym; simp)
 exact this
theorem Kb (c : GCipher) (h : ZU c = true) (k f : Nat → UInt8) (n : Nat) (hn : n ≤ 1000) : Yx ⟨YF c⟩ (X3 c.Box k n) (vf 16 f) = some (vf 16 (T2 c k f n)):=by
 have hp:=VU h
 unfold Yx
 have i0 : idx (X3 c.Box k n) (0 : Int) = some (vf 16 k):=Tv c.Box k (Nat.zero_le n)
 simp only [Option.bind_some,i0,Tu]
 have:=Ya (f:=Yn ⟨YF c⟩ (X3 c.Box k n)) (fun i : Nat=>(vf 16 (Q9 c k f n (i - 1)),(i : Int))) 1 (n + 1) (by omega) (t:=vf 16 (T2 c k f n)) (fun i hi1 hi=>by
  unfold Yn
  obtain ⟨r,rfl⟩ : ∃ q,i = q + 1:=⟨i - 1,by omega⟩
  have e1 : decide (((r + 1 : Nat) : Int) < ((X3 c.Box k n).length : Int)) = true:=by rw [Qt]; simp only [decide_eq_true_eq]; omega
  have e3 : wr (((X3 c.Box k n).length : Int) - 1) = (n : Int):=by rw [Qt,YT (by omega)]; omega
  have hb:=zD ⟨YF c⟩ (vf 16 (Q9 c k f n r),((r + 1 : Nat) : Int)) (Q9 c k f n r) rfl
  have hmv:=v_move c.Places hp (Qc c.Box (Q9 c k f n r))
  have YS:=v_mix c.Field.toNat (V0 c.Mix) (V5 c.Places (Qc c.Box (Q9 c k f n r)))
  have hsl : ∀ g : Nat → UInt8,slc (vf 16 g).toList (0 : Int) (16 : Int) = some (vf 16 g).toList:=fun g=>by
   have:=Bt (l:=(vf 16 g).toList) (i:=0) (j:=16) (by omega) (by simp)
   simp only [List.drop_zero] at this
   rw [List.take_of_length_le (by simp)] at this
   exact this
  have q1 : (YF c).box = c.Box:=rfl
  have q2 : (YF c).places = c.Places:=rfl
  have q3 : (YF c).mixer = ⟨J4 c.Field.toNat (V0 c.Mix)⟩:=rfl
  simp only [q1] at hb
  simp only [Nat.add_sub_cancel,e1,if_true,hb,Option.bind_some,q2,q3,hmv,e3,hsl,YS,Tv c.Box k (show r + 1 ≤ n by omega),Xi (show r + 1 < 9223372036854775807 by omega)]
  by_cases hr : r + 1 < n
  ·have e2 : decide (((r + 1 : Nat) : Int) < (n : Int)) = true:=by simp only [decide_eq_true_eq]; omega
   simp only [e2,if_true,Option.bind_some,Tu,Q9,TG,hr]
  ·have e2 : decide (((r + 1 : Nat) : Int) < (n : Int)) = false:=by simp only [decide_eq_false_iff_not]; omega
   simp only [e2,Bool.false_eq_true,if_false,Option.bind_some,Tu,Q9,TG,hr]) (by
  unfold Yn
  have e1 : decide (((n + 1 : Nat) : Int) < ((X3 c.Box k n).length : Int)) = false:=by rw [Qt]; simp only [decide_eq_false_iff_not]; omega
  simp only [e1,Bool.false_eq_true,if_false,Nat.add_sub_cancel,T2])
 have h3 : ZQ (Yn ⟨YF c⟩ (X3 c.Box k n)) (vf 16 (Kn f k),1) = _:=this
 rw [h3]; rfl
theorem U5 (c : GCipher) (h : ZU c = true) (k f : Nat → UInt8) : Yi ⟨YF c⟩ (vf 16 k) (vf 16 f) = some (vf 16 (T2 c k f c.Rounds.toNat)):=by
 have hr:=VV h
 obtain ⟨n,hn⟩ : ∃ n : Nat,c.Rounds = n:=⟨c.Rounds.toNat,by omega⟩
 have e1 : (YF c).rounds = (n : Int):=hn
 have e2 : (YF c).box = c.Box:=rfl
 have hk:=zB ⟨YF c⟩ k n (by omega)
 rw [e2] at hk
 unfold Yi
 simp only [e1,hk,Option.bind_some,Kb c h k f n (by omega),hn,Int.toNat_natCast]
theorem V2 (c : GCipher) (h : ZU c = true) (k f : Nat → UInt8) : Yk c (vf 16 k) (vf 16 f) c.Rounds = some (vf 16 (T2 c k f c.Rounds.toNat)):=by
 have hr:=VV h
 obtain ⟨n,hn⟩ : ∃ n : Nat,c.Rounds = n:=⟨c.Rounds.toNat,by omega⟩
 rw [hn]
 exact BC c h k f n (by omega)
def Uc (g : Int) : Nat → UInt8:=fun i=>if i = 0 then ZE g else 0
theorem Qi (g : Int) : (Vector.replicate 16 (0 : UInt8)).setIfInBounds 0 (ZE g) = vf 16 (Uc g):=by rw [UB,Vn]; rfl
def JX (c : GCipher) (g h : Int) (b : Blk) : Blk × Int :=
 if ZU c then (if decide (0 ≤ g ∧ g ≤ 255) && decide (0 ≤ h ∧ h ≤ 255) then (vf 16 (T2 c (Uc h) (T2 c (Uc g) (bf b) c.Rounds.toNat) c.Rounds.toNat),0) else (Vector.replicate 16 0,2)) else (Vector.replicate 16 0,1)
theorem Tt (c : GCipher) (g h : Int) (b : Blk) : Xa c g h b = some (JX c g h b):=by
 unfold Xa JX
 simp only [Ag,HA,Option.bind_some,Qi]
 cases hc : ZU c
 ·simp
 ·cases decide (0 ≤ g ∧ g ≤ 255)
  ·simp
  ·cases decide (0 ≤ h ∧ h ≤ 255)
   ·simp
   ·have e1:=V2 c hc (Uc g) (bf b)
    rw [← KK] at e1
    simp [e1,V2 c hc]
theorem TA (c : GCipher) (g h : Int) (b : Blk) : Y9 c g h b = some (JX c g h b):=by
 unfold Y9 JX Y2
 simp only [K5,Ku,Option.bind_some,Qi]
 cases hc : ZU c
 ·simp
 ·cases decide (0 ≤ g ∧ g ≤ 255)
  ·simp
  ·cases decide (0 ≤ h ∧ h ≤ 255)
   ·simp
   ·have e1:=U5 c hc (Uc g) (bf b)
    rw [← KK] at e1
    simp [Kh c hc,e1,U5 c hc]
def XZ (c : GCipher) (x : Int) : Int:=if ZU c then (if decide (0 ≤ x ∧ x ≤ 65535) then 0 else 2) else 1
theorem B1 (c : GCipher) (x : Int) : Vx c x = some (XZ c x):=by
 unfold Vx XZ
 simp only [Ag,HA,Option.bind_some]
 cases ZU c <;> cases decide (0 ≤ x ∧ x ≤ 65535) <;> rfl
theorem HX (c : GCipher) (x : Int) : WU c x = some (XZ c x):=by
 unfold WU XZ
 simp only [K5,Ku,Option.bind_some]
 cases ZU c <;> cases decide (0 ≤ x ∧ x ≤ 65535) <;> rfl
def QY (x : Nat) : Nat → UInt8:=fun i=>if i = 1 then UInt8.ofNat (x / 256) else if i = 0 then UInt8.ofNat x else 0
theorem yI (x : Nat) : UInt8.ofNat (x % 256) = UInt8.ofNat x:=by
 apply UInt8.toNat_inj.1; simp
theorem yr (x : Nat) (h : x ≤ 65535) : ((Vector.replicate 16 (0 : UInt8)).setIfInBounds 0 (ZE (Int.tmod (x : Int) 256))).setIfInBounds 1 (ZE (wr (Int.tdiv (x : Int) 256))) = vf 16 (QY x):=by
 have e1 : Int.tmod (x : Int) 256 = ((x % 256 : Nat) : Int):=by rw [Int.tmod_eq_emod_of_nonneg (by omega)]; omega
 have e2 : Int.tdiv (x : Int) 256 = ((x / 256 : Nat) : Int):=by rw [Int.tdiv_eq_ediv_of_nonneg (by omega)]; omega
 rw [e1,e2,YT (by omega),X2,X2,yI,UB,Vn,Vn]; rfl
theorem yC (x : Nat) (h : x ≤ 65535) : ((Vector.replicate 16 (0 : UInt8)).setIfInBounds 0 (ZE (x : Int))).setIfInBounds 1 (ZE (Tc (x : Int) 8)) = vf 16 (QY x):=by
 have e2 : Tc (x : Int) 8 = ((x / 256 : Nat) : Int):=by
  have:=A5 x 8 (by omega)
  rw [Nat.shiftRight_eq_div_pow] at this
  exact this
 rw [e2,X2,X2,UB,Vn,Vn]; rfl
def K3 (c : GCipher) (k : Nat → UInt8) (x : Nat) : Int :=
 wr (bI (T2 c k (QY x) c.Rounds.toNat 0) + wr (256 * bI (T2 c k (QY x) c.Rounds.toNat 1)))
theorem H9 (c : GCipher) (h : ZU c = true) (k : Nat → UInt8) (x : Nat) (hx : x ≤ 65535) : W0 c (vf 16 k) (x : Int) = some (K3 c k x):=by
 unfold W0 K3
 have x0 : ∀ g : Nat → UInt8,ZI (vf 16 g) (0 : Int) = some (g 0):=fun g=>ZW g (show 0 < 16 by omega)
 have x1 : ∀ g : Nat → UInt8,ZI (vf 16 g) (1 : Int) = some (g 1):=fun g=>ZW g (show 1 < 16 by omega)
 rw [yr x hx,V2 c h,Option.bind_some,x0,Option.bind_some,x1,Option.bind_some]
def KU (c : GCipher) (k : Nat → UInt8) : Gkeyed:=⟨⟨YF c⟩,X3 c.Box k c.Rounds.toNat⟩
theorem Bg (c : GCipher) (h : ZU c = true) (k : Nat → UInt8) : W2 c (vf 16 k) = some (KU c k):=by
 have hr:=VV h
 obtain ⟨n,hn⟩ : ∃ n : Nat,c.Rounds = n:=⟨c.Rounds.toNat,by omega⟩
 have hk:=zB ⟨YF c⟩ k n (by omega)
 have e2 : (YF c).box = c.Box:=rfl
 rw [e2] at hk
 unfold W2 KU
 rw [hn]
 simp only [Kh c h,Option.bind_some,hk,Int.toNat_natCast]
theorem J8 (c : GCipher) (h : ZU c = true) (k f : Nat → UInt8) : XE (KU c k) (vf 16 f) = some (vf 16 (T2 c k f c.Rounds.toNat)):=by
 have hr:=VV h
 unfold XE KU
 simp only [Kb c h k f c.Rounds.toNat (by omega),Option.bind_some]
theorem KL (c : GCipher) (h : ZU c = true) (k : Nat → UInt8) (x : Nat) (hx : x ≤ 65535) : XP (KU c k) (x : Int) = some (K3 c k x):=by
 unfold XP K3
 have x0 : ∀ g : Nat → UInt8,ZI (vf 16 g) (0 : Int) = some (g 0):=fun g=>ZW g (show 0 < 16 by omega)
 have x1 : ∀ g : Nat → UInt8,ZI (vf 16 g) (1 : Int) = some (g 1):=fun g=>ZW g (show 1 < 16 by omega)
 rw [yC x hx,J8 c h,Option.bind_some,x0,Option.bind_some,x1,Option.bind_some]
def Qr (c : GCipher) (k : Blk) (x : Int) : Int × Int:=if XZ c x != 0 then (0,XZ c x) else (K3 c (bf k) x.toNat,0)
theorem KX {c : GCipher} {x : Int} (h : XZ c x = 0) : ZU c = true ∧ ∃ n : Nat,x = n ∧ n ≤ 65535:=by
 unfold XZ at h
 split at h
 ·rename_i hc
  split at h
  ·rename_i hx
   simp only [decide_eq_true_eq] at hx
   exact ⟨hc,x.toNat,by omega,by omega⟩
  ·cases h
 ·cases h
theorem Hv (c : GCipher) (k : Blk) (x : Int) : VT c k x = some (Qr c k x):=by
 unfold VT Qr
 simp only [B1,Option.bind_some]
 by_cases h0 : XZ c x = 0
 ·obtain ⟨hc,n,rfl,hn⟩:=KX h0
  have:=H9 c hc (bf k) n hn
  rw [← KK] at this
  simp [h0,this]
 ·have : (XZ c x != 0) = true:=by simpa using h0
  simp [this]
theorem QQ (c : GCipher) (k : Blk) (x : Int) : Xx c k x = some (Qr c k x):=by
 unfold Xx Qr
 simp only [HX,Option.bind_some]
 by_cases h0 : XZ c x = 0
 ·obtain ⟨hc,n,rfl,hn⟩:=KX h0
  have:=Bg c hc (bf k)
  rw [← KK] at this
  simp [h0,this,KL c hc (bf k) n hn]
 ·have : (XZ c x != 0) = true:=by simpa using h0
  simp [this]
def tab (n : Nat) (f : Nat → UInt8) : List UInt8:=(List.range n).map f
@[simp] theorem tab_len (n : Nat) (f : Nat → UInt8) : (tab n f).length = n:=by simp [tab]
def JY (k : Nat) (b : UInt8) : UInt8:=shlB b (k : Int) ||| As b ((8 - k : Nat) : Int)
def Bo (k : Nat) (b : UInt8) : UInt8:=ZE (andI (orI (Ka (bI b) (k : Int)) (Tc (Ka (bI b) (k : Int)) 8)) 255)
theorem Bh {p : UInt8 → Bool} (h : ((List.range 256).all fun n=>p (UInt8.ofNat n)) = true) (b : UInt8) : p b = true:=by
 have:=List.all_eq_true.1 h b.toNat (by simpa using UInt8.toNat_lt b)
 simpa using this
theorem turn0 (b : UInt8) : Bo 0 b = b:=by
 have:=Bh (p:=fun b=>Bo 0 b == b) (by decide +kernel) b
 simpa using this
theorem turn1 (b : UInt8) : Bo 1 b = JY 1 b:=by
 have:=Bh (p:=fun b=>Bo 1 b == JY 1 b) (by decide +kernel) b
 simpa using this
theorem turn4 (b : UInt8) : Bo 4 b = JY 4 b:=by
 have:=Bh (p:=fun b=>Bo 4 b == JY 4 b) (by decide +kernel) b
 simpa using this
theorem B4 (b : UInt8) (k : Nat) (h : k < 64) : X7 b (k : Int) = some (Bo k b):=by
 have e1 : IntKind.u64.wrap (k : Int) = (k : Int):=zn k (by omega)
 unfold X7
 rw [e1]
 have e2 : Wp (k : Int) = some ():=by unfold Wp; rw [if_pos (by omega)]
 rw [e2]; rfl
def zJ (x : UInt8) : UInt8:=((V6 285 x ^^^ JY 1 (V6 285 x)) ^^^ JY 4 (V6 285 x)) ^^^ 90
def y5 (n : Int) : GCipher:=⟨285,vf 256 fun x=>zJ (UInt8.ofNat x),mf fun i j=>V6 285 (UInt8.ofNat (i ^^^ (4 + j))),vf 16 fun i=>UInt8.ofNat ((13 * i + 4) % 16),n⟩
theorem zr {i : Nat} (h : i < 256) : decide ((i : Int) < 256) = true:=by simp; omega
theorem Aj (L : Vector UInt8 256 × Int → Option (Fl (Vector UInt8 256 × Int) (Vector UInt8 256))) (h : Nat → UInt8) (hL : ∀ i : Nat,i < 256 → ∀ a : Nat → UInt8,L (vf 256 a,(i : Int)) = some (.nx ((vf 256 a).setIfInBounds i (h i),wr ((i : Int) + 1))))
  (he : ∀ v,L (v,256) = some (.ex v)) : ZQ L (Vector.replicate 256 0,0) = some (vf 256 h):=by
 rw [UB]
 exact WB L (fun _=>0) h (by omega) 0 (by omega) (fun j hj=>by omega) (fun i _ hi a _ _=>hL i hi a) he
theorem jf (E : UInt8 → Option UInt8) (hE : ∀ a,E a = some (V6 285 a)) (L1 : Mat × Int → Mat × Int → Option (Fl (Mat × Int) Mat)) (L0 : Mat × Int → Option (Fl (Mat × Int) Mat))
  (h1 : ∀ s t,L1 s t = if (decide (t.2 < 4)) = true then ((E (ZE (KE s.2 (wr (4 + t.2))))).bind fun r=>(ZI t.1 s.2).bind fun x=>(ZI x t.2).bind fun _=>some (Fl.nx ((t.1.setIfInBounds (s.2).toNat (x.setIfInBounds (t.2).toNat r)),wr (t.2 + 1)))) else (some (Fl.ex t.1)))
  (h0 : ∀ s,L0 s = if (decide (s.2 < 4)) = true then ((ZQ (L1 s) (s.1,0) : Option Mat).bind fun j=>some (Fl.nx (j,wr (s.2 + 1)))) else (some (Fl.ex s.1))) :
  ZQ L0 (Vector.replicate 4 (Vector.replicate 4 (0 : UInt8)),0) = some (mf fun i j=>V6 285 (UInt8.ofNat (i ^^^ (4 + j)))):=by
 have inner : ∀ (i : Nat) (hi : i < 4) (g : MF),ZQ (L1 (mf g,(i : Int))) (mf g,0) = some (mf fun r c=>if r = i then V6 285 (UInt8.ofNat (i ^^^ (4 + c))) else g r c):=by
  intro i hi g
  have:=Ya (f:=L1 (mf g,(i : Int))) (fun j : Nat=>(mf fun r c=>if r = i ∧ c < j then V6 285 (UInt8.ofNat (i ^^^ (4 + c))) else g r c,(j : Int))) 0 4 (by omega) (t:=mf fun r c=>if r = i then V6 285 (UInt8.ofNat (i ^^^ (4 + c))) else g r c) (fun j _ hj=>by
   have e1 : wr (4 + (j : Int)) = ((4 + j : Nat) : Int):=by rw [YT (by omega)]; omega
   rw [h1]
   simp only [lt4 hj,if_true,e1,Qo i (4 + j) (by omega) (by omega),X2,hE,Option.bind_some,X0 _ hi,ZW _ hj,Int.toNat_natCast,Vn,QF,wr4 (show j < 1000 by omega)]
   refine congrArg (fun z=>some (Fl.nx (z,((j + 1 : Nat) : Int)))) (XQ fun r _ c _=>?_)
   by_cases hr : r = i
   ·subst hr
    by_cases hc : c = j
    ·subst hc; simp
    ·by_cases hc2 : c < j
     ·simp [hc,hc2,show c < j + 1 by omega]
     ·simp [hc,hc2,show ¬ c < j + 1 by omega]
   ·simp [hr]) (by
   rw [h1]
   simp only [show decide (((4 : Nat) : Int) < 4) = false from rfl,Bool.false_eq_true,if_false]
   refine congrArg (fun z=>some (Fl.ex z)) (XQ fun r _ c hc=>?_)
   by_cases hr : r = i <;> simp [hr,hc])
  have e0 : (mf fun r c=>if r = i ∧ c < 0 then V6 285 (UInt8.ofNat (i ^^^ (4 + c))) else g r c) = mf g:=XQ fun r _ c _=>by simp
  simp only [e0] at this
  exact this
 have:=Ya (f:=L0) (fun i : Nat=>(mf fun r c=>if r < i then V6 285 (UInt8.ofNat (r ^^^ (4 + c))) else 0,(i : Int))) 0 4 (by omega) (t:=mf fun i j=>V6 285 (UInt8.ofNat (i ^^^ (4 + j)))) (fun i _ hi=>by
  rw [h0]
  simp only [lt4 hi,if_true,inner i hi,Option.bind_some,wr4 (show i < 1000 by omega)]
  refine congrArg (fun z=>some (Fl.nx (z,((i + 1 : Nat) : Int)))) (XQ fun r _ c _=>?_)
  by_cases hr : r = i
  ·subst hr; simp
  ·by_cases hc2 : r < i
   ·simp [hr,hc2,show r < i + 1 by omega]
   ·simp [hr,hc2,show ¬ r < i + 1 by omega]) (by
  rw [h0]
  simp only [show decide (((4 : Nat) : Int) < 4) = false from rfl,Bool.false_eq_true,if_false]
  exact congrArg (fun z=>some (Fl.ex z)) (XQ fun r hr c hc=>by simp [hr]))
 have e0 : (mf fun r c=>if r < 0 then V6 285 (UInt8.ofNat (r ^^^ (4 + c))) else 0) = mf fun _ _=>0:=XQ fun r _ c _=>by simp
 simp only [e0] at this
 rw [HC]
 exact this
theorem zC (L : Blk × Int → Option (Fl (Blk × Int) Blk))
  (hL : ∀ s,L s = if (decide (s.2 < 16)) = true then ((ZI s.1 s.2).bind fun _=>some (Fl.nx ((s.1.setIfInBounds (s.2).toNat (ZE (Int.tmod (wr ((wr (13 * s.2)) + 4)) 16))),wr (s.2 + 1)))) else (some (Fl.ex s.1))) :
  ZQ L (Vector.replicate 16 0,0) = some (vf 16 fun i=>UInt8.ofNat ((13 * i + 4) % 16)):=by
 rw [UB]
 exact WB L (fun _=>0) (fun i=>UInt8.ofNat ((13 * i + 4) % 16)) (by omega) 0 (by omega) (fun j hj=>by omega) (fun i _ hi a _ _=>by
  have e1 : wr (13 * (i : Int)) = 13 * (i : Int):=YT (by omega)
  have e2 : wr (13 * (i : Int) + 4) = ((13 * i + 4 : Nat) : Int):=by rw [YT (by omega)]; omega
  have e3 : Int.tmod ((13 * i + 4 : Nat) : Int) 16 = (((13 * i + 4) % 16 : Nat) : Int):=by rw [Int.tmod_eq_emod_of_nonneg (by omega)]; omega
  rw [hL]
  simp only [K1 hi,if_true,ZW _ hi,Option.bind_some,e1,e2,e3,X2,Int.toNat_natCast]) (fun v=>by rw [hL]; simp)
theorem jm (L : UInt8 × UInt8 × Int → Option (Fl (UInt8 × UInt8 × Int) UInt8)) (T : UInt8 → UInt8 → Option UInt8) (hT : ∀ a b,T a b = some (ZO 285 a b))
  (hL : ∀ s,L s = if (decide (s.2.2 > 0)) = true then (((if ((Int.tmod s.2.2 2) == 1) = true then ((T s.1 s.2.1).bind fun r=>some r) else (some s.1) : Option UInt8).bind fun j24=>(T s.2.1 s.2.1).bind fun r32=>some (j24,r32) : Option (UInt8 × UInt8)).bind fun j21=>some (Fl.nx (j21.1,j21.2,wr (Int.tdiv s.2.2 2)))) else (some (Fl.ex s.1))) :
  ∀ (f k : Nat) (a o : UInt8),k < 2 ^ f → f ≤ 62 → ZQ L (o,a,(k : Int)) = some (Ql 285 f a k o):=by
 intro f
 induction f with
 | zero =>
  intro k a o hk _
  have : k = 0:=by simpa using hk
  subst this
  exact Y1 (by rw [hL]; simp [Ql])
 | succ f ih =>
  intro k a o hk hf
  by_cases h0 : k = 0
  ·subst h0
   exact Y1 (by rw [hL]; simp [Ql])
  ·have hlt : k < 9223372036854775808:=Nat.lt_of_lt_of_le hk (Nat.pow_le_pow_right (by omega : 0 < 2) (by omega : f + 1 ≤ 63))
   have hst : L (o,a,(k : Int)) = some (.nx (if k % 2 = 1 then ZO 285 o a else o,ZO 285 a a,((k / 2 : Nat) : Int))):=by
    rw [hL]
    have c1 : (k : Int) > 0:=by omega
    have e3 : ((((k % 2 : Nat) : Int)) == 1) = decide (k % 2 = 1):=by
     rw [Bool.eq_iff_iff,beq_iff_eq,decide_eq_true_eq]; omega
    simp only [c1,decide_true,if_true,y3,zP,hT,e3,Option.bind_some,BS (k / 2) (by omega)]
    by_cases c2 : k % 2 = 1 <;> simp [c2]
   rw [Wg hst,ih (k / 2) _ _ (by rw [Nat.pow_succ] at hk; omega) (by omega)]
   conv=>rhs; unfold Ql
   rw [if_neg h0]
theorem zK : Y3 285 254 = some (vf 256 fun x=>V6 285 (UInt8.ofNat x)):=by
 have hp:=jm (YG 285) (Yd 285) (UM 285 (by omega) (by omega)) (fun s=>by unfold YG; rfl)
 have hp2 : ∀ a,ZQ (YG 285) (1,a,254) = some (V6 285 a):=fun a=>hp 8 254 a 1 (by omega) (by omega)
 have h1:=Aj (Xb 285 254) (fun x=>V6 285 (UInt8.ofNat x)) (fun i hi a=>by
  unfold Xb
  simp only [zr hi,if_true,X2,hp2,Option.bind_some,ZW _ hi,Int.toNat_natCast]) (fun v=>by unfold Xb; simp)
 unfold Y3
 simp only [h1,Option.bind_some]
def rots (x : UInt8) : UInt8:=((90 ^^^ x) ^^^ JY 1 x) ^^^ JY 4 x
theorem H7 : Yt ([0,1,4] : List Int) 90 = some (vf 256 fun x=>rots (UInt8.ofNat x)):=by
 have t0 : ∀ b,X7 b 0 = some b:=fun b=>by have:=B4 b 0 (by omega); rw [turn0] at this; exact this
 have t1 : ∀ b,X7 b 1 = some (JY 1 b):=fun b=>by have:=B4 b 1 (by omega); rw [turn1] at this; exact this
 have t4 : ∀ b,X7 b 4 = some (JY 4 b):=fun b=>by have:=B4 b 4 (by omega); rw [turn4] at this; exact this
 have w1 : wr 1 = 1:=by decide
 have w2 : wr 2 = 2:=by decide
 have w3 : wr 3 = 3:=by decide
 have hin : ∀ (s : Vector UInt8 256 × Int),ZQ (Z4 [0,1,4] s) (90,0) = some (rots (ZE s.2)):=by
  intro s
  rw [Wg (f:=Z4 [0,1,4] s) (s:=(90,0)) (s':=(90 ^^^ ZE s.2,1)) (by unfold Z4; simp [t0,w1,idx])]
  rw [Wg (f:=Z4 [0,1,4] s) (s':=((90 ^^^ ZE s.2) ^^^ JY 1 (ZE s.2),2)) (by unfold Z4; simp [t1,w2,idx])]
  rw [Wg (f:=Z4 [0,1,4] s) (s':=(((90 ^^^ ZE s.2) ^^^ JY 1 (ZE s.2)) ^^^ JY 4 (ZE s.2),3)) (by unfold Z4; simp [t4,w3,idx])]
  exact Y1 (by unfold Z4; simp; rfl)
 have h1:=Aj (YA [0,1,4] 90) (fun x=>rots (UInt8.ofNat x)) (fun i hi a=>by
  unfold YA
  simp only [zr hi,if_true,hin,X2,Option.bind_some,ZW _ hi,Int.toNat_natCast]) (fun v=>by unfold YA; simp)
 unfold Yt
 simp only [h1,Option.bind_some]
theorem yi (f g : Nat → UInt8) : Wd (vf 256 f) (vf 256 g) = some (vf 256 fun x=>g (f x).toNat):=by
 have hv : ∀ x : UInt8,ZI (vf 256 g) (bI x) = some (g x.toNat):=fun x=>ZW g (UInt8.toNat_lt x)
 have h1:=Aj (Xw (vf 256 f) (vf 256 g)) (fun x=>g (f x).toNat) (fun i hi a=>by
  unfold Xw
  simp only [zr hi,if_true,Option.bind_some,ZW _ hi,hv,Int.toNat_natCast]) (fun v=>by unfold Xw; simp)
 unfold Wd
 simp only [h1,Option.bind_some]
theorem zo (x : UInt8) : rots (UInt8.ofNat (V6 285 x).toNat) = zJ x:=by
 rw [UInt8.ofNat_toNat]
 unfold rots zJ
 ac_rfl
theorem HL (n : Int) : WW n = some (y5 n):=by
 have hinv : ∀ a,Wv 285 a = some (V6 285 a):=fun a=>AR 285 (by omega) (by omega) a
 have h2:=jf (Wv 285) hinv Uu Us (fun s t=>by unfold Uu; rfl) (fun s=>by unfold Us; rfl)
 have h3:=zC Uq (fun s=>by unfold Uq; rfl)
 unfold WW y5
 simp only [zK,H7,yi,zo,h2,h3,Option.bind_some]

theorem BK {κ α : Type} [DecidableEq κ] (k k' : κ) (x : α) : ∀ m : List (κ × α),WN (U2 m k x) k' = if k = k' then some x else WN m k'
 | []=>by simp [U2,WN]
 | p :: m=>by
  by_cases h : p.1 = k
  ·by_cases h2 : k = k'
   ·simp [U2,WN,h,h2]
   ·have : ¬ p.1 = k':=fun e=>h2 (h.symm.trans e)
    simp [U2,WN,h,h2]
  ·have ih:=BK k k' x m
   by_cases h2 : p.1 = k'
   ·have h3 : ¬ k = k':=fun e=>h (h2.trans e.symm)
    rw [U2,if_neg h,WN,if_pos h2,if_neg h3,WN,if_pos h2]
   ·simp only [U2,WN,h,h2,if_false,ih]
def Z5 (c : GCipher) (k : Nat → UInt8) (x : Nat) : Nat:=(T2 c k (QY x) c.Rounds.toNat 0).toNat + 256 * (T2 c k (QY x) c.Rounds.toNat 1).toNat
theorem yD (c : GCipher) (k : Nat → UInt8) (x : Nat) : Z5 c k x < 65536:=by
 unfold Z5
 have h1:=(T2 c k (QY x) c.Rounds.toNat 0).toNat_lt
 have h2:=(T2 c k (QY x) c.Rounds.toNat 1).toNat_lt
 omega
theorem HR (c : GCipher) (k : Nat → UInt8) (x : Nat) : K3 c k x = (Z5 c k x : Int):=by
 unfold K3 Z5
 have h1:=(T2 c k (QY x) c.Rounds.toNat 0).toNat_lt
 have h2:=(T2 c k (QY x) c.Rounds.toNat 1).toNat_lt
 generalize T2 c k (QY x) c.Rounds.toNat 0 = a at *
 generalize T2 c k (QY x) c.Rounds.toNat 1 = b at *
 have e1 : wr (256 * bI b) = 256 * (b.toNat : Int):=YT (by show _ ≤ 256 * (b.toNat : Int) ∧ 256 * (b.toNat : Int) ≤ _; omega)
 have e2 : wr (bI a + 256 * (b.toNat : Int)) = (a.toNat : Int) + 256 * (b.toNat : Int):=YT (by show _ ≤ (a.toNat : Int) + _ ∧ (a.toNat : Int) + _ ≤ _; omega)
 rw [e1,e2]
 omega
theorem HF (p : Blk) : ∀ k,k ≤ 16 → ∀ i,i < 16 → (bf (Vw 16 p k) i).toNat < 16
 | 0,_,i,hi=>by
  have : bf (Vw 16 p 0) i = 0:=by
   unfold bf Vw
   rw [Vector.getElem?_replicate,if_pos hi]; rfl
  rw [this]; decide
 | k + 1,hk,i,hi=>by
  have ih:=HF p k (by omega) i hi
  have hb : (ZE (k : Int)).toNat < 16:=by
   rw [X2]
   simp only [UInt8.toNat_ofNat']
   omega
  unfold bf at ih ⊢
  rw [Vw,Vector.getElem?_setIfInBounds]
  split
  ·rw [if_pos (by omega)]; exact hb
  ·exact ih
theorem zH (p : Blk) (hp : ∀ i,i < 16 → (bf p i).toNat < 16) (f : Nat → UInt8) : Wb p (vf 16 f) = some (vf 16 (V5 p f)):=by
 unfold Wb
 have:=WB (YP p (vf 16 f)) (fun _=>0) (V5 p f) (by omega) 0 (by omega) (fun j hj=>by omega) (fun i _ hi a _ ha=>by
  unfold YP
  simp only [K1 hi,if_true,ZW _ hi,TO _ hi,Option.bind_some,Int.toNat_natCast,JA f (hp i hi),V5]) (fun v=>by unfold YP; simp)
 have h2 : ZQ (YP p (vf 16 f)) (vf 16 (fun _=>0),0) = _:=this
 rw [UB 16 (0 : UInt8),h2]; rfl
theorem yd (p : Blk) (hp : ∀ i,i < 16 → (bf p i).toNat < 16) (f : Nat → UInt8) : YL p (vf 16 f) = some (vf 16 (V5 p f)):=by
 unfold YL
 have:=WB (Yf p (vf 16 f)) (fun _=>0) (V5 p f) (by omega) 0 (by omega) (fun j hj=>by omega) (fun i _ hi a _ ha=>by
  unfold Yf
  simp only [K1 hi,if_true,ZW _ hi,TO _ hi,Option.bind_some,Int.toNat_natCast,JA f (hp i hi),V5]) (fun v=>by unfold Yf; simp)
 have h2 : ZQ (Yf p (vf 16 f)) (vf 16 (fun _=>0),0) = _:=this
 rw [UB 16 (0 : UInt8),h2]; rfl
theorem yG (p : Blk) (hp : X1 p = true) : Uh p = some (Vw 16 p 16):=by
 unfold Uh
 have:=Ya (f:=WT p) (fun i : Nat=>(Vw 16 p i,(i : Int))) 0 16 (by omega) (t:=Vw 16 p 16) (fun i _ hi=>by
  unfold WT
  have hlt:=TV hp hi
  have hv : ZI (Vw 16 p i) (bI (bf p i)) = some (bf (Vw 16 p i) (bf p i).toNat):=TO _ hlt
  simp only [K1 hi,if_true,TO p hi,hv,Option.bind_some,TZ,Xi (show i < 9223372036854775807 by omega)]
  rw [← Kz p hi]
  rfl) (by unfold WT; simp)
 have h2 : ZQ (WT p) (Vector.replicate 16 0,0) = _:=this
 rw [h2]; rfl
theorem BL (p : Blk) (hp : X1 p = true) (f : Nat → UInt8) : Un p (vf 16 f) = some (vf 16 (V5 (Vw 16 p 16) f)):=by
 unfold Un
 simp only [yG p hp,Option.bind_some,zH _ (HF p 16 (Nat.le_refl _))]
def Tx (c : GCipher) (n r : Nat) (k f : Nat → UInt8) : Nat → UInt8 :=
 Qc (Vw 256 c.Box 256) (V5 (Vw 16 c.Places 16) (if r < n then Vf c.Field.toNat (V0 (KJ c.Field.toNat c.Mix)) (Kn f k) else Kn f k))
def Jo (c : GCipher) (k f : Nat → UInt8) (n : Nat) : Nat → Nat → UInt8
 | 0=>f
 | i + 1=>Tx c n (n - i) (K2 c.Box k (n - i)) (Jo c k f n i)
def AQ (c : GCipher) (k f : Nat → UInt8) (n : Nat) : Nat → UInt8:=Kn (Jo c k f n n) k
theorem By (c : GCipher) (h : ZU c = true) (k f : Nat → UInt8) (n : Nat) (hn : n ≤ 1000) : XS c (vf 16 k) (vf 16 f) (n : Int) = some (vf 16 (AQ c k f n)):=by
 obtain ⟨m,hm,h1,h2⟩:=TS h
 have e : c.Field.toNat = m:=by omega
 have hp:=VU h
 unfold XS
 have i0 : idx (X3 c.Box k n) (0 : Int) = some (vf 16 k):=Tv c.Box k (Nat.zero_le n)
 simp only [B0 c k n hn,Option.bind_some,i0,B9,hm,QC m h2 h1]
 have:=Ya (f:=Xr c (n : Int) (X3 c.Box k n) (Vw 256 c.Box 256) (KJ m c.Mix,HI m c.Mix != 0)) (fun i : Nat=>(vf 16 (Jo c k f n i),((n - i : Nat) : Int))) 0 n (by omega) (t:=vf 16 (Jo c k f n n)) (fun i _ hi=>by
  unfold Xr
  have e1 : decide (((n - i : Nat) : Int) ≥ 1) = true:=by simp only [decide_eq_true_eq]; omega
  have YS:=A4 m h2 h1 (V0 (KJ m c.Mix)) (Kn (Jo c k f n i) (K2 c.Box k (n - i)))
  rw [← KB] at YS
  have e3 : wr (((n - i : Nat) : Int) - 1) = ((n - (i + 1) : Nat) : Int):=by rw [YT (by omega)]; omega
  simp only [e1,if_true,Tv c.Box k (show n - i ≤ n by omega),Kg,Option.bind_some,hm,YS,e3]
  by_cases hr : n - i < n
  ·have e2 : decide (((n - i : Nat) : Int) < (n : Int)) = true:=by simp only [decide_eq_true_eq]; omega
   simp only [e2,if_true,Option.bind_some,BL c.Places hp,K7,Jo,Tx,hr,e]
  ·have e2 : decide (((n - i : Nat) : Int) < (n : Int)) = false:=by simp only [decide_eq_false_iff_not]; omega
   simp only [e2,Bool.false_eq_true,if_false,Option.bind_some,BL c.Places hp,K7,Jo,Tx,hr]) (by
  unfold Xr
  have e1 : decide (((n - n : Nat) : Int) ≥ 1) = false:=by simp only [decide_eq_false_iff_not]; omega
  simp only [e1,Bool.false_eq_true,if_false])
 have h3 : ZQ (Xr c (n : Int) (X3 c.Box k n) (Vw 256 c.Box 256) (KJ m c.Mix,HI m c.Mix != 0)) (vf 16 f,(n : Int)) = _:=this
 rw [h3]
 simp only [Option.bind_some,Kg,AQ]
theorem H8 (e : Ref Gengine) (f : Nat → UInt8) : ZQ (Yo e (vf 16 f)) (vf 16 f,0) = some (vf 16 (Qc e.v.backBox f)):=by
 have:=WB (Yo e (vf 16 f)) f (Qc e.v.backBox f) (by omega) 0 (by omega) (fun j hj=>by omega) (fun i _ hi a _ ha=>by
  unfold Yo
  simp only [K1 hi,if_true,ZW _ hi,Option.bind_some,Int.toNat_natCast,Tq,Qc]) (fun v=>by unfold Yo; simp)
 exact this
theorem H2 (c : GCipher) (k f : Nat → UInt8) (n : Nat) (hn : n ≤ 1000) : Yu ⟨YF c⟩ (X3 c.Box k n) (vf 16 f) = some (vf 16 (AQ c k f n)):=by
 unfold Yu
 have i0 : idx (X3 c.Box k n) (0 : Int) = some (vf 16 k):=Tv c.Box k (Nat.zero_le n)
 have e3 : wr (((X3 c.Box k n).length : Int) - 1) = (n : Int):=by rw [Qt,YT (by omega)]; omega
 simp only [Option.bind_some,i0,e3]
 have:=Ya (f:=Yp ⟨YF c⟩ (X3 c.Box k n)) (fun i : Nat=>(vf 16 (Jo c k f n i),((n - i : Nat) : Int))) 0 n (by omega) (t:=vf 16 (Jo c k f n n)) (fun i _ hi=>by
  unfold Yp
  have e1 : decide (((n - i : Nat) : Int) > 0) = true:=by simp only [decide_eq_true_eq]; omega
  have YS:=v_mix c.Field.toNat (V0 (KJ c.Field.toNat c.Mix)) (Kn (Jo c k f n i) (K2 c.Box k (n - i)))
  have e4 : wr (((n - i : Nat) : Int) - 1) = ((n - (i + 1) : Nat) : Int):=by rw [YT (by omega)]; omega
  have hsl : ∀ g : Nat → UInt8,slc (vf 16 g).toList (0 : Int) (16 : Int) = some (vf 16 g).toList:=fun g=>by
   have:=Bt (l:=(vf 16 g).toList) (i:=0) (j:=16) (by omega) (by simp)
   simp only [List.drop_zero] at this
   rw [List.take_of_length_le (by simp)] at this
   exact this
  have q1 : (YF c).backBox = Vw 256 c.Box 256:=rfl
  have q2 : (YF c).backPlaces = Vw 16 c.Places 16:=rfl
  have q3 : (YF c).backMixer = ⟨J4 c.Field.toNat (V0 (KJ c.Field.toNat c.Mix))⟩:=rfl
  simp only [e1,if_true,Tv c.Box k (show n - i ≤ n by omega),Tu,Option.bind_some,e3,e4,q2,q3,hsl,YS]
  by_cases hr : n - i < n
  ·have e2 : decide (((n - i : Nat) : Int) < (n : Int)) = true:=by simp only [decide_eq_true_eq]; omega
   simp only [e2,if_true,Option.bind_some,yd _ (HF c.Places 16 (Nat.le_refl _)),H8,q1,Jo,Tx,hr]
  ·have e2 : decide (((n - i : Nat) : Int) < (n : Int)) = false:=by simp only [decide_eq_false_iff_not]; omega
   simp only [e2,Bool.false_eq_true,if_false,Option.bind_some,yd _ (HF c.Places 16 (Nat.le_refl _)),H8,q1,Jo,Tx,hr]) (by
  unfold Yp
  have e1 : decide (((n - n : Nat) : Int) > 0) = false:=by simp only [decide_eq_false_iff_not]; omega
  simp only [e1,Bool.false_eq_true,if_false])
 have h3 : ZQ (Yp ⟨YF c⟩ (X3 c.Box k n)) (vf 16 f,(n : Int)) = _:=this
 rw [h3]
 simp only [Option.bind_some,Tu,AQ]

theorem H0 {κ α : Type} [DecidableEq κ] (k k' : κ) (x : α) : ∀ m : List (κ × α),WN (U2 m k x) k' = if k = k' then some x else WN m k'
 | []=>by simp [U2,WN]
 | p :: m=>by
  by_cases h : p.1 = k
  ·by_cases h2 : k = k'
   ·simp [U2,WN,h,h2]
   ·have : ¬ p.1 = k':=fun e=>h2 (h.symm.trans e)
    simp [U2,WN,h,h2]
  ·have ih:=H0 k k' x m
   by_cases h2 : p.1 = k'
   ·have h3 : ¬ k = k':=fun e=>h (h2.trans e.symm)
    rw [U2,if_neg h,WN,if_pos h2,if_neg h3,WN,if_pos h2]
   ·simp only [U2,WN,h,h2,if_false,ih]
def pick {α : Type} (P : Nat → Bool) (F : Nat → α) (i : Nat) : List α:=((List.range i).filter P).map F
theorem J0 {α : Type} (P : Nat → Bool) (F : Nat → α) (i : Nat) : pick P F (i + 1) = pick P F i ++ (if P i then [F i] else []):=by
 unfold pick
 rw [List.range_succ,List.filter_append,List.map_append]
 cases h : P i <;> simp [h]
theorem Ks {α : Type} (P : Nat → Bool) (F : Nat → α) : ∀ i,(pick P F i).length ≤ i
 | 0=>by simp [pick]
 | i + 1=>by
  rw [J0,List.length_append]
  have:=Ks P F i
  cases P i <;> simp <;> omega
theorem y6 {α β : Type} (P : Nat → Bool) (F : Nat → α) (g : α → β) (i : Nat) : (pick P F i).map g = pick P (fun x=>g (F x)) i:=by
 unfold pick; rw [List.map_map]; rfl
def HJ (E D : Nat → Blk) (g : Nat) : List GMeeting:=pick (fun h=>decide (D h = E g)) (fun h=>(⟨(g : Int),(h : Int)⟩ : GMeeting)) 256
def Uk (E D : Nat → Blk) : Nat → List GMeeting
 | 0=>[]
 | g + 1=>Uk E D g ++ HJ E D g
theorem KC (E D : Nat → Blk) : ∀ g,(Uk E D g).length ≤ 256 * g
 | 0=>by simp [Uk]
 | g + 1=>by
  have h1:=KC E D g
  have h2 : (HJ E D g).length ≤ 256:=Ks _ _ 256
  rw [Uk,List.length_append]; omega
def Kd (c : GCipher) (a : Blk) (g : Nat) : Blk:=vf 16 (T2 c (Uc (g : Int)) (bf a) c.Rounds.toNat)
def US (c : GCipher) (b : Blk) (h : Nat) : Blk:=vf 16 (AQ c (Uc (h : Int)) (bf b) c.Rounds.toNat)
def Xu (c : GCipher) (a b : Blk) : List GMeeting × Int:=if ZU c then (Uk (Kd c a) (US c b) 256,0) else ([],1)
theorem yo (D E : Nat → Blk) (g : Nat) (acc : List GMeeting) (ha : acc.length ≤ 65536) (s : Int × List GMeeting) (hs : s.1 = (g : Int)) :
  ZQ (XI ((List.range 256).map D) s (E g)) (0,acc) = some (acc ++ HJ E D g):=by
 have:=Ya (f:=XI ((List.range 256).map D) s (E g)) (fun i : Nat=>((i : Int),acc ++ pick (fun h=>decide (D h = E g)) (fun h=>(⟨(g : Int),(h : Int)⟩ : GMeeting)) i)) 0 256 (by omega) (t:=acc ++ HJ E D g) (fun i _ hi=>by
  unfold XI
  have e1 : decide ((i : Int) < 256) = true:=by simp only [decide_eq_true_eq]; omega
  have e2 : ((List.range 256).map D)[i]? = some (D i):=by rw [List.getElem?_map,List.getElem?_range hi]; rfl
  have hl:=Ks (fun h=>decide (D h = E g)) (fun h=>(⟨(g : Int),(h : Int)⟩ : GMeeting)) i
  have e3 : app 16 (acc ++ pick (fun h=>decide (D h = E g)) (fun h=>(⟨(g : Int),(h : Int)⟩ : GMeeting)) i) [(⟨(g : Int),(i : Int)⟩ : GMeeting)] = _:=KY (by simp only [List.length_append,List.length_singleton]; omega)
  simp only [e1,if_true,VO,e2,Option.bind_some,hs,Xi (show i < 9223372036854775807 by omega),J0]
  cases h : decide (D i = E g)
  ·simp
  ·simp only [if_true,e3,Option.bind_some,List.append_assoc]) (by unfold XI; simp [HJ])
 simpa [pick] using this
theorem Jv (c : GCipher) (a b : Blk) : Ve c a b = some (Xu c a b):=by
 unfold Ve Xu
 rw [Ag]
 cases hc : ZU c
 ·rfl
 ·have hr:=VV hc
  obtain ⟨n,hn⟩ : ∃ n : Nat,c.Rounds = n:=⟨c.Rounds.toNat,by omega⟩
  have l0:=Ya (f:=XX c b) (fun i : Nat=>((i : Int),(List.range i).map (US c b))) 0 256 (by omega) (t:=(List.range 256).map (US c b)) (fun i _ hi=>by
   unfold XX
   have e1 : decide ((i : Int) < 256) = true:=by simp only [decide_eq_true_eq]; omega
   have e2:=By c hc (Uc (i : Int)) (bf b) n (by omega)
   rw [← KK,← hn] at e2
   have e4 : n = c.Rounds.toNat:=by omega
   rw [e4] at e2
   have e2 : XS c (vf 16 (Uc (i : Int))) b c.Rounds = some (US c b i):=e2
   have e3 : app 16 ((List.range i).map (US c b)) [US c b i] = _:=KY (by simp only [List.length_map,List.length_range,List.length_singleton]; omega)
   simp only [e1,if_true,Qi,e2,Option.bind_some,e3,Xi (show i < 9223372036854775807 by omega),List.range_succ,List.map_append,List.map_cons,List.map_nil]) (by unfold XX; simp)
  have l0' : ZQ (XX c b) (0,[]) = _:=l0
  have l1:=Ya (f:=XT c a ((List.range 256).map (US c b))) (fun i : Nat=>((i : Int),Uk (Kd c a) (US c b) i)) 0 256 (by omega) (t:=Uk (Kd c a) (US c b) 256) (fun i _ hi=>by
   unfold XT
   have e1 : decide ((i : Int) < 256) = true:=by simp only [decide_eq_true_eq]; omega
   have e2:=V2 c hc (Uc (i : Int)) (bf a)
   rw [← KK] at e2
   have e2 : Yk c (vf 16 (Uc (i : Int))) a c.Rounds = some (Kd c a i):=e2
   have hl:=KC (Kd c a) (US c b) i
   have e3:=yo (US c b) (Kd c a) i (Uk (Kd c a) (US c b) i) (by omega) ((i : Int),Uk (Kd c a) (US c b) i) rfl
   simp only [e1,if_true,Qi,e2,Option.bind_some,e3,Xi (show i < 9223372036854775807 by omega),Uk]) (by unfold XT; simp)
  have l1' : ZQ (XT c a ((List.range 256).map (US c b))) (0,[]) = _:=l1
  simp only [Option.bind_some,Bool.not_true,Bool.false_eq_true,if_false,l0',l1',if_true]
def mapM (D : Nat → Blk) : Nat → List (Blk × List Int)
 | 0=>[]
 | h + 1=>U2 (mapM D h) (D h) (((WN (mapM D h) (D h)).getD []) ++ [(h : Int)])
theorem Jm (D : Nat → Blk) (b : Blk) : ∀ h,(WN (mapM D h) b).getD [] = pick (fun x=>decide (D x = b)) (fun x=>(x : Int)) h
 | 0=>rfl
 | h + 1=>by
  rw [mapM,H0,J0]
  by_cases e : D h = b
  ·rw [if_pos e,e,Option.getD_some,Jm D b h]; simp
  ·rw [if_neg e,Jm D b h]; simp [e]
theorem yx (l : List Int) (g : Int) (acc : List GMeeting) (hl : acc.length + l.length ≤ 140737488355) (s : List GMeeting × Int) (hs : s.2 = g) :
  ZQ (XJ s (l,(l.length : Int),0)) (acc,0) = some (acc ++ l.map fun h=>(⟨g,h⟩ : GMeeting)):=by
 have:=Ya (f:=XJ s (l,(l.length : Int),0)) (fun i : Nat=>(acc ++ (l.take i).map (fun h=>(⟨g,h⟩ : GMeeting)),(i : Int))) 0 l.length (by omega) (t:=acc ++ l.map fun h=>(⟨g,h⟩ : GMeeting)) (fun i _ hi=>by
  unfold XJ
  have e3 : app 16 (acc ++ (l.take i).map (fun h=>(⟨g,h⟩ : GMeeting))) [(⟨g,l[i]⟩ : GMeeting)] = _:=KY (by simp only [List.length_append,List.length_map,List.length_take,List.length_singleton]; omega)
  have e4 : l.take (i + 1) = l.take i ++ [l[i]]:=List.take_succ_eq_append_getElem hi
  simp only [Int.ofNat_lt,hi,decide_true,if_true,VO,List.getElem?_eq_getElem hi,Option.bind_some,hs,e3,Xi (show i < 9223372036854775807 by omega),e4,List.map_append,List.map_cons,List.map_nil,List.append_assoc]) (by unfold XJ; simp)
 simpa using this
theorem Je (c : GCipher) (a b : Blk) : W9 c a b = some (Xu c a b):=by
 unfold W9 Xu
 rw [K5]
 cases hc : ZU c
 ·rfl
 ·have hr:=VV hc
  obtain ⟨n,hn⟩ : ∃ n : Nat,c.Rounds = n:=⟨c.Rounds.toNat,by omega⟩
  have e4 : n = c.Rounds.toNat:=by omega
  have q2 : (YF c).box = c.Box:=rfl
  have l0:=Ya (f:=XL c b ⟨YF c⟩) (fun i : Nat=>(mapM (US c b) i,(i : Int))) 0 256 (by omega) (t:=mapM (US c b) 256) (fun i _ hi=>by
   unfold XL Y2
   have e1 : decide ((i : Int) < 256) = true:=by simp only [decide_eq_true_eq]; omega
   have e0:=zB ⟨YF c⟩ (Uc (i : Int)) n (by omega)
   rw [← hn] at e0
   have e2:=H2 c (Uc (i : Int)) (bf b) n (by omega)
   rw [← KK,e4] at e2
   have e2 : Yu ⟨YF c⟩ (X3 c.Box (Uc (i : Int)) c.Rounds.toNat) b = some (US c b i):=e2
   rw [e4] at e0
   simp only [q2] at e0
   have hl:=Ks (fun x=>decide (US c b x = US c b i)) (fun x=>(x : Int)) i
   have e3 : app 8 ((WN (mapM (US c b) i) (US c b i)).getD []) [(i : Int)] = _:=KY (by rw [Jm,List.length_singleton]; omega)
   simp only [e1,if_true,Qi,Option.bind_some,e0,e2,e3,Xi (show i < 9223372036854775807 by omega),mapM]) (by unfold XL; simp)
  have l0' : ZQ (XL c b ⟨YF c⟩) ([],0) = _:=l0
  have l1:=Ya (f:=XF a ⟨YF c⟩ (mapM (US c b) 256)) (fun i : Nat=>(Uk (Kd c a) (US c b) i,(i : Int))) 0 256 (by omega) (t:=Uk (Kd c a) (US c b) 256) (fun i _ hi=>by
   unfold XF Y2
   have e1 : decide ((i : Int) < 256) = true:=by simp only [decide_eq_true_eq]; omega
   have e2:=U5 c hc (Uc (i : Int)) (bf a)
   rw [← KK] at e2
   have e2 : Yi ⟨YF c⟩ (vf 16 (Uc (i : Int))) a = some (Kd c a i):=e2
   have hl:=KC (Kd c a) (US c b) i
   have hp:=Ks (fun x=>decide (US c b x = Kd c a i)) (fun x=>(x : Int)) 256
   have e3:=yx (pick (fun x=>decide (US c b x = Kd c a i)) (fun x=>(x : Int)) 256) (i : Int) (Uk (Kd c a) (US c b) i) (by omega) (Uk (Kd c a) (US c b) i,(i : Int)) rfl
   rw [y6] at e3
   simp only [e1,if_true,Qi,e2,Option.bind_some,Jm,e3,Xi (show i < 9223372036854775807 by omega),Uk,HJ]) (by unfold XF; simp)
  have l1' : ZQ (XF a ⟨YF c⟩ (mapM (US c b) 256)) ([],0) = _:=l1
  simp only [Option.bind_some,Bool.not_true,Bool.false_eq_true,if_false,Kh c hc,l0',l1',if_true]
theorem BF (c : GCipher) (a b : Blk) : (Xu c a b).1.length ≤ 65536:=by
 unfold Xu
 split
 ·exact KC _ _ 256
 ·simp
def powP (m : Nat) : Nat → Nat → Nat → Nat → Nat
 | 0,_,_,o=>o
 | f + 1,a,k,o=>if k = 0 then o else powP m f (opP m 8 a a) (k / 2) (if k % 2 = 1 then opP m 8 a o else o)
theorem yc {m : Nat} (h1 : 256 ≤ m) (h2 : m < 512) : ∀ (f k : Nat) (a o : UInt8),(Ql m f a k o).toNat = powP m f a.toNat k o.toNat
 | 0,_,_,_=>rfl
 | f + 1,k,a,o=>by
  unfold Ql powP
  by_cases h : k = 0
  ·rw [if_pos h,if_pos h]
  ·rw [if_neg h,if_neg h,yc h1 h2 f,XV m h1 h2]
   by_cases hk : k % 2 = 1
   ·rw [if_pos hk,if_pos hk,XV m h1 h2]
   ·rw [if_neg hk,if_neg hk]
def AF (m g : Nat) : Nat → Nat → List Nat
 | 0,_=>[]
 | n + 1,x=>x :: AF m g n (opP m 8 g x)
def orP (l : List Nat) (acc : Nat) : Nat:=l.foldl (fun acc p=>acc ||| (1 <<< p)) acc
def jq (m g : Nat) : Bool:=opP m 8 (powP m 8 g 254 1) g == 1 && decide (g < 256) && orP (AF m g 255 1) 0 == 2 ^ 256 - 2
def gens : List (Nat × Nat):=[(283,3),(285,2),(299,2),(301,2),(313,3),(319,3),(333,2),(351,2),(355,2),(357,2),(361,2),(369,2),(375,3),(379,9),(391,2),(395,6),(397,2),(415,3),(419,3),(425,2),(433,6),(445,7),(451,2),(463,2),(471,7),(477,6),(487,2),(499,6),(501,2),(505,3)]
theorem zi : (gens.all fun q=>jq q.1 q.2) = true:=by decide +kernel
theorem jo : ((List.range' 256 256).all fun m=>(List.range' 2 30).any (Jz m) || gens.any fun q=>q.1 == m) = true:=by decide +kernel
theorem jw : ((List.range' 1 255).all fun a=>(2 ^ 256 - 2).testBit a) = true:=by decide +kernel
theorem zT : ∀ (l : List Nat) (acc a : Nat),(orP l acc).testBit a = true → acc.testBit a = true ∨ a ∈ l
 | [],_,_,h=>.inl h
 | p :: l,acc,a,h=>by
  rcases zT l (acc ||| (1 <<< p)) a h with h | h
  ·rw [Nat.testBit_or,Nat.one_shiftLeft,Nat.testBit_two_pow,Bool.or_eq_true] at h
   rcases h with h | h
   ·exact .inl h
   ·exact .inr (by rw [← of_decide_eq_true h]; exact List.mem_cons_self)
  ·exact .inr (List.mem_cons_of_mem _ h)
theorem BJ {m : Nat} (h1 : 256 ≤ m) (h2 : m < 512) (g : UInt8) (hg : ZO m g (V6 m g) = 1) : ∀ (n : Nat) (x : UInt8),ZO m x (V6 m x) = 1 → ∀ y ∈ AF m g.toNat n x.toNat,∃ z : UInt8,y = z.toNat ∧ ZO m z (V6 m z) = 1
 | 0,_,_,_,hy=>by cases hy
 | n + 1,x,hx,y,hy=>by
  rw [AF] at hy
  rcases List.mem_cons.1 hy with rfl | hy
  ·exact ⟨x,rfl,hx⟩
  ·rw [← XV m h1 h2] at hy
   refine BJ h1 h2 g hg n (ZO m x g) ?_ y hy
   rw [yv h1 h2,QI h1 h2,hx,hg,Tm h1 h2]
theorem ym {m : Nat} (hf : YE (m : Int) = true) {a : UInt8} (ha : a ≠ 0) : ZO m a (V6 m a) = 1:=by
 obtain ⟨m',e,h1,h2⟩:=VB hf
 have e : m = m':=by omega
 subst e
 have h:=List.all_eq_true.1 jo m (List.mem_range'_1.2 (by omega))
 have hr : (List.range' 2 30).any (Jz m) = false:=by
  unfold YE at hf
  simp only [Bool.and_eq_true,Int.toNat_natCast] at hf
  simpa using hf.2
 rw [hr,Bool.false_or] at h
 obtain ⟨q,hq,hm⟩:=List.any_eq_true.1 h
 have hm : q.1 = m:=by simpa using hm
 have hc:=List.all_eq_true.1 zi q hq
 rw [hm] at hc
 unfold jq at hc
 simp only [Bool.and_eq_true,beq_iff_eq,decide_eq_true_eq] at hc
 obtain ⟨⟨c1,c2⟩,c3⟩:=hc
 have eg : (UInt8.ofNat q.2).toNat = q.2:=by simp only [UInt8.toNat_ofNat']; omega
 have hg : ZO m (UInt8.ofNat q.2) (V6 m (UInt8.ofNat q.2)) = 1:=by
  apply UInt8.toNat_inj.1
  rw [XV m h1 h2]
  unfold V6
  rw [yc h1 h2,eg]
  exact c1
 have ha0 : a.toNat ≠ 0:=fun e=>ha (UInt8.toNat_inj.1 (by rw [e]; rfl))
 have hlt:=a.toNat_lt
 have hb:=List.all_eq_true.1 jw a.toNat (List.mem_range'_1.2 (by omega))
 rw [← c3] at hb
 rcases zT _ _ _ hb with h | h
 ·simp at h
 ·have h : a.toNat ∈ AF m (UInt8.ofNat q.2).toNat 255 (1 : UInt8).toNat:=by rw [eg]; exact h
  obtain ⟨z,hz,hzg⟩:=BJ h1 h2 _ hg 255 1 (by rw [jI h1 h2,Tm h1 h2]) _ h
  have : a = z:=UInt8.toNat_inj.1 hz
  rw [this]; exact hzg

def Xz (m : Nat) (u x : Nat → UInt8) : UInt8:=((ZO m (u 0) (x 0) ^^^ ZO m (u 1) (x 1)) ^^^ ZO m (u 2) (x 2)) ^^^ ZO m (u 3) (x 3)
theorem HE (m : Nat) (a : MF) (f : Nat → UInt8) (c r : Nat) : rowF m a f c r = Xz m (a r) (fun j=>f (c + j)):=rfl
theorem Qm {m : Nat} {u u' x x' : Nat → UInt8} (h : ∀ j,j < 4 → u j = u' j) (hx : ∀ j,j < 4 → x j = x' j) : Xz m u x = Xz m u' x':=by
 unfold Xz
 rw [h 0 (by omega),h 1 (by omega),h 2 (by omega),h 3 (by omega),hx 0 (by omega),hx 1 (by omega),hx 2 (by omega),hx 3 (by omega)]
theorem jZ (a b c d p q r s : UInt8) : (((a ^^^ p) ^^^ (b ^^^ q)) ^^^ (c ^^^ r)) ^^^ (d ^^^ s) = (((a ^^^ b) ^^^ c) ^^^ d) ^^^ (((p ^^^ q) ^^^ r) ^^^ s):=by ac_rfl
theorem Kt (a b : UInt8) : (a ^^^ b) ^^^ b = a:=by rw [UInt8.xor_assoc,UInt8.xor_self,UInt8.xor_zero]
section
variable {m : Nat} (h1 : 256 ≤ m) (h2 : m < 512)
theorem HZ (f : MF) (i k r : Nat) (x : Nat → UInt8) : Xz m (Ui f i k r) x = if r = k then Xz m (f i) x else if r = i then Xz m (f k) x else Xz m (f r) x:=by
 by_cases h : r = k
 ·simp only [Xz,Ui,if_pos h]
 ·by_cases h' : r = i
  ·simp only [Xz,Ui,if_neg h,if_pos h']
  ·simp only [Xz,Ui,if_neg h,if_neg h']
include h1 h2
theorem J2 (f : MF) (k r : Nat) (q : UInt8) (x : Nat → UInt8) : Xz m (VZ m f k q r) x = if r = k then ZO m q (Xz m (f k) x) else Xz m (f r) x:=by
 by_cases h : r = k
 ·simp only [Xz,VZ,if_pos h]
  rw [UR h1 h2,UR h1 h2,UR h1 h2,Wn h1 h2 (f k 0) q,Wn h1 h2 (f k 1) q,Wn h1 h2 (f k 2) q,Wn h1 h2 (f k 3) q,
   Xf h1 h2,Xf h1 h2,Xf h1 h2,Xf h1 h2]
 ·simp only [Xz,VZ,if_neg h]
theorem Ba (A g : MF) (k r : Nat) (x : Nat → UInt8) : Xz m (Xh m A g k r) x = if r = k then Xz m (g k) x else Xz m (g r) x ^^^ ZO m (A r k) (Xz m (g k) x):=by
 by_cases h : r = k
 ·subst h; simp only [Xz,Xh,if_true]
 ·simp only [Xz,Xh,if_neg h]
  rw [UR h1 h2,UR h1 h2,UR h1 h2,Qh h1 h2,Qh h1 h2,Qh h1 h2,Qh h1 h2,
   Xf h1 h2,Xf h1 h2,Xf h1 h2,Xf h1 h2]
  exact jZ _ _ _ _ _ _ _ _
theorem Bj {u : Nat → UInt8} {r : Nat} (hr : r < 4) (hu : ∀ c,c < 4 → u c = Vg r c) (x : Nat → UInt8) : Xz m u x = x r:=by
 rw [Qm (u':=Vg r) (x':=x) hu (fun _ _=>rfl)]
 have : r = 0 ∨ r = 1 ∨ r = 2 ∨ r = 3:=by omega
 unfold Xz Vg
 rcases this with rfl | rfl | rfl | rfl <;> simp [Tm h1 h2,Tf h1 h2]
end
structure RedGood (m : Nat) (a A B : MF) (E : (Nat → UInt8) → Nat → UInt8) : Prop where
 p1 : ∀ x r,r < 4 → Xz m (B r) (fun i=>Xz m (a i) x) = Xz m (A r) x
 p2 : ∀ y r,r < 4 → E (fun i=>Xz m (B i) y) r = y r
 p3 : ∀ z z',(∀ i,i < 4 → z i = z' i) → ∀ r,r < 4 → E z r = E z' r
section
variable {m : Nat} (h1 : 256 ≤ m) (h2 : m < 512) {a A B : MF} {E : (Nat → UInt8) → Nat → UInt8}
theorem yH (h : RedGood m a A B E) {i k : Nat} (hi : i < 4) (hk : k < 4) : ∃ E',RedGood m a (Ui A i k) (Ui B i k) E':=by
 refine ⟨fun z=>E fun r=>if r = k then z i else if r = i then z k else z r,fun x r hr=>?_,fun y r hr=>?_,fun z z' hz r hr=>?_⟩
 ·rw [HZ,HZ]
  by_cases c1 : r = k
  ·rw [if_pos c1,if_pos c1,h.p1 x i hi]
  ·by_cases c2 : r = i
   ·rw [if_neg c1,if_neg c1,if_pos c2,if_pos c2,h.p1 x k hk]
   ·rw [if_neg c1,if_neg c1,if_neg c2,if_neg c2,h.p1 x r hr]
 ·have : (fun r=>if r = k then Xz m (Ui B i k i) y else if r = i then Xz m (Ui B i k k) y else Xz m (Ui B i k r) y) = fun r=>Xz m (B r) y:=by
   funext r
   simp only [HZ,if_true]
   by_cases c1 : r = k
   ·by_cases c3 : i = k
    ·simp [c1,c3]
    ·simp [c1,c3]
   ·by_cases c2 : r = i
    ·simp [c2]
     intro h'; simp [h']
    ·simp [c1,c2]
  show E _ r = y r
  rw [this]
  exact h.p2 y r hr
 ·refine h.p3 _ _ (fun j hj=>?_) r hr
  show (if j = k then z i else if j = i then z k else z j) = if j = k then z' i else if j = i then z' k else z' j
  rw [hz i hi,hz k hk,hz j hj]
include h1 h2
theorem za (h : RedGood m a A B E) {k : Nat} (hk : k < 4) {p q : UInt8} (hpq : ZO m p q = 1) : ∃ E',RedGood m a (VZ m A k q) (VZ m B k q) E':=by
 refine ⟨fun z=>E fun r=>if r = k then ZO m p (z k) else z r,fun x r hr=>?_,fun y r hr=>?_,fun z z' hz r hr=>?_⟩
 ·rw [J2 h1 h2,J2 h1 h2,h.p1 x k hk,h.p1 x r hr]
 ·have : (fun r=>if r = k then ZO m p (Xz m (VZ m B k q k) y) else Xz m (VZ m B k q r) y) = fun r=>Xz m (B r) y:=by
   funext r
   simp only [J2 h1 h2,if_true]
   by_cases c1 : r = k
   ·rw [if_pos c1,← Xf h1 h2,hpq,Tm h1 h2,c1]
   ·rw [if_neg c1,if_neg c1]
  show E _ r = y r
  rw [this]
  exact h.p2 y r hr
 ·refine h.p3 _ _ (fun j hj=>?_) r hr
  show (if j = k then ZO m p (z k) else z j) = if j = k then ZO m p (z' k) else z' j
  rw [hz k hk,hz j hj]
theorem yA (h : RedGood m a A B E) {k : Nat} (hk : k < 4) : ∃ E',RedGood m a (Xh m A A k) (Xh m A B k) E':=by
 refine ⟨fun z=>E fun r=>if r = k then z k else z r ^^^ ZO m (A r k) (z k),fun x r hr=>?_,fun y r hr=>?_,fun z z' hz r hr=>?_⟩
 ·rw [Ba h1 h2,Ba h1 h2,h.p1 x k hk,h.p1 x r hr]
 ·have : (fun r=>if r = k then Xz m (Xh m A B k k) y else Xz m (Xh m A B k r) y ^^^ ZO m (A r k) (Xz m (Xh m A B k k) y)) = fun r=>Xz m (B r) y:=by
   funext r
   simp only [Ba h1 h2,if_true]
   by_cases c1 : r = k
   ·rw [if_pos c1,c1]
   ·rw [if_neg c1,if_neg c1,Kt]
  show E _ r = y r
  rw [this]
  exact h.p2 y r hr
 ·refine h.p3 _ _ (fun j hj=>?_) r hr
  show (if j = k then z k else z j ^^^ ZO m (A j k) (z k)) = if j = k then z' k else z' j ^^^ ZO m (A j k) (z' k)
  rw [hz k hk,hz j hj]
end
def Aa (A : MF) (k : Nat) : Prop:=∀ r c,r < 4 → c < k → A r c = Vg r c
theorem yZ {f : MF} {k : Nat} (h : UH f k ≠ 4) : k ≤ UH f k ∧ UH f k < 4 ∧ f (UH f k) k ≠ 0:=by
 unfold UH at h ⊢
 cases hf : (List.range' k (4 - k)).find? fun i=>!(f i k == 0) with
 | none=>rw [hf] at h; exact absurd rfl h
 | some i =>
  have h3:=List.mem_range'_1.1 (List.mem_of_find?_eq_some hf)
  have h4:=List.find?_some hf
  simp only [Option.getD_some]
  exact ⟨by omega,by omega,by simpa using h4⟩
theorem AK {m : Nat} (hf : YE (m : Int) = true) {a : MF} {s s' : Red} {k : Nat} (hk : k < 4) {E : (Nat → UInt8) → Nat → UInt8} (hs : TP m s k = some s') (hg : RedGood m a s.a s.b E) (hc : Aa s.a k) :
  ∃ E',RedGood m a s'.a s'.b E' ∧ Aa s'.a (k + 1):=by
 obtain ⟨m',e,h1,h2⟩:=VB hf
 have e : m = m':=by omega
 subst e
 unfold TP at hs
 by_cases h4 : UH s.a k = 4
 ·simp [h4] at hs
 ·obtain ⟨q1,q2,q3⟩:=yZ h4
  simp only [h4,if_false] at hs
  have hs:=Option.some.inj hs
  generalize UH s.a k = i at *
  obtain ⟨E1,g1⟩:=yH hg q2 hk
  have hp : Ui s.a i k k k = s.a i k:=by simp [Ui]
  have hpq:=ym hf (a:=Ui s.a i k k k) (by rw [hp]; exact q3)
  obtain ⟨E2,g2⟩:=za h1 h2 g1 hk hpq
  obtain ⟨E3,g3⟩:=yA h1 h2 g2 hk
  subst hs
  refine ⟨E3,g3,fun r c hr hcl=>?_⟩
  have z1 : ∀ r c,r < 4 → c < k → Ui s.a i k r c = Vg r c:=fun r c hr hcl=>by
   unfold Ui
   by_cases c1 : r = k
   ·rw [if_pos c1,hc i c q2 hcl]; unfold Vg; rw [if_neg (by omega),if_neg (by omega)]
   ·by_cases c2 : r = i
    ·rw [if_neg c1,if_pos c2,hc k c hk hcl]; unfold Vg; rw [if_neg (by omega),if_neg (by omega)]
    ·rw [if_neg c1,if_neg c2,hc r c hr hcl]
  have z2 : ∀ r c,r < 4 → c < k → VZ m (Ui s.a i k) k (V6 m (Ui s.a i k k k)) r c = Vg r c:=fun r c hr hcl=>by
   unfold VZ
   by_cases c1 : r = k
   ·rw [if_pos c1,z1 k c hk hcl]; unfold Vg; rw [if_neg (by omega),if_neg (by omega),Tf h1 h2]
   ·rw [if_neg c1,z1 r c hr hcl]
  have z3 : VZ m (Ui s.a i k) k (V6 m (Ui s.a i k k k)) k k = 1:=by
   unfold VZ; rw [if_pos rfl]; exact hpq
  generalize VZ m (Ui s.a i k) k (V6 m (Ui s.a i k k k)) = f2 at *
  show Xh m f2 f2 k r c = Vg r c
  unfold Xh
  by_cases c3 : c = k
  ·subst c3
   by_cases c1 : r = c
   ·rw [if_pos c1,c1,z3]; unfold Vg; rw [if_pos rfl]
   ·rw [if_neg c1,z3,zf h1 h2,UInt8.xor_self]; unfold Vg; rw [if_neg c1]
  ·have hcl' : c < k:=by omega
   by_cases c1 : r = k
   ·rw [if_pos c1,z2 r c hr hcl']
   ·have : f2 k c = 0:=by rw [z2 k c hk hcl']; unfold Vg; rw [if_neg (by omega)]
    rw [if_neg c1,z2 r c hr hcl',this,Wn h1 h2,Tf h1 h2,UInt8.xor_zero]
theorem He {m : Nat} (hf : YE (m : Int) = true) {a : MF} : ∀ (n k : Nat) (s s' : Red) (E : (Nat → UInt8) → Nat → UInt8),k + n = 4 → TQ m n k s = some s' → RedGood m a s.a s.b E → Aa s.a k →
  ∃ E',RedGood m a s'.a s'.b E' ∧ Aa s'.a 4
 | 0,k,s,s',E,hn,hs,hg,hc=>by
  cases hs
  have : k = 4:=by omega
  subst this
  exact ⟨E,hg,hc⟩
 | n + 1,k,s,s',E,hn,hs,hg,hc=>by
  unfold TQ at hs
  obtain ⟨s1,h1,h2⟩:=Option.bind_eq_some_iff.1 hs
  obtain ⟨E1,g1,c1⟩:=AK hf (by omega) h1 hg hc
  exact He hf n (k + 1) s1 s' E1 (by omega) h2 g1 c1
theorem jJ (f : MF) {i j : Nat} (hi : i < 4) (hj : j < 4) : V0 (mf f) i j = f i j:=by
 unfold V0 mf
 rw [TL _ hi,Option.getD_some,TL _ hj,Option.getD_some]
theorem yn {m : Nat} (hf : YE (m : Int) = true) (a : Mat) (hd : HI m a ≠ 0) (y : Nat → UInt8) {r : Nat} (hr : r < 4) :
  Xz m (V0 a r) (fun i=>Xz m (V0 (KJ m a) i) y) = y r:=by
 obtain ⟨m',e,h1,h2⟩:=VB hf
 have e : m = m':=by omega
 subst e
 unfold HI at hd
 unfold KJ
 unfold QG at hd ⊢
 cases hs : TQ m 4 0 ⟨V0 a,Vg,1⟩ with
 | none=>rw [hs] at hd; exact absurd rfl hd
 | some s =>
  obtain ⟨E,hg,hc⟩:=He hf (a:=V0 a) 4 0 ⟨V0 a,Vg,1⟩ s (fun z=>z) rfl hs
   ⟨fun x r hr=>Bj h1 h2 hr (fun _ _=>rfl) _,fun y r hr=>Bj h1 h2 hr (fun _ _=>rfl) y,fun z z' hz r hr=>hz r hr⟩ (fun r c hr hc=>absurd hc (Nat.not_lt_zero c))
  have e1 : Xz m (V0 a r) (fun i=>Xz m (V0 (mf s.b) i) y) = Xz m (V0 a r) (fun i=>Xz m (s.b i) y) :=
   Qm (fun _ _=>rfl) fun i hi=>Qm (fun j hj=>jJ s.b hi hj) (fun _ _=>rfl)
  show Xz m (V0 a r) (fun i=>Xz m (V0 (mf s.b) i) y) = y r
  rw [e1]
  -- z = B y; B (a z) = A z = z
  have e2 : ∀ i,i < 4 → Xz m (s.b i) (fun j=>Xz m (V0 a j) (fun i=>Xz m (s.b i) y)) = Xz m (s.b i) y:=fun i hi=>by
   rw [hg.p1 _ i hi]
   exact Bj h1 h2 hi (fun c hcl=>hc i c hi hcl) _
  have e3:=hg.p3 _ _ e2 r hr
  rw [hg.p2 (fun j=>Xz m (V0 a j) (fun i=>Xz m (s.b i) y)) r hr,hg.p2 y r hr] at e3
  exact e3
theorem BR {m : Nat} {a : MF} {f g : Nat → UInt8} (h : ∀ i,i < 16 → f i = g i) {i : Nat} (hi : i < 16) : Vf m a f i = Vf m a g i:=by
 unfold Vf
 rw [HE,HE]
 exact Qm (fun _ _=>rfl) fun j hj=>h _ (by omega)
theorem jQ {m : Nat} (hf : YE (m : Int) = true) (a : Mat) (hd : HI m a ≠ 0) (f : Nat → UInt8) (i : Nat) : Vf m (V0 a) (Vf m (V0 (KJ m a)) f) i = f i:=by
 unfold Vf
 rw [HE]
 have e : Xz m (V0 a (i % 4)) (fun j=>rowF m (V0 (KJ m a)) f ((i / 4 * 4 + j) / 4 * 4) ((i / 4 * 4 + j) % 4)) = Xz m (V0 a (i % 4)) (fun j=>Xz m (V0 (KJ m a) j) (fun l=>f (i / 4 * 4 + l))) :=
  Qm (fun _ _=>rfl) fun j hj=>by
   have e1 : (i / 4 * 4 + j) / 4 * 4 = i / 4 * 4:=by omega
   have e2 : (i / 4 * 4 + j) % 4 = j:=by omega
   rw [e1,e2,HE]
 rw [e,yn hf a hd _ (Nat.mod_lt _ (by omega))]
 show f (i / 4 * 4 + i % 4) = f i
 rw [show i / 4 * 4 + i % 4 = i by omega]

theorem Bc {l : List UInt8} (h : UV l = true) : l.Nodup:=of_decide_eq_true h
theorem AL {p : Blk} (h : X1 p = true) : UV p.toList = true:=by
 unfold X1 at h
 simp only [Bool.and_eq_true] at h
 exact h.2
theorem yp {i : Nat} (h : i < 256) : (ZE (i : Int)).toNat = i:=by
 rw [X2]
 simp only [UInt8.toNat_ofNat']
 omega
theorem JZ (n : Nat) (hn : n ≤ 256) (p : Vector UInt8 n) : ∀ k,k ≤ n → ∀ x,x < n → (∃ i,i < k ∧ (p.toList.getD i 0).toNat = x) → ∃ i,i < k ∧ ((Vw n p k)[x]?.getD 0).toNat = i ∧ (p.toList.getD i 0).toNat = x
 | 0,_,x,_,⟨i,h,_⟩=>absurd h (Nat.not_lt_zero i)
 | k + 1,hk,x,hx,⟨i,hi,hp⟩=>by
  by_cases c : (p.toList.getD k 0).toNat = x
  ·refine ⟨k,by omega,?_,c⟩
   rw [Vw,Vector.getElem?_setIfInBounds,if_pos c,if_pos (by omega),Option.getD_some,yp (by omega)]
  ·have : i ≠ k:=fun e=>c (e ▸ hp)
   obtain ⟨j,h1,h2,h3⟩:=JZ n hn p k (by omega) x hx ⟨i,by omega,hp⟩
   refine ⟨j,by omega,?_,h3⟩
   rw [Vw,Vector.getElem?_setIfInBounds,if_neg c]
   exact h2
theorem jb (b : Vector UInt8 256) (h : UV b.toList = true) (x : UInt8) : QW b (QW (Vw 256 b 256) x) = x:=by
 have hn : b.toList.Nodup:=Bc h
 have hs:=(AN (b.toList.map UInt8.toNat) 256 (by simp) (fun y hy=>by
  obtain ⟨z,_,rfl⟩:=List.mem_map.1 hy
  exact z.toNat_lt)).1 ((Hk _).2 hn) x.toNat x.toNat_lt
 obtain ⟨z,hz,ez⟩:=List.mem_map.1 hs
 obtain ⟨i,hi,e⟩:=List.mem_iff_getElem.1 hz
 have hi' : i < 256:=by simpa using hi
 obtain ⟨j,h1,h2,h3⟩:=JZ 256 (by omega) b 256 (by omega) x.toNat x.toNat_lt ⟨i,hi',by rw [X6 b hi',e,ez]⟩
 have e1 : (QW (Vw 256 b 256) x).toNat = j:=by
  rw [← h2,Vector.getElem?_eq_getElem x.toNat_lt]; rfl
 have e2 : QW b (QW (Vw 256 b 256) x) = b[j]:=by
  unfold QW at e1 ⊢
  simp only [e1]
 rw [e2]
 apply UInt8.toNat_inj.1
 rw [← h3,X6 b h1]
 simp
theorem zj (p : Blk) (hp : X1 p = true) {i : Nat} (hi : i < 16) : (bf (Vw 16 p 16) (bf p i).toNat).toNat = i:=by
 have hlt:=TV hp hi
 obtain ⟨j,h1,h2,h3⟩:=JZ 16 (by omega) p 16 (by omega) (bf p i).toNat hlt ⟨i,hi,by rw [Kz p hi]⟩
 rw [Kz p h1] at h3
 have e : (bf (Vw 16 p 16) (bf p i).toNat).toNat = j:=by
  rw [← h2]; unfold bf; rfl
 rw [e]
 have hn : p.toList.Nodup:=Bc (AL hp)
 have e3 : p.toList[j]'(by simpa using h1) = p.toList[i]'(by simpa using hi):=by
  have e4:=UInt8.toNat_inj.1 h3
  rw [← Kz p h1,← Kz p hi,X6 p h1,X6 p hi] at e4
  exact e4
 exact (List.getElem_inj hn).1 e3

theorem zc {c : GCipher} (h : ZU c = true) : HI c.Field.toNat c.Mix ≠ 0:=by
 unfold ZU at h
 simp only [Bool.and_eq_true] at h
 simpa using h.2
theorem H5 {c : GCipher} (h : ZU c = true) : YE ((c.Field.toNat : Nat) : Int) = true:=by
 obtain ⟨m,hm,h1,h2⟩:=TS h
 have e : ((c.Field.toNat : Nat) : Int) = c.Field:=by omega
 rw [e]
 unfold ZU at h
 simp only [Bool.and_eq_true] at h
 exact h.1.1.1.1
theorem zh {c : GCipher} (h : ZU c = true) : UV c.Box.toList = true:=by
 unfold ZU at h
 simp only [Bool.and_eq_true] at h
 exact h.1.1.1.2
theorem Hg {c : GCipher} (h : ZU c = true) (n r : Nat) (k : Nat → UInt8) {f g : Nat → UInt8} (hfg : ∀ i,i < 16 → f i = g i) {i : Nat} (hi : i < 16) : TG c n r k f i = TG c n r k g i:=by
 have hp:=VU h
 have e : ∀ i,i < 16 → V5 c.Places (Qc c.Box f) i = V5 c.Places (Qc c.Box g) i:=fun i hi=>by
  unfold V5 Qc
  rw [hfg _ (TV hp hi)]
 unfold TG Kn
 by_cases c1 : r < n
 ·rw [if_pos c1,if_pos c1,BR e hi]
 ·rw [if_neg c1,if_neg c1,e i hi]
theorem zp {c : GCipher} (h : ZU c = true) (n r : Nat) (k g : Nat → UInt8) {i : Nat} (hi : i < 16) : TG c n r k (Tx c n r k g) i = g i:=by
 have hp:=VU h
 have e : ∀ (q : Nat → UInt8) i,i < 16 → V5 c.Places (Qc c.Box (Qc (Vw 256 c.Box 256) (V5 (Vw 16 c.Places 16) q))) i = q i:=fun q i hi=>by
  unfold V5 Qc
  rw [jb c.Box (zh h)]
  show q (bf (Vw 16 c.Places 16) (bf c.Places i).toNat).toNat = q i
  rw [zj c.Places hp hi]
 unfold TG Tx Kn
 by_cases c1 : r < n
 ·simp only [if_pos c1]
  rw [BR (e _) hi,jQ (H5 h) c.Mix (zc h)]
  exact Kt _ _
 ·simp only [if_neg c1]
  rw [e _ i hi]
  exact Kt _ _
theorem z5 {c : GCipher} (h : ZU c = true) (k f : Nat → UInt8) (n : Nat) : ∀ r,r ≤ n → ∀ i,i < 16 → Q9 c k (AQ c k f n) n r i = Jo c k f n (n - r) i
 | 0,_,i,_=>Kt _ _
 | r + 1,hr,i,hi=>by
  have ih:=z5 h k f n r (by omega)
  have e1 : n - r = (n - (r + 1)) + 1:=by omega
  have e2 : n - (n - (r + 1)) = r + 1:=by omega
  show TG c n (r + 1) (K2 c.Box k (r + 1)) (Q9 c k (AQ c k f n) n r) i = _
  rw [Hg h n (r + 1) _ ih hi,e1]
  show TG c n (r + 1) (K2 c.Box k (r + 1)) (Tx c n (n - (n - (r + 1))) (K2 c.Box k (n - (n - (r + 1)))) (Jo c k f n (n - (r + 1)))) i = _
  rw [e2]
  exact zp h n (r + 1) _ _ hi
theorem AB {c : GCipher} (h : ZU c = true) (k : Nat → UInt8) (b : Blk) (n : Nat) : vf 16 (T2 c k (AQ c k (bf b) n) n) = b:=by
 conv=>rhs; rw [KK b]
 refine WO fun i hi=>?_
 have:=z5 h k (bf b) n n (Nat.le_refl _) i hi
 rw [Nat.sub_self] at this
 exact this
def orb (f : Nat → Nat) (x : Nat) : Nat → Nat
 | 0=>x
 | i + 1=>f (orb f x i)
theorem An (c : GCipher) (k : Nat → UInt8) {x : Nat} (hx : x < 65536) : ∀ i,orb (Z5 c k) x i < 65536
 | 0=>hx
 | i + 1=>yD c k _
theorem yS (c : GCipher) (h : ZU c = true) (k : Nat → UInt8) (x0 : Nat) (hx0 : x0 < 65536) : ∀ (z n : Nat) (Ww : List (Int × Int)) (pl : List Int),pl.count 0 = z → pl.length = 65536 → n + z = 65536 →
  (∀ y : Nat,y < 65536 → (WN Ww (y : Int) = none ∧ pl[y]? = some 0 ∧ ∀ i,i < n → orb (Z5 c k) x0 i ≠ y) ∨ ∃ q : Nat,WN Ww (y : Int) = some (q : Int) ∧ q < n ∧ pl[y]? = some ((q : Int) + 1) ∧ orb (Z5 c k) x0 q = y) →
  (∀ i j,i < j → j < n → orb (Z5 c k) x0 i ≠ orb (Z5 c k) x0 j) →
  ∃ (q n' x' : Nat) (l' : List Int),q < n' ∧ n' ≤ 65536 ∧ ZQ (WH (KU c k)) (Ww,(n : Int),((orb (Z5 c k) x0 n : Nat) : Int)) = some ((q : Int),(n' : Int) - q,0) ∧
   ZQ (WG c (vf 16 k)) (pl,(n : Int) + 1,((orb (Z5 c k) x0 n : Nat) : Int)) = some (l',(n' : Int) + 1,(x' : Int)) ∧ l'[x']? = some ((q : Int) + 1) ∧
   orb (Z5 c k) x0 n' = orb (Z5 c k) x0 q ∧ ∀ i j,i < j → j < n' → orb (Z5 c k) x0 i ≠ orb (Z5 c k) x0 j:=by
 intro z
 induction z with
 | zero =>
  intro n Ww pl hz hl hn hR hd
  rcases hR _ (An c k hx0 n) with ⟨_,g,_⟩ | ⟨q,g1,g2,g3,g4⟩
  ·have:=List.count_pos_iff.2 (List.mem_of_getElem? g)
   omega
  ·refine ⟨q,n,orb (Z5 c k) x0 n,pl,g2,by omega,?_,?_,g3,g4.symm,hd⟩
   ·refine Y1 ?_
    unfold WH
    simp only [g1,Option.isSome_some,if_true,Option.getD_some]
    rw [YT (by omega)]
   ·refine Y1 ?_
    unfold WG
    have e : (((q : Int) + 1) == 0) = false:=by simp; omega
    simp only [VO,g3,Option.bind_some,e,Bool.false_eq_true,if_false]
 | succ z ih =>
  intro n Ww pl hz hl hn hR hd
  have hx:=An c k hx0 n
  rcases hR _ hx with ⟨g1,g2,g3⟩ | ⟨q,g1,g2,g3,g4⟩
  ·have hst:=HR c k (orb (Z5 c k) x0 n)
   have hnx : orb (Z5 c k) x0 (n + 1) = Z5 c k (orb (Z5 c k) x0 n):=rfl
   have hcount : (pl.set (orb (Z5 c k) x0 n) ((n : Int) + 1)).count 0 = z:=by
    have hx' : orb (Z5 c k) x0 n < pl.length:=by omega
    have e0 : pl[orb (Z5 c k) x0 n] = 0:=by rw [List.getElem?_eq_getElem hx'] at g2; simpa using g2
    rw [List.count_set hx']
    have e1 : (((n : Int) + 1) == 0) = false:=by simp; omega
    rw [e0,e1,hz]
    simp
   obtain ⟨q,n',x',l',r1,r2,r3,r4,r5⟩:=ih (n + 1) (U2 Ww ((orb (Z5 c k) x0 n : Nat) : Int) (n : Int)) (pl.set (orb (Z5 c k) x0 n) ((n : Int) + 1)) hcount (by simpa using hl) (by omega) (fun y hy=>by
    rw [BK]
    by_cases hxy : orb (Z5 c k) x0 n = y
    ·subst hxy
     refine .inr ⟨n,by simp,by omega,?_,rfl⟩
     rw [List.getElem?_set_self (by omega)]
    ·have : ¬ (((orb (Z5 c k) x0 n : Nat) : Int) = (y : Int)):=by omega
     rw [if_neg this,List.getElem?_set_ne hxy]
     rcases hR y hy with ⟨h1,h2,h3⟩ | ⟨q,h1,h2,h3,h4⟩
     ·refine .inl ⟨h1,h2,fun i hi=>?_⟩
      rcases Nat.lt_or_ge i n with h5 | h5
      ·exact h3 i h5
      ·have : i = n:=by omega
       subst this; exact hxy
     ·exact .inr ⟨q,h1,by omega,h3,h4⟩) (fun i j hij hj=>by
    rcases Nat.lt_or_ge j n with h5 | h5
    ·exact hd i j hij h5
    ·have : j = n:=by omega
     subst this; exact g3 i hij)
   refine ⟨q,n',x',l',r1,r2,?_,?_,r5⟩
   ·rw [Wg (s':=(U2 Ww ((orb (Z5 c k) x0 n : Nat) : Int) (n : Int),((n + 1 : Nat) : Int),((orb (Z5 c k) x0 (n + 1) : Nat) : Int)))]
    ·exact r3
    ·unfold WH
     simp only [g1,Option.isSome_none,Bool.false_eq_true,if_false,KL c h k _ (show orb (Z5 c k) x0 n ≤ 65535 by omega),Option.bind_some,hst,hnx,Xi (show n < 9223372036854775807 by omega)]
   ·rw [Wg (s':=(pl.set (orb (Z5 c k) x0 n) ((n : Int) + 1),((n + 1 : Nat) : Int) + 1,((orb (Z5 c k) x0 (n + 1) : Nat) : Int)))]
    ·exact r4
    ·unfold WG
     have e : wr ((n : Int) + 1 + 1) = ((n + 1 : Nat) : Int) + 1:=by rw [YT (by omega)]; omega
     simp only [VO,g2,Option.bind_some,BEq.rfl,if_true,H9 c h k _ (show orb (Z5 c k) x0 n ≤ 65535 by omega),hst,hnx,Int.toNat_natCast,e]
  ·refine ⟨q,n,orb (Z5 c k) x0 n,pl,g2,by omega,?_,?_,g3,g4.symm,hd⟩
   ·refine Y1 ?_
    unfold WH
    simp only [g1,Option.isSome_some,if_true,Option.getD_some]
    rw [YT (by omega)]
   ·refine Y1 ?_
    unfold WG
    have e : (((q : Int) + 1) == 0) = false:=by simp; omega
    simp only [VO,g3,Option.bind_some,e,Bool.false_eq_true,if_false]
theorem yj (c : GCipher) (k : Blk) (x : Int) : ∃ r,UE c k x = some r ∧ UD c k x = some r ∧
  ((r = (0,0,XZ c x) ∧ XZ c x ≠ 0) ∨ (XZ c x = 0 ∧ ZU c = true ∧ ∃ (x0 q n : Nat),x = (x0 : Int) ∧ x0 < 65536 ∧ r = ((q : Int),(n : Int) - q,0) ∧ q < n ∧ n ≤ 65536 ∧
   orb (Z5 c (bf k)) x0 n = orb (Z5 c (bf k)) x0 q ∧ ∀ i j,i < j → j < n → orb (Z5 c (bf k)) x0 i ≠ orb (Z5 c (bf k)) x0 j)):=by
 unfold UE UD
 simp only [B1,HX,Option.bind_some]
 by_cases h0 : XZ c x = 0
 ·obtain ⟨hc,n,rfl,hn⟩:=KX h0
  have hk:=Bg c hc (bf k)
  have hz : mkS 8 (0 : Int) 65536 = some (List.replicate 65536 0):=by
   unfold mkS; rw [if_pos (by omega)]; rfl
  obtain ⟨q,n',x',l',r1,r2,r3,r4,r5,r6,r7⟩:=yS c hc (bf k) n (by omega) 65536 0 [] (List.replicate 65536 0) (by rw [List.count_replicate_self]) List.length_replicate (by omega) (fun y hy=>.inl ⟨rfl,by rw [List.getElem?_replicate]; simp [hy],fun i hi=>absurd hi (Nat.not_lt_zero i)⟩) (fun i j _ hj=>absurd hj (Nat.not_lt_zero j))
  rw [← KK] at hk r4
  have r3' : ZQ (WH (KU c (bf k))) ([],0,(n : Int)) = _:=r3
  have r4' : ZQ (WG c k) (List.replicate 65536 0,1,(n : Int)) = _:=r4
  have e1 : wr ((q : Int) + 1 - 1) = (q : Int):=by rw [YT (by omega)]; omega
  have e2 : wr ((n' : Int) + 1 - ((q : Int) + 1)) = (n' : Int) - q:=by rw [YT (by omega)]; omega
  refine ⟨((q : Int),(n' : Int) - q,0),?_,?_,.inr ⟨h0,hc,n,q,n',rfl,by omega,rfl,r1,r2,r6,r7⟩⟩
  ·simp only [h0,bne_self_eq_false,Bool.false_eq_true,if_false,hz,Option.bind_some]
   rw [r4']
   simp only [Option.bind_some,VO,r5,e1,e2]
  ·simp only [h0,bne_self_eq_false,Bool.false_eq_true,if_false,hk,Option.bind_some]
   rw [r3']
   rfl
 ·have : (XZ c x != 0) = true:=by simpa using h0
  exact ⟨(0,0,XZ c x),by simp only [this,if_true],by simp only [this,if_true],.inl ⟨rfl,h0⟩⟩
theorem Zq {α β : Type} {o : Option α} {f : α → Option β} {P : α → Prop} {Q : β → Prop} (h : ∃ r,o = some r ∧ P r) (k : ∀ r,P r → ∃ q,f r = some q ∧ Q q) : ∃ q,(o.bind f) = some q ∧ Q q:=by
 obtain ⟨r,e,hr⟩:=h
 rw [e,Option.bind_some]
 exact k r hr
theorem AM {α β : Type} {x : α} {f : α → Option β} {Q : β → Prop} (k : ∃ q,f x = some q ∧ Q q) : ∃ q,((some x).bind f) = some q ∧ Q q:=k
theorem WM {β : Type} {c : Prop} [Decidable c] {a b : Option β} {Q : β → Prop} (h1 : c → ∃ q,a = some q ∧ Q q) (h2 : ¬ c → ∃ q,b = some q ∧ Q q) : ∃ q,(if c then a else b) = some q ∧ Q q:=by
 by_cases h : c
 ·rw [if_pos h]; exact h1 h
 ·rw [if_neg h]; exact h2 h
theorem Qa {σ ρ : Type} {f : σ → Option (Fl σ ρ)} (I : Nat → σ → Prop) {R : ρ → Prop} (n : Nat) (h : ∀ i s,i < n → I i s → ∃ q,f s = some q ∧ ∃ s',q = .nx s' ∧ I (i + 1) s') (he : ∀ s,I n s → ∃ q,f s = some q ∧ ∃ r,q = .ex r ∧ R r) :
  ∀ (k i : Nat) (s : σ),i + k = n → I i s → ∃ r,ZQ f s = some r ∧ R r
 | 0,i,s,hk,hi=>by
  have : i = n:=by omega
  subst this
  obtain ⟨q,e,r,rfl,hr⟩:=he s hi
  exact ⟨r,Y1 e,hr⟩
 | k + 1,i,s,hk,hi=>by
  obtain ⟨q,e,s',rfl,hs⟩:=h i s (by omega) hi
  rw [Wg e]
  exact Qa I n h he k (i + 1) s' (by omega) hs
theorem YI {α : Type} {n : Nat} (v : Vector α n) {i : Int} (h : 0 ≤ i ∧ i < n) : ∃ x,ZI v i = some x ∧ True:=by
 obtain ⟨k,rfl⟩:=Int.eq_ofNat_of_zero_le h.1
 exact ⟨v[k]'(by omega),by rw [Ut,Vector.getElem?_eq_getElem (by omega)],trivial⟩
theorem QJ {α : Type} (l : List α) {i : Int} (h : 0 ≤ i ∧ i < l.length) : ∃ x,idx l i = some x ∧ x ∈ l:=by
 obtain ⟨k,rfl⟩:=Int.eq_ofNat_of_zero_le h.1
 have hk : k < l.length:=by omega
 exact ⟨l[k],by rw [VO,List.getElem?_eq_getElem hk],List.getElem_mem hk⟩
theorem Ae {α : Type} {o : Option α} {x : α} (h : o = some x) : ∃ r,o = some r ∧ True:=⟨x,h,trivial⟩

def VS (s : Int × Int) : Prop:=0 ≤ s.1 ∧ s.1 ≤ 4096
section
variable {p : List UInt8} (hp : p.length ≤ 4096) {s : Int × Int} (hs : VS s)
theorem zm (a : BitVec 64) : ∃ m : Nat,m ≤ 16777215 ∧ IntKind.i64.wrap (wru (a &&& BitVec.ofInt 64 16777215).toNat) = (m : Int):=by
 have h : (a &&& BitVec.ofInt 64 16777215).toNat ≤ 16777215:=by
  rw [BitVec.toNat_and]
  exact Nat.le_trans Nat.and_le_right (by decide)
 refine ⟨_,h,?_⟩
 generalize (a &&& BitVec.ofInt 64 16777215).toNat = m at *
 have e : wru (m : Int) = (m : Int):=zn m (by omega)
 rw [e]
 exact YT (by omega)
include hp hs
theorem Z2 {n : Int} (hn : 1 ≤ n) : ∃ r,ZC p s n = some r ∧ (VS r.1 ∧ 0 ≤ r.2 ∧ r.2 < n):=by
 unfold ZC
 obtain ⟨m,hm,em⟩:=zm (BitVec.ofInt 64 (Tc (IntKind.u64.wrap ((IntKind.u64.wrap (s.2 * 6364136223846793005)) + 1442695040888963407)) 33))
 rw [em]
 have hz : K9 n = some ():=by unfold K9; rw [if_pos (by omega)]
 obtain ⟨h1,h2⟩:=hs
 rw [if_neg (by simp only [decide_eq_true_eq]; omega)]
 refine Zq (P:=fun j=>(0 ≤ j.1 ∧ j.1 ≤ 4096) ∧ 0 ≤ j.2) (AM (WM (fun hc=>?_) (fun _=>⟨_,rfl,⟨h1,h2⟩,by omega⟩))) fun j hj=>?_
 ·have hc : s.1 < (p.length : Int):=of_decide_eq_true hc
  refine Zq (P:=fun x=>0 ≤ x) (Zq (QJ p ⟨h1,hc⟩) fun x _=>⟨_,rfl,?_⟩) fun x hx=>⟨_,rfl,?_,hx⟩
  ·have hb:=x.toNat_lt
   show 0 ≤ wr ((m : Int) + (x.toNat : Int))
   rw [YT (by omega)]; omega
  ·show 0 ≤ wr (s.1 + 1) ∧ wr (s.1 + 1) ≤ 4096
   rw [YT (by omega)]; omega
 ·rw [hz]
  refine ⟨_,rfl,hj.1,?_,?_⟩
  ·exact Int.tmod_nonneg _ hj.2
  ·exact Int.tmod_lt_of_pos _ (by omega)
theorem Qu {l : List Int} (hl : 1 ≤ l.length) : ∃ r,YZ p s l = some r ∧ (VS r.1 ∧ r.2 ∈ l):=by
 unfold YZ
 exact Zq (Z2 hp hs (by omega)) fun r hr=>Zq (QJ l hr.2) fun x hx=>⟨_,rfl,hr.1,hx⟩
theorem yM {l : List UInt8} (hl : 1 ≤ l.length) : ∃ r,VM p s l = some r ∧ VS r.1:=by
 unfold VM
 exact Zq (Z2 hp hs (by omega)) fun r hr=>Zq (QJ l hr.2) fun x hx=>⟨_,rfl,hr.1⟩
theorem jh : ∃ r,WI p s = some r ∧ VS r.1:=by
 unfold WI
 exact Zq (Z2 hp hs (by omega)) fun r hr=>Zq (Z2 hp hr.1 (by omega)) fun r hr=>Zq (Z2 hp hr.1 (by omega)) fun r hr=>Zq (Qu hp hr.1 (by simp)) fun r hr=>⟨_,rfl,hr.1⟩
theorem BX : ∃ r,Xo p s = some r ∧ VS r.1:=by
 unfold Xo
 refine Zq (Z2 hp hs (by omega)) fun r hr=>WM (fun _=>?_) (fun _=>?_)
 ·exact Zq (Z2 hp hr.1 (by omega)) fun r hr=>Zq (jh hp hr.1) fun q hq=>Zq (YI _ hr.2) fun x _=>⟨_,rfl,hq⟩
 ·refine Zq (P:=fun j=>VS j.2) (Qa (fun i t=>t.2.2.2 = (i : Int) ∧ VS (t.2.1,t.2.2.1)) 16 (fun i t hi ht=>?_) (fun t ht=>?_) 16 0 _ rfl ⟨rfl,hr.1⟩) fun j hj=>⟨_,rfl,hj⟩
  ·unfold Vb
   obtain ⟨t1,t2⟩:=ht
   rw [if_pos (by simp only [decide_eq_true_eq]; omega)]
   exact Zq (Z2 hp t2 (by omega)) fun r hr=>Zq (YI _ (by omega)) fun x _=>⟨_,rfl,_,rfl,by show wr (t.2.2.2 + 1) = _; rw [t1,YT (by omega)]; omega,hr.1⟩
  ·unfold Vb
   obtain ⟨t1,t2⟩:=ht
   rw [if_neg (by simp only [decide_eq_true_eq]; omega)]
   exact ⟨_,rfl,_,rfl,t2⟩
end
theorem Q7 {p : List UInt8} (hp : p.length ≤ 4096) : ∃ r,Xk p = some r ∧ VS r:=by
 unfold Xk
 refine Zq (P:=fun _=>True) (Qa (fun i t=>t.2 = (i : Int)) p.length (fun i t hi ht=>?_) (fun t ht=>?_) p.length 0 _ (by omega) rfl) fun j _=>⟨_,rfl,by show (0 : Int) ≤ 0; omega,by show (0 : Int) ≤ 4096; omega⟩
 ·unfold UJ
  rw [if_pos (by simp only [decide_eq_true_eq]; omega)]
  have h1 : decide (t.2 < 4096) = true:=by simp only [decide_eq_true_eq]; omega
  rw [h1]
  exact AM (WM (fun _=>Zq (QJ p (by omega)) fun x _=>⟨_,rfl,_,rfl,by show wr (t.2 + 1) = _; rw [ht,YT (by omega)]; omega⟩) fun h=>absurd rfl h)
 ·unfold UJ
  rw [if_neg (by simp only [decide_eq_true_eq]; omega)]
  exact ⟨_,rfl,_,rfl,trivial⟩

theorem zE : ∃ r,Vm = some r ∧ (1 ≤ r.length ∧ ∀ x ∈ r,YE x = true):=by
 unfold Vm
 have h285 : YE 285 = true:=by decide +kernel
 refine Zq (Qa (fun i t=>t.2 = ((256 + i : Nat) : Int) ∧ t.1.length ≤ i ∧ (29 < i → 1 ≤ t.1.length) ∧ ∀ x ∈ t.1,YE x = true) 256 (fun i t hi ht=>?_) (fun t ht=>?_) 256 0 _ rfl ⟨rfl,Nat.zero_le _,fun h=>absurd h (by omega),fun x hx=>by cases hx⟩) fun j hj=>⟨_,rfl,hj⟩
 ·obtain ⟨t1,t2,t3,t4⟩:=ht
  unfold V1
  rw [if_pos (by simp only [decide_eq_true_eq]; omega),Br,Option.bind_some]
  have e1 : wr (t.2 + 1) = ((256 + (i + 1) : Nat) : Int):=by rw [t1,YT (by omega)]; omega
  cases hf : YE t.2
  ·refine ⟨_,rfl,_,rfl,e1,by show t.1.length ≤ i + 1; omega,fun h=>?_,t4⟩
   refine t3 ?_
   rcases Nat.lt_or_ge 29 i with h5 | h5
   ·exact h5
   ·have : i = 29:=by omega
    subst this
    rw [t1] at hf
    exact absurd h285 (by rw [show (285 : Int) = ((256 + 29 : Nat) : Int) from rfl,hf]; decide)
  ·have ha : app 8 t.1 ([t.2] : List Int) = _:=KY (by simp only [List.length_singleton]; omega)
   rw [if_pos rfl,ha]
   refine ⟨_,rfl,_,rfl,e1,by show (t.1 ++ [t.2]).length ≤ i + 1; simp; omega,fun _=>by show 1 ≤ (t.1 ++ [t.2]).length; simp,fun x hx=>?_⟩
   rcases List.mem_append.1 hx with h | h
   ·exact t4 x h
   ·rw [List.mem_singleton.1 h]; exact hf
 ·obtain ⟨t1,t2,t3,t4⟩:=ht
  unfold V1
  rw [if_neg (by simp only [decide_eq_true_eq]; omega)]
  exact ⟨_,rfl,_,rfl,t3 (by omega),t4⟩
section
variable {p : List UInt8} (hp : p.length ≤ 4096) {s : Int × Int} (hs : VS s)
include hp hs
theorem JR : ∃ r,YU p s = some r ∧ (VS r.1 ∧ YE r.2 = true):=by
 unfold YU
 have h285 : YE 285 = true:=by decide +kernel
 refine Zq zE fun l hl=>Zq (P:=fun j=>VS (j.1,j.2.1) ∧ YE j.2.2 = true) ?_ fun j hj=>⟨_,rfl,hj⟩
 refine Zq (Z2 hp hs (by omega)) fun r hr=>Zq (QJ l hr.2) fun x hx=>Zq (Z2 hp hr.1 (by omega)) fun r hr=>Zq (QJ l hr.2) fun y hy=>Zq (Qu hp hr.1 (by simp)) fun r hr=>⟨_,rfl,hr.1,?_⟩
 show YE r.2 = true
 have:=hr.2
 simp only [List.mem_cons,List.not_mem_nil,or_false] at this
 rcases this with e | e | e <;> rw [e]
 ·exact h285
 ·exact hl.2 x hx
 ·exact hl.2 y hy
end

theorem JB {n : Nat} (hn : n < 1000000) (L : Vector UInt8 n × Int → Option (Fl (Vector UInt8 n × Int) (Vector UInt8 n))) (hL : ∀ (i : Nat) v,i < n → ∃ q,L (v,(i : Int)) = some q ∧ ∃ x,q = .nx ((v.setIfInBounds i x),wr ((i : Int) + 1)))
  (he : ∀ v,L (v,(n : Int)) = some (.ex v)) (v : Vector UInt8 n) : ∃ r,ZQ L (v,0) = some r ∧ True:=by
 refine Qa (fun i t=>t.2 = (i : Int)) n (fun i t hi ht=>?_) (fun t ht=>?_) n 0 _ (by omega) rfl
 ·obtain ⟨t1,t2⟩:=t
  simp only at ht
  subst ht
  obtain ⟨q,e,x,rfl⟩:=hL i t1 hi
  exact ⟨_,e,_,rfl,by show wr ((i : Int) + 1) = _; rw [YT (by omega)]; omega⟩
 ·obtain ⟨t1,t2⟩:=t
  simp only at ht
  subst ht
  exact ⟨_,he t1,_,rfl,trivial⟩
theorem yf {i : Nat} (h : i < 256) : (decide ((i : Int) < 256)) = true:=by simp only [decide_eq_true_eq]; omega
theorem v256 (v : Vector UInt8 256) {i : Nat} (h : i < 256) : ∃ x,ZI v (i : Int) = some x ∧ True:=YI v (by omega)
theorem vbyte (v : Vector UInt8 256) (b : UInt8) : ∃ x,ZI v (bI b) = some x ∧ True:=⟨_,Tq v b,trivial⟩
theorem AE : ∃ r,Vp = some r ∧ True:=by
 unfold Vp
 refine Zq (JB (by omega) VL (fun i v hi=>?_) (fun v=>by unfold VL; rfl) _) fun j _=>⟨_,rfl,trivial⟩
 unfold VL
 rw [if_pos (yf hi)]
 exact Zq (v256 v hi) fun x _=>⟨_,rfl,_,rfl⟩
theorem y7 (a b : Vector UInt8 256) : ∃ r,Wd a b = some r ∧ True:=by
 unfold Wd
 refine Zq (JB (by omega) (Xw a b) (fun i v hi=>?_) (fun v=>by unfold Xw; rfl) _) fun j _=>⟨_,rfl,trivial⟩
 unfold Xw
 rw [if_pos (yf hi)]
 exact Zq (v256 a hi) fun x _=>Zq (vbyte b x) fun y _=>Zq (v256 v hi) fun z _=>⟨_,rfl,_,rfl⟩
theorem Km {m : Nat} (h1 : 256 ≤ m) (h2 : m < 512) : ∀ (f k : Nat) (a o : UInt8),k < 2 ^ f → f ≤ 62 → ∃ r,ZQ (YG (m : Int)) (o,a,(k : Int)) = some r ∧ True
 | 0,k,a,o,hk,_=>by
  have : k = 0:=by simpa using hk
  subst this
  exact ⟨_,Y1 (t:=o) (by unfold YG; rfl),trivial⟩
 | f + 1,k,a,o,hk,hf=>by
  by_cases h0 : k = 0
  ·subst h0
   exact ⟨_,Y1 (t:=o) (by unfold YG; rfl),trivial⟩
  ·have hlt : k < 2 ^ 62:=Nat.lt_of_lt_of_le hk (Nat.pow_le_pow_right (by omega) (by omega))
   have e2 : wr (Int.tdiv (k : Int) 2) = ((k / 2 : Nat) : Int):=by
    have : Int.tdiv (k : Int) 2 = ((k / 2 : Nat) : Int):=rfl
    rw [this,YT (by omega)]
   have hk2 : k / 2 < 2 ^ f:=by rw [Nat.pow_succ] at hk; omega
   have step : ∃ o',YG (m : Int) (o,a,(k : Int)) = some (.nx (o',ZO m a a,((k / 2 : Nat) : Int))):=by
    unfold YG
    have e1 : decide ((k : Int) > 0) = true:=by simp only [decide_eq_true_eq]; omega
    simp only [e1,if_true,UM m h2 h1,Option.bind_some,e2]
    by_cases hc : (Int.tmod (k : Int) 2 == 1) = true
    ·exact ⟨ZO m o a,by simp only [hc,if_true,Option.bind_some]⟩
    ·exact ⟨o,by simp only [hc,if_false,Option.bind_some]; rfl⟩
   obtain ⟨o',hst⟩:=step
   rw [Wg hst]
   exact Km h1 h2 f (k / 2) _ o' hk2 (by omega)
theorem B3 {m k : Int} (hm : YE m = true) (hk : 0 ≤ k ∧ k ≤ 254) : ∃ r,Y3 m k = some r ∧ True:=by
 obtain ⟨n,rfl,h1,h2⟩:=VB hm
 obtain ⟨k,rfl⟩:=Int.eq_ofNat_of_zero_le hk.1
 unfold Y3
 refine Zq (JB (by omega) (Xb (n : Int) (k : Int)) (fun i v hi=>?_) (fun v=>by unfold Xb; rfl) _) fun j _=>⟨_,rfl,trivial⟩
 unfold Xb
 rw [if_pos (yf hi)]
 exact Zq (Km h1 h2 8 k _ _ (by omega) (by omega)) fun x _=>Zq (v256 v hi) fun z _=>⟨_,rfl,_,rfl⟩
theorem A6 (l : List Int) (hl : l.length < 1000 ∧ ∀ x ∈ l,0 ≤ x ∧ x < 8) (b : UInt8) : ∃ r,Yt l b = some r ∧ True:=by
 unfold Yt
 refine Zq (JB (by omega) (YA l b) (fun i v hi=>?_) (fun v=>by unfold YA; rfl) _) fun j _=>⟨_,rfl,trivial⟩
 unfold YA
 rw [if_pos (yf hi)]
 refine Zq (P:=fun _=>True) (Qa (fun i t=>t.2 = (i : Int)) l.length (fun i t hi ht=>?_) (fun t ht=>?_) l.length 0 _ (by omega) rfl) fun x _=>Zq (v256 v hi) fun z _=>⟨_,rfl,_,rfl⟩
 ·unfold Z4
  rw [if_pos (by simp only [decide_eq_true_eq]; omega)]
  refine Zq (QJ l (by omega)) fun x hx=>?_
  obtain ⟨k,rfl⟩:=Int.eq_ofNat_of_zero_le (hl.2 x hx).1
  rw [B4 _ k (by have:=(hl.2 _ hx).2; omega)]
  exact ⟨_,rfl,_,rfl,by show wr (t.2 + 1) = _; rw [ht,YT (by omega)]; omega⟩
 ·unfold Z4
  rw [if_neg (by simp only [decide_eq_true_eq]; omega)]
  exact ⟨_,rfl,_,rfl,trivial⟩
section
variable {p : List UInt8} (hp : p.length ≤ 4096) {s : Int × Int} (hs : VS s)
include hp hs
theorem AZ : ∃ r,W7 p s = some r ∧ VS r.1:=by
 unfold W7
 refine Zq AE fun b _=>Zq (P:=fun j=>VS (j.2.1,j.2.2)) (Qa (fun i t=>t.2.2.2 = ((255 - i : Nat) : Int) ∧ VS (t.2.1,t.2.2.1)) 255 (fun i t hi ht=>?_) (fun t ht=>?_) 255 0 _ rfl ⟨rfl,hs⟩) fun j hj=>⟨_,rfl,hj⟩
 ·obtain ⟨t1,t2⟩:=ht
  unfold VF
  rw [if_pos (by simp only [decide_eq_true_eq]; omega)]
  have e : wr (t.2.2.2 + 1) = t.2.2.2 + 1:=YT (by omega)
  refine Zq (Z2 hp t2 (by omega)) fun r hr=>?_
  exact Zq (YI _ (by omega)) fun x _=>Zq (YI _ (by omega)) fun y _=>Zq (YI _ (by omega)) fun z _=>Zq (YI _ (by omega)) fun z _=>⟨_,rfl,_,rfl,by show wr (t.2.2.2 - 1) = _; rw [t1,YT (by omega)]; omega,hr.1⟩
 ·obtain ⟨t1,t2⟩:=ht
  unfold VF
  rw [if_neg (by simp only [decide_eq_true_eq]; omega)]
  exact ⟨_,rfl,_,rfl,t2⟩
theorem jW : ∃ r,Ub p s = some r ∧ VS r.1:=by
 unfold Ub
 refine Zq (Z2 hp hs (by omega)) fun r hr=>WM (fun _=>?_) fun _=>WM (fun _=>?_) fun _=>WM (fun _=>?_) fun _=>WM (fun _=>?_) fun _=>?_
 ·refine Zq (JR hp hr.1) fun r hr=>Zq (B3 hr.2 (by omega)) fun b _=>Zq (Z2 hp hr.1 (by omega)) fun r hr=>Zq (A6 [0,1,4] (by simp) _) fun c _=>Zq (y7 b c) fun d _=>⟨_,rfl,hr.1⟩
 ·refine Zq (JR hp hr.1) fun q hq=>Zq (Qu hp hq.1 (by simp)) fun r hr=>?_
  have hk : 0 ≤ r.2 ∧ r.2 ≤ 254:=by
   have:=hr.2
   simp only [List.mem_cons,List.not_mem_nil,or_false] at this
   omega
  exact Zq (B3 hq.2 hk) fun b _=>⟨_,rfl,hr.1⟩
 ·exact Zq (Z2 hp hr.1 (by omega)) fun r hr=>Zq (A6 [0,2,5] (by simp) _) fun c _=>⟨_,rfl,hr.1⟩
 ·exact Zq AE fun b _=>Zq (Z2 hp hr.1 (by omega)) fun r hr=>Zq (Z2 hp hr.1 (by omega)) fun q hq=>Zq (YI _ hr.2) fun x _=>Zq (YI _ hq.2) fun x _=>Zq (YI _ hr.2) fun x _=>Zq (YI _ hq.2) fun x _=>⟨_,rfl,hq.1⟩
 ·exact Zq (AZ hp hr.1) fun r hr=>⟨_,rfl,hr⟩

theorem zu : ∃ r,Ud p s = some r ∧ VS r.1:=by
 unfold Ud
 refine Zq (Z2 hp hs (by omega)) fun r hr=>Zq (Qu hp hr.1 (by simp)) fun r hr=>Zq (Ae (HL _)) fun c _=>Zq (Z2 hp hr.1 (by omega)) fun r hr=>WM (fun _=>⟨_,rfl,hr.1⟩) fun _=>?_
 refine Zq (JR hp hr.1) fun f hf=>Zq (jW hp hf.1) fun b hb=>Zq (Z2 hp hb (by omega)) fun r hr=>?_
 obtain ⟨k,hk⟩:=Int.eq_ofNat_of_zero_le hr.2.1
 refine Zq (P:=fun j=>VS (j.2.1,j.2.2)) (Qa (fun i t=>t.2.2.2 = ((k - i : Nat) : Int) ∧ VS (t.2.1,t.2.2.1)) k (fun i t hi ht=>?_) (fun t ht=>?_) k 0 _ (by omega) ⟨hk,hr.1⟩) fun j hj=>?_
 ·obtain ⟨t1,t2⟩:=ht
  unfold UI
  rw [if_pos (by simp only [decide_eq_true_eq]; omega)]
  exact Zq (Z2 hp t2 (by omega)) fun r1 hr1=>Zq (Z2 hp hr1.1 (by omega)) fun r2 hr2=>Zq (Z2 hp hr2.1 (by omega)) fun r3 hr3=>Zq (YI _ hr1.2) fun x _=>Zq (YI _ hr2.2) fun y _=>⟨_,rfl,_,rfl,by show wr (t.2.2.2 - 1) = _; rw [t1,YT (by omega)]; omega,hr3.1⟩
 ·obtain ⟨t1,t2⟩:=ht
  unfold UI
  rw [if_neg (by simp only [decide_eq_true_eq]; omega)]
  exact ⟨_,rfl,_,rfl,t2⟩
 ·obtain ⟨m,em,h1,h2⟩:=VB hf.2
  refine Zq (P:=fun j=>VS (j.2.1,j.2.2)) (Zq (Ae (by rw [em]; exact QC m h2 h1 _)) fun q _=>WM (fun _=>Zq (Z2 hp hj (by omega)) fun r hr=>⟨_,rfl,hr.1⟩) fun _=>⟨_,rfl,hj⟩) fun j hj=>?_
  exact Zq (Z2 hp hj (by omega)) fun r1 h1=>Zq (Z2 hp h1.1 (by omega)) fun r2 h2=>Zq (YI _ h1.2) fun x _=>Zq (YI _ h2.2) fun x _=>Zq (YI _ h1.2) fun x _=>Zq (YI _ h2.2) fun x _=>⟨_,rfl,h2.1⟩
theorem yw : ∃ r,VP p s = some r ∧ VS r.1:=by
 unfold VP
 have z : ∀ {n : Nat},2 ≤ n → (0 : Int) ≤ 0 ∧ (0 : Int) < n:=fun h=>by omega
 have o : ∀ {n : Nat},2 ≤ n → (0 : Int) ≤ 1 ∧ (1 : Int) < n:=fun h=>by omega
 refine Zq (zu hp hs) fun c hc=>Zq (P:=fun j=>VS (j.2.2.2.2.2.1,j.2.2.2.2.2.2)) ?_ fun j hj=>⟨_,rfl,hj⟩
 refine Zq (Z2 hp hc (by omega)) fun r hr=>Zq (P:=fun j=>VS (j.2.2.2.2.2.1,j.2.2.2.2.2.2)) (WM (fun _=>?_) fun _=>WM (fun _=>?_) fun _=>WM (fun _=>?_) fun _=>WM (fun _=>?_) fun _=>WM (fun _=>?_) fun _=>?_) fun j hj=>⟨_,rfl,hj⟩
 ·exact Zq (Qu hp hr.1 (by simp)) fun r hr=>⟨_,rfl,hr.1⟩
 ·exact Zq (YI _ (o (by omega))) fun x _=>Zq (YI _ (z (by omega))) fun x _=>⟨_,rfl,hr.1⟩
 ·exact Zq (YI _ (o (by omega))) fun x _=>Zq (YI _ (z (by omega))) fun x _=>⟨_,rfl,hr.1⟩
 ·exact Zq (yM hp hr.1 (by simp)) fun r hr=>Zq (YI _ (z (by omega))) fun x _=>Zq (YI _ (z (by omega))) fun x _=>Zq (YI _ (o (by omega))) fun x _=>⟨_,rfl,hr⟩
 ·exact Zq (Qu hp hr.1 (by simp)) fun r hr=>⟨_,rfl,hr.1⟩
 ·exact ⟨_,rfl,hr.1⟩
end
theorem yE {p : List UInt8} (hp : p.length ≤ 4096) : ∃ r,VR p = some r ∧ True:=by
 unfold VR
 exact Zq (Q7 hp) fun s hs=>Zq (yw hp hs) fun c hc=>Zq (BX hp hc) fun a ha=>Zq (BX hp ha) fun b hb=>⟨_,rfl,trivial⟩
theorem Ax {p : List UInt8} (hp : p.length ≤ 4096) : ∃ r,WJ p = some r ∧ True:=by
 unfold WJ
 refine Zq (Q7 hp) fun s hs=>Zq (yE hp) fun c hc=>Zq (P:=fun j=>VS (j.1,j.2.1)) (Zq (Z2 hp hs (by omega)) fun r hr=>WM (fun _=>Zq (Z2 hp hr.1 (by omega)) fun r hr=>Zq (Ae (HL _)) fun c _=>⟨_,rfl,hr.1⟩) fun _=>⟨_,rfl,hr.1⟩) fun j hj=>?_
 refine Zq (P:=fun _=>True) (Zq (P:=fun _=>True) (WM (fun _=>⟨_,rfl,trivial⟩) fun _=>⟨_,rfl,trivial⟩) fun b _=>WM (fun _=>⟨_,rfl,trivial⟩) fun _=>⟨_,rfl,trivial⟩) fun k _=>?_
 refine Zq (P:=fun _=>True) ?_ fun j _=>⟨_,rfl,trivial⟩
 refine Zq (Z2 hp hj (by omega)) fun r1 h1=>Zq (Z2 hp h1.1 (by omega)) fun r2 h2=>Zq (Z2 hp h2.1 ?_) fun r3 h3=>Zq (Z2 hp h3.1 (by omega)) fun r4 h4=>⟨_,rfl,trivial⟩
 split <;> omega
theorem BY {c : GCipher} (h : ZU c = true) (k : Nat → UInt8) {f g : Nat → UInt8} (hfg : ∀ i,i < 16 → f i = g i) (n : Nat) : ∀ r i,i < 16 → Q9 c k f n r i = Q9 c k g n r i
 | 0,i,hi=>by show f i ^^^ k i = g i ^^^ k i; rw [hfg i hi]
 | r + 1,i,hi=>Hg h n (r + 1) _ (BY h k hfg n r) hi
theorem vf_at {f g : Nat → UInt8} (h : vf 16 f = vf 16 g) {i : Nat} (hi : i < 16) : f i = g i:=by
 rw [← Qy f hi,← Qy g hi]
 simp only [h]
theorem BV (E D : Nat → Blk) : ∀ (n : Nat) (x : GMeeting),x ∈ Uk E D n → ∃ g h : Nat,g < n ∧ h < 256 ∧ x = ⟨(g : Int),(h : Int)⟩ ∧ D h = E g
 | 0,x,hx=>by cases hx
 | n + 1,x,hx=>by
  rw [Uk] at hx
  rcases List.mem_append.1 hx with hx | hx
  ·obtain ⟨g,h,h1,h2⟩:=BV E D n x hx
   exact ⟨g,h,by omega,h2⟩
  ·unfold HJ pick at hx
   obtain ⟨h,hh,rfl⟩:=List.mem_map.1 hx
   obtain ⟨h1,h2⟩:=List.mem_filter.1 hh
   exact ⟨n,h,by omega,by simpa using h1,rfl,of_decide_eq_true h2⟩
theorem BH (c : GCipher) (a b : Blk) (x : GMeeting) (hx : x ∈ (Xu c a b).1) : JX c x.First x.Second a = (b,0):=by
 unfold Xu at hx
 cases hc : ZU c
 ·rw [hc] at hx; cases hx
 ·rw [hc] at hx
  obtain ⟨g,h,h1,h2,rfl,he⟩:=BV _ _ 256 x hx
  have r1 : decide ((0 : Int) ≤ (g : Int) ∧ (g : Int) ≤ 255) = true:=by simp only [decide_eq_true_eq]; omega
  have r2 : decide ((0 : Int) ≤ (h : Int) ∧ (h : Int) ≤ 255) = true:=by simp only [decide_eq_true_eq]; omega
  unfold JX
  simp only [hc,r1,r2,Bool.and_self,if_true]
  refine congrArg (fun z=>(z,(0 : Int))) ?_
  unfold US Kd at he
  rw [← AB hc (Uc (h : Int)) b c.Rounds.toNat]
  exact WO fun i hi=>BY hc _ (fun j hj=>(vf_at he hj).symm) _ _ i hi

section
variable {p : List UInt8} (hp : p.length ≤ 4096)
include hp
theorem BD : ∃ r,Y0 p = some r ∧ True:=by
 unfold Y0
 exact Zq (Q7 hp) fun s hs=>Zq (Ax hp) fun c _=>Zq (P:=fun _=>True) (Zq (Z2 hp hs (by omega)) fun r1 h1=>Zq (Z2 hp h1.1 (by omega)) fun r2 h2=>Zq (Z2 hp h2.1 (by omega)) fun r3 h3=>⟨_,rfl,trivial⟩) fun j _=>⟨_,rfl,trivial⟩
theorem Aq : ∃ r,XB p = some r ∧ True:=by
 unfold XB
 exact Zq (Q7 hp) fun s hs=>Zq (Ax hp) fun c _=>Zq (Z2 hp hs (by omega)) fun r1 h1=>Zq (Z2 hp h1.1 (by omega)) fun r2 h2=>Zq (Ae (Tt _ _ _ _)) fun t _=>WM (fun _=>⟨_,rfl,trivial⟩) fun _=>⟨_,rfl,trivial⟩
theorem KT : ∃ r,Xp p = some r ∧ True:=by
 unfold Xp
 exact Zq (Q7 hp) fun s hs=>Zq (Ax hp) fun c _=>Zq (P:=fun _=>True) (Zq (Z2 hp hs (by omega)) fun r1 h1=>Zq (Z2 hp h1.1 (by omega)) fun r2 h2=>⟨_,rfl,trivial⟩) fun j _=>⟨_,rfl,trivial⟩
theorem B8 : ∃ r,W4 p = some r ∧ True:=by
 unfold W4
 exact Zq (KT hp) fun r _=>⟨_,rfl,trivial⟩
end

theorem HG {c : GCipher} (hc : ZU c = true) (k : Blk) {x : Nat} (hx : x < 65536) : Xx c k (x : Int) = some (((Z5 c (bf k) x : Nat) : Int),0):=by
 have h0 : XZ c (x : Int) = 0:=by
  have : decide ((0 : Int) ≤ (x : Int) ∧ (x : Int) ≤ 65535) = true:=by simp only [decide_eq_true_eq]; omega
  unfold XZ
  rw [hc,this]; rfl
 rw [QQ]
 unfold Qr
 rw [h0,HR]; rfl
theorem yO (c : GCipher) (hc : ZU c = true) (k : Blk) (x0 q n : Nat) (hx : x0 < 65536) (d : GCipher × Blk × Int) (hd : d.1 = c ∧ d.2.1 = k) (hq : q ≤ 65536) :
  ZQ (XW d ((q : Int),(n : Int) - q,0)) ((x0 : Int),0) = some (.nx ((orb (Z5 c (bf k)) x0 q : Nat) : Int)):=by
 have:=Ya (f:=XW d ((q : Int),(n : Int) - q,0)) (fun i : Nat=>(((orb (Z5 c (bf k)) x0 i : Nat) : Int),(i : Int))) 0 q (Nat.zero_le _) (t:=.nx ((orb (Z5 c (bf k)) x0 q : Nat) : Int)) (fun i _ hi=>by
  unfold XW
  have e1 : decide ((i : Int) < (q : Int)) = true:=by simp only [decide_eq_true_eq]; omega
  simp only [e1,if_true,hd.1,hd.2,HG hc k (An c (bf k) hx i),Option.bind_some,bne_self_eq_false,Bool.false_eq_true,if_false,Xi (show i < 9223372036854775807 by omega)]
  rfl) (by
  unfold XW
  have e1 : decide ((q : Int) < (q : Int)) = false:=by simp
  simp only [e1,Bool.false_eq_true,if_false])
 exact this
theorem zg (c : GCipher) (hc : ZU c = true) (k : Blk) (x0 q n : Nat) (hx : x0 < 65536) (d : GCipher × Blk × Int) (hd : d.1 = c ∧ d.2.1 = k) (hq : q < n) (hn : n ≤ 65536)
  (hdist : ∀ i j,i < j → j < n → orb (Z5 c (bf k)) x0 i ≠ orb (Z5 c (bf k)) x0 j) :
  ZQ (XH d ((q : Int),(n : Int) - q,0) ((orb (Z5 c (bf k)) x0 q : Nat) : Int)) (((orb (Z5 c (bf k)) x0 q : Nat) : Int),0) = some (.nx ((orb (Z5 c (bf k)) x0 n : Nat) : Int)):=by
 have:=Ya (f:=XH d ((q : Int),(n : Int) - q,0) ((orb (Z5 c (bf k)) x0 q : Nat) : Int)) (fun i : Nat=>(((orb (Z5 c (bf k)) x0 (q + i) : Nat) : Int),(i : Int))) 0 (n - q) (Nat.zero_le _) (t:=.nx ((orb (Z5 c (bf k)) x0 n : Nat) : Int)) (fun i _ hi=>by
  unfold XH
  have e1 : decide ((i : Int) < (n : Int) - (q : Int)) = true:=by simp only [decide_eq_true_eq]; omega
  have e2:=Xi (show i < 9223372036854775807 by omega)
  simp only [e1,if_true,hd.1,hd.2,HG hc k (An c (bf k) hx (q + i)),Option.bind_some,bne_self_eq_false,Bool.false_eq_true,if_false,e2]
  have e4 : Z5 c (bf k) (orb (Z5 c (bf k)) x0 (q + i)) = orb (Z5 c (bf k)) x0 (q + (i + 1)):=rfl
  rw [e4]
  by_cases hl : i + 1 < n - q
  ·have e3 : decide (((i + 1 : Nat) : Int) < (n : Int) - (q : Int)) = true:=by simp only [decide_eq_true_eq]; omega
   have hne:=hdist q (q + (i + 1)) (by omega) (by omega)
   have e5 : (((orb (Z5 c (bf k)) x0 (q + (i + 1)) : Nat) : Int) == ((orb (Z5 c (bf k)) x0 q : Nat) : Int)) = false:=by
    rw [beq_eq_false_iff_ne]
    exact fun e=>hne (by omega)
   simp only [e3,if_true,e5,Option.bind_some,Bool.false_eq_true,if_false]
  ·have e3 : decide (((i + 1 : Nat) : Int) < (n : Int) - (q : Int)) = false:=by simp only [decide_eq_false_iff_not]; omega
   simp only [e3,Bool.false_eq_true,if_false,Option.bind_some]) (by
  unfold XH
  have e1 : decide (((n - q : Nat) : Int) < (n : Int) - (q : Int)) = false:=by simp only [decide_eq_false_iff_not]; omega
  simp only [e1,Bool.false_eq_true,if_false]
  rw [show q + (n - q) = n by omega])
 exact this
theorem Bv (p : List UInt8) (_ : Dat.bd p) : V3 p = some true:=by
 unfold V3 QE
 simp only [Option.bind_some]
 by_cases hb : decide ((p.length : Int) > 4096) = true
 ·rw [if_pos hb]
 ·rw [if_neg hb]
  have hp : p.length ≤ 4096:=by
   have : ¬ ((p.length : Int) > 4096):=fun h=>hb (decide_eq_true h)
   omega
  obtain ⟨d1,e1,_⟩:=BD hp
  obtain ⟨d2,e2,_⟩:=Aq hp
  obtain ⟨d3,e3,_⟩:=KT hp
  obtain ⟨d4,e4,_⟩:=B8 hp
  obtain ⟨w,w1,w2,w3⟩:=yj d4.1 d4.2.1 d4.2.2
  have hl:=BF d2.1 d2.2.1 d2.2.2
  have hm : ZQ (XN d2 (Xu d2.1 d2.2.1 d2.2.2) (Xu d2.1 d2.2.1 d2.2.2)) 0 = some (.nx ()):=by
   have:=Ya (f:=XN d2 (Xu d2.1 d2.2.1 d2.2.2) (Xu d2.1 d2.2.1 d2.2.2)) (fun i : Nat=>(i : Int)) 0 (Xu d2.1 d2.2.1 d2.2.2).1.length (Nat.zero_le _) (t:=.nx ()) (fun i _ hi=>by
    unfold XN
    have q1 : decide ((i : Int) < ((Xu d2.1 d2.2.1 d2.2.2).1.length : Int)) = true:=by simp only [decide_eq_true_eq]; omega
    have q2:=BH d2.1 d2.2.1 d2.2.2 _ (List.getElem_mem hi)
    simp only [q1,if_true,VO,List.getElem?_eq_getElem hi,Option.bind_some,decide_true,Bool.not_true,Bool.false_eq_true,if_false,TA,q2,bne_self_eq_false,Xi (show i < 9223372036854775807 by omega)]) (by
    unfold XN
    have q1 : decide (((Xu d2.1 d2.2.1 d2.2.2).1.length : Int) < ((Xu d2.1 d2.2.1 d2.2.2).1.length : Int)) = false:=by simp
    simp only [q1,Bool.false_eq_true,if_false])
   exact this
  simp only [e1,e2,e3,e4,Option.bind_some,TA,Tt,Je,Jv,QQ,Hv,w1,w2,bne_self_eq_false,Bool.false_eq_true,if_false,decide_true,Bool.not_true,hm,Fl.el]
  rcases w3 with ⟨rfl,hne⟩ | ⟨h0,hc,x0,q,n,hx,hx0,rfl,hq,hn,hcl,hdist⟩
  ·have : (XZ d4.1 d4.2.2 != 0) = true:=by simpa using hne
   simp only [this,if_true,BEq.rfl,Option.bind_some]
  ·have t1:=yO d4.1 hc d4.2.1 x0 q n hx0 d4 ⟨rfl,rfl⟩ (by omega)
   have t2:=zg d4.1 hc d4.2.1 x0 q n hx0 d4 ⟨rfl,rfl⟩ hq hn hdist
   have t3 : decide ((n : Int) - (q : Int) > 0) = true:=by simp only [decide_eq_true_eq]; omega
   simp only [bne_self_eq_false,Bool.false_eq_true,if_false,hx,t1,Option.bind_some,t2,hcl,BEq.rfl,if_true,t3]
end Go.Proofs.Ytkajmkegelcfjaa
