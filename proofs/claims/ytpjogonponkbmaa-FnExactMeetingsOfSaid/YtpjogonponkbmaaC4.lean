/- Plain laws, no program in sight. -/
import Derived.Test.YtpjogonponkbmaaC3
set_option linter.unusedVariables false
set_option linter.unusedSimpArgs false
set_option maxRecDepth 20000
set_option maxHeartbeats 400000
namespace Go.Proofs.Ytpjogonponkbmaa
open Go
open Flat (enc)
theorem Aa {α : Type} {l : List α} {i : Nat} (h : i < l.length) : idx l (i : Int) = some l[i]:=by
 unfold idx
 rw [if_pos (by omega)]
 simp
theorem YN {i : Nat} (h : i < 9223372036854775807) : wr ((i : Int) + 1) = ((i + 1 : Nat) : Int):=by
 rw [WW (by omega)]; rfl

section
variable {S T : Type} {f : S → Option (Fl S T)}
theorem B1 (g : Nat → S) (m n : Nat) (hmn : m ≤ n) (h : ∀ i, m ≤ i → i < n → f (g i) = some (.nx (g (i + 1)))) : ZB f (g m) = ZB f (g n) := by
  induction n with
  | zero => have : m = 0 := by omega
            subst this; rfl
  | succ n ih =>
    rcases Nat.lt_or_ge m (n + 1) with h1 | h1
    · rw [ih (by omega) (fun i h2 h3 => h i h2 (by omega)), WH (h n (by omega) (by omega))]
    · have : m = n + 1 := by omega
      subst this; rfl
theorem ZU (g : Nat → S) (m n : Nat) (hmn : m ≤ n) {t : T} (h : ∀ i,m ≤ i → i < n → f (g i) = some (.nx (g (i + 1)))) (he : f (g n) = some (.ex t)) : ZB f (g m) = some t:=by
 rw [B1 g m n hmn h,X4 he]
theorem V8 (g : Nat → S) (p : Nat → Bool) (t : Nat → T) {e : T} (n : Nat) : ∀ (k m : Nat),m + k = n → (∀ i,m ≤ i → i < n → f (g i) = some (if p i then .ex (t i) else .nx (g (i + 1)))) → f (g n) = some (.ex e) →
  ZB f (g m) = some (((List.range' m k).find? p).elim e t)
 | 0,m,hk,_,he=>by
  have : m = n:=by omega
  subst this
  rw [X4 he]; rfl
 | k + 1,m,hk,h,he=>by
  have h1:=h m (Nat.le_refl _) (by omega)
  rw [List.range'_succ,List.find?_cons]
  cases hp : p m with
  | true=>rw [hp] at h1; rw [X4 h1]; rfl
  | false =>
   rw [hp] at h1
   rw [WH h1,V8 g p t n k (m + 1) (by omega) (fun i h2 h3=>h i (by omega) h3) he]
end

theorem J0 {T : Type} {f : Int → Option (Fl Int (Fl Unit T))} (p : Nat → Bool) {t : T} {n m : Nat} (hm : m ≤ n)
  (h : ∀ i,m ≤ i → i < n → f (i : Int) = some (if p i then .ex (.ex t) else .nx ((i + 1 : Nat) : Int))) (he : f (n : Int) = some (.ex (.nx ()))) :
  ZB f (m : Int) = some (if (List.range' m (n - m)).any p then .ex t else .nx ()):=by
 rw [V8 (fun i : Nat=>(i : Int)) p (fun _=>.ex t) n (n - m) m (by omega) h he]
 cases hf : (List.range' m (n - m)).find? p with
 | none =>
  have : (List.range' m (n - m)).any p = false:=by
   rw [List.any_eq_false]
   rw [List.find?_eq_none] at hf
   exact hf
  rw [this]; rfl
 | some i =>
  have : (List.range' m (n - m)).any p = true:=by
   rw [List.any_eq_true]
   exact ⟨i,List.mem_of_find?_eq_some hf,List.find?_some hf⟩
  rw [this]; rfl
theorem WD {p : Nat → Bool} {m n : Nat} : (List.range' m (n - m)).any p = true ↔ ∃ i,m ≤ i ∧ i < n ∧ p i = true:=by
 rw [List.any_eq_true]
 simp only [List.mem_range'_1]
 constructor
 ·rintro ⟨i,⟨h1,h2⟩,h3⟩; exact ⟨i,h1,by omega,h3⟩
 ·rintro ⟨i,h1,h2,h3⟩; exact ⟨i,⟨h1,by omega⟩,h3⟩
class Wt (α : Type) [Dat α] where
 wt : α → Nat
 ln : α → Prop
 bdln : ∀ x,Dat.bd x → ln x
 wtln : ∀ x,wt x ≤ 1048576 → ln x
instance : Wt Int:=⟨fun _=>0,fun _=>True,fun _ _=>trivial,fun _ _=>trivial⟩
instance : Wt UInt8:=⟨fun _=>0,fun _=>True,fun _ _=>trivial,fun _ _=>trivial⟩
instance : Wt Bool:=⟨fun _=>0,fun _=>True,fun _ _=>trivial,fun _ _=>trivial⟩
instance : Wt Str:=⟨fun s=>s.l.length,fun s=>s.l.length ≤ 9223372036854775807,fun _ h=>h,fun _ h=>by omega⟩
instance {n : Nat} : Wt (Vector UInt8 n):=⟨fun _=>0,fun _=>True,fun _ _=>trivial,fun _ _=>trivial⟩
instance {n m : Nat} : Wt (Vector (Vector UInt8 m) n):=⟨fun _=>0,fun _=>True,fun _ _=>trivial,fun _ _=>trivial⟩
theorem Ac {α : Type} {f : α → Nat} {l : List α} {x : α} (h : x ∈ l) : f x ≤ (l.map f).sum:=by
 induction l with
 | nil=>cases h
 | cons y l ih =>
  rw [List.map_cons,List.sum_cons]
  rcases List.mem_cons.1 h with rfl | h
  ·omega
  ·have:=ih h; omega
instance {α : Type} [Dat α] [Wt α] : Wt (List α):=⟨fun l=>l.length + (l.map Wt.wt).sum,fun l=>l.length ≤ 9223372036854775807 ∧ ∀ x ∈ l,Wt.ln x,fun _ h=>⟨h.1,fun x hx=>Wt.bdln x (h.2 x hx)⟩,
 fun l h=>⟨by omega,fun x hx=>Wt.wtln x (by have:=Ac (f:=Wt.wt) hx; omega)⟩⟩
instance {α β : Type} [Dat α] [Dat β] [Wt α] [Wt β] : Wt (α × β):=⟨fun x=>Wt.wt x.1 + Wt.wt x.2,fun x=>Wt.ln x.1 ∧ Wt.ln x.2,fun x h=>⟨Wt.bdln x.1 h.1,Wt.bdln x.2 h.2⟩,fun x h=>⟨Wt.wtln x.1 (by omega),Wt.wtln x.2 (by omega)⟩⟩
theorem Ad {α : Type} (p0 : List α) (ne : α → α → Option Bool) (L : Int → Option (Fl Int (Fl Unit Bool)))
  (hL : ∀ s,L s = if (decide (s < (p0.length : Int))) = true then (((idx p0 s).bind fun x=>(idx p0 s).bind fun y=>ne x y : Option Bool).bind fun j=>if j = true then (some (Fl.ex (Fl.ex false))) else (some (Fl.nx (wr (s + 1))))) else (some (Fl.ex (Fl.nx ()))))
  (hn : ∀ x ∈ p0,ne x x = some false) (hl : p0.length ≤ 9223372036854775807) :
  (if ((p0.length : Int) != (p0.length : Int)) = true then (some false) else ((ZB L 0 : Option (Fl Unit Bool)).bind fun j2=>j2.el (fun _=>some true) (fun r=>some r))) = some true:=by
 have:=ZU (f:=L) (fun i : Nat=>(i : Int)) 0 p0.length (Nat.zero_le _) (t:=.nx ()) (fun i _ hi=>by
  rw [hL]
  simp only [Int.ofNat_lt,hi,decide_true,if_true,Aa hi,Option.bind_some,hn _ (List.getElem_mem hi)]
  simp [YN (show i < 9223372036854775807 by omega)]) (by
  rw [hL]; simp)
 have h2 : ZB L 0 = some (.nx ()):=this
 simp [h2,Fl.el]

@[simp] theorem VS {α : Type} (l : List α) (i : Nat) : idx l (i : Int) = l[i]?:=by unfold idx; simp
@[simp] theorem idx_zero {α : Type} (l : List α) : idx l (0 : Int) = l[0]?:=VS l 0
theorem J8 {T : Type} {f : Int → Option (Fl Int (Fl Unit T))} (n : Nat) (p : Nat → Bool) (t : Nat → T) (hn : n < 9223372036854775807)
  (h : ∀ i,i < n → f (i : Int) = some (if p i then .ex (.ex (t i)) else .nx (wr ((i : Int) + 1)))) (he : f (n : Int) = some (.ex (.nx ()))) (m : Nat) (hm : m ≤ n) :
  ZB f (m : Int) = some (match (List.range' m (n - m)).find? p with | some i=>.ex (t i) | none=>.nx ()):=by
 rw [V8 (fun i : Nat=>(i : Int)) p (fun i=>.ex (t i)) n (n - m) m (by omega) (fun i _ hi=>by rw [h i hi,YN (by omega)]) he]
 cases (List.range' m (n - m)).find? p <;> rfl
theorem Hk {T : Type} {f : Int → Option (Fl Int (Fl Unit T))} (n : Nat) (p : Nat → Bool) (t : T) (hn : n < 9223372036854775807)
  (h : ∀ i,i < n → f (i : Int) = some (if p i then .ex (.ex t) else .nx (wr ((i : Int) + 1)))) (he : f (n : Int) = some (.ex (.nx ()))) (m : Nat) (hm : m ≤ n) :
  ZB f (m : Int) = some (if (List.range' m (n - m)).any p then .ex t else .nx ()) :=
 J0 p hm (fun i _ hi=>by rw [h i hi,YN (by omega)]) he
theorem QQ {T : Type} {f : Int → Option (Fl Int (Fl Unit T))} (n : Nat) (p : Nat → Bool) (t : T) (hn : n < 9223372036854775807) (m : Nat) (hm : m ≤ n)
  (h : ∀ i,m ≤ i → i < n → f (i : Int) = some (if p i then .ex (.ex t) else .nx (wr ((i : Int) + 1)))) (he : f (n : Int) = some (.ex (.nx ()))) :
  ZB f (m : Int) = some (if (List.range' m (n - m)).any p then .ex t else .nx ()) :=
 J0 p hm (fun i hmi hi=>by rw [h i hmi hi,YN (by omega)]) he
theorem QP {α : Type} {by_ : Nat} {l m : List α} (h : (l.length + m.length) * by_ ≤ 140737488355328) : app by_ l m = some (l ++ m):=by unfold app; rw [if_pos h]
theorem KX {α : Type} {l : List α} {i j : Nat} (h : i ≤ j) (h2 : j ≤ l.length) : slc l (i : Int) (j : Int) = some ((l.take j).drop i):=by
 unfold slc; rw [if_pos (by omega)]; simp

theorem UL {α : Type} {n : Nat} {v w : Vector α n} (h : ∀ i (hi : i < n),v[i] = w[i]) : v = w:=Vector.ext h
@[simp] theorem W8 {α : Type} {n : Nat} (v : Vector α n) (i : Nat) : Zs v (i : Int) = v[i]?:=by unfold Zs; simp
theorem T7 {n : Nat} (p0 : Vector UInt8 n) (L : Vector UInt8 n × Int → Option (Fl (Vector UInt8 n × Int) (Vector UInt8 n)))
  (hL : ∀ s,L s = if decide (s.2 < (n : Int)) = true then ((Zs p0 s.2).bind fun x=>(Zs s.1 s.2).bind fun _=>some (Fl.nx (s.1.setIfInBounds (s.2).toNat x,wr (s.2 + 1)))) else (some (Fl.ex s.1))) (hn : n < 9223372036854775807) (z : Vector UInt8 n) :
  ZB L (z,0) = some p0:=by
 have:=ZU (f:=L) (fun i : Nat=>(Vector.ofFn fun j : Fin n=>if j.1 < i then p0[j] else z[j],(i : Int))) 0 n (Nat.zero_le _) (t:=p0) (fun i _ hi=>by
  rw [hL]
  simp only [Int.ofNat_lt,hi,decide_true,if_true,W8,Vector.getElem?_eq_getElem hi,Option.bind_some,Int.toNat_natCast,YN (show i < 9223372036854775807 by omega)]
  congr 3
  apply UL
  intro j hj
  rw [Vector.getElem_setIfInBounds]
  simp only [Vector.getElem_ofFn,Fin.getElem_fin]
  by_cases h : i = j
  ·subst h; simp
  ·by_cases h2 : j < i
   ·simp [h,h2,show j < i + 1 by omega]
   ·simp [h,h2,show ¬ j < i + 1 by omega]) (by
  rw [hL]
  simp only [Int.ofNat_lt,Nat.lt_irrefl,decide_false,Bool.false_eq_true,if_false]
  congr 2
  apply UL
  intro j hj
  simp [hj])
 have h0 : (Vector.ofFn fun j : Fin n=>if j.1 < 0 then p0[j] else z[j]) = z:=by
  apply UL
  intro j hj
  simp
 rw [h0] at this
 exact this
theorem wr_k {k : Int} (h : 0 ≤ k) (h2 : k < 9223372036854775807) : wr (k + 1) = k + 1:=WW (by omega)
def BG {α : Type} (Fm : α → Int → Option (α × Int)) (Fh : α → Int → Option Int) (x : α) (n : Nat) : Prop :=
 ∀ k : Int,0 ≤ k → k + n ≤ 4611686018427387904 → ∃ x',Fm x k = some (x',k + n) ∧ Fh x' k = some (k + n)
theorem Bg {α : Type} (Fm : List α → Int → Option (List α × Int)) (Fh : List α → Int → Option Int) (Lm : List α × Int × Int → Option (Fl (List α × Int × Int) (List α × Int))) (Lh : List α → Int × Int → Option (Fl (Int × Int) (Fl Int Int))) (mk : α → Nat)
  (hFm : ∀ l k,Fm l k = (ZB Lm (l,k,0) : Option (List α × Int)).bind fun j1=>some (j1.1,j1.2)) (hFh : ∀ l k,Fh l k = (ZB (Lh l) (k,0) : Option (Fl Int Int)).bind fun j1=>j1.el (fun s=>some s) (fun r=>some r))
  (l : List α) (hl : l.length ≤ 9223372036854775807)
  (hm : ∀ (l' : List α) (i : Nat) (k : Int) (hi : i < l'.length),l'[i] ∈ l → i < 9223372036854775807 → 0 ≤ k → k + mk l'[i] ≤ 4611686018427387904 → ∃ x',Lm (l',k,(i : Int)) = some (.nx (l'.set i x',k + mk l'[i],wr ((i : Int) + 1))) ∧
   ∀ (m : List α),m[i]? = some x' → Lh m (k,(i : Int)) = some (.nx (k + mk l'[i],wr ((i : Int) + 1))))
  (hme : ∀ (l' : List α) k,Lm (l',k,(l'.length : Int)) = some (.ex (l',k))) (hhe : ∀ (m : List α) k,Lh m (k,(m.length : Int)) = some (.ex (.nx k))) : BG Fm Fh l (l.map mk).sum:=by
 have aux : ∀ (n i : Nat) (l' : List α) (k : Int),i + n = l'.length → l'.length = l.length → l'.drop i = l.drop i → 0 ≤ k → k + (((l.drop i).map mk).sum : Nat) ≤ 4611686018427387904 →
   ∃ l'',ZB Lm (l',k,(i : Int)) = some (l'',k + (((l.drop i).map mk).sum : Nat)) ∧ l''.length = l'.length ∧ (∀ j,j < i → l''[j]? = l'[j]?) ∧ ZB (Lh l'') (k,(i : Int)) = some (.nx (k + (((l.drop i).map mk).sum : Nat))):=by
  intro n
  induction n with
  | zero =>
   intro i l' k hi hll hd h0 hk
   have hi : i = l'.length:=by omega
   subst hi
   have e : l.drop l'.length = []:=by rw [hll]; simp
   rw [e]
   refine ⟨l',?_,rfl,fun _ _=>rfl,?_⟩
   ·rw [X4 (hme l' k)]; simp
   ·rw [X4 (hhe l' k)]; simp
  | succ n ih =>
   intro i l' k hi hll hd h0 hk
   have hil : i < l'.length:=by omega
   have hil2 : i < l.length:=by omega
   have e1 : l'[i] = l[i]:=by
    have h1:=List.drop_eq_getElem_cons hil
    have h2:=List.drop_eq_getElem_cons hil2
    rw [h1,h2] at hd
    exact (List.cons.inj hd).1
   have e2 : l.drop i = l[i] :: l.drop (i + 1):=List.drop_eq_getElem_cons hil2
   rw [e2,List.map_cons,List.sum_cons] at hk ⊢
   obtain ⟨x',h1,h2⟩:=hm l' i k hil (by rw [e1]; exact List.getElem_mem hil2) (by omega) h0 (by rw [e1]; omega)
   rw [e1] at h1 h2
   rw [YN (by omega)] at h1 h2
   obtain ⟨l'',k1,k2,k3,k4⟩:=ih (i + 1) (l'.set i x') (k + mk l[i]) (by simp; omega) (by simpa using hll) (by
    rw [List.drop_set_of_lt (by omega)]
    have h1:=List.drop_eq_getElem_cons hil
    rw [h1,e2] at hd
    exact (List.cons.inj hd).2) (by omega) (by omega)
   refine ⟨l'',?_,by simpa using k2,fun j hj=>?_,?_⟩
   ·rw [WH h1,k1]; congr 2; omega
   ·rw [k3 j (by omega),List.getElem?_set_ne (by omega)]
   ·rw [WH (h2 l'' (by rw [k3 i (by omega)]; simp [hil])),k4]; congr 2; omega
 intro k h0 hk
 obtain ⟨l'',k1,k2,k3,k4⟩:=aux l.length 0 l k (by omega) rfl rfl h0 (by simpa using hk)
 simp only [List.drop_zero] at k1 k4
 refine ⟨l'',?_,?_⟩
 ·rw [hFm]
  have : ZB Lm (l,k,0) = _:=k1
  rw [this]; rfl
 ·rw [hFh]
  have : ZB (Lh l'') (k,0) = _:=k4
  rw [this]; rfl
theorem Bp (x : Vector UInt8 16) : Yu x = some x:=by
 unfold Yu
 rw [T7 x (Vh x) (fun s=>by unfold Vh; rfl) (by omega)]; rfl
theorem Jk (n a b : Int) : Wi n a b = some (decide (a ≤ n ∧ n ≤ b)):=by
 unfold Wi
 by_cases h1 : a ≤ n <;> by_cases h2 : n ≤ b <;> simp [h1,h2]
theorem H0 (n a b : Int) : W5 n a b = some (decide (a ≤ n ∧ n ≤ b)):=by
 unfold W5
 by_cases h1 : a ≤ n <;> by_cases h2 : n ≤ b <;> simp [h1,h2]
theorem QE (a : Nat) (h : a < 9223372036854775808) : (BitVec.ofInt 64 (a : Int)).toNat = a:=by
 rw [BitVec.toNat_ofInt]
 omega
theorem Tk (a b : Nat) (ha : a < 9223372036854775808) (hb : b < 9223372036854775808) : JN (a : Int) (b : Int) = ((a ^^^ b : Nat) : Int):=by
 unfold JN
 rw [BitVec.toNat_xor,QE a ha,QE b hb]
 have : a ^^^ b < 2 ^ 63:=Nat.xor_lt_two_pow ha hb
 exact WW (by omega)
theorem BA (a b : Nat) (ha : a < 9223372036854775808) (hb : b < 9223372036854775808) : andI (a : Int) (b : Int) = ((a &&& b : Nat) : Int):=by
 unfold andI
 rw [BitVec.toNat_and,QE a ha,QE b hb]
 have : a &&& b < 2 ^ 63:=Nat.and_lt_two_pow _ hb
 exact WW (by omega)
theorem U8 (a i : Nat) (hi : i ≤ 63) (h : a <<< i < 9223372036854775808) : QO (a : Int) (i : Int) = ((a <<< i : Nat) : Int):=by
 unfold QO
 rw [show min ((i : Int)).toNat 64 = i by omega]
 have : ((a : Int) * 2 ^ i) = ((a <<< i : Nat) : Int):=by rw [Nat.shiftLeft_eq]; simp
 rw [this]
 generalize a <<< i = x at h ⊢
 exact WW (by omega)
theorem BP (a i : Nat) (hi : i ≤ 63) : shrI (a : Int) (i : Int) = ((a >>> i : Nat) : Int):=by
 unfold shrI
 rw [show min ((i : Int)).toNat 64 = i by omega,Nat.shiftRight_eq_div_pow,Int.fdiv_eq_ediv_of_nonneg _ (by exact_mod_cast Nat.zero_le _)]
 simp
theorem JQ (a i : Nat) : ((a >>> i) &&& 1 = 1) ↔ a.testBit i = true:=by
 rw [Nat.testBit,Nat.and_comm]
 have h:=Nat.and_one_is_mod (a >>> i)
 rw [Nat.and_comm] at h
 rw [h]
 rcases Nat.mod_two_eq_zero_or_one (a >>> i) with h | h <;> simp [h]
theorem tmod2 (a : Nat) : Int.tmod (a : Int) 2 = ((a % 2 : Nat) : Int):=by
 rw [Int.tmod_eq_emod_of_nonneg (by omega)]; simp
theorem BJ (a : Nat) : Int.tdiv (a : Int) 2 = ((a / 2 : Nat) : Int):=by
 rw [Int.tdiv_eq_ediv_of_nonneg (by omega)]; simp
theorem JT (a : Nat) (h : a < 9223372036854775808) : wr (a : Int) = (a : Int):=WW (by omega)
theorem wru_nn (a : Nat) (h : a < 9223372036854775808) : IntKind.u64.wrap (a : Int) = (a : Int):=by
 simp only [IntKind.wrap,IntKind.bits,IntKind.signed]
 simp
 omega

def Z9 (m deg : Nat) : Nat → Nat → Nat
 | 0,a=>a
 | k + 1,a=>Z9 m deg k (if a.testBit (deg + k) then a ^^^ (m <<< k) else a)
theorem UH {m k n : Nat} (h : m < 2 ^ n) : m <<< k < 2 ^ (n + k):=by
 rw [Nat.shiftLeft_eq,Nat.pow_add]
 exact Nat.mul_lt_mul_of_pos_right h (Nat.two_pow_pos _)
theorem Qy {a n : Nat} (h : a < 2 ^ (n + 1)) (hb : a.testBit n = false) : a < 2 ^ n:=by
 apply Nat.lt_pow_two_of_testBit
 intro i hi
 rcases Nat.eq_or_lt_of_le hi with rfl | hi
 ·exact hb
 ·exact Nat.testBit_lt_two_pow (Nat.lt_of_lt_of_le h (Nat.pow_le_pow_right (by omega) hi))
theorem HS {m d : Nat} (h1 : 2 ^ d ≤ m) (h2 : m < 2 ^ (d + 1)) : m.testBit d = true:=by
 rw [Nat.testBit,Nat.shiftRight_eq_div_pow]
 have : m / 2 ^ d = 1:=by
  apply Nat.div_eq_of_lt_le
  ·simpa using h1
  ·rw [Nat.pow_succ] at h2; omega
 rw [this]; rfl
theorem HV {m d k a : Nat} (h1 : 2 ^ d ≤ m) (h2 : m < 2 ^ (d + 1)) (ha : a < 2 ^ (d + (k + 1))) (hb : a.testBit (d + k) = true) : a ^^^ (m <<< k) < 2 ^ (d + k):=by
 have hm : m <<< k < 2 ^ (d + (k + 1)):=by have:=UH (k:=k) h2; rwa [show d + 1 + k = d + (k + 1) by omega] at this
 refine Qy (Nat.xor_lt_two_pow (by rwa [show d + k + 1 = d + (k + 1) by omega]) (by rwa [show d + k + 1 = d + (k + 1) by omega])) ?_
 rw [Nat.testBit_xor,hb,Nat.testBit_shiftLeft]
 simp [HS h1 h2]
theorem Qg {m d : Nat} (h1 : 2 ^ d ≤ m) (h2 : m < 2 ^ (d + 1)) : ∀ (k a : Nat),a < 2 ^ (d + k) → Z9 m d k a < 2 ^ d
 | 0,a,h=>by simpa [Z9] using h
 | k + 1,a,h=>by
  unfold Z9
  cases hb : a.testBit (d + k) with
  | true=>simp only [if_true]; exact Qg h1 h2 k _ (HV h1 h2 h hb)
  | false=>simp only [Bool.false_eq_true,if_false]; exact Qg h1 h2 k a (Qy h hb)
theorem V7 (m d : Nat) : ∀ (k a b : Nat),Z9 m d k (a ^^^ b) = Z9 m d k a ^^^ Z9 m d k b
 | 0,_,_=>rfl
 | k + 1,a,b=>by
  simp only [Z9]
  rw [Nat.testBit_xor]
  cases a.testBit (d + k) <;> cases b.testBit (d + k) <;> simp only [Bool.xor_false,Bool.false_xor,Bool.xor_self,Bool.xor_true,Bool.not_false,Bool.not_true,Bool.false_eq_true,if_true,if_false]
  ·exact V7 m d k a b
  ·rw [Nat.xor_assoc]; exact V7 m d k a _
  ·rw [← V7 m d k]; congr 1; rw [Nat.xor_assoc,Nat.xor_comm b,← Nat.xor_assoc]
  ·rw [← V7 m d k]; congr 1
   rw [Nat.xor_assoc,← Nat.xor_assoc (m <<< k),Nat.xor_comm (m <<< k) b,Nat.xor_assoc,Nat.xor_self,Nat.xor_zero]
theorem W9 {m d : Nat} : ∀ (k a : Nat),a < 2 ^ d → Z9 m d k a = a
 | 0,_,_=>rfl
 | k + 1,a,h=>by
  unfold Z9
  rw [Nat.testBit_lt_two_pow (Nat.lt_of_lt_of_le h (Nat.pow_le_pow_right (by omega) (by omega)))]
  simp only [Bool.false_eq_true,if_false]
  exact W9 k a h
theorem Qz {m d k a : Nat} (h : a < 2 ^ (d + k)) : Z9 m d (k + 1) a = Z9 m d k a:=by
 conv=>lhs; unfold Z9
 rw [Nat.testBit_lt_two_pow h]; rfl
theorem Uq (m d : Nat) : ∀ (k x : Nat),Z9 m d (k + 1) (x <<< 1) = (if ((Z9 m d k x) <<< 1).testBit d then ((Z9 m d k x) <<< 1) ^^^ m else (Z9 m d k x) <<< 1)
 | 0,x=>by simp [Z9]
 | k + 1,x=>by
  conv=>lhs; unfold Z9
  conv=>rhs; unfold Z9
  have e : (x <<< 1).testBit (d + (k + 1)) = x.testBit (d + k):=by
   rw [Nat.testBit_shiftLeft]
   have : d + (k + 1) ≥ 1:=by omega
   simp only [this,decide_true,Bool.true_and]
   congr 1
  rw [e]
  cases x.testBit (d + k) with
  | false=>simp only [Bool.false_eq_true,if_false]; exact Uq m d k x
  | true =>
   simp only [if_true]
   have e2 : x <<< 1 ^^^ m <<< (k + 1) = (x ^^^ m <<< k) <<< 1:=by
    rw [Nat.shiftLeft_xor_distrib,← Nat.shiftLeft_add]
   rw [e2]
   exact Uq m d k _

def Uy (n : Nat) : Nat:=if n = 0 then 0 else n.log2 + 1
theorem Bu (n : Nat) (h : 0 < n) : Uy n = Uy (n / 2) + 1:=by
 unfold Uy
 rw [if_neg (by omega)]
 by_cases h2 : n / 2 = 0
 ·have : n = 1:=by omega
  subst this; rfl
 ·rw [if_neg h2]
  conv=>lhs; rw [Nat.log2_def]
  rw [if_pos (by omega)]
theorem Kp {n p : Nat} (h1 : 2 ^ p ≤ n) (h2 : n < 2 ^ (p + 1)) : Uy n = p + 1:=by
 have h0 : n ≠ 0:=by have:=Nat.two_pow_pos p; omega
 unfold Uy
 rw [if_neg h0,(Nat.log2_eq_iff h0).2 ⟨h1,h2⟩]
theorem B8 {n p : Nat} (h : n < 2 ^ p) : Uy n ≤ p:=by
 unfold Uy
 split
 ·omega
 ·rename_i h0
  have:=(Nat.log2_lt h0).2 h
  omega
theorem Td (n : Nat) (h : n < 9223372036854775808) : Y1 (n : Int) = some ((Uy n : Nat) : Int):=by
 have key : ∀ (f n c : Nat),n < 2 ^ f → f ≤ 63 → c + f ≤ 1000 → ZB Yq ((n : Int),(c : Int)) = some ((c + Uy n : Nat) : Int):=by
  intro f
  induction f with
  | zero =>
   intro n c hn _ _
   have : n = 0:=by simpa using hn
   subst this
   rw [X4 (t:=(c : Int))]
   ·simp [Uy]
   ·unfold Yq; simp
  | succ f ih =>
   intro n c hn hf hc
   by_cases h0 : n = 0
   ·subst h0
    rw [X4 (t:=(c : Int))]
    ·simp [Uy]
    ·unfold Yq; simp
   ·have hp : 0 < n:=by omega
    have hlt : n < 9223372036854775808:=Nat.lt_of_lt_of_le hn (Nat.pow_le_pow_right (by omega : 0 < 2) hf)
    have hst : Yq ((n : Int),(c : Int)) = some (.nx (((n / 2 : Nat) : Int),((c + 1 : Nat) : Int))):=by
     unfold Yq
     have : (n : Int) > 0:=by omega
     simp only [this,decide_true,if_true,BJ]
     rw [JT _ (by omega),YN (by omega)]
    rw [WH hst,ih (n / 2) (c + 1) (by rw [Nat.pow_succ] at hn; omega) (by omega) (by omega),Bu n hp]
    congr 2; omega
 unfold Y1
 have:=key 63 n 0 h (by omega) (by omega)
 have h2 : ZB Yq ((n : Int),0) = _:=this
 rw [h2]
 simp
theorem Br (a b d k : Nat) (hd : d ≤ 20) (hk : k ≤ 20) (h1 : 2 ^ d ≤ b) (h2 : b < 2 ^ (d + 1)) (ha : a < 2 ^ (d + k)) : WM (a : Int) (b : Int) = some ((Z9 b d k a : Nat) : Int):=by
 have big : ∀ n,n ≤ 62 → ∀ x : Nat,x < 2 ^ n → x < 9223372036854775808:=fun n hn x hx=>Nat.lt_of_lt_of_le hx (Nat.pow_le_pow_right (by omega : 0 < 2) (by omega : n ≤ 63))
 have key : ∀ (k a : Nat),k ≤ 20 → a < 2 ^ (d + k) → ZB (XQ (b : Int) ((d + 1 : Nat) : Int)) ((a : Int),((Uy a : Nat) : Int)) = some ((Z9 b d k a : Nat) : Int):=by
  intro k
  induction k with
  | zero =>
   intro a _ ha
   have hl:=B8 (p:=d) ha
   rw [X4 (t:=(a : Int))]
   ·rfl
   ·unfold XQ
    have : ¬ (((Uy a : Nat) : Int) ≥ ((d + 1 : Nat) : Int)):=by omega
    simp only [this,decide_false,Bool.false_eq_true,if_false]
  | succ k ih =>
   intro a hk ha
   cases hb : a.testBit (d + k) with
   | false =>
    have ha':=Qy (by rwa [show d + k + 1 = d + (k + 1) by omega]) hb
    rw [ih a (by omega) ha',Qz ha']
   | true =>
    have hge : 2 ^ (d + k) ≤ a:=Nat.ge_two_pow_of_testBit hb
    have hl : Uy a = d + k + 1:=Kp hge (by rwa [show d + k + 1 = d + (k + 1) by omega])
    have hx:=HV h1 h2 ha hb
    have hshl : b <<< k < 2 ^ (d + 1 + k):=UH h2
    have hst : XQ (b : Int) ((d + 1 : Nat) : Int) ((a : Int),((Uy a : Nat) : Int)) = some (.nx (((a ^^^ b <<< k : Nat) : Int),((Uy (a ^^^ b <<< k) : Nat) : Int))):=by
     unfold XQ
     have c1 : ((Uy a : Nat) : Int) ≥ ((d + 1 : Nat) : Int):=by rw [hl]; omega
     have c2 : IntKind.u64.wrap (wr (((Uy a : Nat) : Int) - ((d + 1 : Nat) : Int))) = ((k : Nat) : Int):=by
      rw [hl,show ((d + k + 1 : Nat) : Int) - ((d + 1 : Nat) : Int) = ((k : Nat) : Int) by omega,JT _ (by omega),wru_nn _ (by omega)]
     simp only [c1,decide_true,if_true,c2]
     have c3 : X6 ((k : Nat) : Int) = some ():=by unfold X6; rw [if_pos (by omega)]
     rw [c3,U8 b k (by omega) (big _ (by omega) _ hshl),Tk a _ (big _ (by omega) _ ha) (big _ (by omega) _ hshl)]
     simp only [Option.bind_some]
     rw [Td _ (big _ (by omega) _ hx)]
     rfl
    rw [WH hst,ih _ (by omega) hx]
    conv=>rhs; unfold Z9
    rw [hb]; rfl
 unfold WM
 rw [Td b (big _ (by omega) _ h2),Td a (big _ (by omega) _ ha)]
 simp only [Option.bind_some]
 rw [Kp h1 h2,key k a hk ha]
 rfl
theorem BN (a m d : Nat) (hd : d ≤ 15) (ha : a < 2 ^ 16) (hm : m < 2 ^ 20) : WT (a : Int) (m : Int) (d : Int) = some ((Z9 m d (16 - d) a : Nat) : Int):=by
 have key : ∀ (k a : Nat),d + k ≤ 16 → a < 2 ^ 40 → ZB (W3 (m : Int) (d : Int)) ((a : Int),((d + k : Nat) : Int) - 1) = some ((Z9 m d k a : Nat) : Int):=by
  intro k
  induction k with
  | zero =>
   intro a _ _
   rw [X4 (t:=(a : Int))]
   ·rfl
   ·unfold W3
    have : ¬ (((d + 0 : Nat) : Int) - 1 ≥ (d : Int)):=by omega
    simp only [this,decide_false,Bool.false_eq_true,if_false]
  | succ k ih =>
   intro a hk ha
   have e0 : ((d + (k + 1) : Nat) : Int) - 1 = ((d + k : Nat) : Int):=by omega
   have hsh : m <<< k < 2 ^ (20 + k):=UH hm
   have hsh2 : m <<< k < 2 ^ 40:=Nat.lt_of_lt_of_le hsh (Nat.pow_le_pow_right (by omega) (by omega))
   have hst : W3 (m : Int) (d : Int) ((a : Int),((d + (k + 1) : Nat) : Int) - 1) = some (.nx (((if a.testBit (d + k) then a ^^^ (m <<< k) else a : Nat) : Int),((d + k : Nat) : Int) - 1)):=by
    rw [e0]
    unfold W3
    have c1 : ((d + k : Nat) : Int) ≥ (d : Int):=by omega
    have c2 : X6 ((d + k : Nat) : Int) = some ():=by unfold X6; rw [if_pos (by omega)]
    have c3 : wr (((d + k : Nat) : Int) - (d : Int)) = ((k : Nat) : Int):=by rw [show ((d + k : Nat) : Int) - (d : Int) = ((k : Nat) : Int) by omega,JT _ (by omega)]
    have c4 : X6 ((k : Nat) : Int) = some ():=by unfold X6; rw [if_pos (by omega)]
    have c5 : wr (((d + k : Nat) : Int) - 1) = ((d + k : Nat) : Int) - 1:=WW (by omega)
    simp only [c1,decide_true,if_true,c2,c3,c4,c5,Option.bind_some]
    have c6 : andI (shrI (a : Int) ((d + k : Nat) : Int)) 1 = (((a >>> (d + k)) &&& 1 : Nat) : Int):=by
     rw [BP a (d + k) (by omega)]
     exact BA _ 1 (Nat.lt_of_le_of_lt (Nat.shiftRight_le _ _) (by omega)) (by omega)
    rw [c6,U8 m k (by omega) (by omega),Tk a _ (by omega) (by omega)]
    cases hb : a.testBit (d + k) with
    | true =>
     have:=(JQ a (d + k)).2 hb
     rw [this]; rfl
    | false =>
     have : ¬ ((a >>> (d + k)) &&& 1 = 1):=fun h=>by rw [(JQ a (d + k)).1 h] at hb; cases hb
     have h2 : (((((a >>> (d + k)) &&& 1 : Nat) : Int)) == 1) = false:=by
      rw [beq_eq_false_iff_ne]; omega
     rw [h2]; rfl
   rw [WH hst,ih _ (by omega) ?_]
   ·conv=>rhs; unfold Z9
   ·split
    ·exact Nat.xor_lt_two_pow ha hsh2
    ·exact ha
 unfold WT
 have:=key (16 - d) a (by omega) (by omega)
 rw [show ((d + (16 - d) : Nat) : Int) - 1 = 15 by omega] at this
 rw [this]; rfl

def Qi : Nat → Nat → Nat → Nat
 | 0,_,_=>0
 | n + 1,a,b=>(if b % 2 = 1 then a else 0) ^^^ Qi n (a <<< 1) (b / 2)
theorem QD : ∀ (n a : Nat),Qi n a 0 = 0
 | 0,_=>rfl
 | n + 1,a=>by simp [Qi,QD n]
theorem H5 : ∀ (n a b p : Nat),a < 2 ^ p → Qi n a b < 2 ^ (p + n)
 | 0,_,_,_,_=>by simp [Qi]; exact Nat.two_pow_pos _
 | n + 1,a,b,p,h=>by
  unfold Qi
  have h1 : a <<< 1 < 2 ^ (p + 1):=UH h
  have h2:=H5 n (a <<< 1) (b / 2) (p + 1) h1
  rw [show p + 1 + n = p + (n + 1) by omega] at h2
  refine Nat.xor_lt_two_pow ?_ h2
  have h3 : 2 ^ p ≤ 2 ^ (p + (n + 1)):=Nat.pow_le_pow_right (by omega) (by omega)
  have h4:=Nat.two_pow_pos (p + (n + 1))
  split <;> omega
def prC : Nat → Nat → Nat → Nat
 | 0,_,_=>0
 | i + 1,a,b=>prC i a b ^^^ (if b.testBit i then a <<< i else 0)
theorem JZ : ∀ (n a b : Nat),prC (n + 1) a b = (if b % 2 = 1 then a else 0) ^^^ prC n (a <<< 1) (b / 2)
 | 0,a,b=>by
  simp only [prC,Nat.zero_xor,Nat.xor_zero,Nat.shiftLeft_zero]
  have : b.testBit 0 = decide (b % 2 = 1):=by simp [Nat.testBit_zero]
  rw [this]; simp
 | n + 1,a,b=>by
  conv=>lhs; unfold prC
  rw [JZ n a b]
  conv=>rhs; unfold prC
  rw [← Nat.xor_assoc]
  congr 1
  rw [Nat.testBit_succ,← Nat.shiftLeft_add,Nat.add_comm 1 n]
theorem BB : ∀ (n a b : Nat),prC n a b = Qi n a b
 | 0,_,_=>rfl
 | n + 1,a,b=>by rw [JZ,BB n]; rfl
theorem HG (a b : Nat) (h : a < 256) : ∀ i,i ≤ 8 → prC i a b < 2 ^ 16
 | 0,_=>by simp [prC]
 | i + 1,hi=>by
  unfold prC
  have h1 : a <<< i < 2 ^ (8 + i):=UH h
  have h2 : 2 ^ (8 + i) ≤ 2 ^ 16:=Nat.pow_le_pow_right (by omega) (by omega)
  refine Nat.xor_lt_two_pow (HG a b h i (by omega)) ?_
  split
  ·omega
  ·omega
def ZM (m : Nat) (a b : UInt8) : UInt8:=ZO ((Z9 m 8 8 (Qi 8 a.toNat b.toNat) : Nat) : Int)
theorem Vf (m : Nat) (hm : m < 512) (a b : UInt8) : ZR (m : Int) a b = some (ZM m a b):=by
 have ha : a.toNat < 256:=a.toNat_lt
 have hb : b.toNat < 256:=b.toNat_lt
 have h:=ZU (f:=YK a b) (fun i : Nat=>(((prC i a.toNat b.toNat : Nat) : Int),(i : Int))) 0 8 (Nat.zero_le _) (t:=((prC 8 a.toNat b.toNat : Nat) : Int)) (fun i _ hi=>by
  unfold YK
  have c1 : ((i : Int) < 8):=by omega
  have c2 : X6 (i : Int) = some ():=by unfold X6; rw [if_pos (by omega)]
  have c3 : prC i a.toNat b.toNat < 2 ^ 16:=HG _ _ ha i (by omega)
  have c4 : a.toNat <<< i < 2 ^ (8 + i):=UH ha
  have c5 : 2 ^ (8 + i) ≤ 2 ^ 16:=Nat.pow_le_pow_right (by omega) (by omega)
  have c6 : (((JR b (i : Int)) &&& 1) == 1) = b.toNat.testBit i:=by
   have e1 : (JR b (i : Int)).toNat = b.toNat >>> i:=by
    unfold JR ZO
    rw [show min ((i : Int)).toNat 8 = i by omega,Int.fdiv_eq_ediv_of_nonneg _ (by exact_mod_cast Nat.zero_le _)]
    have : ((b.toNat : Int) / 2 ^ i) = ((b.toNat >>> i : Nat) : Int):=by rw [Nat.shiftRight_eq_div_pow]; simp
    rw [this]
    have h3 : b.toNat >>> i ≤ b.toNat:=Nat.shiftRight_le _ _
    generalize b.toNat >>> i = q at h3 ⊢
    have h4 : (((q : Nat) : Int) % 256).toNat = q:=by omega
    rw [h4]
    simp
    omega
   rw [Bool.eq_iff_iff,beq_iff_eq,← JQ,← UInt8.toNat_inj,UInt8.toNat_and,e1]
   simp
  simp only [c1,decide_true,if_true,c2,Option.bind_some,c6,YN (show i < 9223372036854775807 by omega)]
  rw [U8 _ i (by omega) (by omega),Tk _ _ (by omega) (by omega)]
  cases hbit : b.toNat.testBit i with
  | true=>simp [prC,hbit]
  | false=>simp [prC,hbit]) (by unfold YK; simp)
 have h2 : ZB (YK a b) (0,0) = _:=h
 unfold ZR
 rw [h2]
 simp only [Option.bind_some]
 have h3:=BN (prC 8 a.toNat b.toNat) m 8 (by omega) (HG _ _ ha 8 (by omega)) (by omega)
 have h4 : WT ((prC 8 a.toNat b.toNat : Nat) : Int) (m : Int) 8 = _:=h3
 rw [h4,BB]
 rfl
theorem Ui (m : Nat) (hm : m < 512) (hm2 : 256 ≤ m) (a b : UInt8) : Z5 (m : Int) a b = some (ZM m a b):=by
 have ha : a.toNat < 256:=a.toNat_lt
 have hb : b.toNat < 256:=b.toNat_lt
 have h1 : 2 ^ 8 ≤ m:=hm2
 have h2 : m < 2 ^ (8 + 1):=hm
 have hR : ∀ i,i ≤ 8 → Z9 m 8 8 (a.toNat <<< i) < 256:=fun i hi=>Qg h1 h2 8 _ (by
  have:=UH (k:=i) (show a.toNat < 2 ^ 8 from ha)
  exact Nat.lt_of_lt_of_le this (Nat.pow_le_pow_right (by omega) (by omega)))
 have hdbl : ∀ i,i ≤ 7 → Z9 m 8 8 (a.toNat <<< (i + 1)) = if 256 ≤ (Z9 m 8 8 (a.toNat <<< i)) * 2 then (Z9 m 8 8 (a.toNat <<< i)) * 2 ^^^ m else (Z9 m 8 8 (a.toNat <<< i)) * 2:=by
  intro i hi
  have hx : a.toNat <<< i < 2 ^ (8 + 7):=Nat.lt_of_lt_of_le (UH (show a.toNat < 2 ^ 8 from ha)) (Nat.pow_le_pow_right (by omega) (by omega))
  have e : a.toNat <<< (i + 1) = (a.toNat <<< i) <<< 1:=by rw [← Nat.shiftLeft_add]
  rw [e,Uq m 8 7,← Qz hx]
  have hlt:=hR i (by omega)
  generalize Z9 m 8 8 (a.toNat <<< i) = y at hlt ⊢
  have e2 : y <<< 1 = y * 2:=by rw [Nat.shiftLeft_eq]
  rw [e2]
  have e3 : (y * 2).testBit 8 = decide (256 ≤ y * 2):=by
   by_cases hy : 256 ≤ y * 2
   ·rw [HS (d:=8) hy (by omega)]; simp [hy]
   ·rw [Nat.testBit_lt_two_pow (by omega : y * 2 < 2 ^ 8)]; simp [hy]
  rw [e3]
  by_cases hy : 256 ≤ y * 2 <;> simp [hy]
 have key : ∀ (n i o r : Nat),i + n ≤ 8 → r < 2 ^ n → o < 256 → ZB (Yz (m : Int)) ((o : Int),((Z9 m 8 8 (a.toNat <<< i) : Nat) : Int),(r : Int)) = some ((o ^^^ Z9 m 8 8 (Qi n (a.toNat <<< i) r) : Nat) : Int):=by
  intro n
  induction n with
  | zero =>
   intro i o r _ hr ho
   have : r = 0:=by simpa using hr
   subst this
   rw [X4 (t:=(o : Int))]
   ·rw [QD,W9 8 0 (by omega),Nat.xor_zero]
   ·unfold Yz; simp
  | succ n ih =>
   intro i o r hi hr ho
   by_cases h0 : r = 0
   ·subst h0
    rw [X4 (t:=(o : Int))]
    ·rw [QD,W9 8 0 (by omega),Nat.xor_zero]
    ·unfold Yz; simp
   ·have hy:=hR i (by omega)
    have hst : Yz (m : Int) ((o : Int),((Z9 m 8 8 (a.toNat <<< i) : Nat) : Int),(r : Int)) = some (.nx (((o ^^^ Z9 m 8 8 (if r % 2 = 1 then a.toNat <<< i else 0) : Nat) : Int),((Z9 m 8 8 (a.toNat <<< (i + 1)) : Nat) : Int),((r / 2 : Nat) : Int))):=by
     rw [hdbl i (by omega)]
     unfold Yz
     have c1 : (r : Int) > 0:=by omega
     have hr2 : r < 512:=Nat.lt_of_lt_of_le hr (Nat.le_trans (Nat.pow_le_pow_right (by omega) (by omega : n + 1 ≤ 9)) (by omega))
     simp only [c1,decide_true,if_true,tmod2,BJ]
     have e1 : wr (((Z9 m 8 8 (a.toNat <<< i) : Nat) : Int) * 2) = (((Z9 m 8 8 (a.toNat <<< i)) * 2 : Nat) : Int):=by rw [WW (by omega)]; omega
     have e2 : wr ((r / 2 : Nat) : Int) = ((r / 2 : Nat) : Int):=JT _ (by omega)
     rw [e1,e2,Tk _ _ (by omega) (by omega),Tk _ _ (by omega) (by omega)]
     have e3 : ((((r % 2 : Nat) : Int)) == 1) = decide (r % 2 = 1):=by
      rw [Bool.eq_iff_iff,beq_iff_eq,decide_eq_true_eq]; omega
     rw [e3]
     have e4 : decide ((((Z9 m 8 8 (a.toNat <<< i)) * 2 : Nat) : Int) ≥ 256) = decide (256 ≤ (Z9 m 8 8 (a.toNat <<< i)) * 2):=by rw [decide_eq_decide]; omega
     rw [e4]
     have e5 : Z9 m 8 8 0 = 0:=W9 8 0 (by omega)
     by_cases c2 : r % 2 = 1 <;> by_cases c3 : 256 ≤ (Z9 m 8 8 (a.toNat <<< i)) * 2 <;> simp only [c2,c3,decide_true,decide_false,Bool.false_eq_true,if_true,if_false,Option.bind_some,e5,Nat.xor_zero]
    rw [WH hst,ih (i + 1) _ (r / 2) (by omega) (by rw [Nat.pow_succ] at hr; omega) ?_]
    ·conv=>rhs; unfold Qi
     rw [V7,Nat.xor_assoc,Nat.shiftLeft_add]
    ·refine Nat.xor_lt_two_pow (n:=8) ho ?_
     split
     ·exact hR i (by omega)
     ·rw [W9 8 0 (by omega)]; omega
 have:=key 8 0 0 b.toNat (by omega) hb (by omega)
 rw [Nat.shiftLeft_zero,W9 8 a.toNat ha,Nat.zero_xor] at this
 have h3 : ZB (Yz (m : Int)) (0,bI a,bI b) = _:=this
 unfold Z5
 rw [h3]
 rfl

def J7 (m : Nat) : Nat → UInt8 → Nat → UInt8 → UInt8
 | 0,_,_,o=>o
 | f + 1,a,k,o=>if k = 0 then o else J7 m f (ZM m a a) (k / 2) (if k % 2 = 1 then ZM m o a else o)
theorem J3 (m : Nat) (L : UInt8 × Int × UInt8 → Option (Fl (UInt8 × Int × UInt8) UInt8)) (T : UInt8 → UInt8 → Option UInt8) (hT : ∀ a b,T a b = some (ZM m a b))
  (hL : ∀ s,L s = if (decide (s.2.1 > 0)) = true then (((if ((Int.tmod s.2.1 2) == 1) = true then ((T s.2.2 s.1).bind fun r=>some r) else (some s.2.2) : Option UInt8).bind fun j12=>(T s.1 s.1).bind fun r20=>some (r20,j12) : Option (UInt8 × UInt8)).bind fun j9=>some (Fl.nx (j9.1,wr (Int.tdiv s.2.1 2),j9.2))) else (some (Fl.ex s.2.2))) :
  ∀ (f k : Nat) (a o : UInt8),k < 2 ^ f → f ≤ 62 → ZB L (a,(k : Int),o) = some (J7 m f a k o):=by
 intro f
 induction f with
 | zero =>
  intro k a o hk _
  have : k = 0:=by simpa using hk
  subst this
  exact X4 (by rw [hL]; simp [J7])
 | succ f ih =>
  intro k a o hk hf
  by_cases h0 : k = 0
  ·subst h0
   exact X4 (by rw [hL]; simp [J7])
  ·have hlt : k < 9223372036854775808:=Nat.lt_of_lt_of_le hk (Nat.pow_le_pow_right (by omega : 0 < 2) (by omega : f + 1 ≤ 63))
   have hst : L (a,(k : Int),o) = some (.nx (ZM m a a,((k / 2 : Nat) : Int),if k % 2 = 1 then ZM m o a else o)):=by
    rw [hL]
    have c1 : (k : Int) > 0:=by omega
    have e3 : ((((k % 2 : Nat) : Int)) == 1) = decide (k % 2 = 1):=by
     rw [Bool.eq_iff_iff,beq_iff_eq,decide_eq_true_eq]; omega
    simp only [c1,decide_true,if_true,tmod2,BJ,hT,e3,Option.bind_some,JT (k / 2) (by omega)]
    by_cases c2 : k % 2 = 1 <;> simp [c2]
   rw [WH hst,ih (k / 2) _ _ (by rw [Nat.pow_succ] at hk; omega) (by omega)]
   conv=>rhs; unfold J7
   rw [if_neg h0]
theorem K6 (m : Nat) (hm : m < 512) (a : UInt8) (k f : Nat) (hk : k < 2 ^ f) (hf : f ≤ 62) : Y3 (m : Int) a (k : Int) = some (J7 m f a k 1):=by
 unfold Y3
 rw [J3 m (X9 (m : Int)) _ (Vf m hm) (fun s=>by unfold X9; rfl) f k a 1 hk hf]; rfl
theorem Hv (m : Nat) (hm : m < 512) (hm2 : 256 ≤ m) (a : UInt8) (k f : Nat) (hk : k < 2 ^ f) (hf : f ≤ 62) : XR (m : Int) a (k : Int) = some (J7 m f a k 1):=by
 unfold XR
 rw [J3 m (W2 (m : Int)) _ (Ui m hm hm2) (fun s=>by unfold W2; rfl) f k a 1 hk hf]; rfl
def invC (m : Nat) (a : UInt8) : UInt8:=J7 m 8 a 254 1
theorem Kh (m : Nat) (hm : m < 512) (a : UInt8) : Xg (m : Int) a = some (invC m a):=by
 unfold Xg
 have:=K6 m hm a 254 8 (by omega) (by omega)
 have h2 : Y3 (m : Int) a 254 = _:=this
 rw [h2]; rfl
theorem BD (m : Nat) (hm : m < 512) (hm2 : 256 ≤ m) (a : UInt8) : Vg (m : Int) a = some (invC m a):=by
 unfold Vg
 have:=Hv m hm hm2 a 254 8 (by omega) (by omega)
 have h2 : XR (m : Int) a 254 = _:=this
 rw [h2]; rfl

def Ke (m d : Nat) : Bool:=Z9 d (Uy d - 1) (16 - (Uy d - 1)) m == 0
def Vs (m : Int) : Bool:=decide (256 ≤ m ∧ m ≤ 511) && !((List.range' 2 30).any (Ke m.toNat))
theorem Hy (m : Int) : Ww m = some (Vs m):=by
 unfold Ww Vs
 rw [H0]
 by_cases hm : 256 ≤ m ∧ m ≤ 511
 ·obtain ⟨n,rfl⟩:=Int.eq_ofNat_of_zero_le (show 0 ≤ m by omega)
  have hn : n < 512:=by omega
  have h:=QQ (f:=XC (n : Int)) 32 (Ke n) false (by omega) 2 (by omega) (fun d h2 hd=>by
   unfold XC
   have c1 : (d : Int) < 32:=by omega
   have hp : ∃ p,p ≤ 4 ∧ 2 ^ p ≤ d ∧ d < 2 ^ (p + 1):=by
    refine ⟨d.log2,?_,Nat.log2_self_le (by omega),Nat.lt_log2_self⟩
    have:=(Nat.log2_lt (n:=d) (by omega)).2 (show d < 2 ^ 5 by omega)
    omega
   obtain ⟨p,h3,h4,h5⟩:=hp
   have hl:=Kp h4 h5
   rw [Br n d p (16 - p) (by omega) (by omega) h4 h5 (by rw [show p + (16 - p) = 16 by omega]; omega)]
   simp only [c1,decide_true,if_true,Option.bind_some]
   unfold Ke
   rw [hl,show p + 1 - 1 = p by omega]
   generalize Z9 d p (16 - p) n = q
   have : ((((q : Nat) : Int)) == 0) = (q == 0):=by rw [Bool.eq_iff_iff,beq_iff_eq,beq_iff_eq]; omega
   rw [this]
   cases q == 0 <;> simp) (by unfold XC; simp)
  have h2 : ZB (XC (n : Int)) 2 = _:=h
  rw [h2]
  simp only [hm,decide_true,and_self,Bool.not_true,Bool.false_eq_true,if_false,Option.bind_some,Bool.true_and,Int.toNat_natCast]
  cases (List.range' 2 30).any (Ke n) <;> rfl
 ·simp [hm]
theorem H7 (m : Int) : WY m = some (Vs m):=by
 unfold WY Vs
 rw [Jk]
 by_cases hm : 256 ≤ m ∧ m ≤ 511
 ·obtain ⟨n,rfl⟩:=Int.eq_ofNat_of_zero_le (show 0 ≤ m by omega)
  have hn : n < 512:=by omega
  have inner : ∀ p : Nat,p ≤ 4 → ZB (XT (n : Int) (p : Int)) ((2 ^ p : Nat) : Int) = some (if (List.range' (2 ^ p) (2 ^ p)).any (Ke n) then Fl.ex false else Fl.nx ()):=by
   intro p hp
   have c2 : X6 (p : Int) = some ():=by unfold X6; rw [if_pos (by omega)]
   have hpow : 2 ^ p ≤ 2 ^ 4:=Nat.pow_le_pow_right (by omega) hp
   have hpp:=Nat.two_pow_pos p
   have c3 : QO 2 (p : Int) = ((2 ^ (p + 1) : Nat) : Int):=by
    have:=U8 2 p (by omega) (by rw [Nat.shiftLeft_eq]; omega)
    rw [Nat.shiftLeft_eq] at this
    rw [show (2 : Int) = ((2 : Nat) : Int) from rfl,this,Nat.pow_succ,Nat.mul_comm]
   have h:=QQ (f:=XT (n : Int) (p : Int)) (2 ^ (p + 1)) (Ke n) false (by rw [Nat.pow_succ]; omega) (2 ^ p) (by rw [Nat.pow_succ]; omega) (fun d h4 h5=>by
    unfold XT
    have c1 : (d : Int) < ((2 ^ (p + 1) : Nat) : Int):=by omega
    have hd : d < 32:=by rw [Nat.pow_succ] at h5; omega
    have hl:=Kp h4 h5
    rw [c2,c3,BN n d p (by omega) (by omega) (by omega)]
    simp only [c1,decide_true,if_true,Option.bind_some]
    unfold Ke
    rw [hl,show p + 1 - 1 = p by omega]
    generalize Z9 d p (16 - p) n = q
    have : ((((q : Nat) : Int)) == 0) = (q == 0):=by rw [Bool.eq_iff_iff,beq_iff_eq,beq_iff_eq]; omega
    rw [this]
    cases q == 0 <;> simp) (by
     unfold XT
     rw [c2,c3]; simp)
   rw [show 2 ^ (p + 1) - 2 ^ p = 2 ^ p by rw [Nat.pow_succ]; omega] at h
   exact h
  have h:=QQ (f:=XS (n : Int)) 5 (fun p=>(List.range' (2 ^ p) (2 ^ p)).any (Ke n)) false (by omega) 1 (by omega) (fun p _ hp=>by
   unfold XS
   have c1 : (p : Int) ≤ 4:=by omega
   have c2 : X6 (p : Int) = some ():=by unfold X6; rw [if_pos (by omega)]
   have c3 : QO 1 (p : Int) = ((2 ^ p : Nat) : Int):=by
    have hpow : 2 ^ p ≤ 2 ^ 4:=Nat.pow_le_pow_right (by omega) (by omega)
    have:=U8 1 p (by omega) (by rw [Nat.shiftLeft_eq]; omega)
    rw [Nat.shiftLeft_eq,Nat.one_mul] at this
    exact this
   rw [c2,c3,inner p (by omega)]
   simp only [c1,decide_true,if_true,Option.bind_some]
   cases (List.range' (2 ^ p) (2 ^ p)).any (Ke n) <;> rfl) (by unfold XS; simp)
  have h2 : ZB (XS (n : Int)) 1 = _:=h
  rw [h2]
  have e : ((List.range' 1 (5 - 1)).any fun p=>(List.range' (2 ^ p) (2 ^ p)).any (Ke n)) = (List.range' 2 30).any (Ke n):=by
   have e1 : List.range' 2 30 = List.range' 2 2 ++ (List.range' 4 4 ++ (List.range' 8 8 ++ List.range' 16 16)):=by decide
   have e2 : List.range' 1 (5 - 1) = [1,2,3,4]:=by decide
   rw [e1,e2]
   simp only [List.any_append,List.any_cons,List.any_nil,Bool.or_false,Nat.reducePow]
  rw [e]
  simp only [hm,decide_true,and_self,Bool.not_true,Bool.false_eq_true,if_false,Option.bind_some,Bool.true_and,Int.toNat_natCast]
  cases (List.range' 2 30).any (Ke n) <;> rfl
 ·simp [hm]
theorem U5 {m : Int} (h : Vs m = true) : ∃ n : Nat,m = n ∧ 256 ≤ n ∧ n < 512:=by
 unfold Vs at h
 simp only [Bool.and_eq_true,decide_eq_true_eq] at h
 exact ⟨m.toNat,by omega,by omega,by omega⟩
def VY (l : List UInt8) : Bool:=decide l.Nodup
theorem Jq (l : List UInt8) : ((List.range' 0 (l.length - 0)).any fun i=>(List.range' 0 (i - 0)).any fun k=>l[i]? == l[k]?) = !VY l:=by
 rw [Bool.eq_iff_iff,WD]
 rw [VY,Bool.not_eq_true',decide_eq_false_iff_not]
 unfold List.Nodup
 rw [List.pairwise_iff_getElem]
 simp only [WD,beq_iff_eq]
 constructor
 ·rintro ⟨i,_,hi,k,_,hk,h⟩ hn
  have hk' : k < l.length:=by omega
  rw [List.getElem?_eq_getElem hi,List.getElem?_eq_getElem hk'] at h
  exact hn k i hk' hi hk (by simpa using h.symm)
 ·intro h
  simp only [Classical.not_forall,ne_eq,Decidable.not_not] at h
  obtain ⟨k,i,hk,hi,hki,h⟩:=h
  exact ⟨i,Nat.zero_le _,hi,k,Nat.zero_le _,hki,by rw [List.getElem?_eq_getElem hi,List.getElem?_eq_getElem hk,h]⟩
theorem K4 (l : List UInt8) (c : UInt8) : decide (indexByte l c ≥ 0) = l.contains c:=by
 induction l with
 | nil=>rfl
 | cons b l ih =>
  have hge:=Lib.indexByte_ge l c
  show decide (Lib.indexByte (b :: l) c ≥ 0) = _
  unfold Lib.indexByte
  rw [List.contains_cons,← ih]
  by_cases hb : b = c
  ·subst hb; simp
  ·have hb' : (c == b) = false:=by simpa using fun h=>hb h.symm
   simp only [beq_eq_false_iff_ne.2 hb,hb',Bool.false_eq_true,if_false,Bool.false_or]
   rw [decide_eq_decide]
   show _ ↔ Lib.indexByte l c ≥ 0
   by_cases h1 : Lib.indexByte l c = -1
   ·simp [h1]
   ·rw [if_neg (by simpa using h1)]; omega
theorem KW (l : List UInt8) (h : l.length < 9223372036854775807) : Xu l = some (VY l):=by
 unfold Xu
 have:=Hk (f:=YA l) l.length (fun i=>(l.take i).any fun x=>l[i]? == some x) false h (fun i hi=>by
  unfold YA
  have e1 : slc l (0 : Int) (i : Int) = some (l.take i):=by have:=KX (l:=l) (i:=0) (j:=i) (Nat.zero_le _) (by omega); simpa using this
  simp only [Int.ofNat_lt,hi,decide_true,if_true,VS,List.getElem?_eq_getElem hi,Option.bind_some,e1]
  unfold WG
  simp only [Option.bind_some,K4]
  have e2 : (l.take i).contains l[i] = (l.take i).any fun x=>some l[i] == some x:=by
   rw [Bool.eq_iff_iff]; simp [List.any_eq_true]
  rw [e2]
  split <;> rfl) (by unfold YA; simp) 0 (Nat.zero_le _)
 have h3 : ZB (YA l) 0 = _:=this
 have key : ((List.range' 0 (l.length - 0)).any fun i=>(l.take i).any fun x=>l[i]? == some x) = !VY l:=by
  rw [← Jq,Bool.eq_iff_iff,WD,WD]
  refine exists_congr fun i=>and_congr_right fun _=>and_congr_right fun hi=>?_
  rw [WD,List.any_eq_true]
  constructor
  ·rintro ⟨x,hx,h⟩
   obtain ⟨k,hk,rfl⟩:=List.mem_iff_getElem.1 hx
   have hk2 : k < i ∧ k < l.length:=by simp at hk; omega
   exact ⟨k,Nat.zero_le _,hk2.1,by rw [List.getElem?_eq_getElem hk2.2]; simpa using h⟩
  ·rintro ⟨k,_,hk,h⟩
   have hkl : k < l.length:=by omega
   refine ⟨l[k],List.mem_iff_getElem.2 ⟨k,by simp; omega,by simp⟩,?_⟩
   rw [List.getElem?_eq_getElem hkl] at h; exact h
 rw [h3,key]
 cases VY l <;> simp [Fl.el]
def dbl (m y : Nat) : Nat:=if (y <<< 1).testBit 8 then (y <<< 1) ^^^ m else y <<< 1
theorem Hb (a b c d : Nat) : (a ^^^ b) ^^^ (c ^^^ d) = (a ^^^ c) ^^^ (b ^^^ d):=by
 rw [Nat.xor_assoc,Nat.xor_assoc,← Nat.xor_assoc b,← Nat.xor_assoc c,Nat.xor_comm b c]
theorem HX (m x y : Nat) : dbl m (x ^^^ y) = dbl m x ^^^ dbl m y:=by
 unfold dbl
 rw [Nat.shiftLeft_xor_distrib,Nat.testBit_xor]
 cases (x <<< 1).testBit 8 <;> cases (y <<< 1).testBit 8 <;> simp only [Bool.xor_false,Bool.false_xor,Bool.xor_self,Bool.xor_true,Bool.not_false,Bool.not_true,Bool.false_eq_true,if_true,if_false]
 ·rw [Nat.xor_assoc]
 ·rw [Nat.xor_assoc,Nat.xor_assoc,Nat.xor_comm m]
 ·rw [Hb,Nat.xor_self,Nat.xor_zero]
theorem Kq (m : Nat) : dbl m 0 = 0:=by simp [dbl]
def opP (m : Nat) : Nat → Nat → Nat → Nat
 | 0,_,_=>0
 | n + 1,b,x=>(if b % 2 = 1 then x else 0) ^^^ opP m n (b / 2) (dbl m x)
theorem JW (m n b x : Nat) : opP m (n + 1) b x = (if b % 2 = 1 then x else 0) ^^^ opP m n (b / 2) (dbl m x):=rfl
theorem JB (m : Nat) : ∀ (n b x y : Nat),opP m n b (x ^^^ y) = opP m n b x ^^^ opP m n b y
 | 0,_,_,_=>by simp [opP]
 | n + 1,b,x,y=>by
  unfold opP
  rw [HX,JB m n,Hb]
  congr 1
  split <;> simp
theorem Qb (m : Nat) : ∀ (n b : Nat),opP m n b 0 = 0
 | 0,_=>rfl
 | n + 1,b=>by unfold opP; rw [Kq,Qb m n]; simp
theorem H3 (m : Nat) : ∀ (n b x : Nat),opP m n b (dbl m x) = dbl m (opP m n b x)
 | 0,_,_=>(Kq m).symm
 | n + 1,b,x=>by
  unfold opP
  rw [H3 m n,HX]
  congr 1
  split
  ·rfl
  ·exact (Kq m).symm
theorem JX (m : Nat) : ∀ (n b k c x : Nat),opP m n b (opP m k c x) = opP m k c (opP m n b x)
 | 0,_,k,c,_=>(Qb m k c).symm
 | n + 1,b,k,c,x=>by
  rw [JW,JW,← H3,JX m n,JB]
  congr 1
  split
  ·rfl
  ·exact (Qb m k c).symm
theorem Bv (a : Nat) : (if a % 2 = 1 then 1 else 0) ^^^ (a / 2) <<< 1 = a:=by
 rw [Nat.shiftLeft_eq]
 have h : (if a % 2 = 1 then 1 else 0) = a % 2:=by split <;> omega
 rw [h]
 apply Nat.eq_of_testBit_eq
 intro i
 rw [Nat.testBit_xor]
 cases i with
 | zero =>
  simp [Nat.testBit_zero]
 | succ i =>
  rw [Nat.testBit_succ,Nat.testBit_succ,Nat.testBit_succ]
  have h1 : a % 2 / 2 = 0:=by omega
  have h2 : a / 2 * 2 ^ 1 / 2 = a / 2:=by omega
  rw [h1,h2]; simp
theorem Ah (m i : Nat) (hi : i < 7) : dbl m (1 <<< i) = 1 <<< (i + 1):=by
 unfold dbl
 rw [← Nat.shiftLeft_add]
 have : (1 <<< (i + 1)).testBit 8 = false:=by
  apply Nat.testBit_lt_two_pow
  rw [Nat.shiftLeft_eq,Nat.one_mul]
  exact Nat.pow_lt_pow_right (by omega) (by omega)
 rw [this]; rfl
theorem Jr (m : Nat) : ∀ (n i a : Nat), n + i ≤ 8 → a < 2 ^ n → opP m n a (1 <<< i) = a <<< i
  | 0, i, a, _, ha => by
    have : a = 0 := by simpa using ha
    subst this; simp [opP]
  | n + 1, i, a, hn, ha => by
    have e : a <<< i = (if a % 2 = 1 then 1 <<< i else 0) ^^^ (a / 2) <<< (i + 1) := by
      conv => lhs; rw [← Bv a]
      rw [Nat.shiftLeft_xor_distrib, ← Nat.shiftLeft_add, Nat.add_comm 1 i]
      congr 1
      split <;> simp
    unfold opP
    rw [e]
    congr 1
    rcases Nat.eq_zero_or_pos n with rfl | hp
    · have : a / 2 = 0 := by have : a < 2 := by simpa using ha
                             omega
      rw [this]; simp [opP]
    · rw [Ah m i (by omega)]
      exact Jr m n (i + 1) (a / 2) (by omega) (by rw [Nat.pow_succ] at ha; omega)

theorem Bm (m x : Nat) (hx : x < 2 ^ 15) : Z9 m 8 8 (x <<< 1) = dbl m (Z9 m 8 8 x):=by
 rw [Uq m 8 7,← Qz (d:=8) (k:=7) hx]; rfl
theorem BL (m : Nat) : ∀ (n i a b : Nat),i + n ≤ 8 → a < 2 ^ 8 → Z9 m 8 8 (Qi n (a <<< i) b) = opP m n b (Z9 m 8 8 (a <<< i))
 | 0,_,_,_,_,_=>by simp [Qi,opP,W9 8 0]
 | n + 1,i,a,b,hn,ha=>by
  unfold Qi opP
  rw [V7]
  have hx : a <<< i < 2 ^ 15:=Nat.lt_of_lt_of_le (UH ha) (Nat.pow_le_pow_right (by omega) (by omega))
  rw [← Bm m _ hx,← Nat.shiftLeft_add,BL m n (i + 1) a (b / 2) (by omega) ha]
  congr 1
  split
  ·rfl
  ·exact W9 8 0 (by omega)
theorem V6 (m : Nat) (h1 : 256 ≤ m) (h2 : m < 512) (a b : UInt8) : (ZM m a b).toNat = opP m 8 b.toNat a.toNat:=by
 have ha : a.toNat < 2 ^ 8:=a.toNat_lt
 have hr : Z9 m 8 8 (Qi 8 a.toNat b.toNat) < 256:=Qg (d:=8) h1 h2 8 _ (H5 8 a.toNat b.toNat 8 ha)
 have e:=BL m 8 0 a.toNat b.toNat (by omega) ha
 rw [Nat.shiftLeft_zero,W9 8 _ ha] at e
 unfold ZM ZO
 rw [e] at hr ⊢
 generalize opP m 8 b.toNat a.toNat = q at hr ⊢
 have : (((q : Nat) : Int) % 256).toNat = q:=by omega
 rw [this]
 simp
 omega
section
variable {m : Nat} (h1 : 256 ≤ m) (h2 : m < 512)
include h1 h2
theorem UP (a b : UInt8) : ZM m a b = ZM m b a:=by
 apply UInt8.toNat_inj.1
 rw [V6 m h1 h2,V6 m h1 h2]
 have ea:=Jr m 8 0 a.toNat (by omega) a.toNat_lt
 have eb:=Jr m 8 0 b.toNat (by omega) b.toNat_lt
 simp only [Nat.shiftLeft_zero] at ea eb
 rw [← ea,JX,eb,ea]
theorem Bf (a b c : UInt8) : ZM m (a ^^^ b) c = ZM m a c ^^^ ZM m b c:=by
 apply UInt8.toNat_inj.1
 rw [UInt8.toNat_xor,V6 m h1 h2,V6 m h1 h2,V6 m h1 h2,UInt8.toNat_xor,JB]
theorem Hr (a b c : UInt8) : ZM m a (b ^^^ c) = ZM m a b ^^^ ZM m a c:=by
 rw [UP h1 h2,Bf h1 h2,UP h1 h2 b,UP h1 h2 c]
theorem TX (a : UInt8) : ZM m 0 a = 0:=by
 apply UInt8.toNat_inj.1
 rw [V6 m h1 h2]
 exact Qb m 8 _
end
def vf {α : Type} (n : Nat) (f : Nat → α) : Vector α n:=Vector.ofFn fun i=>f i.1
theorem TW {α : Type} {n i : Nat} (f : Nat → α) (h : i < n) : (vf n f)[i] = f i:=by simp [vf]
theorem UN {α : Type} {n i : Nat} (f : Nat → α) (h : i < n) : (vf n f)[i]? = some (f i):=by rw [Vector.getElem?_eq_getElem h,TW f h]
theorem ZN {α : Type} {n i : Nat} (f : Nat → α) (h : i < n) : Zs (vf n f) (i : Int) = some (f i):=by rw [W8,UN f h]
theorem X7 {α : Type} {n : Nat} {f g : Nat → α} (h : ∀ i,i < n → f i = g i) : vf n f = vf n g:=by
 apply UL
 intro i hi
 rw [TW f hi,TW g hi,h i hi]
theorem Vi {α : Type} {n : Nat} (f : Nat → α) (k : Nat) (x : α) : (vf n f).setIfInBounds k x = vf n (fun i=>if i = k then x else f i):=by
 apply UL
 intro i hi
 rw [Vector.getElem_setIfInBounds,TW _ hi,TW _ hi]
 by_cases h : k = i
 ·subst h; simp
 ·rw [if_neg h,if_neg (fun e=>h e.symm)]
theorem VU {α : Type} (n : Nat) (x : α) : Vector.replicate n x = vf n (fun _=>x):=by
 apply UL
 intro i hi
 rw [TW _ hi]; simp
theorem J1 {α : Type} [Inhabited α] {n : Nat} (v : Vector α n) : v = vf n (fun i=>v[i]?.getD default):=by
 apply UL
 intro i hi
 rw [TW _ hi,Vector.getElem?_eq_getElem hi]; rfl
abbrev Mat:=Vector (Vector UInt8 4) 4
def mf (f : Nat → Nat → UInt8) : Mat:=vf 4 fun i=>vf 4 (f i)
theorem Xy {f g : Nat → Nat → UInt8} (h : ∀ i,i < 4 → ∀ j,j < 4 → f i j = g i j) : mf f = mf g:=X7 fun i hi=>X7 fun j hj=>h i hi j hj
theorem Y7 {i : Nat} (f : Nat → Nat → UInt8) (h : i < 4) : Zs (mf f) (i : Int) = some (vf 4 (f i)):=ZN _ h
theorem UR (f : Nat → Nat → UInt8) (k : Nat) (g : Nat → UInt8) : (mf f).setIfInBounds k (vf 4 g) = mf (fun i j=>if i = k then g j else f i j):=by
 unfold mf
 rw [Vi]
 apply X7
 intro i hi
 by_cases h : i = k
 ·simp [h]
 ·simp [h]
theorem mf_of (a : Mat) : ∃ f,a = mf f:=by
 refine ⟨fun i j=>(a[i]?.getD default)[j]?.getD default,?_⟩
 calc a = vf 4 (fun i=>a[i]?.getD default):=J1 a
  _ = _:=X7 fun i _=>J1 _
theorem Kl : Vector.replicate 4 (Vector.replicate 4 (0 : UInt8)) = mf (fun _ _=>0):=by rw [VU 4 (0 : UInt8),VU]; rfl
theorem lt4 {i : Nat} (h : i < 4) : decide ((i : Int) < 4) = true:=by simp; omega
theorem lt4' {i : Nat} (h : ¬ i < 4) : decide ((i : Int) < 4) = false:=by simp; omega
theorem wr4 {i : Nat} (h : i < 1000) : wr ((i : Int) + 1) = ((i + 1 : Nat) : Int):=YN (by omega)

def UB (i j : Nat) : UInt8:=if i = j then 1 else 0
theorem Jn (L : Mat × Int → Option (Fl (Mat × Int) Mat))
  (hL : ∀ s8,L s8 = if (decide (s8.2 < 4)) = true then ((Zs s8.1 s8.2).bind fun (x14 : (Vector UInt8 4))=>(Zs x14 s8.2).bind fun (x17 : UInt8)=>some (Fl.nx ((s8.1.setIfInBounds (s8.2).toNat (x14.setIfInBounds (s8.2).toNat 1)),wr (s8.2 + 1)))) else (some (Fl.ex s8.1))) :
  ZB L (Vector.replicate 4 (Vector.replicate 4 (0 : UInt8)),0) = some (mf UB):=by
 have:=ZU (f:=L) (fun i : Nat=>(mf fun r c=>if r < i then UB r c else 0,(i : Int))) 0 4 (by omega) (t:=mf UB) (fun i _ hi=>by
  rw [hL]
  simp only [lt4 hi,if_true,Y7 _ hi,ZN _ hi,Option.bind_some,Int.toNat_natCast,Vi,UR,wr4 (show i < 1000 by omega)]
  congr 3
  apply Xy
  intro r hr c hc
  by_cases h1 : r = i
  ·subst h1; simp [UB,eq_comm]
  ·simp only [h1,if_false]
   by_cases h2 : r < i
   ·rw [if_pos h2,if_pos (by omega)]
   ·rw [if_neg h2,if_neg (by omega)]) (by
  rw [hL]
  simp only [lt4' (show ¬ 4 < 4 by omega),Bool.false_eq_true,if_false]
  exact congrArg (fun z=>some (Fl.ex z)) (Xy fun r hr c hc=>by rw [if_pos hr]))
 rw [Kl]
 simpa using this
theorem Qo : X5 = some (mf UB):=by
 unfold X5
 rw [Jn Vj fun s=>rfl]; rfl
theorem Qs : X2 = some (mf UB):=by
 unfold X2
 rw [Jn Vl fun s=>rfl]; rfl

abbrev MF:=Nat → Nat → UInt8
def Uo (f : MF) (k : Nat) : Nat:=((List.range' k (4 - k)).find? fun i=>!(f i k == 0)).getD 4
def By (f : MF) (i k : Nat) : MF:=fun r c=>if r = k then f i c else if r = i then f k c else f r c
def QL (m : Nat) (f : MF) (k : Nat) (by_ : UInt8) : MF:=fun r c=>if r = k then ZM m (f k c) by_ else f r c
def XM (m : Nat) (f g : MF) (k : Nat) : MF:=fun r c=>if r = k then g r c else g r c ^^^ ZM m (f r k) (g k c)
structure Red where
 a : MF
 b : MF
 det : UInt8
def UQ (m : Nat) (s : Red) (k : Nat) : Option Red :=
 let i:=Uo s.a k
 if i = 4 then none else
  let f:=By s.a i k
  let g:=By s.b i k
  let q:=invC m (f k k)
  let f2:=QL m f k q
  let g2:=QL m g k q
  some ⟨XM m f2 f2 k,XM m f2 g2 k,ZM m s.det (f k k)⟩
def Tt (m : Nat) : Nat → Nat → Red → Option Red
 | 0,_,s=>some s
 | n + 1,k,s=>(UQ m s k).bind (Tt m n (k + 1))
def To (m : Nat) (a : MF) : UInt8 × Mat:=match Tt m 4 0 ⟨a,UB,1⟩ with
 | some s=>(s.det,mf s.b)
 | none=>(0,mf fun _ _=>0)
theorem KR (L : Int → Option (Fl Int Int)) (f : MF) (k : Nat) (hk : k < 4)
  (hL : ∀ s,L s = (if (decide (s < 4)) = true then ((Zs (mf f) s).bind fun (x30 : (Vector UInt8 4))=>(Zs x30 (k : Int)).bind fun (x33 : UInt8)=>some (x33 == 0)) else (some false) : Option (Bool)).bind fun (j25 : Bool)=>if j25 = true then (some (Fl.nx (wr (s + 1)))) else (some (Fl.ex s))) :
  ZB L (k : Int) = some ((Uo f k : Nat) : Int):=by
 have:=V8 (f:=L) (fun i : Nat=>(i : Int)) (fun i=>!(f i k == 0)) (fun i=>(i : Int)) (e:=(4 : Int)) 4 (4 - k) k (by omega) (fun i _ hi=>by
  rw [hL]
  simp only [lt4 hi,if_true,Y7 _ hi,ZN _ hk,Option.bind_some]
  cases h : (f i k == 0)
  ·simp
  ·simp [wr4 (show i < 1000 by omega)]) (by rw [hL]; simp)
 rw [this]
 unfold Uo
 cases (List.range' k (4 - k)).find? fun i=>!(f i k == 0) <;> rfl
theorem Hl {f : MF} {k : Nat} (h : Uo f k ≠ 4) : Uo f k < 4:=by
 unfold Uo at h ⊢
 cases hf : (List.range' k (4 - k)).find? fun i=>!(f i k == 0) with
 | none=>rw [hf] at h; exact absurd rfl h
 | some i =>
  have:=List.mem_range'_1.1 (List.mem_of_find?_eq_some hf)
  simp only [Option.getD_some]
  omega
theorem Tu (L : Mat × Mat × Int → Option (Fl (Mat × Mat × Int) (Mat × Mat))) (f g : MF) (k : Nat) (hk : k < 4) (p q : Nat → UInt8)
  (hL : ∀ c,c < 4 → ∀ a b : MF,(∀ r,r ≠ k → a r = f r) → (∀ r,r ≠ k → b r = g r) → a k c = f k c → b k c = g k c → L (mf a,mf b,(c : Int)) = some (Fl.nx ((mf a).setIfInBounds k ((vf 4 (a k)).setIfInBounds c (p c)),(mf b).setIfInBounds k ((vf 4 (b k)).setIfInBounds c (q c)),wr ((c : Int) + 1))))
  (he : ∀ a b : Mat,L (a,b,4) = some (Fl.ex (a,b))) :
  ZB L (mf f,mf g,0) = some (mf (fun r c=>if r = k then p c else f r c),mf (fun r c=>if r = k then q c else g r c)):=by
 have k1 : (mf fun r c=>if r = k then (if c < 4 then p c else f k c) else f r c) = mf fun r c=>if r = k then p c else f r c:=Xy fun r _ c hc=>by rw [if_pos hc]
 have k2 : (mf fun r c=>if r = k then (if c < 4 then q c else g k c) else g r c) = mf fun r c=>if r = k then q c else g r c:=Xy fun r _ c hc=>by rw [if_pos hc]
 have:=ZU (f:=L) (fun i : Nat=>(mf fun r c=>if r = k then (if c < i then p c else f k c) else f r c,mf fun r c=>if r = k then (if c < i then q c else g k c) else g r c,(i : Int))) 0 4 (by omega)
  (t:=(mf (fun r c=>if r = k then p c else f r c),mf (fun r c=>if r = k then q c else g r c))) (fun i _ hi=>by
  rw [hL i hi _ _ (fun r hr=>by funext c; rw [if_neg hr]) (fun r hr=>by funext c; rw [if_neg hr]) (by simp) (by simp)]
  simp only [Vi,UR,wr4 (show i < 1000 by omega)]
  congr 3
  ·apply Xy
   intro r hr c hc
   by_cases h : r = k
   ·simp only [h,if_true]
    by_cases h2 : c = i
    ·subst h2; simp
    ·by_cases h3 : c < i
     ·rw [if_neg h2,if_pos h3,if_pos (by omega)]
     ·rw [if_neg h2,if_neg h3,if_neg (by omega)]
   ·simp only [h,if_false]
  ·congr 1
   apply Xy
   intro r hr c hc
   by_cases h : r = k
   ·simp only [h,if_true]
    by_cases h2 : c = i
    ·subst h2; simp
    ·by_cases h3 : c < i
     ·rw [if_neg h2,if_pos h3,if_pos (by omega)]
     ·rw [if_neg h2,if_neg h3,if_neg (by omega)]
   ·simp only [h,if_false]) (by
  simp only [k1,k2]
  exact he _ _)
 have e1 : mf (fun r c=>if r = k then (if c < 0 then p c else f k c) else f r c) = mf f:=Xy fun r hr c hc=>by
  by_cases h : r = k
  ·subst h; simp
  ·simp [h]
 have e2 : mf (fun r c=>if r = k then (if c < 0 then q c else g k c) else g r c) = mf g:=Xy fun r hr c hc=>by
  by_cases h : r = k
  ·subst h; simp
  ·simp [h]
 simp only [e1,e2] at this
 exact this
theorem KN {S : Type} (m : Nat) (L : S → Option (Fl S (Fl (Mat × UInt8) (UInt8 × Mat)))) (pk : Red → Nat → S)
  (hstep : ∀ k,k < 4 → ∀ s,L (pk s k) = some (match UQ m s k with | none=>.ex (.ex (0,mf fun _ _=>0)) | some s'=>.nx (pk s' (k + 1))))
  (hend : ∀ s,L (pk s 4) = some (.ex (.nx (mf s.b,s.det)))) : ∀ (n k : Nat) (s : Red),k + n = 4 → ZB L (pk s k) = some (match Tt m n k s with | some s'=>.nx (mf s'.b,s'.det) | none=>.ex (0,mf fun _ _=>0))
 | 0,k,s,h=>by
  have : k = 4:=by omega
  subst this
  rw [X4 (hend s)]; rfl
 | n + 1,k,s,h=>by
  have h1:=hstep k (by omega) s
  unfold Tt
  cases hr : UQ m s k with
  | none=>rw [hr] at h1; rw [X4 h1]; rfl
  | some s'=>rw [hr] at h1; rw [WH h1]; exact KN m L pk hstep hend n (k + 1) s' (by omega)
theorem HR {i k : Nat} : (((i : Int)) != ((k : Nat) : Int)) = decide (i ≠ k):=by
 by_cases h : i = k
 ·subst h; simp
 ·have : (i : Int) ≠ (k : Int):=by omega
  simp [h,this]
theorem Jh (m : Nat) (L : Mat × Mat × Int → Option (Fl (Mat × Mat × Int) (Mat × Mat))) (f g : MF) (k : Nat)
  (hL : ∀ i,i < 4 → ∀ a b : MF,(a i = f i) → (b i = g i) → (a k = f k) → (b k = g k) → L (mf a,mf b,(i : Int)) = some (Fl.nx (mf (fun r c=>if r = i then XM m f f k r c else a r c),mf (fun r c=>if r = i then XM m f g k r c else b r c),wr ((i : Int) + 1))))
  (he : ∀ a b : Mat,L (a,b,4) = some (Fl.ex (a,b))) : ZB L (mf f,mf g,0) = some (mf (XM m f f k),mf (XM m f g k)):=by
 have ek : ∀ h : MF,XM m f h k k = h k:=fun h=>by funext c; simp [XM]
 have k1 : (mf fun r c=>if r < 4 then XM m f f k r c else f r c) = mf (XM m f f k):=Xy fun r hr c _=>by rw [if_pos hr]
 have k2 : (mf fun r c=>if r < 4 then XM m f g k r c else g r c) = mf (XM m f g k):=Xy fun r hr c _=>by rw [if_pos hr]
 have:=ZU (f:=L) (fun i : Nat=>(mf fun r c=>if r < i then XM m f f k r c else f r c,mf fun r c=>if r < i then XM m f g k r c else g r c,(i : Int))) 0 4 (by omega)
  (t:=(mf (XM m f f k),mf (XM m f g k))) (fun i _ hi=>by
  rw [hL i hi _ _ (by funext c; simp) (by funext c; simp) (by funext c; by_cases h : k < i <;> simp [h,ek]) (by funext c; by_cases h : k < i <;> simp [h,ek])]
  rw [wr4 (show i < 1000 by omega)]
  have e : ∀ (x y : MF),(mf fun r c=>if r = i then x r c else if r < i then x r c else y r c) = mf fun r c=>if r < i + 1 then x r c else y r c:=fun x y=>Xy fun r _ c _=>by
   by_cases h1 : r = i
   ·subst h1; simp
   ·by_cases h2 : r < i
    ·rw [if_neg h1,if_pos h2,if_pos (by omega)]
    ·rw [if_neg h1,if_neg h2,if_neg (by omega)]
  rw [e,e]) (by
  simp only [k1,k2]
  exact he _ _)
 simpa using this

theorem J5 (f : MF) {i k : Nat} : ((mf f).setIfInBounds i (vf 4 (f k))).setIfInBounds k (vf 4 (f i)) = mf (By f i k):=by
 rw [UR,UR]; rfl
section
variable (m : Nat) (hm : m < 512) (hm2 : 256 ≤ m)
include hm
theorem HL (A B : Mat) (det : UInt8) (q : UInt8) (f g : MF) (k : Nat) (hk : k < 4) : ZB (Xh (m : Int) (A,B,(k : Int),det) q) (mf f,mf g,0) = some (mf (QL m f k q),mf (QL m g k q)):=by
 refine Tu _ f g k hk (fun c=>ZM m (f k c) q) (fun c=>ZM m (g k c) q) (fun c hc a b _ _ ha hb=>?_) (fun a b=>?_)
 ·unfold Xh
  simp only [lt4 hc,if_true,Y7 _ hk,ZN _ hc,Option.bind_some,Vf m hm,ha,hb,Int.toNat_natCast]
 ·unfold Xh; simp
theorem BE (A B : Mat) (det : UInt8) (s1 : Mat × Mat × Int) (x : UInt8) (f g : MF) (k i : Nat) (hk : k < 4) (hi : i < 4) (hik : i ≠ k) (hs : s1.2.2 = (i : Int)) :
  ZB (Xe (m : Int) (A,B,(k : Int),det) s1 x) (mf f,mf g,0) = some (mf (fun r c=>if r = i then f i c ^^^ ZM m x (f k c) else f r c),mf (fun r c=>if r = i then g i c ^^^ ZM m x (g k c) else g r c)):=by
 refine Tu _ f g i hi (fun c=>f i c ^^^ ZM m x (f k c)) (fun c=>g i c ^^^ ZM m x (g k c)) (fun c hc a b ha' hb' ha hb=>?_) (fun a b=>?_)
 ·unfold Xe
  have e1:=ha' k (Ne.symm hik)
  have e2:=hb' k (Ne.symm hik)
  simp only [hs,lt4 hc,if_true,Y7 _ hk,Y7 _ hi,ZN _ hc,Option.bind_some,Vf m hm,ha,hb,e1,e2,Int.toNat_natCast]
 ·unfold Xe; simp
include hm2
theorem H8 (A B : Mat) (det : UInt8) (f g : MF) (k : Nat) (hk : k < 4) : ZB (Xf (m : Int) (A,B,(k : Int),det)) (mf f,mf g,0) = some (mf (XM m f f k),mf (XM m f g k)):=by
 refine Jh m _ f g k (fun i hi a b hai hbi hak hbk=>?_) (fun a b=>by unfold Xf; simp)
 unfold Xf
 have hfi : a i k = f i k:=by rw [hai]
 simp only [lt4 hi,if_true,Y7 _ hi,ZN _ hk,Option.bind_some,HR,hfi]
 by_cases h : i = k
 ·subst h
  simp only [ne_eq,not_true_eq_false,decide_false,Bool.false_eq_true,if_false,Option.bind_some]
  congr 3
  ·exact Xy fun r _ c _=>by
    by_cases h : r = i
    ·subst h; simp [XM,hai]
    ·simp [h]
  ·congr 1
   exact Xy fun r _ c _=>by
    by_cases h : r = i
    ·subst h; simp [XM,hbi]
    ·simp [h]
 ·have hd : decide (i ≠ k) = true:=by simpa using h
  simp only [hd,if_true,Option.bind_some]
  by_cases h0 : f i k = 0
  ·simp only [h0,bne_self_eq_false,Bool.false_eq_true,if_false,Option.bind_some]
   congr 3
   ·exact Xy fun r _ c _=>by
     by_cases h2 : r = i
     ·subst h2; simp [XM,hai,h,h0,TX hm2 hm]
     ·simp [h2]
   ·congr 1
    exact Xy fun r _ c _=>by
     by_cases h2 : r = i
     ·subst h2; simp [XM,hbi,h,h0,TX hm2 hm]
     ·simp [h2]
  ·have hb0 : (f i k != 0) = true:=by simpa using h0
   simp only [hb0,if_true,Option.bind_some]
   rw [BE m hm A B det _ _ a b k i hk hi h rfl]
   simp only [Option.bind_some]
   congr 3
   ·exact Xy fun r _ c _=>by
     by_cases h2 : r = i
     ·subst h2; simp [XM,hai,hak,h]
     ·simp [h2]
   ·congr 1
    exact Xy fun r _ c _=>by
     by_cases h2 : r = i
     ·subst h2; simp [XM,hbi,hbk,h]
     ·simp [h2]
theorem Bt (k : Nat) (hk : k < 4) (s : Red) : Ye (m : Int) (mf s.a,mf s.b,(k : Int),s.det) = some (match UQ m s k with | none=>.ex (.ex (0,mf fun _ _=>0)) | some s'=>.nx (mf s'.a,mf s'.b,((k + 1 : Nat) : Int),s'.det)):=by
 unfold Ye
 have hp:=KR (WU (mf s.a,mf s.b,(k : Int),s.det)) s.a k hk (fun x=>rfl)
 simp only [lt4 hk,if_true,hp,Option.bind_some]
 unfold UQ
 by_cases h4 : Uo s.a k = 4
 ·have : ((4 : Nat) : Int) = 4:=rfl
  simp only [h4,this,beq_self_eq_true,if_true,Kl]
 ·have hi:=Hl h4
  have h5 : (((Uo s.a k : Nat) : Int) == 4) = false:=by
   have : ((Uo s.a k : Nat) : Int) ≠ 4:=by omega
   simpa using this
  generalize hpi : Uo s.a k = i at *
  simp only [h4,h5,Bool.false_eq_true,if_false]
  have x1 : Zs ((mf s.a).setIfInBounds i (vf 4 (s.a k))) (k : Int) = some (vf 4 (fun c=>if k = i then s.a k c else s.a k c)):=by rw [UR]; exact Y7 _ hk
  have x2 : Zs ((mf s.b).setIfInBounds i (vf 4 (s.b k))) (k : Int) = some (vf 4 (fun c=>if k = i then s.b k c else s.b k c)):=by rw [UR]; exact Y7 _ hk
  simp only [Y7 _ hk,Y7 _ hi,Option.bind_some,Int.toNat_natCast,x1,x2,J5,ZN _ hk,Vf m hm,Kh m hm,HL m hm _ _ _ _ _ _ k hk,H8 m hm hm2 _ _ _ _ _ k hk,wr4 (show k < 1000 by omega)]
theorem KC (f : MF) : Yp (m : Int) (mf f) = some (To m f):=by
 unfold Yp
 have h:=KN m (Ye (m : Int)) (fun s k=>(mf s.a,mf s.b,(k : Int),s.det)) (Bt m hm hm2) (fun s=>by unfold Ye; simp) 4 0 ⟨f,UB,1⟩ rfl
 have h2 : ZB (Ye (m : Int)) (mf f,mf UB,0,1) = _:=h
 rw [Qs,Option.bind_some,h2]
 unfold To
 cases Tt m 4 0 ⟨f,UB,1⟩ <;> rfl
theorem HO (A B : Mat) (det : UInt8) (q : UInt8) (f g : MF) (k : Nat) (hk : k < 4) : ZB (X3 (m : Int) (A,B,det,(k : Int)) q) (mf f,mf g,0) = some (mf (QL m f k q),mf (QL m g k q)):=by
 refine Tu _ f g k hk (fun c=>ZM m (f k c) q) (fun c=>ZM m (g k c) q) (fun c hc a b _ _ ha hb=>?_) (fun a b=>?_)
 ·unfold X3
  simp only [lt4 hc,if_true,Y7 _ hk,ZN _ hc,Option.bind_some,Ui m hm hm2,ha,hb,Int.toNat_natCast]
 ·unfold X3; simp
theorem BW (A B : Mat) (det : UInt8) (s1 : Mat × Mat × Int) (x : UInt8) (f g : MF) (k i : Nat) (hk : k < 4) (hi : i < 4) (hik : i ≠ k) (hs : s1.2.2 = (i : Int)) :
  ZB (YC (m : Int) (A,B,det,(k : Int)) s1 x) (mf f,mf g,0) = some (mf (fun r c=>if r = i then f i c ^^^ ZM m x (f k c) else f r c),mf (fun r c=>if r = i then g i c ^^^ ZM m x (g k c) else g r c)):=by
 have hd : decide (i ≠ k) = true:=by simpa using hik
 refine Tu _ f g i hi (fun c=>f i c ^^^ ZM m x (f k c)) (fun c=>g i c ^^^ ZM m x (g k c)) (fun c hc a b ha' hb' ha hb=>?_) (fun a b=>?_)
 ·unfold YC
  have e1:=ha' k (Ne.symm hik)
  have e2:=hb' k (Ne.symm hik)
  simp only [hs,lt4 hc,if_true,HR,hd,Y7 _ hk,Y7 _ hi,ZN _ hc,Option.bind_some,Ui m hm hm2,ha,hb,e1,e2,Int.toNat_natCast]
 ·unfold YC; simp
theorem Be (A B : Mat) (det : UInt8) (f g : MF) (k : Nat) (hk : k < 4) : ZB (X0 (m : Int) (A,B,det,(k : Int))) (mf f,mf g,0) = some (mf (XM m f f k),mf (XM m f g k)):=by
 refine Jh m _ f g k (fun i hi a b hai hbi hak hbk=>?_) (fun a b=>by unfold X0; simp)
 unfold X0
 have hfi : a i k = f i k:=by rw [hai]
 simp only [lt4 hi,if_true,Y7 _ hi,ZN _ hk,Option.bind_some,hfi]
 by_cases h : i = k
 ·subst h
  have h0 : ZB (YC (m : Int) (A,B,det,(i : Int)) (mf a,mf b,(i : Int)) (f i i)) (mf a,mf b,0) = some (mf a,mf b):=by
   refine X4 ?_
   unfold YC
   simp
  rw [h0]
  simp only [Option.bind_some]
  congr 3
  ·exact Xy fun r _ c _=>by
    by_cases h : r = i
    ·subst h; simp [XM,hai]
    ·simp [h]
  ·congr 1
   exact Xy fun r _ c _=>by
    by_cases h : r = i
    ·subst h; simp [XM,hbi]
    ·simp [h]
 ·rw [BW m hm hm2 A B det _ _ a b k i hk hi h rfl]
  simp only [Option.bind_some]
  congr 3
  ·exact Xy fun r _ c _=>by
    by_cases h2 : r = i
    ·subst h2; simp [XM,hai,hak,h]
    ·simp [h2]
  ·congr 1
   exact Xy fun r _ c _=>by
    by_cases h2 : r = i
    ·subst h2; simp [XM,hbi,hbk,h]
    ·simp [h2]
theorem Bk (k : Nat) (hk : k < 4) (s : Red) : YE (m : Int) (mf s.a,mf s.b,s.det,(k : Int)) = some (match UQ m s k with | none=>.ex (.ex (0,mf fun _ _=>0)) | some s'=>.nx (mf s'.a,mf s'.b,s'.det,((k + 1 : Nat) : Int))):=by
 unfold YE
 have hp:=KR (Vq (mf s.a,mf s.b,s.det,(k : Int))) s.a k hk (fun x=>rfl)
 simp only [lt4 hk,if_true,hp,Option.bind_some]
 unfold UQ
 by_cases h4 : Uo s.a k = 4
 ·have : ((4 : Nat) : Int) = 4:=rfl
  simp only [h4,this,beq_self_eq_true,if_true,Kl]
 ·have hi:=Hl h4
  have h5 : (((Uo s.a k : Nat) : Int) == 4) = false:=by
   have : ((Uo s.a k : Nat) : Int) ≠ 4:=by omega
   simpa using this
  generalize hpi : Uo s.a k = i at *
  simp only [h4,h5,Bool.false_eq_true,if_false]
  have x1 : Zs ((mf s.a).setIfInBounds i (vf 4 (s.a k))) (k : Int) = some (vf 4 (fun c=>if k = i then s.a k c else s.a k c)):=by rw [UR]; exact Y7 _ hk
  have x2 : Zs ((mf s.b).setIfInBounds i (vf 4 (s.b k))) (k : Int) = some (vf 4 (fun c=>if k = i then s.b k c else s.b k c)):=by rw [UR]; exact Y7 _ hk
  simp only [Y7 _ hk,Y7 _ hi,Option.bind_some,Int.toNat_natCast,x1,x2,J5,ZN _ hk,Ui m hm hm2,BD m hm hm2,HO m hm hm2 _ _ _ _ _ _ k hk,Be m hm hm2 _ _ _ _ _ k hk,wr4 (show k < 1000 by omega)]
theorem JU (f : MF) : Wf (m : Int) (mf f) = some (To m f):=by
 unfold Wf
 have h:=KN m (YE (m : Int)) (fun s k=>(mf s.a,mf s.b,s.det,(k : Int))) (Bk m hm hm2) (fun s=>by unfold YE; simp) 4 0 ⟨f,UB,1⟩ rfl
 have h2 : ZB (YE (m : Int)) (mf f,mf UB,1,0) = _:=h
 rw [Qo,Option.bind_some,h2]
 unfold To
 cases Tt m 4 0 ⟨f,UB,1⟩ <;> rfl
end
def Wp (l : List UInt8) (i b : Nat) : Bool:=(l.take i).any fun x=>x.toNat == b
theorem QS (l : List UInt8) {i : Nat} (h : i < l.length) : (fun b=>if b = l[i].toNat then true else Wp l i b) = Wp l (i + 1):=by
 funext b
 unfold Wp
 rw [List.take_succ_eq_append_getElem h,List.any_append]
 by_cases hb : b = l[i].toNat
 ·subst hb; simp
 ·have : (l[i].toNat == b) = false:=by simpa using fun e=>hb e.symm
  simp [hb,this]
theorem Hc (l : List UInt8) : ((List.range' 0 (l.length - 0)).any fun i=>Wp l i (l.getD i 0).toNat) = !VY l:=by
 rw [← Jq,Bool.eq_iff_iff,WD,WD]
 refine exists_congr fun i=>and_congr_right fun _=>and_congr_right fun hi=>?_
 unfold Wp
 rw [WD,List.any_eq_true]
 have e0 : l.getD i 0 = l[i]:=by simp [List.getD_eq_getElem?_getD,List.getElem?_eq_getElem hi]
 rw [e0]
 constructor
 ·rintro ⟨x,hx,h⟩
  obtain ⟨k,hk,rfl⟩:=List.mem_iff_getElem.1 hx
  have hk2 : k < i ∧ k < l.length:=by simp at hk; omega
  refine ⟨k,Nat.zero_le _,hk2.1,?_⟩
  rw [List.getElem?_eq_getElem hk2.2,List.getElem?_eq_getElem hi]
  have h' : l[k].toNat = l[i].toNat:=by simpa using h
  simp [UInt8.toNat_inj.1 h']
 ·rintro ⟨k,_,hk,h⟩
  have hkl : k < l.length:=by omega
  refine ⟨l[k],List.mem_iff_getElem.2 ⟨k,by simp; omega,by simp⟩,?_⟩
  rw [List.getElem?_eq_getElem hkl,List.getElem?_eq_getElem hi] at h
  have : l[i] = l[k]:=by simpa using h
  simp [this]
theorem VI {n i : Nat} (v : Vector UInt8 n) (h : i < n) : Zs v (i : Int) = some (v.toList.getD i 0):=by
 rw [W8,Vector.getElem?_eq_getElem h]
 simp [List.getD_eq_getElem?_getD,h]
theorem WR {n i : Nat} (v : Vector UInt8 n) (h : i < n) : v.toList.getD i 0 = v.toList[i]'(by simpa using h):=by
 simp [List.getD_eq_getElem?_getD,h]
theorem Qt (n : Nat) (f : Nat → Bool) (x : UInt8) (h : x.toNat < n) : Zs (vf n f) (bI x) = some (f x.toNat):=ZN f h
theorem Uh (x : UInt8) : (bI x).toNat = x.toNat:=rfl
theorem Qu (n : Nat) (l : List UInt8) : Vector.replicate n false = vf n (Wp l 0):=by rw [VU]; rfl

theorem Qv : ∀ (k l : List Nat),k.Nodup → (∀ x ∈ k,x ∈ l) → k.length ≤ l.length
 | [],_,_,_=>by simp
 | x :: k,l,h,hs=>by
  have hx:=hs x (by simp)
  obtain ⟨h1,h2⟩:=List.nodup_cons.1 h
  have:=Qv k (l.erase x) h2 (fun y hy=>by
   have hne : y ≠ x:=fun e=>h1 (e ▸ hy)
   exact (List.mem_erase_of_ne hne).2 (hs y (by simp [hy])))
  rw [List.length_erase_of_mem hx] at this
  have hl : 0 < l.length:=List.length_pos_of_mem hx
  simp only [List.length_cons]; omega
theorem Ha : ∀ (l : List Nat),¬ l.Nodup → ∃ l' : List Nat,l'.length + 1 = l.length ∧ ∀ x ∈ l,x ∈ l'
 | [],h=>absurd List.nodup_nil h
 | x :: l,h=>by
  by_cases hx : x ∈ l
  ·exact ⟨l,by simp,fun y hy=>by rcases List.mem_cons.1 hy with rfl | hy; exact hx; exact hy⟩
  ·have : ¬ l.Nodup:=fun hn=>h (List.nodup_cons.2 ⟨hx,hn⟩)
   obtain ⟨l',h1,h2⟩:=Ha l this
   exact ⟨x :: l',by simp [h1],fun y hy=>by
    rcases List.mem_cons.1 hy with rfl | hy
    ·simp
    ·simp [h2 y hy]⟩
theorem BT (l : List Nat) (n : Nat) (hl : l.length = n) (hb : ∀ x ∈ l,x < n) : l.Nodup ↔ ∀ b,b < n → b ∈ l:=by
 constructor
 ·intro h b hbn
  refine Classical.byContradiction fun hne=>?_
  have:=Qv (b :: l) (List.range n) (List.nodup_cons.2 ⟨hne,h⟩) (fun x hx=>by
   rcases List.mem_cons.1 hx with rfl | hx
   ·simpa using hbn
   ·simpa using hb x hx)
  simp at this; omega
 ·intro h
  refine Classical.byContradiction fun hne=>?_
  obtain ⟨l',h1,h2⟩:=Ha l hne
  have:=Qv (List.range n) l' List.nodup_range (fun x hx=>h2 x (h x (by simpa using hx)))
  simp at this; omega
theorem Hj (l : List UInt8) : (l.map UInt8.toNat).Nodup ↔ l.Nodup:=by
 unfold List.Nodup
 rw [List.pairwise_map]
 constructor <;> intro h <;> refine h.imp ?_
 ·intro a b hab e; exact hab (by rw [e])
 ·intro a b hab e; exact hab (UInt8.toNat_inj.1 e)

theorem B6 (p : Vector UInt8 256) : VC p = some (VY p.toList):=by
 unfold VC
 have hl : p.toList.length = 256:=by simp
 have:=V8 (f:=WB p) (fun i : Nat=>(vf 256 (Wp p.toList i),(i : Int))) (fun i=>Wp p.toList i (p.toList.getD i 0).toNat) (fun _=>Fl.ex false) (e:=Fl.nx ()) 256 256 0 rfl (fun i _ hi=>by
  unfold WB
  have hd : decide ((i : Int) < 256) = true:=by simp; omega
  have hx:=VI p hi
  have hs:=Qt 256 (Wp p.toList i) (p.toList.getD i 0) (UInt8.toNat_lt _)
  simp only [hd,if_true,hx,Option.bind_some,hs]
  have e:=QS p.toList (i:=i) (by simpa using hi)
  rw [← WR p hi] at e
  cases Wp p.toList i (p.toList.getD i 0).toNat
  ·simp only [Bool.false_eq_true,if_false,Option.bind_some,Uh,Vi,e,YN (show i < 9223372036854775807 by omega)]
  ·rfl) (by unfold WB; simp)
 have h2 : ZB (WB p) (vf 256 (Wp p.toList 0),0) = _:=this
 rw [Qu 256 p.toList,h2]
 have h3:=Hc p.toList
 rw [hl] at h3
 cases hf : (List.range' 0 256).find? (fun i=>Wp p.toList i (p.toList.getD i 0).toNat) with
 | none =>
  have h4 : ((List.range' 0 (256 - 0)).any fun i=>Wp p.toList i (p.toList.getD i 0).toNat) = false:=by rw [List.any_eq_false]; exact List.find?_eq_none.1 hf
  rw [h4] at h3
  have : VY p.toList = true:=by simpa using h3.symm
  rw [this]; rfl
 | some i =>
  have h4 : ((List.range' 0 (256 - 0)).any fun i=>Wp p.toList i (p.toList.getD i 0).toNat) = true:=by rw [List.any_eq_true]; exact ⟨i,List.mem_of_find?_eq_some hf,List.find?_some (p:=fun i=>Wp p.toList i (p.toList.getD i 0).toNat) hf⟩
  rw [h4] at h3
  have : VY p.toList = false:=by simpa using h3.symm
  rw [this]; rfl
theorem JV (l : List Bool) (h : l.length < 9223372036854775807) (b : Bool) : Yb l b = some (l.contains b):=by
 unfold Yb Y9
 have:=J8 (f:=Z8 l b) l.length (fun i=>b == l.getD i false) (fun i=>(i : Int)) h (fun i hi=>by
  unfold Z8
  have e0 : l.getD i false = l[i]:=by simp [List.getD_eq_getElem?_getD,List.getElem?_eq_getElem hi]
  simp only [Int.ofNat_lt,hi,decide_true,if_true,VS,List.getElem?_eq_getElem hi,Option.bind_some,e0]
  cases b == l[i] <;> rfl) (by unfold Z8; simp) 0 (Nat.zero_le _)
 have h3 : ZB (Z8 l b) 0 = _:=this
 rw [h3]
 cases hf : (List.range' 0 (l.length - 0)).find? (fun i=>b == l.getD i false) with
 | none =>
  have : l.contains b = false:=by
   rw [List.contains_eq_any_beq,List.any_eq_false]
   intro x hx
   obtain ⟨i,hi,rfl⟩:=List.mem_iff_getElem.1 hx
   have:=List.find?_eq_none.1 hf i (List.mem_range'_1.2 (by omega))
   simpa [List.getD_eq_getElem?_getD,List.getElem?_eq_getElem hi] using this
  rw [this]; rfl
 | some i =>
  have hi:=List.mem_range'_1.1 (List.mem_of_find?_eq_some hf)
  have hi' : i < l.length:=by omega
  have h4:=List.find?_some hf
  have : l.contains b = true:=by
   rw [List.contains_eq_any_beq,List.any_eq_true]
   exact ⟨l[i],List.getElem_mem hi',by simpa [List.getD_eq_getElem?_getD,List.getElem?_eq_getElem hi'] using h4⟩
  rw [this]
  simp [Fl.el]
theorem Q8 (p : Vector UInt8 256) : Xi p = some (VY p.toList):=by
 unfold Xi
 have hl : p.toList.length = 256:=by simp
 have:=ZU (f:=Ys p) (fun i : Nat=>(vf 256 (Wp p.toList i),(i : Int))) 0 256 (by omega) (t:=vf 256 (Wp p.toList 256)) (fun i _ hi=>by
  unfold Ys
  have hd : decide ((i : Int) < 256) = true:=by simp; omega
  have hx:=VI p hi
  have hs:=Qt 256 (Wp p.toList i) (p.toList.getD i 0) (UInt8.toNat_lt _)
  have e:=QS p.toList (i:=i) (by simpa using hi)
  rw [← WR p hi] at e
  simp only [hd,if_true,hx,Option.bind_some,hs,Uh,Vi,e,YN (show i < 9223372036854775807 by omega)]) (by unfold Ys; simp)
 have h2 : ZB (Ys p) (vf 256 (Wp p.toList 0),0) = _:=this
 have e1 : slc (vf 256 (Wp p.toList 256)).toList (0 : Int) (256 : Int) = some (vf 256 (Wp p.toList 256)).toList:=by
  have:=KX (l:=(vf 256 (Wp p.toList 256)).toList) (i:=0) (j:=256) (by omega) (by simp)
  simp only [List.drop_zero] at this
  rw [List.take_of_length_le (by simp)] at this
  exact this
 rw [Qu 256 p.toList,h2]
 have hlt : (vf 256 (Wp p.toList 256)).toList.length < 9223372036854775807:=by rw [Vector.length_toList]; omega
 rw [Option.bind_some,e1,Option.bind_some,JV _ hlt,Option.bind_some]
 refine congrArg some ?_
 rw [Bool.eq_iff_iff]
 have hp:=BT (p.toList.map UInt8.toNat) 256 (by simp) (fun x hx=>by obtain ⟨y,_,rfl⟩:=List.mem_map.1 hx; exact UInt8.toNat_lt y)
 rw [Hj] at hp
 unfold VY
 rw [decide_eq_true_iff,hp,Bool.not_eq_true',List.contains_eq_any_beq,List.any_eq_false]
 have hseen : ∀ b,Wp p.toList 256 b = true ↔ b ∈ p.toList.map UInt8.toNat:=fun b=>by
  unfold Wp
  rw [List.take_of_length_le (by omega),List.any_eq_true,List.mem_map]
  refine exists_congr fun x=>and_congr_right fun _=>?_
  exact beq_iff_eq
 constructor
 ·intro h b hb
  rw [← hseen]
  have e : (vf 256 (Wp p.toList 256)).toList[b]? = some (Wp p.toList 256 b):=by rw [Vector.getElem?_toList]; exact UN _ hb
  have:=h _ (List.mem_of_getElem? e)
  generalize Wp p.toList 256 b = q at this
  cases q
  ·exact absurd rfl this
  ·rfl
 ·intro h x hx
  obtain ⟨b,hb⟩:=List.mem_iff_getElem?.1 hx
  have hb' : b < 256:=by have:=(List.getElem?_eq_some_iff.1 hb).1; rwa [Vector.length_toList] at this
  rw [Vector.getElem?_toList,UN _ hb',(hseen b).2 (h b hb')] at hb
  cases hb
  decide

def XL (p : Vector UInt8 16) : Bool:=p.toList.all (fun x=>decide (x < 16)) && VY p.toList
def Vv (l : List UInt8) (i : Nat) : Bool:=decide (16 ≤ (l.getD i 0).toNat)
theorem Hn (p : Vector UInt8 16) : Wn p = some (XL p):=by
 unfold Wn
 have hl : p.toList.length = 16:=by simp
 have:=Hk (f:=Xk p) 16 (Vv p.toList) false (by omega) (fun i hi=>by
  unfold Xk
  have hd : decide ((i : Int) < 16) = true:=by simp; omega
  have hx:=VI p hi
  simp only [hd,if_true,hx,Option.bind_some]
  unfold Vv
  have : (p.toList.getD i 0 > 15) ↔ (16 ≤ (p.toList.getD i 0).toNat):=by rw [gt_iff_lt,UInt8.lt_iff_toNat_lt]; exact Iff.rfl
  simp only [this]
  split <;> rfl) (by unfold Xk; simp) 0 (by omega)
 have h2 : ZB (Xk p) 0 = _:=this
 have e1 : slc p.toList (0 : Int) (16 : Int) = some p.toList:=by
  have:=KX (l:=p.toList) (i:=0) (j:=16) (by omega) (by simp)
  simp only [List.drop_zero] at this
  rw [List.take_of_length_le (by simp)] at this
  exact this
 have key : ((List.range' 0 (16 - 0)).any (Vv p.toList)) = !(p.toList.all fun x=>decide (x < 16)):=by
  rw [Bool.eq_iff_iff,WD,Bool.not_eq_true',List.all_eq_false]
  constructor
  ·rintro ⟨i,_,hi,h⟩
   refine ⟨p.toList[i],List.getElem_mem _,?_⟩
   unfold Vv at h
   rw [WR p hi] at h
   simp only [decide_eq_true_eq,UInt8.lt_iff_toNat_lt] at h ⊢
   have : (16 : UInt8).toNat = 16:=rfl
   omega
  ·rintro ⟨x,hx,h⟩
   obtain ⟨i,hi,rfl⟩:=List.mem_iff_getElem.1 hx
   have hi' : i < 16:=by simpa using hi
   refine ⟨i,Nat.zero_le _,hi',?_⟩
   unfold Vv
   rw [WR p hi']
   simp only [decide_eq_true_eq,UInt8.lt_iff_toNat_lt] at h ⊢
   have : (16 : UInt8).toNat = 16:=rfl
   omega
 rw [h2,key]
 unfold XL
 cases p.toList.all fun x=>decide (x < 16)
 ·rfl
 ·simp [Fl.el,e1,KW p.toList (by omega)]
theorem Ap (p : Vector UInt8 16) : ((List.range' 0 (16 - 0)).any (Vv p.toList)) = !(p.toList.all fun x=>decide (x < 16)):=by
 rw [Bool.eq_iff_iff,WD,Bool.not_eq_true',List.all_eq_false]
 have h16 : (16 : UInt8).toNat = 16:=rfl
 have hl : p.toList.length = 16:=by simp
 constructor
 ·rintro ⟨i,_,hi,h⟩
  refine ⟨p.toList[i],List.getElem_mem _,?_⟩
  unfold Vv at h
  rw [WR p hi] at h
  simp only [decide_eq_true_eq,UInt8.lt_iff_toNat_lt] at h ⊢
  omega
 ·rintro ⟨x,hx,h⟩
  obtain ⟨i,hi,rfl⟩:=List.mem_iff_getElem.1 hx
  have hi' : i < 16:=by simpa using hi
  refine ⟨i,Nat.zero_le _,hi',?_⟩
  unfold Vv
  rw [WR p hi']
  simp only [decide_eq_true_eq,UInt8.lt_iff_toNat_lt] at h ⊢
  omega
theorem Bh (p : Vector UInt8 16) : WX p = some (XL p):=by
 unfold WX
 have hl : p.toList.length = 16:=by simp
 have h16 : (16 : UInt8).toNat = 16:=rfl
 have:=V8 (f:=XU p) (fun i : Nat=>(vf 16 (Wp p.toList i),(i : Int))) (fun i=>Vv p.toList i || Wp p.toList i (p.toList.getD i 0).toNat) (fun _=>Fl.ex false) (e:=Fl.nx ()) 16 16 0 rfl (fun i _ hi=>by
  unfold XU
  have hd : decide ((i : Int) < 16) = true:=by simp; omega
  have hx:=VI p hi
  simp only [hd,if_true,hx,Option.bind_some]
  unfold Vv
  by_cases hf : 16 ≤ (p.toList.getD i 0).toNat
  ·have h1 : p.toList.getD i 0 ≥ 16:=by rw [ge_iff_le,UInt8.le_iff_toNat_le]; omega
   simp only [h1,decide_true,if_true,hf,Bool.true_or,Option.bind_some]
  ·have h1 : ¬ p.toList.getD i 0 ≥ 16:=by rw [ge_iff_le,UInt8.le_iff_toNat_le]; omega
   have hs:=Qt 16 (Wp p.toList i) (p.toList.getD i 0) (by omega)
   have e:=QS p.toList (i:=i) (by simpa using hi)
   rw [← WR p hi] at e
   simp only [h1,decide_false,Bool.false_eq_true,if_false,hf,Bool.false_or,Option.bind_some,hs]
   cases Wp p.toList i (p.toList.getD i 0).toNat
   ·simp only [Bool.false_eq_true,if_false,Option.bind_some,Uh,Vi,e,YN (show i < 9223372036854775807 by omega)]
   ·rfl) (by unfold XU; simp)
 have h2 : ZB (XU p) (vf 16 (Wp p.toList 0),0) = _:=this
 rw [Qu 16 p.toList,h2]
 have h3:=Hc p.toList
 rw [hl] at h3
 have h5 : ((List.range' 0 (16 - 0)).any fun i=>Vv p.toList i || Wp p.toList i (p.toList.getD i 0).toNat) = !XL p:=by
  have e : ((List.range' 0 (16 - 0)).any fun i=>Vv p.toList i || Wp p.toList i (p.toList.getD i 0).toNat) = ((List.range' 0 (16 - 0)).any (Vv p.toList) || (List.range' 0 (16 - 0)).any fun i=>Wp p.toList i (p.toList.getD i 0).toNat):=by
   induction List.range' 0 (16 - 0) with
   | nil=>rfl
   | cons x l ih=>simp only [List.any_cons,ih]; cases Vv p.toList x <;> cases l.any (Vv p.toList) <;> simp
  rw [e,Ap,h3]
  unfold XL
  cases (p.toList.all fun x=>decide (x < 16)) <;> cases VY p.toList <;> rfl
 cases hf : (List.range' 0 16).find? (fun i=>Vv p.toList i || Wp p.toList i (p.toList.getD i 0).toNat) with
 | none =>
  have h4 : ((List.range' 0 (16 - 0)).any fun i=>Vv p.toList i || Wp p.toList i (p.toList.getD i 0).toNat) = false:=by rw [List.any_eq_false]; exact List.find?_eq_none.1 hf
  rw [h4] at h5
  have : XL p = true:=by simpa using h5.symm
  rw [this]; rfl
 | some i =>
  have h4 : ((List.range' 0 (16 - 0)).any fun i=>Vv p.toList i || Wp p.toList i (p.toList.getD i 0).toNat) = true:=by rw [List.any_eq_true]; exact ⟨i,List.mem_of_find?_eq_some hf,List.find?_some (p:=fun i=>Vv p.toList i || Wp p.toList i (p.toList.getD i 0).toNat) hf⟩
  rw [h4] at h5
  have : XL p = false:=by simpa using h5.symm
  rw [this]; rfl

def Th (a : Mat) : MF:=fun i j=>(a[i]?.getD default)[j]?.getD default
theorem Tp (a : Mat) : a = mf (Th a):=calc a = vf 4 (fun i=>a[i]?.getD default):=J1 a
  _ = _:=X7 fun i _=>J1 _
def Hs (m : Nat) (a : Mat) : UInt8:=(To m (Th a)).1
def KV (m : Nat) (a : Mat) : Mat:=(To m (Th a)).2
def Yk (c : GCipher) : Bool:=Vs c.Field && VY c.Box.toList && XL c.Places && decide (1 ≤ c.Rounds ∧ c.Rounds ≤ 20) && (Hs c.Field.toNat c.Mix != 0)
theorem Hd (m : Nat) (hm : m < 512) (hm2 : 256 ≤ m) (a : Mat) : Yp (m : Int) a = some (Hs m a,KV m a):=by
 have:=KC m hm hm2 (Th a)
 rw [← Tp] at this
 exact this
theorem Qa (m : Nat) (hm : m < 512) (hm2 : 256 ≤ m) (a : Mat) : Xo (m : Int) a = some (KV m a,Hs m a != 0):=by
 have:=JU m hm hm2 (Th a)
 rw [← Tp] at this
 unfold Xo
 rw [this]; rfl
theorem HE (c : GCipher) : WA c = some (Yk c):=by
 unfold WA Yk Wa
 rw [H7]
 cases hf : Vs c.Field
 ·rfl
 ·obtain ⟨m,hm,h1,h2⟩:=U5 hf
  simp only [hm,Option.bind_some,if_true,Q8,Hd m h2 h1,Hn,Jk,Int.toNat_natCast]
  cases VY c.Box.toList <;> cases (Hs m c.Mix != 0) <;> cases XL c.Places <;> simp
theorem B7 (c : GCipher) : VA c = some (Yk c):=by
 unfold VA Yk
 rw [Hy]
 cases hf : Vs c.Field
 ·rfl
 ·obtain ⟨m,hm,h1,h2⟩:=U5 hf
  simp only [hm,Option.bind_some,Bool.not_true,Bool.false_eq_true,if_false,B6,Bh,H0,Qa m h2 h1,Int.toNat_natCast]
  cases VY c.Box.toList <;> cases (Hs m c.Mix != 0) <;> cases XL c.Places <;> cases decide (1 ≤ c.Rounds ∧ c.Rounds ≤ 20) <;> simp
theorem UT {c : GCipher} (h : Yk c = true) : ∃ m : Nat,c.Field = m ∧ 256 ≤ m ∧ m < 512:=by
 unfold Yk at h
 simp only [Bool.and_eq_true] at h
 exact U5 h.1.1.1.1
theorem Wg {n : Nat} (L : Vector UInt8 n × Int → Option (Fl (Vector UInt8 n × Int) (Vector UInt8 n))) (f h : Nat → UInt8) (hn : n < 9223372036854775807) (m : Nat) (hm : m ≤ n) (h0 : ∀ j,j < m → h j = f j)
  (hL : ∀ i,m ≤ i → i < n → ∀ a : Nat → UInt8,(∀ j,j < i → a j = h j) → (∀ j,i ≤ j → a j = f j) → L (vf n a,(i : Int)) = some (.nx ((vf n a).setIfInBounds i (h i),wr ((i : Int) + 1))))
  (he : ∀ v,L (v,(n : Int)) = some (.ex v)) : ZB L (vf n f,(m : Int)) = some (vf n h):=by
 have k1 : (vf n fun j=>if j < n then h j else f j) = vf n h:=X7 fun j hj=>by rw [if_pos hj]
 have k0 : (vf n fun j=>if j < m then h j else f j) = vf n f:=X7 fun j hj=>by
  by_cases h1 : j < m
  ·rw [if_pos h1,h0 j h1]
  ·rw [if_neg h1]
 have:=ZU (f:=L) (fun i : Nat=>(vf n fun j=>if j < i then h j else f j,(i : Int))) m n hm (t:=vf n h) (fun i hmi hi=>by
  rw [hL i hmi hi _ (fun j hj=>by rw [if_pos hj]) (fun j hj=>by rw [if_neg (by omega)]),Vi,YN (show i < 9223372036854775807 by omega)]
  refine congrArg (fun z=>some (Fl.nx (z,((i + 1 : Nat) : Int)))) (X7 fun j hj=>?_)
  by_cases h1 : j = i
  ·subst h1; simp
  ·by_cases h2 : j < i
   ·rw [if_neg h1,if_pos h2,if_pos (by omega)]
   ·rw [if_neg h1,if_neg h2,if_neg (by omega)]) (by
  simp only [k1]
  exact he _)
 simp only [k0] at this
 exact this
def Ja (b : Vector UInt8 256) (x : UInt8) : UInt8:=b[x.toNat]'(UInt8.toNat_lt x)
theorem V2 (b : Vector UInt8 256) (x : UInt8) : Zs b (bI x) = some (Ja b x):=by
 have : Zs b ((x.toNat : Nat) : Int) = _:=W8 b x.toNat
 rw [Vector.getElem?_eq_getElem (UInt8.toNat_lt x)] at this
 exact this
abbrev Blk:=Vector UInt8 16
def bf (v : Blk) (i : Nat) : UInt8:=v[i]?.getD default
theorem H6 (v : Blk) : v = vf 16 (bf v):=J1 v
theorem Qj {i : Nat} (h : i < 16) : decide ((i : Int) < 16) = true:=by simp; omega
def TM (f g : Nat → UInt8) : Nat → UInt8:=fun i=>f i ^^^ g i
theorem U6 (f g : Nat → UInt8) : XA (vf 16 f) (vf 16 g) = some (vf 16 (TM f g)):=by
 unfold XA
 have:=Wg (Wl (vf 16 g)) f (TM f g) (by omega) 0 (by omega) (fun j hj=>by omega) (fun i _ hi a _ ha=>by
  unfold Wl
  simp only [Qj hi,if_true,ZN _ hi,Option.bind_some,Int.toNat_natCast,ha i (Nat.le_refl _),TM]) (fun v=>by unfold Wl; simp)
 have h2 : ZB (Wl (vf 16 g)) (vf 16 f,0) = _:=this
 rw [h2]; rfl
theorem VP (f g : Nat → UInt8) : YB (vf 16 f) (vf 16 g) = some (vf 16 (TM f g)):=by
 unfold YB
 have:=Wg (Xn (vf 16 g)) f (TM f g) (by omega) 0 (by omega) (fun j hj=>by omega) (fun i _ hi a _ ha=>by
  unfold Xn
  simp only [Qj hi,if_true,ZN _ hi,Option.bind_some,Int.toNat_natCast,ha i (Nat.le_refl _),TM]) (fun v=>by unfold Xn; simp)
 have h2 : ZB (Xn (vf 16 g)) (vf 16 f,0) = _:=this
 rw [h2]; rfl
def TI (b : Vector UInt8 256) (f : Nat → UInt8) : Nat → UInt8:=fun i=>Ja b (f i)
theorem TR (b : Vector UInt8 256) (f : Nat → UInt8) : XV b (vf 16 f) = some (vf 16 (TI b f)):=by
 unfold XV
 have:=Wg (XI b) f (TI b f) (by omega) 0 (by omega) (fun j hj=>by omega) (fun i _ hi a _ ha=>by
  unfold XI
  simp only [Qj hi,if_true,ZN _ hi,Option.bind_some,Int.toNat_natCast,ha i (Nat.le_refl _),V2,TI]) (fun v=>by unfold XI; simp)
 have h2 : ZB (XI b) (vf 16 f,0) = _:=this
 rw [h2]; rfl
def VD (p : Blk) (f : Nat → UInt8) : Nat → UInt8:=fun i=>f (bf p i).toNat
theorem Tq {p : Blk} (h : XL p = true) {i : Nat} (hi : i < 16) : (bf p i).toNat < 16:=by
 unfold XL at h
 simp only [Bool.and_eq_true,List.all_eq_true,decide_eq_true_eq] at h
 have e : bf p i = p[i]:=by unfold bf; rw [Vector.getElem?_eq_getElem hi]; rfl
 have:=h.1 p[i] (by simp)
 rw [UInt8.lt_iff_toNat_lt] at this
 rw [e]; exact this
theorem V5 (p : Blk) {i : Nat} (h : i < 16) : Zs p (i : Int) = some (bf p i):=by
 rw [W8]; unfold bf; rw [Vector.getElem?_eq_getElem h]; rfl
theorem T9 (f : Nat → UInt8) {x : UInt8} (h : x.toNat < 16) : Zs (vf 16 f) (bI x) = some (f x.toNat):=ZN f h
theorem H9 (p : Blk) (hp : XL p = true) (f : Nat → UInt8) : Xc p (vf 16 f) = some (vf 16 (VD p f)):=by
 unfold Xc
 have:=Wg (Yh p (vf 16 f)) (fun _=>0) (VD p f) (by omega) 0 (by omega) (fun j hj=>by omega) (fun i _ hi a _ ha=>by
  unfold Yh
  simp only [Qj hi,if_true,ZN _ hi,V5 _ hi,Option.bind_some,Int.toNat_natCast,T9 f (Tq hp hi),VD]) (fun v=>by unfold Yh; simp)
 have h2 : ZB (Yh p (vf 16 f)) (vf 16 (fun _=>0),0) = _:=this
 rw [VU 16 (0 : UInt8),h2]; rfl
theorem v_move (p : Blk) (hp : XL p = true) (f : Nat → UInt8) : Yf p (vf 16 f) = some (vf 16 (VD p f)):=by
 unfold Yf
 have:=Wg (ZZ p (vf 16 f)) (fun _=>0) (VD p f) (by omega) 0 (by omega) (fun j hj=>by omega) (fun i _ hi a _ ha=>by
  unfold ZZ
  simp only [Qj hi,if_true,ZN _ hi,V5 _ hi,Option.bind_some,Int.toNat_natCast,T9 f (Tq hp hi),VD]) (fun v=>by unfold ZZ; simp)
 have h2 : ZB (ZZ p (vf 16 f)) (vf 16 (fun _=>0),0) = _:=this
 rw [VU 16 (0 : UInt8),h2]; rfl

def Ux (b : Vector UInt8 256) (f : Nat → UInt8) (r : Int) : Nat → UInt8
 | 0=>f 0 ^^^ Ja b (f 15 ^^^ ZO r)
 | i + 1=>f (i + 1) ^^^ Ja b (Ux b f r i)
theorem Bn (b : Vector UInt8 256) (f : Nat → UInt8) (r : Int) : WL b (vf 16 f) r = some (vf 16 (Ux b f r)) := by
  unfold WL
  have := Wg (XO b r) f (Ux b f r) (by omega) 0 (by omega) (fun j hj => by omega) (fun i _ hi a hb ha => by
    unfold XO
    cases i with
    | zero =>
      have e1 : Int.tmod (wr (((0 : Nat) : Int) + 15)) 16 = ((15 : Nat) : Int) := by decide
      simp only [e1, Qj hi, if_true, ZN a (show 15 < 16 by omega), Option.bind_some]
      have e2 : (((0 : Nat) : Int) == 0) = true := rfl
      simp only [e2, if_true, Option.bind_some, V2, ZN a hi, Int.toNat_natCast, ha 0 (by omega), ha 15 (by omega), Ux]
    | succ i =>
      have e1 : Int.tmod (wr (((i + 1 : Nat) : Int) + 15)) 16 = ((i : Nat) : Int) := by
        rw [WW (by omega)]
        have : (((i + 1 : Nat) : Int) + 15) = ((i + 16 : Nat) : Int) := by omega
        rw [this]
        have : Int.tmod ((i + 16 : Nat) : Int) 16 = (((i + 16) % 16 : Nat) : Int) := rfl
        rw [this]
        omega
      have e2 : (((i + 1 : Nat) : Int) == 0) = false := by have : ((i + 1 : Nat) : Int) ≠ 0 := by omega
                                                           simpa using this
      simp only [e1, e2, Qj hi, if_true, ZN a (show i < 16 by omega), Option.bind_some, Bool.false_eq_true, if_false, V2, ZN a hi, Int.toNat_natCast, ha (i + 1) (Nat.le_refl _), hb i (by omega), Ux]) (fun v => by unfold XO; simp)
  have h2 : ZB (XO b r) (vf 16 f, 0) = _ := this
  rw [h2]; rfl
theorem Bd (e : Ref Gengine) (f : Nat → UInt8) (r : Int) : YS e (vf 16 f) r = some (vf 16 (Ux e.v.box f r)):=by
 unfold YS
 have x0 : Zs (vf 16 f) (0 : Int) = some (f 0):=ZN f (show 0 < 16 by omega)
 have x15 : Zs (vf 16 f) (15 : Int) = some (f 15):=ZN f (show 15 < 16 by omega)
 have z : (0 : Int).toNat = 0:=rfl
 simp only [x0,x15,Option.bind_some,V2,z,Vi]
 have:=Wg (Yo e) (fun i=>if i = 0 then f 0 ^^^ Ja e.v.box (f 15 ^^^ ZO r) else f i) (Ux e.v.box f r) (by omega) 1 (by omega) (fun j hj=>by
  have : j = 0:=by omega
  subst this; simp [Ux]) (fun i h1 hi a hb ha=>by
  unfold Yo
  obtain ⟨i,rfl⟩ : ∃ k,i = k + 1:=⟨i - 1,by omega⟩
  have e1 : wr (((i + 1 : Nat) : Int) - 1) = ((i : Nat) : Int):=by rw [WW (by omega)]; omega
  simp only [e1,Qj hi,if_true,ZN a (show i < 16 by omega),ZN a hi,Option.bind_some,V2,Int.toNat_natCast,ha (i + 1) (Nat.le_refl _),hb i (by omega),Ux]
  simp) (fun v=>by unfold Yo; simp)
 have h2 : ZB (Yo e) (vf 16 (fun i=>if i = 0 then f 0 ^^^ Ja e.v.box (f 15 ^^^ ZO r) else f i),1) = _:=this
 rw [h2]; rfl
def Kc (b : Vector UInt8 256) (k : Nat → UInt8) : Nat → Nat → UInt8
 | 0=>k
 | r + 1=>Ux b (Kc b k r) ((r + 1 : Nat) : Int)
def Xm (b : Vector UInt8 256) (k : Nat → UInt8) (n : Nat) : List Blk:=(List.range (n + 1)).map fun r=>vf 16 (Kc b k r)
theorem Jp (b : Vector UInt8 256) (k : Nat → UInt8) (n : Nat) : Xm b k (n + 1) = Xm b k n ++ [vf 16 (Ux b (Kc b k n) ((n + 1 : Nat) : Int))]:=by
 unfold Xm
 rw [List.range_succ,List.map_append]; rfl
theorem Uz (b : Vector UInt8 256) (k : Nat → UInt8) (n : Nat) : (Xm b k n).length = n + 1:=by simp [Xm]
theorem VQ (b : Vector UInt8 256) (k : Nat → UInt8) {n r : Nat} (h : r ≤ n) : idx (Xm b k n) (r : Int) = some (vf 16 (Kc b k r)):=by
 rw [VS]; unfold Xm; rw [List.getElem?_map,List.getElem?_range (by omega)]; rfl
theorem Jm (c : GCipher) (k : Nat → UInt8) (n : Nat) (hn : n ≤ 1000) : Wb c (vf 16 k) (n : Int) = some (Xm c.Box k n):=by
 unfold Wb
 have:=ZU (f:=XW c (n : Int)) (fun i : Nat=>(vf 16 (Kc c.Box k (i - 1)),Xm c.Box k (i - 1),(i : Int))) 1 (n + 1) (by omega) (t:=Xm c.Box k n) (fun i h1 hi=>by
  unfold XW
  obtain ⟨i,rfl⟩ : ∃ q,i = q + 1:=⟨i - 1,by omega⟩
  have e1 : decide (((i + 1 : Nat) : Int) ≤ (n : Int)) = true:=by simp; omega
  have e2 : app 16 (Xm c.Box k i) [vf 16 (Ux c.Box (Kc c.Box k i) ((i + 1 : Nat) : Int))] = _:=QP (by rw [Uz]; simp; omega)
  simp only [Nat.add_sub_cancel,e1,if_true,Bn,Option.bind_some,e2,YN (show i + 1 < 9223372036854775807 by omega),Jp]
  rfl) (by
  unfold XW
  have e1 : decide (((n + 1 : Nat) : Int) ≤ (n : Int)) = false:=by simp; omega
  simp only [e1,Bool.false_eq_true,if_false,Nat.add_sub_cancel])
 have h2 : ZB (XW c (n : Int)) (vf 16 k,[vf 16 k],1) = _:=this
 rw [h2]; rfl
theorem Bw (e : Ref Gengine) (k : Nat → UInt8) (n : Nat) (hn : n ≤ 1000) : Y4 e (vf 16 k) (n : Int) = some (Xm e.v.box k n):=by
 unfold Y4
 have:=ZU (f:=YG e (n : Int)) (fun i : Nat=>(vf 16 (Kc e.v.box k (i - 1)),Xm e.v.box k (i - 1),(i : Int))) 1 (n + 1) (by omega) (t:=Xm e.v.box k n) (fun i h1 hi=>by
  unfold YG
  obtain ⟨i,rfl⟩ : ∃ q,i = q + 1:=⟨i - 1,by omega⟩
  have e1 : decide (((i + 1 : Nat) : Int) ≤ (n : Int)) = true:=by simp; omega
  have e2 : app 16 (Xm e.v.box k i) [vf 16 (Ux e.v.box (Kc e.v.box k i) ((i + 1 : Nat) : Int))] = _:=QP (by rw [Uz]; simp; omega)
  simp only [Nat.add_sub_cancel,e1,if_true,Bd,Option.bind_some,e2,YN (show i + 1 < 9223372036854775807 by omega),Jp]
  rfl) (by
  unfold YG
  have e1 : decide (((n + 1 : Nat) : Int) ≤ (n : Int)) = false:=by simp; omega
  simp only [e1,Bool.false_eq_true,if_false,Nat.add_sub_cancel])
 have h2 : ZB (YG e (n : Int)) (vf 16 k,[vf 16 k],1) = _:=this
 rw [h2]; rfl

def rowF (m : Nat) (a : MF) (f : Nat → UInt8) (c r : Nat) : UInt8:=((ZM m (a r 0) (f c) ^^^ ZM m (a r 1) (f (c + 1))) ^^^ ZM m (a r 2) (f (c + 2))) ^^^ ZM m (a r 3) (f (c + 3))
def WF (m : Nat) (a : MF) (f : Nat → UInt8) : Nat → UInt8:=fun i=>rowF m a f (i / 4 * 4) (i % 4)
theorem set_set (f : Nat → UInt8) (k : Nat) (x y : UInt8) : (fun i=>if i = k then y else if i = k then x else f i) = fun i=>if i = k then y else f i:=by
 funext i; by_cases h : i = k <;> simp [h]
theorem wr_at {c r : Nat} (hc : c < 4) (hr : r < 4) : wr (wr (4 * (c : Int)) + (r : Int)) = ((c * 4 + r : Nat) : Int):=by
 rw [WW (x:=4 * (c : Int)) (by omega),WW (by omega)]; omega
theorem Ae (m : Nat) (hm : m < 512) (hm2 : 256 ≤ m) (a : MF) (f g : Nat → UInt8) (c r : Nat) (hc : c < 4) (hr : r < 4) (s1 s2 : Blk × Int) (h1 : s1.2 = (c : Int)) (h2 : s2.2 = (r : Int)) (hg : g (c * 4 + r) = 0) :
  ZB (Xd (m : Int) (mf a) (vf 16 f) s1 s2) (vf 16 g,0) = some (vf 16 fun i=>if i = c * 4 + r then rowF m a f (c * 4) r else g i):=by
 have hcr : c * 4 + r < 16:=by omega
 have step : ∀ (j : Nat) (h : Nat → UInt8),j < 4 → Xd (m : Int) (mf a) (vf 16 f) s1 s2 (vf 16 h,(j : Int)) = some (.nx (vf 16 (fun i=>if i = c * 4 + r then h (c * 4 + r) ^^^ ZM m (a r j) (f (c * 4 + j)) else h i),((j + 1 : Nat) : Int))):=fun j h hj=>by
  unfold Xd
  simp only [h1,h2,lt4 hj,if_true,wr_at hc hr,wr_at hc hj,ZN _ hcr,Y7 _ hr,ZN _ hj,ZN f (show c * 4 + j < 16 by omega),Option.bind_some,Ui m hm hm2,Int.toNat_natCast,Vi,wr4 (show j < 1000 by omega)]
 have e0:=step 0 g (by omega)
 have e1:=step 1 (fun i=>if i = c * 4 + r then g (c * 4 + r) ^^^ ZM m (a r 0) (f (c * 4 + 0)) else g i) (by omega)
 have e2:=step 2 (fun i=>if i = c * 4 + r then (g (c * 4 + r) ^^^ ZM m (a r 0) (f (c * 4 + 0))) ^^^ ZM m (a r 1) (f (c * 4 + 1)) else g i) (by omega)
 have e3:=step 3 (fun i=>if i = c * 4 + r then ((g (c * 4 + r) ^^^ ZM m (a r 0) (f (c * 4 + 0))) ^^^ ZM m (a r 1) (f (c * 4 + 1))) ^^^ ZM m (a r 2) (f (c * 4 + 2)) else g i) (by omega)
 have e4 : ∀ v : Blk,Xd (m : Int) (mf a) (vf 16 f) s1 s2 (v,((4 : Nat) : Int)) = some (.ex v):=fun v=>by unfold Xd; simp
 simp only [if_true,set_set] at e1 e2 e3
 have e0' : Xd (m : Int) (mf a) (vf 16 f) s1 s2 (vf 16 g,0) = _:=e0
 rw [WH e0',WH e1,WH e2,WH e3,X4 (e4 _)]
 refine congrArg some (X7 fun i _=>?_)
 by_cases h : i = c * 4 + r
 ·simp [h,hg,rowF]
 ·simp [h]
theorem Hf (m : Nat) (hm : m < 512) (hm2 : 256 ≤ m) (a : MF) (f : Nat → UInt8) : WE (m : Int) (mf a) (vf 16 f) = some (vf 16 (WF m a f)):=by
 unfold WE
 -- after c columns and r rows of the next
 have inner : ∀ c : Nat,c < 4 → ∀ s1 : Blk × Int,s1.2 = (c : Int) → ZB (We (m : Int) (mf a) (vf 16 f) s1) (vf 16 (fun i=>if i < c * 4 then WF m a f i else 0),0) = some (vf 16 fun i=>if i < (c + 1) * 4 then WF m a f i else 0):=fun c hc s1 h1=>by
  have k1 : (vf 16 fun i=>if i < c * 4 + 4 then WF m a f i else 0) = vf 16 fun i=>if i < (c + 1) * 4 then WF m a f i else 0:=by rw [show c * 4 + 4 = (c + 1) * 4 by omega]
  have:=ZU (f:=We (m : Int) (mf a) (vf 16 f) s1) (fun r : Nat=>(vf 16 fun i=>if i < c * 4 + r then WF m a f i else 0,(r : Int))) 0 4 (by omega) (t:=vf 16 fun i=>if i < (c + 1) * 4 then WF m a f i else 0) (fun r _ hr=>by
   unfold We
   have h2:=Ae m hm hm2 a f (fun i=>if i < c * 4 + r then WF m a f i else 0) c r hc hr s1 (vf 16 fun i=>if i < c * 4 + r then WF m a f i else 0,(r : Int)) h1 rfl (by simp)
   simp only [lt4 hr,if_true,h2,Option.bind_some,wr4 (show r < 1000 by omega)]
   refine congrArg (fun z=>some (Fl.nx (z,((r + 1 : Nat) : Int)))) (X7 fun i _=>?_)
   by_cases h : i = c * 4 + r
   ·subst h
    have q1 : (c * 4 + r) / 4 = c:=by omega
    have q2 : (c * 4 + r) % 4 = r:=by omega
    rw [if_pos rfl,if_pos (by omega)]
    unfold WF; rw [q1,q2]
   ·by_cases h3 : i < c * 4 + r
    ·rw [if_neg h,if_pos h3,if_pos (by omega)]
    ·rw [if_neg h,if_neg h3,if_neg (by omega)]) (by
   unfold We
   simp only [k1]
   simp)
  exact this
 have:=ZU (f:=Wd (m : Int) (mf a) (vf 16 f)) (fun c : Nat=>(vf 16 fun i=>if i < c * 4 then WF m a f i else 0,(c : Int))) 0 4 (by omega) (t:=vf 16 (WF m a f)) (fun c _ hc=>by
  unfold Wd
  have h2:=inner c hc (vf 16 fun i=>if i < c * 4 then WF m a f i else 0,(c : Int)) rfl
  simp only [lt4 hc,if_true,h2,Option.bind_some,wr4 (show c < 1000 by omega)]) (by
  unfold Wd
  have : (vf 16 fun i=>if i < 4 * 4 then WF m a f i else 0) = vf 16 (WF m a f):=X7 fun i hi=>by rw [if_pos (by omega)]
  simp only [this]
  simp)
 have e0 : (vf 16 fun i=>if i < 0 * 4 then WF m a f i else 0) = vf 16 fun _=>(0 : UInt8):=X7 fun i _=>by rw [if_neg (by omega)]
 simp only [e0] at this
 have h2 : ZB (Wd (m : Int) (mf a) (vf 16 f)) (vf 16 fun _=>(0 : UInt8),0) = _:=this
 rw [VU 16 (0 : UInt8),h2]; rfl

abbrev Tab:=Vector (Vector (Vector UInt8 256) 4) 4
def QA (m : Nat) (a : MF) : Tab:=vf 4 fun i=>vf 4 fun j=>vf 256 fun x=>ZM m (a i j) (UInt8.ofNat x)
theorem BQ (m : Nat) (a : MF) (i j : Nat) (x : UInt8) : Zs (vf 256 fun x=>ZM m (a i j) (UInt8.ofNat x)) (bI x) = some (ZM m (a i j) x):=by
 rw [show bI x = ((x.toNat : Nat) : Int) from rfl,ZN _ (UInt8.toNat_lt x)]
 simp
theorem v_mix (m : Nat) (a : MF) (f : Nat → UInt8) : XE ⟨QA m a⟩ (vf 16 f) = some (vf 16 (WF m a f)):=by
 unfold XE
 have i0 : ∀ (v : Vector (Vector UInt8 256) 4),Zs v (0 : Int) = v[0]?:=fun v=>W8 v 0
 have i1 : ∀ (v : Vector (Vector UInt8 256) 4),Zs v (1 : Int) = v[1]?:=fun v=>W8 v 1
 have i2 : ∀ (v : Vector (Vector UInt8 256) 4),Zs v (2 : Int) = v[2]?:=fun v=>W8 v 2
 have i3 : ∀ (v : Vector (Vector UInt8 256) 4),Zs v (3 : Int) = v[3]?:=fun v=>W8 v 3
 have inner : ∀ c : Nat,c < 4 → ∀ s1 : Blk × Int,s1.2 = ((c * 4 : Nat) : Int) → ZB (Xp ⟨QA m a⟩ s1 (f (c * 4),f (c * 4 + 1),f (c * 4 + 2),f (c * 4 + 3))) (vf 16 (fun i=>if i < c * 4 then WF m a f i else f i),0) = some (vf 16 fun i=>if i < (c + 1) * 4 then WF m a f i else f i):=fun c hc s1 h1=>by
  have k1 : (vf 16 fun i=>if i < c * 4 + 4 then WF m a f i else f i) = vf 16 fun i=>if i < (c + 1) * 4 then WF m a f i else f i:=by rw [show c * 4 + 4 = (c + 1) * 4 by omega]
  have:=ZU (f:=Xp ⟨QA m a⟩ s1 (f (c * 4),f (c * 4 + 1),f (c * 4 + 2),f (c * 4 + 3))) (fun r : Nat=>(vf 16 fun i=>if i < c * 4 + r then WF m a f i else f i,(r : Int))) 0 4 (by omega) (t:=vf 16 fun i=>if i < (c + 1) * 4 then WF m a f i else f i) (fun r _ hr=>by
   unfold Xp
   have e1 : wr (s1.2 + (r : Int)) = ((c * 4 + r : Nat) : Int):=by rw [h1,WW (by omega)]; omega
   have et : Zs (QA m a) (r : Int) = some (vf 4 fun j=>vf 256 fun x=>ZM m (a r j) (UInt8.ofNat x)):=ZN _ hr
   simp only [lt4 hr,if_true,et,i0,i1,i2,i3,UN _ (show 0 < 4 by omega),UN _ (show 1 < 4 by omega),UN _ (show 2 < 4 by omega),UN _ (show 3 < 4 by omega),BQ,e1,ZN _ (show c * 4 + r < 16 by omega),Option.bind_some,Int.toNat_natCast,Vi,wr4 (show r < 1000 by omega)]
   refine congrArg (fun z=>some (Fl.nx (z,((r + 1 : Nat) : Int)))) (X7 fun i _=>?_)
   by_cases h : i = c * 4 + r
   ·subst h
    have q1 : (c * 4 + r) / 4 = c:=by omega
    have q2 : (c * 4 + r) % 4 = r:=by omega
    rw [if_pos rfl,if_pos (by omega)]
    unfold WF; rw [q1,q2]; rfl
   ·by_cases h3 : i < c * 4 + r
    ·rw [if_neg h,if_pos h3,if_pos (by omega)]
    ·rw [if_neg h,if_neg h3,if_neg (by omega)]) (by
   unfold Xp
   simp only [k1]
   simp)
  exact this
 have:=ZU (f:=Xj ⟨QA m a⟩) (fun c : Nat=>(vf 16 fun i=>if i < c * 4 then WF m a f i else f i,((c * 4 : Nat) : Int))) 0 4 (by omega) (t:=vf 16 (WF m a f)) (fun c _ hc=>by
  unfold Xj
  have hd : decide (((c * 4 : Nat) : Int) < ((vf 16 fun i=>if i < c * 4 then WF m a f i else f i).toList.length : Int)) = true:=by rw [Vector.length_toList]; simp; omega
  have x0:=ZN (n:=16) (fun i=>if i < c * 4 then WF m a f i else f i) (show c * 4 < 16 by omega)
  have x1:=ZN (n:=16) (fun i=>if i < c * 4 then WF m a f i else f i) (show c * 4 + 1 < 16 by omega)
  have x2:=ZN (n:=16) (fun i=>if i < c * 4 then WF m a f i else f i) (show c * 4 + 2 < 16 by omega)
  have x3:=ZN (n:=16) (fun i=>if i < c * 4 then WF m a f i else f i) (show c * 4 + 3 < 16 by omega)
  have w1 : wr (((c * 4 : Nat) : Int) + 1) = ((c * 4 + 1 : Nat) : Int):=by rw [WW (by omega)]; omega
  have w2 : wr (((c * 4 : Nat) : Int) + 2) = ((c * 4 + 2 : Nat) : Int):=by rw [WW (by omega)]; omega
  have w3 : wr (((c * 4 : Nat) : Int) + 3) = ((c * 4 + 3 : Nat) : Int):=by rw [WW (by omega)]; omega
  have w4 : wr (((c * 4 : Nat) : Int) + 4) = (((c + 1) * 4 : Nat) : Int):=by rw [WW (by omega)]; omega
  rw [if_neg (by omega)] at x0 x1 x2 x3
  have h2:=inner c hc (vf 16 fun i=>if i < c * 4 then WF m a f i else f i,((c * 4 : Nat) : Int)) rfl
  simp only [hd,if_true,x0,w1,x1,w2,x2,w3,x3,Option.bind_some,h2,w4]) (by
  unfold Xj
  have : (vf 16 fun i=>if i < 4 * 4 then WF m a f i else f i) = vf 16 (WF m a f):=X7 fun i hi=>by rw [if_pos (by omega)]
  simp only [this]
  simp)
 have e0 : (vf 16 fun i=>if i < 0 * 4 then WF m a f i else f i) = vf 16 f:=X7 fun i _=>by rw [if_neg (by omega)]
 simp only [e0] at this
 have h2 : ZB (Xj ⟨QA m a⟩) (vf 16 f,0) = _:=this
 rw [h2]; rfl

def tb (g : Nat → Nat → Nat → UInt8) : Tab:=vf 4 fun i=>vf 4 fun j=>vf 256 (g i j)
theorem QN {g h : Nat → Nat → Nat → UInt8} (e : ∀ i,i < 4 → ∀ j,j < 4 → ∀ x,x < 256 → g i j x = h i j x) : tb g = tb h :=
 X7 fun i hi=>X7 fun j hj=>X7 fun x hx=>e i hi j hj x hx
theorem Aj (g : Nat → Nat → Nat → UInt8) {i : Nat} (hi : i < 4) : Zs (tb g) (i : Int) = some (vf 4 fun j=>vf 256 (g i j)):=ZN _ hi
theorem BF (g : Nat → Nat → Nat → UInt8) (i : Nat) {j : Nat} (hj : j < 4) : Zs (vf 4 fun j=>vf 256 (g i j)) (j : Int) = some (vf 256 (g i j)):=ZN _ hj
theorem tb_set (g : Nat → Nat → Nat → UInt8) (i j : Nat) (h : Nat → UInt8) : (tb g).setIfInBounds i ((vf 4 fun j=>vf 256 (g i j)).setIfInBounds j (vf 256 h)) = tb (fun i' j'=>if i' = i ∧ j' = j then h else g i' j'):=by
 unfold tb
 rw [Vi,Vi]
 refine X7 fun i' _=>?_
 by_cases h1 : i' = i
 ·subst h1
  rw [if_pos rfl]
  refine X7 fun j' _=>?_
  by_cases h2 : j' = j
  ·subst h2; simp
  ·simp [h2]
 ·rw [if_neg h1]
  refine X7 fun j' _=>?_
  simp [h1]
theorem Am (a b : Nat) (ha : a < 9223372036854775808) (hb : b < 9223372036854775808) : orI (a : Int) (b : Int) = ((a ||| b : Nat) : Int):=by
 unfold orI
 rw [BitVec.toNat_or,QE a ha,QE b hb]
 have : a ||| b < 2 ^ 63:=Nat.or_lt_two_pow ha hb
 exact WW (by omega)
theorem Q2 (n : Nat) : ZO (n : Int) = UInt8.ofNat n:=by
 unfold ZO
 have : ((n : Int) % 256).toNat = n % 256:=by omega
 rw [this]
 apply UInt8.toNat_inj.1
 simp
theorem BX (g : Nat → Nat → Nat → UInt8) (i j : Nat) (h : Nat → UInt8) : (tb g).setIfInBounds i (vf 4 fun j'=>if j' = j then vf 256 h else vf 256 (g i j')) = tb (fun i' j'=>if i' = i ∧ j' = j then h else g i' j'):=by
 have:=tb_set g i j h
 rw [Vi] at this
 exact this
theorem BI {p low : Nat} (h : low < 2 ^ p) : 2 ^ p ||| low = 2 ^ p + low:=by
 have:=Nat.two_pow_add_eq_or_of_lt h 1
 simpa using this.symm
theorem BV {p low : Nat} (hp : p < 8) (h : low < 2 ^ p) : UInt8.ofNat (2 ^ p + low) = UInt8.ofNat (2 ^ p) ^^^ UInt8.ofNat low:=by
 apply UInt8.toNat_inj.1
 have h7 : 2 ^ p ≤ 2 ^ 7:=Nat.pow_le_pow_right (by omega) (by omega)
 rw [UInt8.toNat_xor]
 simp only [UInt8.toNat_ofNat']
 rw [Nat.mod_eq_of_lt (by omega),Nat.mod_eq_of_lt (by omega),Nat.mod_eq_of_lt (by omega)]
 rw [← BI h]
 apply Nat.eq_of_testBit_eq
 intro i
 rw [Nat.testBit_or,Nat.testBit_xor,Nat.testBit_two_pow]
 by_cases hi : p = i
 ·subst hi
  rw [Nat.testBit_lt_two_pow h]; simp
 ·simp [hi]
section
variable (m : Nat) (hm : m < 512) (hm2 : 256 ≤ m) (a : MF)
include hm hm2
def Tj (m : Nat) (a : MF) (i j n : Nat) (g : Nat → Nat → Nat → UInt8) : Nat → Nat → Nat → UInt8:=fun i' j'=>if i' = i ∧ j' = j then (fun x=>if x < n then ZM m (a i j) (UInt8.ofNat x) else 0) else g i' j'
theorem BR (i j p : Nat) (hi : i < 4) (hj : j < 4) (hp : p < 8) (g : Nat → Nat → Nat → UInt8) (s0 s1 s2 : Tab × Int) (h0 : s0.2 = (i : Int)) (h1 : s1.2 = (j : Int)) (h2 : s2.2 = ((2 ^ p : Nat) : Int)) :
  ZB (XF s0 s1 s2 (ZM m (a i j) (UInt8.ofNat (2 ^ p)))) (tb (Tj m a i j (2 ^ p) g),0) = some (tb (Tj m a i j (2 ^ (p + 1)) g)):=by
 have h7 : 2 ^ p ≤ 2 ^ 7:=Nat.pow_le_pow_right (by omega) (by omega)
 have k1 : 2 ^ p + 2 ^ p = 2 ^ (p + 1):=by rw [Nat.pow_succ]; omega
 have:=ZU (f:=XF s0 s1 s2 (ZM m (a i j) (UInt8.ofNat (2 ^ p)))) (fun low : Nat=>(tb (Tj m a i j (2 ^ p + low) g),(low : Int))) 0 (2 ^ p) (Nat.zero_le _) (t:=tb (Tj m a i j (2 ^ (p + 1)) g)) (fun low _ hl=>by
  unfold XF
  have hd : decide ((low : Int) < ((2 ^ p : Nat) : Int)) = true:=by simp only [decide_eq_true_eq]; omega
  have ho : orI ((2 ^ p : Nat) : Int) (low : Int) = ((2 ^ p + low : Nat) : Int):=by rw [Am _ _ (by omega) (by omega),BI hl]
  have eg : Tj m a i j (2 ^ p + low) g i j = fun x=>if x < 2 ^ p + low then ZM m (a i j) (UInt8.ofNat x) else 0:=by simp [Tj]
  simp only [h0,h1,h2,hd,if_true,Aj _ hi,BF _ i hj,eg,ZN _ (show low < 256 by omega),ho,ZN _ (show 2 ^ p + low < 256 by omega),Option.bind_some,Int.toNat_natCast,Vi,YN (show low < 9223372036854775807 by omega)]
  rw [if_pos (show low < 2 ^ p + low from Nat.lt_add_of_pos_left (Nat.two_pow_pos p)),← Hr hm2 hm,← BV hp hl]
  have:=BX (Tj m a i j (2 ^ p + low) g) i j (fun x=>if x = 2 ^ p + low then ZM m (a i j) (UInt8.ofNat (2 ^ p + low)) else if x < 2 ^ p + low then ZM m (a i j) (UInt8.ofNat x) else 0)
  rw [this]
  refine congrArg (fun z=>some (Fl.nx (z,((low + 1 : Nat) : Int)))) (QN fun i' _ j' _ x _=>?_)
  unfold Tj
  by_cases h : i' = i ∧ j' = j
  ·simp only [h,and_self,if_true]
   by_cases hx : x = 2 ^ p + low
   ·subst hx; simp
   ·by_cases hx2 : x < 2 ^ p + low
    ·rw [if_neg hx,if_pos hx2,if_pos (by omega)]
    ·rw [if_neg hx,if_neg hx2,if_neg (by omega)]
  ·simp only [h,if_false]) (by
  unfold XF
  simp only [h2,k1]
  simp)
 exact this
theorem Bz (i j : Nat) (hi : i < 4) (hj : j < 4) (g : Nat → Nat → Nat → UInt8) (s0 s1 : Tab × Int) (h0 : s0.2 = (i : Int)) (h1 : s1.2 = (j : Int)) :
  ZB (XD (m : Int) s0 s1 (a i j)) (tb (Tj m a i j 1 g),1) = some (tb (Tj m a i j 256 g)):=by
 have:=ZU (f:=XD (m : Int) s0 s1 (a i j)) (fun p : Nat=>(tb (Tj m a i j (2 ^ p) g),((2 ^ p : Nat) : Int))) 0 8 (by omega) (t:=tb (Tj m a i j 256 g)) (fun p _ hp=>by
  unfold XD
  have h7 : 2 ^ p ≤ 2 ^ 7:=Nat.pow_le_pow_right (by omega) (by omega)
  have hd : decide (((2 ^ p : Nat) : Int) < 256) = true:=by simp only [decide_eq_true_eq]; omega
  have hb : ZO ((2 ^ p : Nat) : Int) = UInt8.ofNat (2 ^ p):=by rw [Q2]
  have hw : wr (((2 ^ p : Nat) : Int) * 2) = ((2 ^ (p + 1) : Nat) : Int):=by
   rw [Nat.pow_succ]
   generalize 2 ^ p = q at h7 ⊢
   rw [WW (by omega)]; omega
  have h3:=BR m hm hm2 a i j p hi hj hp g s0 s1 (tb (Tj m a i j (2 ^ p) g),((2 ^ p : Nat) : Int)) h0 h1 rfl
  simp only [hd,if_true,hb,Vf m hm,Option.bind_some,h3,hw]) (by unfold XD; simp)
 exact this
theorem Ks (A : Mat) (hA : A = mf a) : XY (m : Int) A = some ⟨QA m a⟩:=by
 subst hA
 unfold XY
 let G : Nat → Nat → Nat → Nat → Nat → UInt8:=fun r c i j x=>if i < r ∨ (i = r ∧ j < c) then ZM m (a i j) (UInt8.ofNat x) else 0
 have hGt : ∀ r c i j x,(i < r ∨ (i = r ∧ j < c)) → G r c i j x = ZM m (a i j) (UInt8.ofNat x):=fun r c i j x h=>if_pos h
 have hGf : ∀ r c i j x,¬ (i < r ∨ (i = r ∧ j < c)) → G r c i j x = 0:=fun r c i j x h=>if_neg h
 have hGe : ∀ r c r' c' i j x,((i < r ∨ (i = r ∧ j < c)) ↔ (i < r' ∨ (i = r' ∧ j < c'))) → G r c i j x = G r' c' i j x:=fun r c r' c' i j x h=>by show (if _ then _ else _) = (if _ then _ else _); simp only [h]
 have z0 : ∀ i j,ZM m (a i j) (UInt8.ofNat 0) = 0:=fun i j=>by rw [UP hm2 hm]; exact TX hm2 hm _
 have col : ∀ r : Nat,r < 4 → ∀ s0 : Tab × Int,s0.2 = (r : Int) → ZB (XB (m : Int) s0 (vf 4 (a r))) (tb (G r 0),0) = some (tb (G (r + 1) 0)):=fun r hr s0 h0=>by
  have k1 : tb (G r 4) = tb (G (r + 1) 0):=QN fun i hi j hj x _=>by
   exact hGe _ _ _ _ _ _ _ (by omega)
  have:=ZU (f:=XB (m : Int) s0 (vf 4 (a r))) (fun c : Nat=>(tb (G r c),(c : Int))) 0 4 (by omega) (t:=tb (G (r + 1) 0)) (fun c _ hc=>by
   unfold XB
   have e1 : tb (G r c) = tb (Tj m a r c 1 (G r c)):=QN fun i _ j _ x _=>by
    unfold Tj
    by_cases h : i = r ∧ j = c
    ·obtain ⟨rfl,rfl⟩:=h
     simp only [and_self,if_true]
     rw [hGf _ _ _ _ _ (by omega)]
     by_cases hx : x < 1
     ·have : x = 0:=by omega
      subst this; rw [if_pos hx,z0]
     ·rw [if_neg hx]
    ·simp only [h,if_false]
   have e2 : tb (Tj m a r c 256 (G r c)) = tb (G r (c + 1)):=QN fun i _ j _ x hx=>by
    unfold Tj
    by_cases h : i = r ∧ j = c
    ·obtain ⟨rfl,rfl⟩:=h
     simp only [and_self,if_true,hx]
     rw [hGt _ _ _ _ _ (by omega)]
    ·simp only [h,if_false]
     exact hGe _ _ _ _ _ _ _ (by omega)
   have h3:=Bz m hm hm2 a r c hr hc (G r c) s0 (tb (G r c),(c : Int)) h0 rfl
   rw [← e1,e2] at h3
   simp only [lt4 hc,if_true,ZN _ hc,h3,Option.bind_some,wr4 (show c < 1000 by omega)]) (by
   unfold XB
   simp only [k1]
   simp)
  exact this
 have kz : tb (G 0 0) = Vector.replicate 4 (Vector.replicate 4 (Vector.replicate 256 (0 : UInt8))):=by
  rw [VU 256 (0 : UInt8),VU 4,VU 4]
  exact QN fun i _ j _ x _=>by
   exact hGf _ _ _ _ _ (by omega)
 have k4 : tb (G 4 0) = QA m a:=QN fun i hi j _ x _=>by
  exact hGt _ _ _ _ _ (by omega)
 have:=ZU (f:=XJ (m : Int) (mf a)) (fun r : Nat=>(tb (G r 0),(r : Int))) 0 4 (by omega) (t:=QA m a) (fun r _ hr=>by
  unfold XJ
  have h3:=col r hr (tb (G r 0),(r : Int)) rfl
  simp only [lt4 hr,if_true,Y7 _ hr,h3,Option.bind_some,wr4 (show r < 1000 by omega)]) (by
  unfold XJ
  simp only [k4]
  simp)
 have h2 : ZB (XJ (m : Int) (mf a)) (tb (G 0 0),0) = _:=this
 rw [← kz,h2]; rfl
end

def Vo (n : Nat) (p : Vector UInt8 n) : Nat → Vector UInt8 n
 | 0=>Vector.replicate n 0
 | i + 1=>(Vo n p i).setIfInBounds (p.toList.getD i 0).toNat (ZO (i : Int))
theorem K3 (p : Vector UInt8 256) : XK p = some (Vo 256 p 256):=by
 unfold XK
 have:=ZU (f:=YH p) (fun i : Nat=>(Vo 256 p i,(i : Int))) 0 256 (by omega) (t:=Vo 256 p 256) (fun i _ hi=>by
  unfold YH
  have hd : decide ((i : Int) < 256) = true:=by simp; omega
  simp only [hd,if_true,VI p hi,V2,Option.bind_some,Uh,YN (show i < 9223372036854775807 by omega)]
  rfl) (by unfold YH; simp)
 have h2 : ZB (YH p) (Vector.replicate 256 0,0) = _:=this
 rw [h2]; rfl
theorem JF (p : Vector UInt8 256) : XZ p = some (Vo 256 p 256):=by
 unfold XZ
 have:=ZU (f:=YW p) (fun i : Nat=>(Vo 256 p i,(i : Int))) 0 256 (by omega) (t:=Vo 256 p 256) (fun i _ hi=>by
  unfold YW
  have hd : decide ((i : Int) < 256) = true:=by simp; omega
  simp only [hd,if_true,VI p hi,V2,Option.bind_some,Uh,YN (show i < 9223372036854775807 by omega)]
  rfl) (by unfold YW; simp)
 have h2 : ZB (YW p) (Vector.replicate 256 0,0) = _:=this
 rw [h2]; rfl
theorem H1 (p : Blk) {i : Nat} (h : i < 16) : p.toList.getD i 0 = bf p i:=by
 have h1:=VI p h
 rw [V5 p h] at h1
 exact (Option.some.inj h1).symm
theorem Qw (p : Blk) (hp : XL p = true) : YQ p = some (Vo 16 p 16):=by
 unfold YQ
 have:=ZU (f:=Ym p) (fun i : Nat=>(Vo 16 p i,(i : Int))) 0 16 (by omega) (t:=Vo 16 p 16) (fun i _ hi=>by
  unfold Ym
  have hlt:=Tq hp hi
  have hv : Zs (Vo 16 p i) (bI (bf p i)) = some (bf (Vo 16 p i) (bf p i).toNat):=V5 _ hlt
  simp only [Qj hi,if_true,V5 p hi,hv,Option.bind_some,Uh,YN (show i < 9223372036854775807 by omega)]
  rw [← H1 p hi]
  rfl) (by unfold Ym; simp)
 have h2 : ZB (Ym p) (Vector.replicate 16 0,0) = _:=this
 rw [h2]; rfl

def Yn (c : GCipher) : Gengine:=⟨c.Box,Vo 256 c.Box 256,c.Places,Vo 16 c.Places 16,⟨QA c.Field.toNat (Th c.Mix)⟩,⟨QA c.Field.toNat (Th (KV c.Field.toNat c.Mix))⟩,c.Rounds⟩
theorem VK {c : GCipher} (h : Yk c = true) : XL c.Places = true:=by
 unfold Yk at h
 simp only [Bool.and_eq_true] at h
 exact h.1.1.2
theorem VN {c : GCipher} (h : Yk c = true) : 1 ≤ c.Rounds ∧ c.Rounds ≤ 20:=by
 unfold Yk at h
 simp only [Bool.and_eq_true,decide_eq_true_eq] at h
 exact h.1.2
theorem Hh (c : GCipher) (h : Yk c = true) : Wm c = some ⟨Yn c⟩:=by
 obtain ⟨m,hm,h1,h2⟩:=UT h
 have e : c.Field.toNat = m:=by omega
 unfold Wm Yn
 rw [e]
 simp only [hm,Hd m h2 h1,Option.bind_some,K3,Qw _ (VK h),Ks m h2 h1 (Th c.Mix) c.Mix (Tp _),Ks m h2 h1 (Th (KV m c.Mix)) (KV m c.Mix) (Tp _)]

def Ky (c : GCipher) (n r : Nat) (k f : Nat → UInt8) : Nat → UInt8 :=
 TM (if r < n then WF c.Field.toNat (Th c.Mix) (VD c.Places (TI c.Box f)) else VD c.Places (TI c.Box f)) k
def Qx (c : GCipher) (k f : Nat → UInt8) (n : Nat) : Nat → Nat → UInt8
 | 0=>TM f k
 | r + 1=>Ky c n (r + 1) (Kc c.Box k (r + 1)) (Qx c k f n r)
def JI (c : GCipher) (k f : Nat → UInt8) (n : Nat) : Nat → UInt8:=Qx c k f n n
theorem K7 (c : GCipher) (h : Yk c = true) (k f : Nat → UInt8) (n : Nat) (hn : n ≤ 1000) : Yv c (vf 16 k) (vf 16 f) (n : Int) = some (vf 16 (JI c k f n)):=by
 obtain ⟨m,hm,h1,h2⟩:=UT h
 have e : c.Field.toNat = m:=by omega
 have hp:=VK h
 unfold Yv
 have i0 : idx (Xm c.Box k n) (0 : Int) = some (vf 16 k):=VQ c.Box k (Nat.zero_le n)
 simp only [Jm c k n hn,Option.bind_some,i0,U6]
 have:=ZU (f:=YJ c (n : Int) (Xm c.Box k n)) (fun i : Nat=>(vf 16 (Qx c k f n (i - 1)),(i : Int))) 1 (n + 1) (by omega) (t:=vf 16 (JI c k f n)) (fun i hi1 hi=>by
  unfold YJ
  obtain ⟨r,rfl⟩ : ∃ q,i = q + 1:=⟨i - 1,by omega⟩
  have e1 : decide (((r + 1 : Nat) : Int) ≤ (n : Int)) = true:=by simp only [decide_eq_true_eq]; omega
  have YR:=Hf m h2 h1 (Th c.Mix) (VD c.Places (TI c.Box (Qx c k f n r)))
  rw [← Tp] at YR
  simp only [Nat.add_sub_cancel,e1,if_true,TR,Option.bind_some,H9 c.Places hp,hm,YR,VQ c.Box k (show r + 1 ≤ n by omega),YN (show r + 1 < 9223372036854775807 by omega)]
  by_cases hr : r + 1 < n
  ·have e2 : decide (((r + 1 : Nat) : Int) < (n : Int)) = true:=by simp only [decide_eq_true_eq]; omega
   simp only [e2,if_true,Option.bind_some,U6,Qx,Ky,hr,e]
  ·have e2 : decide (((r + 1 : Nat) : Int) < (n : Int)) = false:=by simp only [decide_eq_false_iff_not]; omega
   simp only [e2,Bool.false_eq_true,if_false,Option.bind_some,U6,Qx,Ky,hr]) (by
  unfold YJ
  have e1 : decide (((n + 1 : Nat) : Int) ≤ (n : Int)) = false:=by simp only [decide_eq_false_iff_not]; omega
  simp only [e1,Bool.false_eq_true,if_false,Nat.add_sub_cancel,JI])
 have h3 : ZB (YJ c (n : Int) (Xm c.Box k n)) (vf 16 (TM f k),1) = _:=this
 rw [h3]; rfl
theorem HN (e : Ref Gengine) (s : Blk × Int) (f : Nat → UInt8) (hs : s.1 = vf 16 f) : ZB (Z1 e s) (vf 16 f,0) = some (vf 16 (TI e.v.box f)):=by
 have:=Wg (Z1 e s) f (TI e.v.box f) (by omega) 0 (by omega) (fun j hj=>by omega) (fun i _ hi a _ ha=>by
  unfold Z1
  simp only [hs,Qj hi,if_true,ZN _ hi,Option.bind_some,Int.toNat_natCast,V2,TI]) (fun v=>by unfold Z1; simp)
 exact this
theorem KI (c : GCipher) (h : Yk c = true) (k f : Nat → UInt8) (n : Nat) (hn : n ≤ 1000) : Yg ⟨Yn c⟩ (Xm c.Box k n) (vf 16 f) = some (vf 16 (JI c k f n)):=by
 have hp:=VK h
 unfold Yg
 have i0 : idx (Xm c.Box k n) (0 : Int) = some (vf 16 k):=VQ c.Box k (Nat.zero_le n)
 simp only [Option.bind_some,i0,VP]
 have:=ZU (f:=Z0 ⟨Yn c⟩ (Xm c.Box k n)) (fun i : Nat=>(vf 16 (Qx c k f n (i - 1)),(i : Int))) 1 (n + 1) (by omega) (t:=vf 16 (JI c k f n)) (fun i hi1 hi=>by
  unfold Z0
  obtain ⟨r,rfl⟩ : ∃ q,i = q + 1:=⟨i - 1,by omega⟩
  have e1 : decide (((r + 1 : Nat) : Int) < ((Xm c.Box k n).length : Int)) = true:=by rw [Uz]; simp only [decide_eq_true_eq]; omega
  have e3 : wr (((Xm c.Box k n).length : Int) - 1) = (n : Int):=by rw [Uz,WW (by omega)]; omega
  have hb:=HN ⟨Yn c⟩ (vf 16 (Qx c k f n r),((r + 1 : Nat) : Int)) (Qx c k f n r) rfl
  have hmv:=v_move c.Places hp (TI c.Box (Qx c k f n r))
  have YR:=v_mix c.Field.toNat (Th c.Mix) (VD c.Places (TI c.Box (Qx c k f n r)))
  have hsl : ∀ g : Nat → UInt8,slc (vf 16 g).toList (0 : Int) (16 : Int) = some (vf 16 g).toList:=fun g=>by
   have:=KX (l:=(vf 16 g).toList) (i:=0) (j:=16) (by omega) (by simp)
   simp only [List.drop_zero] at this
   rw [List.take_of_length_le (by simp)] at this
   exact this
  have q1 : (Yn c).box = c.Box:=rfl
  have q2 : (Yn c).places = c.Places:=rfl
  have q3 : (Yn c).mixer = ⟨QA c.Field.toNat (Th c.Mix)⟩:=rfl
  simp only [q1] at hb
  simp only [Nat.add_sub_cancel,e1,if_true,hb,Option.bind_some,q2,q3,hmv,e3,hsl,YR,VQ c.Box k (show r + 1 ≤ n by omega),YN (show r + 1 < 9223372036854775807 by omega)]
  by_cases hr : r + 1 < n
  ·have e2 : decide (((r + 1 : Nat) : Int) < (n : Int)) = true:=by simp only [decide_eq_true_eq]; omega
   simp only [e2,if_true,Option.bind_some,VP,Qx,Ky,hr]
  ·have e2 : decide (((r + 1 : Nat) : Int) < (n : Int)) = false:=by simp only [decide_eq_false_iff_not]; omega
   simp only [e2,Bool.false_eq_true,if_false,Option.bind_some,VP,Qx,Ky,hr]) (by
  unfold Z0
  have e1 : decide (((n + 1 : Nat) : Int) < ((Xm c.Box k n).length : Int)) = false:=by rw [Uz]; simp only [decide_eq_false_iff_not]; omega
  simp only [e1,Bool.false_eq_true,if_false,Nat.add_sub_cancel,JI])
 have h3 : ZB (Z0 ⟨Yn c⟩ (Xm c.Box k n)) (vf 16 (TM f k),1) = _:=this
 rw [h3]; rfl
theorem BY (x : Vector UInt8 256) : VB x = some x:=by
 unfold VB
 rw [T7 x (VO x) (fun s=>by unfold VO; rfl) (by omega)]; rfl
theorem HI (x : Vector UInt8 16) : Wz x = some x:=by
 unfold Wz
 rw [T7 x (W7 x) (fun s=>by unfold W7; rfl) (by omega)]; rfl
theorem Hq (x : Vector UInt8 4) : Wx x = some x:=by
 unfold Wx
 rw [T7 x (W6 x) (fun s=>by unfold W6; rfl) (by omega)]; rfl
theorem HH (x : Mat) : Wy x = some x:=by
 unfold Wy
 obtain ⟨f,rfl⟩:=mf_of x
 have k0 : (mf fun r c=>if r < 0 then f r c else 0) = mf fun _ _=>0:=Xy fun r _ c _=>by rw [if_neg (by omega)]
 have k4 : (mf fun r c=>if r < 4 then f r c else 0) = mf f:=Xy fun r hr c _=>by rw [if_pos hr]
 have:=ZU (f:=XG (mf f)) (fun i : Nat=>(mf fun r c=>if r < i then f r c else 0,(i : Int))) 0 4 (by omega) (t:=mf f) (fun i _ hi=>by
  unfold XG
  simp only [lt4 hi,if_true,Y7 _ hi,Hq,Option.bind_some,Int.toNat_natCast,UR,wr4 (show i < 1000 by omega)]
  refine congrArg (fun z=>some (Fl.nx (z,((i + 1 : Nat) : Int)))) (Xy fun r _ c _=>?_)
  by_cases h : r = i
  ·subst h; simp
  ·by_cases h2 : r < i
   ·rw [if_neg h,if_pos h2,if_pos (by omega)]
   ·rw [if_neg h,if_neg h2,if_neg (by omega)]) (by
  unfold XG
  simp only [k4]
  simp)
 simp only [k0] at this
 have h2 : ZB (XG (mf f)) (mf fun _ _=>0,0) = _:=this
 rw [Kl,h2]; rfl
theorem HB (c : GCipher) : Xr c = some c:=by
 unfold Xr
 simp only [BY,HH,HI,Option.bind_some]
theorem T0 (c : GCipher) (h : Yk c = true) (k f : Nat → UInt8) : Yl ⟨Yn c⟩ (vf 16 k) (vf 16 f) = some (vf 16 (JI c k f c.Rounds.toNat)):=by
 have hr:=VN h
 obtain ⟨n,hn⟩ : ∃ n : Nat,c.Rounds = n:=⟨c.Rounds.toNat,by omega⟩
 have e1 : (Yn c).rounds = (n : Int):=hn
 have e2 : (Yn c).box = c.Box:=rfl
 have hk:=Bw ⟨Yn c⟩ k n (by omega)
 rw [e2] at hk
 unfold Yl
 simp only [e1,hk,Option.bind_some,KI c h k f n (by omega),hn,Int.toNat_natCast]
theorem T8 (c : GCipher) (h : Yk c = true) (k f : Nat → UInt8) : Yv c (vf 16 k) (vf 16 f) c.Rounds = some (vf 16 (JI c k f c.Rounds.toNat)):=by
 have hr:=VN h
 obtain ⟨n,hn⟩ : ∃ n : Nat,c.Rounds = n:=⟨c.Rounds.toNat,by omega⟩
 rw [hn]
 exact K7 c h k f n (by omega)
def VV (g : Int) : Nat → UInt8:=fun i=>if i = 0 then ZO g else 0
theorem Qf (g : Int) : (Vector.replicate 16 (0 : UInt8)).setIfInBounds 0 (ZO g) = vf 16 (VV g):=by rw [VU,Vi]; rfl
def tab (n : Nat) (f : Nat → UInt8) : List UInt8:=(List.range n).map f
@[simp] theorem tab_len (n : Nat) (f : Nat → UInt8) : (tab n f).length = n:=by simp [tab]
theorem Kk (p : Blk) : ∀ k,k ≤ 16 → ∀ i,i < 16 → (bf (Vo 16 p k) i).toNat < 16
 | 0,_,i,hi=>by
  have : bf (Vo 16 p 0) i = 0:=by
   unfold bf Vo
   rw [Vector.getElem?_replicate,if_pos hi]; rfl
  rw [this]; decide
 | k + 1,hk,i,hi=>by
  have ih:=Kk p k (by omega) i hi
  have hb : (ZO (k : Int)).toNat < 16:=by
   rw [Q2]
   simp only [UInt8.toNat_ofNat']
   omega
  unfold bf at ih ⊢
  rw [Vo,Vector.getElem?_setIfInBounds]
  split
  ·rw [if_pos (by omega)]; exact hb
  ·exact ih
theorem Ht (p : Blk) (hp : ∀ i,i < 16 → (bf p i).toNat < 16) (f : Nat → UInt8) : Xc p (vf 16 f) = some (vf 16 (VD p f)):=by
 unfold Xc
 have:=Wg (Yh p (vf 16 f)) (fun _=>0) (VD p f) (by omega) 0 (by omega) (fun j hj=>by omega) (fun i _ hi a _ ha=>by
  unfold Yh
  simp only [Qj hi,if_true,ZN _ hi,V5 _ hi,Option.bind_some,Int.toNat_natCast,T9 f (hp i hi),VD]) (fun v=>by unfold Yh; simp)
 have h2 : ZB (Yh p (vf 16 f)) (vf 16 (fun _=>0),0) = _:=this
 rw [VU 16 (0 : UInt8),h2]; rfl
theorem HP (p : Blk) (hp : ∀ i,i < 16 → (bf p i).toNat < 16) (f : Nat → UInt8) : Yf p (vf 16 f) = some (vf 16 (VD p f)):=by
 unfold Yf
 have:=Wg (ZZ p (vf 16 f)) (fun _=>0) (VD p f) (by omega) 0 (by omega) (fun j hj=>by omega) (fun i _ hi a _ ha=>by
  unfold ZZ
  simp only [Qj hi,if_true,ZN _ hi,V5 _ hi,Option.bind_some,Int.toNat_natCast,T9 f (hp i hi),VD]) (fun v=>by unfold ZZ; simp)
 have h2 : ZB (ZZ p (vf 16 f)) (vf 16 (fun _=>0),0) = _:=this
 rw [VU 16 (0 : UInt8),h2]; rfl
theorem Bc (p : Blk) (hp : XL p = true) : WK p = some (Vo 16 p 16):=by
 unfold WK
 have:=ZU (f:=XX p) (fun i : Nat=>(Vo 16 p i,(i : Int))) 0 16 (by omega) (t:=Vo 16 p 16) (fun i _ hi=>by
  unfold XX
  have hlt:=Tq hp hi
  have hv : Zs (Vo 16 p i) (bI (bf p i)) = some (bf (Vo 16 p i) (bf p i).toNat):=V5 _ hlt
  simp only [Qj hi,if_true,V5 p hi,hv,Option.bind_some,Uh,YN (show i < 9223372036854775807 by omega)]
  rw [← H1 p hi]
  rfl) (by unfold XX; simp)
 have h2 : ZB (XX p) (Vector.replicate 16 0,0) = _:=this
 rw [h2]; rfl
theorem Jg (p : Blk) (hp : XL p = true) (f : Nat → UInt8) : WP p (vf 16 f) = some (vf 16 (VD (Vo 16 p 16) f)):=by
 unfold WP
 simp only [Bc p hp,Option.bind_some,Ht _ (Kk p 16 (Nat.le_refl _))]
def U9 (c : GCipher) (n r : Nat) (k f : Nat → UInt8) : Nat → UInt8 :=
 TI (Vo 256 c.Box 256) (VD (Vo 16 c.Places 16) (if r < n then WF c.Field.toNat (Th (KV c.Field.toNat c.Mix)) (TM f k) else TM f k))
def Ki (c : GCipher) (k f : Nat → UInt8) (n : Nat) : Nat → Nat → UInt8
 | 0=>f
 | i + 1=>U9 c n (n - i) (Kc c.Box k (n - i)) (Ki c k f n i)
def decC (c : GCipher) (k f : Nat → UInt8) (n : Nat) : Nat → UInt8:=TM (Ki c k f n n) k
theorem K5 (c : GCipher) (h : Yk c = true) (k f : Nat → UInt8) (n : Nat) (hn : n ≤ 1000) : Y2 c (vf 16 k) (vf 16 f) (n : Int) = some (vf 16 (decC c k f n)):=by
 obtain ⟨m,hm,h1,h2⟩:=UT h
 have e : c.Field.toNat = m:=by omega
 have hp:=VK h
 unfold Y2
 have i0 : idx (Xm c.Box k n) (0 : Int) = some (vf 16 k):=VQ c.Box k (Nat.zero_le n)
 simp only [Jm c k n hn,Option.bind_some,i0,JF,hm,Qa m h2 h1]
 have:=ZU (f:=YI c (n : Int) (Xm c.Box k n) (Vo 256 c.Box 256) (KV m c.Mix,Hs m c.Mix != 0)) (fun i : Nat=>(vf 16 (Ki c k f n i),((n - i : Nat) : Int))) 0 n (by omega) (t:=vf 16 (Ki c k f n n)) (fun i _ hi=>by
  unfold YI
  have e1 : decide (((n - i : Nat) : Int) ≥ 1) = true:=by simp only [decide_eq_true_eq]; omega
  have YR:=Hf m h2 h1 (Th (KV m c.Mix)) (TM (Ki c k f n i) (Kc c.Box k (n - i)))
  rw [← Tp] at YR
  have e3 : wr (((n - i : Nat) : Int) - 1) = ((n - (i + 1) : Nat) : Int):=by rw [WW (by omega)]; omega
  simp only [e1,if_true,VQ c.Box k (show n - i ≤ n by omega),U6,Option.bind_some,hm,YR,e3]
  by_cases hr : n - i < n
  ·have e2 : decide (((n - i : Nat) : Int) < (n : Int)) = true:=by simp only [decide_eq_true_eq]; omega
   simp only [e2,if_true,Option.bind_some,Jg c.Places hp,TR,Ki,U9,hr,e]
  ·have e2 : decide (((n - i : Nat) : Int) < (n : Int)) = false:=by simp only [decide_eq_false_iff_not]; omega
   simp only [e2,Bool.false_eq_true,if_false,Option.bind_some,Jg c.Places hp,TR,Ki,U9,hr]) (by
  unfold YI
  have e1 : decide (((n - n : Nat) : Int) ≥ 1) = false:=by simp only [decide_eq_false_iff_not]; omega
  simp only [e1,Bool.false_eq_true,if_false])
 have h3 : ZB (YI c (n : Int) (Xm c.Box k n) (Vo 256 c.Box 256) (KV m c.Mix,Hs m c.Mix != 0)) (vf 16 f,(n : Int)) = _:=this
 rw [h3]
 simp only [Option.bind_some,U6,decC]
theorem KD (e : Ref Gengine) (f : Nat → UInt8) : ZB (Z2 e (vf 16 f)) (vf 16 f,0) = some (vf 16 (TI e.v.backBox f)):=by
 have:=Wg (Z2 e (vf 16 f)) f (TI e.v.backBox f) (by omega) 0 (by omega) (fun j hj=>by omega) (fun i _ hi a _ ha=>by
  unfold Z2
  simp only [Qj hi,if_true,ZN _ hi,Option.bind_some,Int.toNat_natCast,V2,TI]) (fun v=>by unfold Z2; simp)
 exact this
theorem KK (c : GCipher) (k f : Nat → UInt8) (n : Nat) (hn : n ≤ 1000) : Z6 ⟨Yn c⟩ (Xm c.Box k n) (vf 16 f) = some (vf 16 (decC c k f n)):=by
 unfold Z6
 have i0 : idx (Xm c.Box k n) (0 : Int) = some (vf 16 k):=VQ c.Box k (Nat.zero_le n)
 have e3 : wr (((Xm c.Box k n).length : Int) - 1) = (n : Int):=by rw [Uz,WW (by omega)]; omega
 simp only [Option.bind_some,i0,e3]
 have:=ZU (f:=Z3 ⟨Yn c⟩ (Xm c.Box k n)) (fun i : Nat=>(vf 16 (Ki c k f n i),((n - i : Nat) : Int))) 0 n (by omega) (t:=vf 16 (Ki c k f n n)) (fun i _ hi=>by
  unfold Z3
  have e1 : decide (((n - i : Nat) : Int) > 0) = true:=by simp only [decide_eq_true_eq]; omega
  have YR:=v_mix c.Field.toNat (Th (KV c.Field.toNat c.Mix)) (TM (Ki c k f n i) (Kc c.Box k (n - i)))
  have e4 : wr (((n - i : Nat) : Int) - 1) = ((n - (i + 1) : Nat) : Int):=by rw [WW (by omega)]; omega
  have hsl : ∀ g : Nat → UInt8,slc (vf 16 g).toList (0 : Int) (16 : Int) = some (vf 16 g).toList:=fun g=>by
   have:=KX (l:=(vf 16 g).toList) (i:=0) (j:=16) (by omega) (by simp)
   simp only [List.drop_zero] at this
   rw [List.take_of_length_le (by simp)] at this
   exact this
  have q1 : (Yn c).backBox = Vo 256 c.Box 256:=rfl
  have q2 : (Yn c).backPlaces = Vo 16 c.Places 16:=rfl
  have q3 : (Yn c).backMixer = ⟨QA c.Field.toNat (Th (KV c.Field.toNat c.Mix))⟩:=rfl
  simp only [e1,if_true,VQ c.Box k (show n - i ≤ n by omega),VP,Option.bind_some,e3,e4,q2,q3,hsl,YR]
  by_cases hr : n - i < n
  ·have e2 : decide (((n - i : Nat) : Int) < (n : Int)) = true:=by simp only [decide_eq_true_eq]; omega
   simp only [e2,if_true,Option.bind_some,HP _ (Kk c.Places 16 (Nat.le_refl _)),KD,q1,Ki,U9,hr]
  ·have e2 : decide (((n - i : Nat) : Int) < (n : Int)) = false:=by simp only [decide_eq_false_iff_not]; omega
   simp only [e2,Bool.false_eq_true,if_false,Option.bind_some,HP _ (Kk c.Places 16 (Nat.le_refl _)),KD,q1,Ki,U9,hr]) (by
  unfold Z3
  have e1 : decide (((n - n : Nat) : Int) > 0) = false:=by simp only [decide_eq_false_iff_not]; omega
  simp only [e1,Bool.false_eq_true,if_false])
 have h3 : ZB (Z3 ⟨Yn c⟩ (Xm c.Box k n)) (vf 16 f,(n : Int)) = _:=this
 rw [h3]
 simp only [Option.bind_some,VP,decC]

theorem Kt {κ α : Type} [DecidableEq κ] (k k' : κ) (x : α) : ∀ m : List (κ × α),VG (Tw m k x) k' = if k = k' then some x else VG m k'
 | []=>by simp [Tw,VG]
 | p :: m=>by
  by_cases h : p.1 = k
  ·by_cases h2 : k = k'
   ·simp [Tw,VG,h,h2]
   ·have : ¬ p.1 = k':=fun e=>h2 (h.symm.trans e)
    simp [Tw,VG,h,h2]
  ·have ih:=Kt k k' x m
   by_cases h2 : p.1 = k'
   ·have h3 : ¬ k = k':=fun e=>h (h2.trans e.symm)
    rw [Tw,if_neg h,VG,if_pos h2,if_neg h3,VG,if_pos h2]
   ·simp only [Tw,VG,h,h2,if_false,ih]
def pick {α : Type} (P : Nat → Bool) (F : Nat → α) (i : Nat) : List α:=((List.range i).filter P).map F
theorem QI {α : Type} (P : Nat → Bool) (F : Nat → α) (i : Nat) : pick P F (i + 1) = pick P F i ++ (if P i then [F i] else []):=by
 unfold pick
 rw [List.range_succ,List.filter_append,List.map_append]
 cases h : P i <;> simp [h]
theorem U7 {α : Type} (P : Nat → Bool) (F : Nat → α) : ∀ i,(pick P F i).length ≤ i
 | 0=>by simp [pick]
 | i + 1=>by
  rw [QI,List.length_append]
  have:=U7 P F i
  cases P i <;> simp <;> omega
theorem BK {α β : Type} (P : Nat → Bool) (F : Nat → α) (g : α → β) (i : Nat) : (pick P F i).map g = pick P (fun x=>g (F x)) i:=by
 unfold pick; rw [List.map_map]; rfl
def Jj (E D : Nat → Blk) (g : Nat) : List GMeeting:=pick (fun h=>decide (D h = E g)) (fun h=>(⟨(g : Int),(h : Int)⟩ : GMeeting)) 256
def Vk (E D : Nat → Blk) : Nat → List GMeeting
 | 0=>[]
 | g + 1=>Vk E D g ++ Jj E D g
theorem Tr (E D : Nat → Blk) : ∀ g,(Vk E D g).length ≤ 256 * g
 | 0=>by simp [Vk]
 | g + 1=>by
  have h1:=Tr E D g
  have h2 : (Jj E D g).length ≤ 256:=U7 _ _ 256
  rw [Vk,List.length_append]; omega
def TA (c : GCipher) (a : Blk) (g : Nat) : Blk:=vf 16 (JI c (VV (g : Int)) (bf a) c.Rounds.toNat)
def Vn (c : GCipher) (b : Blk) (h : Nat) : Blk:=vf 16 (decC c (VV (h : Int)) (bf b) c.Rounds.toNat)
def WC (c : GCipher) (a b : Blk) : List GMeeting × Int:=if Yk c then (Vk (TA c a) (Vn c b) 256,0) else ([],1)
theorem Ba (D E : Nat → Blk) (g : Nat) (acc : List GMeeting) (ha : acc.length ≤ 65536) (s : Int × List GMeeting) (hs : s.1 = (g : Int)) :
  ZB (YZ ((List.range 256).map D) s (E g)) (0,acc) = some (acc ++ Jj E D g):=by
 have:=ZU (f:=YZ ((List.range 256).map D) s (E g)) (fun i : Nat=>((i : Int),acc ++ pick (fun h=>decide (D h = E g)) (fun h=>(⟨(g : Int),(h : Int)⟩ : GMeeting)) i)) 0 256 (by omega) (t:=acc ++ Jj E D g) (fun i _ hi=>by
  unfold YZ
  have e1 : decide ((i : Int) < 256) = true:=by simp only [decide_eq_true_eq]; omega
  have e2 : ((List.range 256).map D)[i]? = some (D i):=by rw [List.getElem?_map,List.getElem?_range hi]; rfl
  have hl:=U7 (fun h=>decide (D h = E g)) (fun h=>(⟨(g : Int),(h : Int)⟩ : GMeeting)) i
  have e3 : app 16 (acc ++ pick (fun h=>decide (D h = E g)) (fun h=>(⟨(g : Int),(h : Int)⟩ : GMeeting)) i) [(⟨(g : Int),(i : Int)⟩ : GMeeting)] = _:=QP (by simp only [List.length_append,List.length_singleton]; omega)
  simp only [e1,if_true,VS,e2,Option.bind_some,hs,YN (show i < 9223372036854775807 by omega),QI]
  cases h : decide (D i = E g)
  ·simp
  ·simp only [if_true,e3,Option.bind_some,List.append_assoc]) (by unfold YZ; simp [Jj])
 simpa [pick] using this
theorem Qh (c : GCipher) (a b : Blk) : X1 c a b = some (WC c a b):=by
 unfold X1 WC
 rw [B7]
 cases hc : Yk c
 ·rfl
 ·have hr:=VN hc
  obtain ⟨n,hn⟩ : ∃ n : Nat,c.Rounds = n:=⟨c.Rounds.toNat,by omega⟩
  have l0:=ZU (f:=Y5 c b) (fun i : Nat=>((i : Int),(List.range i).map (Vn c b))) 0 256 (by omega) (t:=(List.range 256).map (Vn c b)) (fun i _ hi=>by
   unfold Y5
   have e1 : decide ((i : Int) < 256) = true:=by simp only [decide_eq_true_eq]; omega
   have e2:=K5 c hc (VV (i : Int)) (bf b) n (by omega)
   rw [← H6,← hn] at e2
   have e4 : n = c.Rounds.toNat:=by omega
   rw [e4] at e2
   have e2 : Y2 c (vf 16 (VV (i : Int))) b c.Rounds = some (Vn c b i):=e2
   have e3 : app 16 ((List.range i).map (Vn c b)) [Vn c b i] = _:=QP (by simp only [List.length_map,List.length_range,List.length_singleton]; omega)
   simp only [e1,if_true,Qf,e2,Option.bind_some,e3,YN (show i < 9223372036854775807 by omega),List.range_succ,List.map_append,List.map_cons,List.map_nil]) (by unfold Y5; simp)
  have l0' : ZB (Y5 c b) (0,[]) = _:=l0
  have l1:=ZU (f:=YY c a ((List.range 256).map (Vn c b))) (fun i : Nat=>((i : Int),Vk (TA c a) (Vn c b) i)) 0 256 (by omega) (t:=Vk (TA c a) (Vn c b) 256) (fun i _ hi=>by
   unfold YY
   have e1 : decide ((i : Int) < 256) = true:=by simp only [decide_eq_true_eq]; omega
   have e2:=T8 c hc (VV (i : Int)) (bf a)
   rw [← H6] at e2
   have e2 : Yv c (vf 16 (VV (i : Int))) a c.Rounds = some (TA c a i):=e2
   have hl:=Tr (TA c a) (Vn c b) i
   have e3:=Ba (Vn c b) (TA c a) i (Vk (TA c a) (Vn c b) i) (by omega) ((i : Int),Vk (TA c a) (Vn c b) i) rfl
   simp only [e1,if_true,Qf,e2,Option.bind_some,e3,YN (show i < 9223372036854775807 by omega),Vk]) (by unfold YY; simp)
  have l1' : ZB (YY c a ((List.range 256).map (Vn c b))) (0,[]) = _:=l1
  simp only [Option.bind_some,Bool.not_true,Bool.false_eq_true,if_false,l0',l1',if_true]
def mapM (D : Nat → Blk) : Nat → List (Blk × List Int)
 | 0=>[]
 | h + 1=>Tw (mapM D h) (D h) (((VG (mapM D h) (D h)).getD []) ++ [(h : Int)])
theorem T2 (D : Nat → Blk) (b : Blk) : ∀ h,(VG (mapM D h) b).getD [] = pick (fun x=>decide (D x = b)) (fun x=>(x : Int)) h
 | 0=>rfl
 | h + 1=>by
  rw [mapM,Kt,QI]
  by_cases e : D h = b
  ·rw [if_pos e,e,Option.getD_some,T2 D b h]; simp
  ·rw [if_neg e,T2 D b h]; simp [e]
theorem Bq (l : List Int) (g : Int) (acc : List GMeeting) (hl : acc.length + l.length ≤ 140737488355) (s : List GMeeting × Int) (hs : s.2 = g) :
  ZB (YV s (l,(l.length : Int),0)) (acc,0) = some (acc ++ l.map fun h=>(⟨g,h⟩ : GMeeting)):=by
 have:=ZU (f:=YV s (l,(l.length : Int),0)) (fun i : Nat=>(acc ++ (l.take i).map (fun h=>(⟨g,h⟩ : GMeeting)),(i : Int))) 0 l.length (by omega) (t:=acc ++ l.map fun h=>(⟨g,h⟩ : GMeeting)) (fun i _ hi=>by
  unfold YV
  have e3 : app 16 (acc ++ (l.take i).map (fun h=>(⟨g,h⟩ : GMeeting))) [(⟨g,l[i]⟩ : GMeeting)] = _:=QP (by simp only [List.length_append,List.length_map,List.length_take,List.length_singleton]; omega)
  have e4 : l.take (i + 1) = l.take i ++ [l[i]]:=List.take_succ_eq_append_getElem hi
  simp only [Int.ofNat_lt,hi,decide_true,if_true,VS,List.getElem?_eq_getElem hi,Option.bind_some,hs,e3,YN (show i < 9223372036854775807 by omega),e4,List.map_append,List.map_cons,List.map_nil,List.append_assoc]) (by unfold YV; simp)
 simpa using this
theorem Qe (c : GCipher) (a b : Blk) : Xl c a b = some (WC c a b):=by
 unfold Xl WC
 rw [HE]
 cases hc : Yk c
 ·rfl
 ·have hr:=VN hc
  obtain ⟨n,hn⟩ : ∃ n : Nat,c.Rounds = n:=⟨c.Rounds.toNat,by omega⟩
  have e4 : n = c.Rounds.toNat:=by omega
  have q2 : (Yn c).box = c.Box:=rfl
  have l0:=ZU (f:=Y0 c b ⟨Yn c⟩) (fun i : Nat=>(mapM (Vn c b) i,(i : Int))) 0 256 (by omega) (t:=mapM (Vn c b) 256) (fun i _ hi=>by
   unfold Y0 XP
   have e1 : decide ((i : Int) < 256) = true:=by simp only [decide_eq_true_eq]; omega
   have e0:=Bw ⟨Yn c⟩ (VV (i : Int)) n (by omega)
   rw [← hn] at e0
   have e2:=KK c (VV (i : Int)) (bf b) n (by omega)
   rw [← H6,e4] at e2
   have e2 : Z6 ⟨Yn c⟩ (Xm c.Box (VV (i : Int)) c.Rounds.toNat) b = some (Vn c b i):=e2
   rw [e4] at e0
   simp only [q2] at e0
   have hl:=U7 (fun x=>decide (Vn c b x = Vn c b i)) (fun x=>(x : Int)) i
   have e3 : app 8 ((VG (mapM (Vn c b) i) (Vn c b i)).getD []) [(i : Int)] = _:=QP (by rw [T2,List.length_singleton]; omega)
   simp only [e1,if_true,Qf,Option.bind_some,e0,e2,e3,YN (show i < 9223372036854775807 by omega),mapM]) (by unfold Y0; simp)
  have l0' : ZB (Y0 c b ⟨Yn c⟩) ([],0) = _:=l0
  have l1:=ZU (f:=YX a ⟨Yn c⟩ (mapM (Vn c b) 256)) (fun i : Nat=>(Vk (TA c a) (Vn c b) i,(i : Int))) 0 256 (by omega) (t:=Vk (TA c a) (Vn c b) 256) (fun i _ hi=>by
   unfold YX XP
   have e1 : decide ((i : Int) < 256) = true:=by simp only [decide_eq_true_eq]; omega
   have e2:=T0 c hc (VV (i : Int)) (bf a)
   rw [← H6] at e2
   have e2 : Yl ⟨Yn c⟩ (vf 16 (VV (i : Int))) a = some (TA c a i):=e2
   have hl:=Tr (TA c a) (Vn c b) i
   have hp:=U7 (fun x=>decide (Vn c b x = TA c a i)) (fun x=>(x : Int)) 256
   have e3:=Bq (pick (fun x=>decide (Vn c b x = TA c a i)) (fun x=>(x : Int)) 256) (i : Int) (Vk (TA c a) (Vn c b) i) (by omega) (Vk (TA c a) (Vn c b) i,(i : Int)) rfl
   rw [BK] at e3
   simp only [e1,if_true,Qf,e2,Option.bind_some,T2,e3,YN (show i < 9223372036854775807 by omega),Vk,Jj]) (by unfold YX; simp)
  have l1' : ZB (YX a ⟨Yn c⟩ (mapM (Vn c b) 256)) ([],0) = _:=l1
  simp only [Option.bind_some,Bool.not_true,Bool.false_eq_true,if_false,Hh c hc,l0',l1',if_true]
theorem JL (l : List GMeeting) (h : l.length ≤ 9223372036854775807) : Xq l l = some true:=by
 unfold Xq
 exact Ad l (fun x y=>(Wh x y).bind fun r=>some (!r)) (Wu l l) (fun s=>by unfold Wu; rfl) (fun x _=>by simp [Wh]) h
theorem KP (l : List GMeeting) (h : l.length ≤ 9223372036854775807) : BG Xv YF l (l.map fun _=>2).sum :=
 Bg Xv YF (Xa) (Xb) (fun _=>2) (fun _ _=>rfl) (fun _ _=>rfl) l h (fun l' i k hi _ _ h0 hk=>by
  have e1:=wr_k (k:=k) h0 (by omega)
  have e2:=wr_k (k:=k + 1) (by omega) (by omega)
  refine ⟨⟨k,k + 1⟩,?_,fun m hm=>?_⟩
  ·unfold Xa
   simp only [Int.ofNat_lt,hi,decide_true,if_true,VS,List.getElem?_eq_getElem hi,Option.bind_some,Int.toNat_natCast,List.getElem?_set_self hi,List.set_set,e1,e2]
   rw [show k + 1 + 1 = k + ((2 : Nat) : Int) by omega]
  ·have hi':=(List.getElem?_eq_some_iff.1 hm).1
   unfold Xb
   simp only [Int.ofNat_lt,hi',decide_true,if_true,VS,hm,Option.bind_some,bne_self_eq_false,Bool.false_eq_true,if_false,e1,e2]
   rw [show k + 1 + 1 = k + ((2 : Nat) : Int) by omega]) (fun l' k=>by unfold Xa; simp) (fun m k=>by unfold Xb; simp)
theorem B5 (l : List GMeeting) : (l.map fun _=>2).sum = 2 * l.length:=by
 induction l with
 | nil=>rfl
 | cons x l ih=>simp only [List.map_cons,List.sum_cons,ih,List.length_cons]; omega
theorem K2 (c : GCipher) (a b : Blk) : (WC c a b).1.length ≤ 65536:=by
 unfold WC
 split
 ·exact Tr _ _ 256
 ·simp
theorem U1 (c : GCipher) (a b : Blk) (_ : Dat.bd c) (_ : Dat.bd a) (_ : Dat.bd b) : Y6 c a b = some true:=by
 have hl:=K2 c a b
 have hs:=B5 (WC c a b).1
 obtain ⟨r',m4,m5⟩:=KP (WC c a b).1 (by omega) 1 (by omega) (by omega)
 have e2 : ¬ ((1 : Int) + (((WC c a b).1.map fun _=>2).sum : Nat) < 0):=by omega
 unfold Y6
 simp only [HB,Bp,Qh,Qe,JL _ (show (WC c a b).1.length ≤ 9223372036854775807 by omega),m4,m5,e2,Option.bind_some,Bool.not_true,Bool.false_eq_true,if_false,bne_self_eq_false,decide_false]
end Go.Proofs.Ytpjogonponkbmaa
