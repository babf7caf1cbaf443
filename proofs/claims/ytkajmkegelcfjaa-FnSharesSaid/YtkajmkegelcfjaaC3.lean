/- Plain laws, no program in sight. -/
import Derived.Test.YtkajmkegelcfjaaC2
set_option linter.unusedVariables false
set_option linter.unusedSimpArgs false
set_option maxRecDepth 20000
set_option maxHeartbeats 400000
namespace Go.Proofs.Ytkajmkegelcfjaa
open Go
open Flat (enc)
theorem Xs {i : Nat} (h : i < 9223372036854775807) : wr ((i : Int) + 1) = ((i + 1 : Nat) : Int):=by
 rw [Wp (by omega)]; rfl

section
variable {S T : Type} {f : S → Option (Fl S T)}
theorem zN (g : Nat → S) (m n : Nat) (hmn : m ≤ n) (h : ∀ i, m ≤ i → i < n → f (g i) = some (.nx (g (i + 1)))) : ZJ f (g m) = ZJ f (g n) := by
  induction n with
  | zero => have : m = 0 := by omega
            subst this; rfl
  | succ n ih =>
    rcases Nat.lt_or_ge m (n + 1) with h1 | h1
    · rw [ih (by omega) (fun i h2 h3 => h i h2 (by omega)), Vk (h n (by omega) (by omega))]
    · have : m = n + 1 := by omega
      subst this; rfl
theorem Xo (g : Nat → S) (m n : Nat) (hmn : m ≤ n) {t : T} (h : ∀ i,m ≤ i → i < n → f (g i) = some (.nx (g (i + 1)))) (he : f (g n) = some (.ex t)) : ZJ f (g m) = some t:=by
 rw [zN g m n hmn h,X0 he]
theorem KB (g : Nat → S) (p : Nat → Bool) (t : Nat → T) {e : T} (n : Nat) : ∀ (k m : Nat),m + k = n → (∀ i,m ≤ i → i < n → f (g i) = some (if p i then .ex (t i) else .nx (g (i + 1)))) → f (g n) = some (.ex e) →
  ZJ f (g m) = some (((List.range' m k).find? p).elim e t)
 | 0,m,hk,_,he=>by
  have : m = n:=by omega
  subst this
  rw [X0 he]; rfl
 | k + 1,m,hk,h,he=>by
  have h1:=h m (Nat.le_refl _) (by omega)
  rw [List.range'_succ,List.find?_cons]
  cases hp : p m with
  | true=>rw [hp] at h1; rw [X0 h1]; rfl
  | false =>
   rw [hp] at h1
   rw [Vk h1,KB g p t n k (m + 1) (by omega) (fun i h2 h3=>h i (by omega) h3) he]
end

theorem QX {T : Type} {f : Int → Option (Fl Int (Fl Unit T))} (p : Nat → Bool) {t : T} {n m : Nat} (hm : m ≤ n)
  (h : ∀ i,m ≤ i → i < n → f (i : Int) = some (if p i then .ex (.ex t) else .nx ((i + 1 : Nat) : Int))) (he : f (n : Int) = some (.ex (.nx ()))) :
  ZJ f (m : Int) = some (if (List.range' m (n - m)).any p then .ex t else .nx ()):=by
 rw [KB (fun i : Nat=>(i : Int)) p (fun _=>.ex t) n (n - m) m (by omega) h he]
 cases hf : (List.range' m (n - m)).find? p with
 | none =>
  have : (List.range' m (n - m)).any p = false:=by
   rw [List.any_eq_false]
   rw [List.find?_eq_none] at hf
   exact hf
  rw [this]; rfl
 | some i =>
  have : (List.range' m (n - m)).any p = true:=by
   rw [List.any_eq_true]
   exact ⟨i,List.mem_of_find?_eq_some hf,List.find?_some hf⟩
  rw [this]; rfl
theorem VT {p : Nat → Bool} {m n : Nat} : (List.range' m (n - m)).any p = true ↔ ∃ i,m ≤ i ∧ i < n ∧ p i = true:=by
 rw [List.any_eq_true]
 simp only [List.mem_range'_1]
 constructor
 ·rintro ⟨i,⟨h1,h2⟩,h3⟩; exact ⟨i,h1,by omega,h3⟩
 ·rintro ⟨i,h1,h2,h3⟩; exact ⟨i,⟨h1,by omega⟩,h3⟩
theorem zE {α : Type} {q : α → Bool} {l : List α} {p : Nat → Bool} (hp : ∀ i (h : i < l.length),p i = q l[i]) : (List.range' 0 (l.length - 0)).any p = l.any q:=by
 rw [Bool.eq_iff_iff,VT,List.any_eq_true]
 constructor
 ·rintro ⟨i,_,h,h3⟩; exact ⟨l[i],List.getElem_mem h,by rw [← hp i h]; exact h3⟩
 ·rintro ⟨x,hx,h⟩
  obtain ⟨i,hi,rfl⟩:=List.mem_iff_getElem.1 hx
  exact ⟨i,Nat.zero_le _,hi,by rw [hp i hi]; exact h⟩

theorem Td {T α : Type} {f : Int → Option (Fl Int (Fl Unit T))} (l : List α) (q : α → Bool) {t : T} (hl : l.length < 9223372036854775807)
  (h : ∀ i (hi : i < l.length),f (i : Int) = some (if q l[i] then .ex (.ex t) else .nx (wr ((i : Int) + 1)))) (he : f (l.length : Int) = some (.ex (.nx ()))) :
  ZJ f 0 = some (if l.any q then .ex t else .nx ()):=by
 have:=QX (f:=f) (fun i=>if hi : i < l.length then q l[i] else false) (t:=t) (n:=l.length) (m:=0) (Nat.zero_le _) (fun i _ hi=>by
  rw [h i hi,Xs (by omega)]; simp [hi]) he
 rw [zE (q:=q) (fun i hi=>by simp [hi])] at this
 exact this

class Wt (α : Type) [Dat α] where
 wt : α → Nat
 ln : α → Prop
 bdln : ∀ x,Dat.bd x → ln x
 wtln : ∀ x,wt x ≤ 1048576 → ln x
instance : Wt Int:=⟨fun _=>0,fun _=>True,fun _ _=>trivial,fun _ _=>trivial⟩
instance : Wt UInt8:=⟨fun _=>0,fun _=>True,fun _ _=>trivial,fun _ _=>trivial⟩
instance : Wt Bool:=⟨fun _=>0,fun _=>True,fun _ _=>trivial,fun _ _=>trivial⟩
instance : Wt Str:=⟨fun s=>s.l.length,fun s=>s.l.length ≤ 9223372036854775807,fun _ h=>h,fun _ h=>by omega⟩
instance {n : Nat} : Wt (Vector UInt8 n):=⟨fun _=>0,fun _=>True,fun _ _=>trivial,fun _ _=>trivial⟩
instance {n m : Nat} : Wt (Vector (Vector UInt8 m) n):=⟨fun _=>0,fun _=>True,fun _ _=>trivial,fun _ _=>trivial⟩
theorem zM {α : Type} {f : α → Nat} {l : List α} {x : α} (h : x ∈ l) : f x ≤ (l.map f).sum:=by
 induction l with
 | nil=>cases h
 | cons y l ih =>
  rw [List.map_cons,List.sum_cons]
  rcases List.mem_cons.1 h with rfl | h
  ·omega
  ·have:=ih h; omega
instance {α : Type} [Dat α] [Wt α] : Wt (List α):=⟨fun l=>l.length + (l.map Wt.wt).sum,fun l=>l.length ≤ 9223372036854775807 ∧ ∀ x ∈ l,Wt.ln x,fun _ h=>⟨h.1,fun x hx=>Wt.bdln x (h.2 x hx)⟩,
 fun l h=>⟨by omega,fun x hx=>Wt.wtln x (by have:=zM (f:=Wt.wt) hx; omega)⟩⟩
instance {α β : Type} [Dat α] [Dat β] [Wt α] [Wt β] : Wt (α × β):=⟨fun x=>Wt.wt x.1 + Wt.wt x.2,fun x=>Wt.ln x.1 ∧ Wt.ln x.2,fun x h=>⟨Wt.bdln x.1 h.1,Wt.bdln x.2 h.2⟩,fun x h=>⟨Wt.wtln x.1 (by omega),Wt.wtln x.2 (by omega)⟩⟩
theorem Jb {α : Type} [Dat α] [Wt α] (l : List α) : Wt.wt l = l.length + (l.map Wt.wt).sum:=rfl
theorem HC {α : Type} [Dat α] [Wt α] (l : List α) : l.length ≤ Wt.wt l:=by rw [Jb]; omega
@[simp] theorem ZT {α : Type} (l : List α) (i : Nat) : idx l (i : Int) = l[i]?:=by unfold idx; simp
@[simp] theorem UL {α : Type} (l : List α) : idx l (0 : Int) = l[0]?:=ZT l 0
theorem Bb {T : Type} {f : Int → Option (Fl Int (Fl Unit T))} (n : Nat) (p : Nat → Bool) (t : Nat → T) (hn : n < 9223372036854775807)
  (h : ∀ i,i < n → f (i : Int) = some (if p i then .ex (.ex (t i)) else .nx (wr ((i : Int) + 1)))) (he : f (n : Int) = some (.ex (.nx ()))) (m : Nat) (hm : m ≤ n) :
  ZJ f (m : Int) = some (match (List.range' m (n - m)).find? p with | some i=>.ex (t i) | none=>.nx ()):=by
 rw [KB (fun i : Nat=>(i : Int)) p (fun i=>.ex (t i)) n (n - m) m (by omega) (fun i _ hi=>by rw [h i hi,Xs (by omega)]) he]
 cases (List.range' m (n - m)).find? p <;> rfl
theorem Q8 {T : Type} {f : Int → Option (Fl Int (Fl Unit T))} (n : Nat) (p : Nat → Bool) (t : T) (hn : n < 9223372036854775807)
  (h : ∀ i,i < n → f (i : Int) = some (if p i then .ex (.ex t) else .nx (wr ((i : Int) + 1)))) (he : f (n : Int) = some (.ex (.nx ()))) (m : Nat) (hm : m ≤ n) :
  ZJ f (m : Int) = some (if (List.range' m (n - m)).any p then .ex t else .nx ()) :=
 QX p hm (fun i _ hi=>by rw [h i hi,Xs (by omega)]) he
theorem U1 {T : Type} {f : Int → Option (Fl Int (Fl Unit T))} (n : Nat) (p : Nat → Bool) (t : T) (hn : n < 9223372036854775807) (m : Nat) (hm : m ≤ n)
  (h : ∀ i,m ≤ i → i < n → f (i : Int) = some (if p i then .ex (.ex t) else .nx (wr ((i : Int) + 1)))) (he : f (n : Int) = some (.ex (.nx ()))) :
  ZJ f (m : Int) = some (if (List.range' m (n - m)).any p then .ex t else .nx ()) :=
 QX p hm (fun i hmi hi=>by rw [h i hmi hi,Xs (by omega)]) he
theorem AE {α β S T : Type} {f : S → Option (Fl S T)} (l : List α) (pack : β → Int → S) (g : β → α → β) (b0 : β) {t : T} (hn : l.length < 9223372036854775807)
  (h : ∀ i (hi : i < l.length),f (pack ((l.take i).foldl g b0) (i : Int)) = some (.nx (pack (g ((l.take i).foldl g b0) l[i]) (wr ((i : Int) + 1))))) (he : f (pack (l.foldl g b0) (l.length : Int)) = some (.ex t)) :
  ZJ f (pack b0 0) = some t:=by
 have:=Xo (f:=f) (fun i : Nat=>pack ((l.take i).foldl g b0) (i : Int)) 0 l.length (Nat.zero_le _) (t:=t) (fun i _ hi=>by
  rw [h i hi,Xs (by omega)]
  congr 3
  rw [List.take_succ_eq_append_getElem hi,List.foldl_append]; rfl) (by rw [List.take_length]; exact he)
 simpa using this
theorem J1 {α β : Type} (g : α → β) (l : List α) (acc : List β) : l.foldl (fun b x=>b ++ [g x]) acc = acc ++ l.map g:=by
 induction l generalizing acc with
 | nil=>simp
 | cons x l ih=>simp [ih]
theorem QJ {α β T : Type} {f : List β × Int → Option (Fl (List β × Int) T)} (l : List α) (g : α → β) {t : T} (hn : l.length < 9223372036854775807)
  (h : ∀ i (hi : i < l.length),f ((l.take i).map g,(i : Int)) = some (.nx ((l.take i).map g ++ [g l[i]],wr ((i : Int) + 1)))) (he : f (l.map g,(l.length : Int)) = some (.ex t)) :
  ZJ f ([],0) = some t:=by
 have e : ∀ m : List α,m.foldl (fun b x=>b ++ [g x]) [] = m.map g:=fun m=>by rw [J1]; rfl
 exact AE (f:=f) l (fun b i=>(b,i)) (fun b x=>b ++ [g x]) [] hn (fun i hi=>by simp only [e]; exact h i hi) (by simp only [e]; exact he)
theorem XA {α : Type} {by_ : Nat} {l m : List α} (h : (l.length + m.length) * by_ ≤ 140737488355328) : app by_ l m = some (l ++ m):=by unfold app; rw [if_pos h]
theorem QA {α : Type} {l : List α} {i j : Nat} (h : i ≤ j) (h2 : j ≤ l.length) : slc l (i : Int) (j : Int) = some ((l.take j).drop i):=by
 unfold slc; rw [if_pos (by omega)]; simp

@[simp] theorem vidx_cast {α : Type} {n : Nat} (v : Vector α n) (i : Nat) : vidx v (i : Int) = v[i]?:=by unfold vidx; simp
theorem U6 (l : List UInt8) : Wt.wt l = l.length:=by
 rw [Jb]
 have : (l.map Wt.wt).sum = 0:=by
  induction l with
  | nil=>rfl
  | cons x l ih=>rw [List.map_cons,List.sum_cons,ih]; rfl
 omega
instance : Wt GShare:=⟨fun x=>Wt.wt x.Data,fun x=>Wt.ln x.Data,fun x h=>Wt.bdln x.Data h.2,fun x h=>Wt.wtln x.Data h⟩
theorem Qa (n a b : Int) : YU n a b = some (decide (a ≤ n ∧ n ≤ b)):=by
 unfold YU
 by_cases h1 : a ≤ n <;> by_cases h2 : n ≤ b <;> simp [h1,h2]
theorem Af (n a b : Int) : Vx n a b = some (decide (a ≤ n ∧ n ≤ b)):=by
 unfold Vx
 by_cases h1 : a ≤ n <;> by_cases h2 : n ≤ b <;> simp [h1,h2]
theorem Am {α : Type} (l : List α) (p : α → Option Bool) (q : α → Bool) (L : Int → Option (Fl Int (Fl Unit Int)))
  (hL : ∀ s,L s = if (decide (s < (l.length : Int))) = true then ((idx l s).bind fun x=>((p x)).bind fun r=>if r = true then (some (Fl.ex (Fl.ex s))) else (some (Fl.nx (wr (s + 1))))) else (some (Fl.ex (Fl.nx ()))))
  (hl : l.length < 9223372036854775807) (hp : ∀ x ∈ l,p x = some (q x)) :
  ((ZJ L 0 : Option (Fl Unit Int)).bind fun j1=>j1.el (fun _=>some (-1)) (fun r=>some r)) = some (match l.findIdx? q with | some i=>(i : Int) | none=>-1):=by
 have h:=Bb (f:=L) l.length (fun i=>(l[i]?.map q).getD false) (fun i=>(i : Int)) hl (fun i hi=>by
  rw [hL]
  simp only [Int.ofNat_lt,hi,decide_true,if_true,ZT,List.getElem?_eq_getElem hi,Option.bind_some,Option.map_some,Option.getD_some,hp _ (List.getElem_mem hi)]
  split <;> rfl) (by rw [hL]; simp) 0 (Nat.zero_le _)
 have h3 : ZJ L 0 = _:=h
 rw [h3]
 have key : (List.range' 0 (l.length - 0)).find? (fun i=>(l[i]?.map q).getD false) = l.findIdx? q:=by
  rw [Nat.sub_zero,← List.range_eq_range']
  clear h h3 hL hp hl
  induction l with
  | nil=>rfl
  | cons x l ih =>
   rw [List.length_cons,List.range_succ_eq_map,List.find?_cons,List.findIdx?_cons]
   simp only [List.getElem?_cons_zero,Option.map_some,Option.getD_some]
   cases q x with
   | true=>rfl
   | false =>
    simp only [Bool.false_eq_true,if_false]
    rw [List.find?_map,← ih]
    congr 1
 rw [key]
 cases l.findIdx? q <;> rfl
theorem zu {α : Type} (l : List α) (q : α → Bool) : decide ((match l.findIdx? q with | some i=>(i : Int) | none=>-1) ≥ 0) = l.any q:=by
 rw [Bool.eq_iff_iff,decide_eq_true_eq]
 cases h : l.findIdx? q with
 | none =>
  have:=List.findIdx?_eq_none_iff.1 h
  simp
  exact this
 | some i =>
  have h2:=List.findIdx?_eq_some_iff_getElem.1 h
  obtain ⟨hi,hq,_⟩:=h2
  simp
  exact ⟨_,List.getElem_mem hi,hq⟩
theorem zo (a b : List UInt8) : decide (a = b) = (a == b):=by rw [Bool.eq_iff_iff]; simp
theorem QH (a b : List UInt8) : Vb a b = some (a == b):=by
 unfold Vb
 rw [← zo]
 congr 1
 rw [decide_eq_decide]
 constructor
 ·intro h; exact Str.mk.inj h
 ·intro h; rw [h]
theorem B0 (a b : List UInt8) (h : a.length ≤ 9223372036854775807) : WZ a b = some (a == b):=by
 unfold WZ
 by_cases hl : a.length = b.length
 ·have hne : ((a.length : Int) != (b.length : Int)) = false:=by simp [hl]
  have h1:=QX (f:=XG a b) (fun i=>(a[i]? != b[i]?)) (t:=false) (n:=a.length) (m:=0) (Nat.zero_le _) (fun i _ hi=>by
   unfold XG
   have hi' : i < b.length:=by omega
   simp only [Int.ofNat_lt,hi,decide_true,if_true,ZT,List.getElem?_eq_getElem hi,List.getElem?_eq_getElem hi',Option.bind_some,Xs (show i < 9223372036854775807 by omega)]
   have e : (some a[i] != some b[i]) = (a[i] != b[i]):=by
    rw [Bool.eq_iff_iff]; simp
   rw [e]
   split <;> rfl) (by unfold XG; simp)
  have h2 : ZJ (XG a b) 0 = _:=h1
  rw [hne,h2]
  simp only [Bool.false_eq_true,if_false,Option.bind_some]
  by_cases hab : a = b
  ·subst hab
   have : ((List.range' 0 (a.length - 0)).any fun i=>a[i]? != a[i]?) = false:=by rw [List.any_eq_false]; intro i _; simp
   rw [this]; simp [Fl.el]
  ·have : ((List.range' 0 (a.length - 0)).any fun i=>a[i]? != b[i]?) = true:=by
    rw [VT]
    apply Classical.byContradiction
    intro hn
    apply hab
    apply List.ext_getElem?
    intro i
    by_cases hi : i < a.length
    ·apply Classical.byContradiction
     intro hne2
     exact hn ⟨i,Nat.zero_le _,hi,by simpa using hne2⟩
    ·rw [List.getElem?_eq_none (by omega),List.getElem?_eq_none (by omega)]
   rw [this]
   have : (a == b) = false:=by simpa using hab
   rw [this]; simp [Fl.el]
 ·have hne : ((a.length : Int) != (b.length : Int)) = true:=by simp; omega
  rw [hne]
  have : (a == b) = false:=by simp; intro h; exact hl (by rw [h])
  rw [this]; rfl
theorem HI (a : Nat) (h : a < 9223372036854775808) : (BitVec.ofInt 64 (a : Int)).toNat = a:=by
 rw [BitVec.toNat_ofInt]
 omega
theorem T4 (a b : Nat) (ha : a < 9223372036854775808) (hb : b < 9223372036854775808) : Ka (a : Int) (b : Int) = ((a ^^^ b : Nat) : Int):=by
 unfold Ka
 rw [BitVec.toNat_xor,HI a ha,HI b hb]
 have : a ^^^ b < 2 ^ 63:=Nat.xor_lt_two_pow ha hb
 exact Wp (by omega)
theorem A2 (a b : Nat) (ha : a < 9223372036854775808) (hb : b < 9223372036854775808) : andI (a : Int) (b : Int) = ((a &&& b : Nat) : Int):=by
 unfold andI
 rw [BitVec.toNat_and,HI a ha,HI b hb]
 have : a &&& b < 2 ^ 63:=Nat.and_lt_two_pow _ hb
 exact Wp (by omega)
theorem TQ (a i : Nat) (hi : i ≤ 63) (h : a <<< i < 9223372036854775808) : T1 (a : Int) (i : Int) = ((a <<< i : Nat) : Int):=by
 unfold T1
 rw [show min ((i : Int)).toNat 64 = i by omega]
 have : ((a : Int) * 2 ^ i) = ((a <<< i : Nat) : Int):=by rw [Nat.shiftLeft_eq]; simp
 rw [this]
 generalize a <<< i = x at h ⊢
 exact Wp (by omega)
theorem zi (a i : Nat) (hi : i ≤ 63) : Ti (a : Int) (i : Int) = ((a >>> i : Nat) : Int):=by
 unfold Ti
 rw [show min ((i : Int)).toNat 64 = i by omega,Nat.shiftRight_eq_div_pow,Int.fdiv_eq_ediv_of_nonneg _ (by exact_mod_cast Nat.zero_le _)]
 simp
theorem HB (a i : Nat) : ((a >>> i) &&& 1 = 1) ↔ a.testBit i = true:=by
 rw [Nat.testBit,Nat.and_comm]
 have h:=Nat.and_one_is_mod (a >>> i)
 rw [Nat.and_comm] at h
 rw [h]
 rcases Nat.mod_two_eq_zero_or_one (a >>> i) with h | h <;> simp [h]
theorem tmod2 (a : Nat) : Int.tmod (a : Int) 2 = ((a % 2 : Nat) : Int):=by
 rw [Int.tmod_eq_emod_of_nonneg (by omega)]; simp
theorem A8 (a : Nat) : Int.tdiv (a : Int) 2 = ((a / 2 : Nat) : Int):=by
 rw [Int.tdiv_eq_ediv_of_nonneg (by omega)]; simp
theorem Br (a : Nat) (h : a < 9223372036854775808) : wr (a : Int) = (a : Int):=Wp (by omega)
theorem AZ (a : Nat) (h : a < 9223372036854775808) : IntKind.u64.wrap (a : Int) = (a : Int):=by
 simp only [IntKind.wrap,IntKind.bits,IntKind.signed]
 simp
 omega

def Yd (m deg : Nat) : Nat → Nat → Nat
 | 0,a=>a
 | k + 1,a=>Yd m deg k (if a.testBit (deg + k) then a ^^^ (m <<< k) else a)
theorem Tn {m k n : Nat} (h : m < 2 ^ n) : m <<< k < 2 ^ (n + k):=by
 rw [Nat.shiftLeft_eq,Nat.pow_add]
 exact Nat.mul_lt_mul_of_pos_right h (Nat.two_pow_pos _)
theorem Kl {a n : Nat} (h : a < 2 ^ (n + 1)) (hb : a.testBit n = false) : a < 2 ^ n:=by
 apply Nat.lt_pow_two_of_testBit
 intro i hi
 rcases Nat.eq_or_lt_of_le hi with rfl | hi
 ·exact hb
 ·exact Nat.testBit_lt_two_pow (Nat.lt_of_lt_of_le h (Nat.pow_le_pow_right (by omega) hi))
theorem Ac {m d : Nat} (h1 : 2 ^ d ≤ m) (h2 : m < 2 ^ (d + 1)) : m.testBit d = true:=by
 rw [Nat.testBit,Nat.shiftRight_eq_div_pow]
 have : m / 2 ^ d = 1:=by
  apply Nat.div_eq_of_lt_le
  ·simpa using h1
  ·rw [Nat.pow_succ] at h2; omega
 rw [this]; rfl
theorem An {m d k a : Nat} (h1 : 2 ^ d ≤ m) (h2 : m < 2 ^ (d + 1)) (ha : a < 2 ^ (d + (k + 1))) (hb : a.testBit (d + k) = true) : a ^^^ (m <<< k) < 2 ^ (d + k):=by
 have hm : m <<< k < 2 ^ (d + (k + 1)):=by have:=Tn (k:=k) h2; rwa [show d + 1 + k = d + (k + 1) by omega] at this
 refine Kl (Nat.xor_lt_two_pow (by rwa [show d + k + 1 = d + (k + 1) by omega]) (by rwa [show d + k + 1 = d + (k + 1) by omega])) ?_
 rw [Nat.testBit_xor,hb,Nat.testBit_shiftLeft]
 simp [Ac h1 h2]
theorem QP {m d : Nat} (h1 : 2 ^ d ≤ m) (h2 : m < 2 ^ (d + 1)) : ∀ (k a : Nat),a < 2 ^ (d + k) → Yd m d k a < 2 ^ d
 | 0,a,h=>by simpa [Yd] using h
 | k + 1,a,h=>by
  unfold Yd
  cases hb : a.testBit (d + k) with
  | true=>simp only [if_true]; exact QP h1 h2 k _ (An h1 h2 h hb)
  | false=>simp only [Bool.false_eq_true,if_false]; exact QP h1 h2 k a (Kl h hb)
theorem UB (m d : Nat) : ∀ (k a b : Nat),Yd m d k (a ^^^ b) = Yd m d k a ^^^ Yd m d k b
 | 0,_,_=>rfl
 | k + 1,a,b=>by
  simp only [Yd]
  rw [Nat.testBit_xor]
  cases a.testBit (d + k) <;> cases b.testBit (d + k) <;> simp only [Bool.xor_false,Bool.false_xor,Bool.xor_self,Bool.xor_true,Bool.not_false,Bool.not_true,Bool.false_eq_true,if_true,if_false]
  ·exact UB m d k a b
  ·rw [Nat.xor_assoc]; exact UB m d k a _
  ·rw [← UB m d k]; congr 1; rw [Nat.xor_assoc,Nat.xor_comm b,← Nat.xor_assoc]
  ·rw [← UB m d k]; congr 1
   rw [Nat.xor_assoc,← Nat.xor_assoc (m <<< k),Nat.xor_comm (m <<< k) b,Nat.xor_assoc,Nat.xor_self,Nat.xor_zero]
theorem Vz {m d : Nat} : ∀ (k a : Nat),a < 2 ^ d → Yd m d k a = a
 | 0,_,_=>rfl
 | k + 1,a,h=>by
  unfold Yd
  rw [Nat.testBit_lt_two_pow (Nat.lt_of_lt_of_le h (Nat.pow_le_pow_right (by omega) (by omega)))]
  simp only [Bool.false_eq_true,if_false]
  exact Vz k a h
theorem Km {m d k a : Nat} (h : a < 2 ^ (d + k)) : Yd m d (k + 1) a = Yd m d k a:=by
 conv=>lhs; unfold Yd
 rw [Nat.testBit_lt_two_pow h]; rfl
theorem UO (m d : Nat) : ∀ (k x : Nat),Yd m d (k + 1) (x <<< 1) = (if ((Yd m d k x) <<< 1).testBit d then ((Yd m d k x) <<< 1) ^^^ m else (Yd m d k x) <<< 1)
 | 0,x=>by simp [Yd]
 | k + 1,x=>by
  conv=>lhs; unfold Yd
  conv=>rhs; unfold Yd
  have e : (x <<< 1).testBit (d + (k + 1)) = x.testBit (d + k):=by
   rw [Nat.testBit_shiftLeft]
   have : d + (k + 1) ≥ 1:=by omega
   simp only [this,decide_true,Bool.true_and]
   congr 1
  rw [e]
  cases x.testBit (d + k) with
  | false=>simp only [Bool.false_eq_true,if_false]; exact UO m d k x
  | true =>
   simp only [if_true]
   have e2 : x <<< 1 ^^^ m <<< (k + 1) = (x ^^^ m <<< k) <<< 1:=by
    rw [Nat.shiftLeft_xor_distrib,← Nat.shiftLeft_add]
   rw [e2]
   exact UO m d k _

def U7 (n : Nat) : Nat:=if n = 0 then 0 else n.log2 + 1
theorem AX (n : Nat) (h : 0 < n) : U7 n = U7 (n / 2) + 1:=by
 unfold U7
 rw [if_neg (by omega)]
 by_cases h2 : n / 2 = 0
 ·have : n = 1:=by omega
  subst this; rfl
 ·rw [if_neg h2]
  conv=>lhs; rw [Nat.log2_def]
  rw [if_pos (by omega)]
theorem K9 {n p : Nat} (h1 : 2 ^ p ≤ n) (h2 : n < 2 ^ (p + 1)) : U7 n = p + 1:=by
 have h0 : n ≠ 0:=by have:=Nat.two_pow_pos p; omega
 unfold U7
 rw [if_neg h0,(Nat.log2_eq_iff h0).2 ⟨h1,h2⟩]
theorem zU {n p : Nat} (h : n < 2 ^ p) : U7 n ≤ p:=by
 unfold U7
 split
 ·omega
 ·rename_i h0
  have:=(Nat.log2_lt h0).2 h
  omega
theorem T2 (n : Nat) (h : n < 9223372036854775808) : Xh (n : Int) = some ((U7 n : Nat) : Int):=by
 have key : ∀ (f n c : Nat),n < 2 ^ f → f ≤ 63 → c + f ≤ 1000 → ZJ YB ((n : Int),(c : Int)) = some ((c + U7 n : Nat) : Int):=by
  intro f
  induction f with
  | zero =>
   intro n c hn _ _
   have : n = 0:=by simpa using hn
   subst this
   rw [X0 (t:=(c : Int))]
   ·simp [U7]
   ·unfold YB; simp
  | succ f ih =>
   intro n c hn hf hc
   by_cases h0 : n = 0
   ·subst h0
    rw [X0 (t:=(c : Int))]
    ·simp [U7]
    ·unfold YB; simp
   ·have hp : 0 < n:=by omega
    have hlt : n < 9223372036854775808:=Nat.lt_of_lt_of_le hn (Nat.pow_le_pow_right (by omega : 0 < 2) hf)
    have hst : YB ((n : Int),(c : Int)) = some (.nx (((n / 2 : Nat) : Int),((c + 1 : Nat) : Int))):=by
     unfold YB
     have : (n : Int) > 0:=by omega
     simp only [this,decide_true,if_true,A8]
     rw [Br _ (by omega),Xs (by omega)]
    rw [Vk hst,ih (n / 2) (c + 1) (by rw [Nat.pow_succ] at hn; omega) (by omega) (by omega),AX n hp]
    congr 2; omega
 unfold Xh
 have:=key 63 n 0 h (by omega) (by omega)
 have h2 : ZJ YB ((n : Int),0) = _:=this
 rw [h2]
 simp
theorem AO (a b d k : Nat) (hd : d ≤ 20) (hk : k ≤ 20) (h1 : 2 ^ d ≤ b) (h2 : b < 2 ^ (d + 1)) (ha : a < 2 ^ (d + k)) : Vo (a : Int) (b : Int) = some ((Yd b d k a : Nat) : Int):=by
 have big : ∀ n,n ≤ 62 → ∀ x : Nat,x < 2 ^ n → x < 9223372036854775808:=fun n hn x hx=>Nat.lt_of_lt_of_le hx (Nat.pow_le_pow_right (by omega : 0 < 2) (by omega : n ≤ 63))
 have key : ∀ (k a : Nat),k ≤ 20 → a < 2 ^ (d + k) → ZJ (X8 (b : Int) ((d + 1 : Nat) : Int)) ((a : Int),((U7 a : Nat) : Int)) = some ((Yd b d k a : Nat) : Int):=by
  intro k
  induction k with
  | zero =>
   intro a _ ha
   have hl:=zU (p:=d) ha
   rw [X0 (t:=(a : Int))]
   ·rfl
   ·unfold X8
    have : ¬ (((U7 a : Nat) : Int) ≥ ((d + 1 : Nat) : Int)):=by omega
    simp only [this,decide_false,Bool.false_eq_true,if_false]
  | succ k ih =>
   intro a hk ha
   cases hb : a.testBit (d + k) with
   | false =>
    have ha':=Kl (by rwa [show d + k + 1 = d + (k + 1) by omega]) hb
    rw [ih a (by omega) ha',Km ha']
   | true =>
    have hge : 2 ^ (d + k) ≤ a:=Nat.ge_two_pow_of_testBit hb
    have hl : U7 a = d + k + 1:=K9 hge (by rwa [show d + k + 1 = d + (k + 1) by omega])
    have hx:=An h1 h2 ha hb
    have hshl : b <<< k < 2 ^ (d + 1 + k):=Tn h2
    have hst : X8 (b : Int) ((d + 1 : Nat) : Int) ((a : Int),((U7 a : Nat) : Int)) = some (.nx (((a ^^^ b <<< k : Nat) : Int),((U7 (a ^^^ b <<< k) : Nat) : Int))):=by
     unfold X8
     have c1 : ((U7 a : Nat) : Int) ≥ ((d + 1 : Nat) : Int):=by rw [hl]; omega
     have c2 : IntKind.u64.wrap (wr (((U7 a : Nat) : Int) - ((d + 1 : Nat) : Int))) = ((k : Nat) : Int):=by
      rw [hl,show ((d + k + 1 : Nat) : Int) - ((d + 1 : Nat) : Int) = ((k : Nat) : Int) by omega,Br _ (by omega),AZ _ (by omega)]
     simp only [c1,decide_true,if_true,c2]
     have c3 : Xf ((k : Nat) : Int) = some ():=by unfold Xf; rw [if_pos (by omega)]
     rw [c3,TQ b k (by omega) (big _ (by omega) _ hshl),T4 a _ (big _ (by omega) _ ha) (big _ (by omega) _ hshl)]
     simp only [Option.bind_some]
     rw [T2 _ (big _ (by omega) _ hx)]
     rfl
    rw [Vk hst,ih _ (by omega) hx]
    conv=>rhs; unfold Yd
    rw [hb]; rfl
 unfold Vo
 rw [T2 b (big _ (by omega) _ h2),T2 a (big _ (by omega) _ ha)]
 simp only [Option.bind_some]
 rw [K9 h1 h2,key k a hk ha]
 rfl
theorem zd (a m d : Nat) (hd : d ≤ 15) (ha : a < 2 ^ 16) (hm : m < 2 ^ 20) : WN (a : Int) (m : Int) (d : Int) = some ((Yd m d (16 - d) a : Nat) : Int):=by
 have key : ∀ (k a : Nat),d + k ≤ 16 → a < 2 ^ 40 → ZJ (YW (m : Int) (d : Int)) ((a : Int),((d + k : Nat) : Int) - 1) = some ((Yd m d k a : Nat) : Int):=by
  intro k
  induction k with
  | zero =>
   intro a _ _
   rw [X0 (t:=(a : Int))]
   ·rfl
   ·unfold YW
    have : ¬ (((d + 0 : Nat) : Int) - 1 ≥ (d : Int)):=by omega
    simp only [this,decide_false,Bool.false_eq_true,if_false]
  | succ k ih =>
   intro a hk ha
   have e0 : ((d + (k + 1) : Nat) : Int) - 1 = ((d + k : Nat) : Int):=by omega
   have hsh : m <<< k < 2 ^ (20 + k):=Tn hm
   have hsh2 : m <<< k < 2 ^ 40:=Nat.lt_of_lt_of_le hsh (Nat.pow_le_pow_right (by omega) (by omega))
   have hst : YW (m : Int) (d : Int) ((a : Int),((d + (k + 1) : Nat) : Int) - 1) = some (.nx (((if a.testBit (d + k) then a ^^^ (m <<< k) else a : Nat) : Int),((d + k : Nat) : Int) - 1)):=by
    rw [e0]
    unfold YW
    have c1 : ((d + k : Nat) : Int) ≥ (d : Int):=by omega
    have c2 : Xf ((d + k : Nat) : Int) = some ():=by unfold Xf; rw [if_pos (by omega)]
    have c3 : wr (((d + k : Nat) : Int) - (d : Int)) = ((k : Nat) : Int):=by rw [show ((d + k : Nat) : Int) - (d : Int) = ((k : Nat) : Int) by omega,Br _ (by omega)]
    have c4 : Xf ((k : Nat) : Int) = some ():=by unfold Xf; rw [if_pos (by omega)]
    have c5 : wr (((d + k : Nat) : Int) - 1) = ((d + k : Nat) : Int) - 1:=Wp (by omega)
    simp only [c1,decide_true,if_true,c2,c3,c4,c5,Option.bind_some]
    have c6 : andI (Ti (a : Int) ((d + k : Nat) : Int)) 1 = (((a >>> (d + k)) &&& 1 : Nat) : Int):=by
     rw [zi a (d + k) (by omega)]
     exact A2 _ 1 (Nat.lt_of_le_of_lt (Nat.shiftRight_le _ _) (by omega)) (by omega)
    rw [c6,TQ m k (by omega) (by omega),T4 a _ (by omega) (by omega)]
    cases hb : a.testBit (d + k) with
    | true =>
     have:=(HB a (d + k)).2 hb
     rw [this]; rfl
    | false =>
     have : ¬ ((a >>> (d + k)) &&& 1 = 1):=fun h=>by rw [(HB a (d + k)).1 h] at hb; cases hb
     have h2 : (((((a >>> (d + k)) &&& 1 : Nat) : Int)) == 1) = false:=by
      rw [beq_eq_false_iff_ne]; omega
     rw [h2]; rfl
   rw [Vk hst,ih _ (by omega) ?_]
   ·conv=>rhs; unfold Yd
   ·split
    ·exact Nat.xor_lt_two_pow ha hsh2
    ·exact ha
 unfold WN
 have:=key (16 - d) a (by omega) (by omega)
 rw [show ((d + (16 - d) : Nat) : Int) - 1 = 15 by omega] at this
 rw [this]; rfl

def QK : Nat → Nat → Nat → Nat
 | 0,_,_=>0
 | n + 1,a,b=>(if b % 2 = 1 then a else 0) ^^^ QK n (a <<< 1) (b / 2)
theorem Kj : ∀ (n a : Nat),QK n a 0 = 0
 | 0,_=>rfl
 | n + 1,a=>by simp [QK,Kj n]
theorem Ae : ∀ (n a b p : Nat),a < 2 ^ p → QK n a b < 2 ^ (p + n)
 | 0,_,_,_,_=>by simp [QK]; exact Nat.two_pow_pos _
 | n + 1,a,b,p,h=>by
  unfold QK
  have h1 : a <<< 1 < 2 ^ (p + 1):=Tn h
  have h2:=Ae n (a <<< 1) (b / 2) (p + 1) h1
  rw [show p + 1 + n = p + (n + 1) by omega] at h2
  refine Nat.xor_lt_two_pow ?_ h2
  have h3 : 2 ^ p ≤ 2 ^ (p + (n + 1)):=Nat.pow_le_pow_right (by omega) (by omega)
  have h4:=Nat.two_pow_pos (p + (n + 1))
  split <;> omega
def prC : Nat → Nat → Nat → Nat
 | 0,_,_=>0
 | i + 1,a,b=>prC i a b ^^^ (if b.testBit i then a <<< i else 0)
theorem Bw : ∀ (n a b : Nat),prC (n + 1) a b = (if b % 2 = 1 then a else 0) ^^^ prC n (a <<< 1) (b / 2)
 | 0,a,b=>by
  simp only [prC,Nat.zero_xor,Nat.xor_zero,Nat.shiftLeft_zero]
  have : b.testBit 0 = decide (b % 2 = 1):=by simp [Nat.testBit_zero]
  rw [this]; simp
 | n + 1,a,b=>by
  conv=>lhs; unfold prC
  rw [Bw n a b]
  conv=>rhs; unfold prC
  rw [← Nat.xor_assoc]
  congr 1
  rw [Nat.testBit_succ,← Nat.shiftLeft_add,Nat.add_comm 1 n]
theorem za : ∀ (n a b : Nat),prC n a b = QK n a b
 | 0,_,_=>rfl
 | n + 1,a,b=>by rw [Bw,za n]; rfl
theorem BY (a b : Nat) (h : a < 256) : ∀ i,i ≤ 8 → prC i a b < 2 ^ 16
 | 0,_=>by simp [prC]
 | i + 1,hi=>by
  unfold prC
  have h1 : a <<< i < 2 ^ (8 + i):=Tn h
  have h2 : 2 ^ (8 + i) ≤ 2 ^ 16:=Nat.pow_le_pow_right (by omega) (by omega)
  refine Nat.xor_lt_two_pow (BY a b h i (by omega)) ?_
  split
  ·omega
  ·omega
def Zt (m : Nat) (a b : UInt8) : UInt8:=X1 ((Yd m 8 8 (QK 8 a.toNat b.toNat) : Nat) : Int)
theorem Uh (m : Nat) (hm : m < 512) (a b : UInt8) : ZP (m : Int) a b = some (Zt m a b):=by
 have ha : a.toNat < 256:=a.toNat_lt
 have hb : b.toNat < 256:=b.toNat_lt
 have h:=Xo (f:=ZS a b) (fun i : Nat=>(((prC i a.toNat b.toNat : Nat) : Int),(i : Int))) 0 8 (Nat.zero_le _) (t:=((prC 8 a.toNat b.toNat : Nat) : Int)) (fun i _ hi=>by
  unfold ZS
  have c1 : ((i : Int) < 8):=by omega
  have c2 : Xf (i : Int) = some ():=by unfold Xf; rw [if_pos (by omega)]
  have c3 : prC i a.toNat b.toNat < 2 ^ 16:=BY _ _ ha i (by omega)
  have c4 : a.toNat <<< i < 2 ^ (8 + i):=Tn ha
  have c5 : 2 ^ (8 + i) ≤ 2 ^ 16:=Nat.pow_le_pow_right (by omega) (by omega)
  have c6 : (((HT b (i : Int)) &&& 1) == 1) = b.toNat.testBit i:=by
   have e1 : (HT b (i : Int)).toNat = b.toNat >>> i:=by
    unfold HT X1
    rw [show min ((i : Int)).toNat 8 = i by omega,Int.fdiv_eq_ediv_of_nonneg _ (by exact_mod_cast Nat.zero_le _)]
    have : ((b.toNat : Int) / 2 ^ i) = ((b.toNat >>> i : Nat) : Int):=by rw [Nat.shiftRight_eq_div_pow]; simp
    rw [this]
    have h3 : b.toNat >>> i ≤ b.toNat:=Nat.shiftRight_le _ _
    generalize b.toNat >>> i = q at h3 ⊢
    have h4 : (((q : Nat) : Int) % 256).toNat = q:=by omega
    rw [h4]
    simp
    omega
   rw [Bool.eq_iff_iff,beq_iff_eq,← HB,← UInt8.toNat_inj,UInt8.toNat_and,e1]
   simp
  simp only [c1,decide_true,if_true,c2,Option.bind_some,c6,Xs (show i < 9223372036854775807 by omega)]
  rw [TQ _ i (by omega) (by omega),T4 _ _ (by omega) (by omega)]
  cases hbit : b.toNat.testBit i with
  | true=>simp [prC,hbit]
  | false=>simp [prC,hbit]) (by unfold ZS; simp)
 have h2 : ZJ (ZS a b) (0,0) = _:=h
 unfold ZP
 rw [h2]
 simp only [Option.bind_some]
 have h3:=zd (prC 8 a.toNat b.toNat) m 8 (by omega) (BY _ _ ha 8 (by omega)) (by omega)
 have h4 : WN ((prC 8 a.toNat b.toNat : Nat) : Int) (m : Int) 8 = _:=h3
 rw [h4,za]
 rfl
theorem V9 (m : Nat) (hm : m < 512) (hm2 : 256 ≤ m) (a b : UInt8) : Ye (m : Int) a b = some (Zt m a b):=by
 have ha : a.toNat < 256:=a.toNat_lt
 have hb : b.toNat < 256:=b.toNat_lt
 have h1 : 2 ^ 8 ≤ m:=hm2
 have h2 : m < 2 ^ (8 + 1):=hm
 have hR : ∀ i,i ≤ 8 → Yd m 8 8 (a.toNat <<< i) < 256:=fun i hi=>QP h1 h2 8 _ (by
  have:=Tn (k:=i) (show a.toNat < 2 ^ 8 from ha)
  exact Nat.lt_of_lt_of_le this (Nat.pow_le_pow_right (by omega) (by omega)))
 have hdbl : ∀ i,i ≤ 7 → Yd m 8 8 (a.toNat <<< (i + 1)) = if 256 ≤ (Yd m 8 8 (a.toNat <<< i)) * 2 then (Yd m 8 8 (a.toNat <<< i)) * 2 ^^^ m else (Yd m 8 8 (a.toNat <<< i)) * 2:=by
  intro i hi
  have hx : a.toNat <<< i < 2 ^ (8 + 7):=Nat.lt_of_lt_of_le (Tn (show a.toNat < 2 ^ 8 from ha)) (Nat.pow_le_pow_right (by omega) (by omega))
  have e : a.toNat <<< (i + 1) = (a.toNat <<< i) <<< 1:=by rw [← Nat.shiftLeft_add]
  rw [e,UO m 8 7,← Km hx]
  have hlt:=hR i (by omega)
  generalize Yd m 8 8 (a.toNat <<< i) = y at hlt ⊢
  have e2 : y <<< 1 = y * 2:=by rw [Nat.shiftLeft_eq]
  rw [e2]
  have e3 : (y * 2).testBit 8 = decide (256 ≤ y * 2):=by
   by_cases hy : 256 ≤ y * 2
   ·rw [Ac (d:=8) hy (by omega)]; simp [hy]
   ·rw [Nat.testBit_lt_two_pow (by omega : y * 2 < 2 ^ 8)]; simp [hy]
  rw [e3]
  by_cases hy : 256 ≤ y * 2 <;> simp [hy]
 have key : ∀ (n i o r : Nat),i + n ≤ 8 → r < 2 ^ n → o < 256 → ZJ (YO (m : Int)) ((o : Int),((Yd m 8 8 (a.toNat <<< i) : Nat) : Int),(r : Int)) = some ((o ^^^ Yd m 8 8 (QK n (a.toNat <<< i) r) : Nat) : Int):=by
  intro n
  induction n with
  | zero =>
   intro i o r _ hr ho
   have : r = 0:=by simpa using hr
   subst this
   rw [X0 (t:=(o : Int))]
   ·rw [Kj,Vz 8 0 (by omega),Nat.xor_zero]
   ·unfold YO; simp
  | succ n ih =>
   intro i o r hi hr ho
   by_cases h0 : r = 0
   ·subst h0
    rw [X0 (t:=(o : Int))]
    ·rw [Kj,Vz 8 0 (by omega),Nat.xor_zero]
    ·unfold YO; simp
   ·have hy:=hR i (by omega)
    have hst : YO (m : Int) ((o : Int),((Yd m 8 8 (a.toNat <<< i) : Nat) : Int),(r : Int)) = some (.nx (((o ^^^ Yd m 8 8 (if r % 2 = 1 then a.toNat <<< i else 0) : Nat) : Int),((Yd m 8 8 (a.toNat <<< (i + 1)) : Nat) : Int),((r / 2 : Nat) : Int))):=by
     rw [hdbl i (by omega)]
     unfold YO
     have c1 : (r : Int) > 0:=by omega
     have hr2 : r < 512:=Nat.lt_of_lt_of_le hr (Nat.le_trans (Nat.pow_le_pow_right (by omega) (by omega : n + 1 ≤ 9)) (by omega))
     simp only [c1,decide_true,if_true,tmod2,A8]
     have e1 : wr (((Yd m 8 8 (a.toNat <<< i) : Nat) : Int) * 2) = (((Yd m 8 8 (a.toNat <<< i)) * 2 : Nat) : Int):=by rw [Wp (by omega)]; omega
     have e2 : wr ((r / 2 : Nat) : Int) = ((r / 2 : Nat) : Int):=Br _ (by omega)
     rw [e1,e2,T4 _ _ (by omega) (by omega),T4 _ _ (by omega) (by omega)]
     have e3 : ((((r % 2 : Nat) : Int)) == 1) = decide (r % 2 = 1):=by
      rw [Bool.eq_iff_iff,beq_iff_eq,decide_eq_true_eq]; omega
     rw [e3]
     have e4 : decide ((((Yd m 8 8 (a.toNat <<< i)) * 2 : Nat) : Int) ≥ 256) = decide (256 ≤ (Yd m 8 8 (a.toNat <<< i)) * 2):=by rw [decide_eq_decide]; omega
     rw [e4]
     have e5 : Yd m 8 8 0 = 0:=Vz 8 0 (by omega)
     by_cases c2 : r % 2 = 1 <;> by_cases c3 : 256 ≤ (Yd m 8 8 (a.toNat <<< i)) * 2 <;> simp only [c2,c3,decide_true,decide_false,Bool.false_eq_true,if_true,if_false,Option.bind_some,e5,Nat.xor_zero]
    rw [Vk hst,ih (i + 1) _ (r / 2) (by omega) (by rw [Nat.pow_succ] at hr; omega) ?_]
    ·conv=>rhs; unfold QK
     rw [UB,Nat.xor_assoc,Nat.shiftLeft_add]
    ·refine Nat.xor_lt_two_pow (n:=8) ho ?_
     split
     ·exact hR i (by omega)
     ·rw [Vz 8 0 (by omega)]; omega
 have:=key 8 0 0 b.toNat (by omega) hb (by omega)
 rw [Nat.shiftLeft_zero,Vz 8 a.toNat ha,Nat.zero_xor] at this
 have h3 : ZJ (YO (m : Int)) (0,bI a,bI b) = _:=this
 unfold Ye
 rw [h3]
 rfl

def Qg (m : Nat) : Nat → UInt8 → Nat → UInt8 → UInt8
 | 0,_,_,o=>o
 | f + 1,a,k,o=>if k = 0 then o else Qg m f (Zt m a a) (k / 2) (if k % 2 = 1 then Zt m o a else o)
theorem Bd (m : Nat) (L : UInt8 × Int × UInt8 → Option (Fl (UInt8 × Int × UInt8) UInt8)) (T : UInt8 → UInt8 → Option UInt8) (hT : ∀ a b,T a b = some (Zt m a b))
  (hL : ∀ s,L s = if (decide (s.2.1 > 0)) = true then (((if ((Int.tmod s.2.1 2) == 1) = true then ((T s.2.2 s.1).bind fun r=>some r) else (some s.2.2) : Option UInt8).bind fun j12=>(T s.1 s.1).bind fun r20=>some (r20,j12) : Option (UInt8 × UInt8)).bind fun j9=>some (Fl.nx (j9.1,wr (Int.tdiv s.2.1 2),j9.2))) else (some (Fl.ex s.2.2))) :
  ∀ (f k : Nat) (a o : UInt8),k < 2 ^ f → f ≤ 62 → ZJ L (a,(k : Int),o) = some (Qg m f a k o):=by
 intro f
 induction f with
 | zero =>
  intro k a o hk _
  have : k = 0:=by simpa using hk
  subst this
  exact X0 (by rw [hL]; simp [Qg])
 | succ f ih =>
  intro k a o hk hf
  by_cases h0 : k = 0
  ·subst h0
   exact X0 (by rw [hL]; simp [Qg])
  ·have hlt : k < 9223372036854775808:=Nat.lt_of_lt_of_le hk (Nat.pow_le_pow_right (by omega : 0 < 2) (by omega : f + 1 ≤ 63))
   have hst : L (a,(k : Int),o) = some (.nx (Zt m a a,((k / 2 : Nat) : Int),if k % 2 = 1 then Zt m o a else o)):=by
    rw [hL]
    have c1 : (k : Int) > 0:=by omega
    have e3 : ((((k % 2 : Nat) : Int)) == 1) = decide (k % 2 = 1):=by
     rw [Bool.eq_iff_iff,beq_iff_eq,decide_eq_true_eq]; omega
    simp only [c1,decide_true,if_true,tmod2,A8,hT,e3,Option.bind_some,Br (k / 2) (by omega)]
    by_cases c2 : k % 2 = 1 <;> simp [c2]
   rw [Vk hst,ih (k / 2) _ _ (by rw [Nat.pow_succ] at hk; omega) (by omega)]
   conv=>rhs; unfold Qg
   rw [if_neg h0]
theorem J5 (m : Nat) (hm : m < 512) (a : UInt8) (k f : Nat) (hk : k < 2 ^ f) (hf : f ≤ 62) : Xe (m : Int) a (k : Int) = some (Qg m f a k 1):=by
 unfold Xe
 rw [Bd m (Ws (m : Int)) _ (Uh m hm) (fun s=>by unfold Ws; rfl) f k a 1 hk hf]; rfl
theorem B3 (m : Nat) (hm : m < 512) (hm2 : 256 ≤ m) (a : UInt8) (k f : Nat) (hk : k < 2 ^ f) (hf : f ≤ 62) : X5 (m : Int) a (k : Int) = some (Qg m f a k 1):=by
 unfold X5
 rw [Bd m (Vy (m : Int)) _ (V9 m hm hm2) (fun s=>by unfold Vy; rfl) f k a 1 hk hf]; rfl
def Tx (m : Nat) (a : UInt8) : UInt8:=Qg m 8 a 254 1
theorem KX (m : Nat) (hm : m < 512) (a : UInt8) : Xk (m : Int) a = some (Tx m a):=by
 unfold Xk
 have:=J5 m hm a 254 8 (by omega) (by omega)
 have h2 : Xe (m : Int) a 254 = _:=this
 rw [h2]; rfl
theorem ze (m : Nat) (hm : m < 512) (hm2 : 256 ≤ m) (a : UInt8) : VG (m : Int) a = some (Tx m a):=by
 unfold VG
 have:=B3 m hm hm2 a 254 8 (by omega) (by omega)
 have h2 : X5 (m : Int) a 254 = _:=this
 rw [h2]; rfl

def QM (m d : Nat) : Bool:=Yd d (U7 d - 1) (16 - (U7 d - 1)) m == 0
def ZH (m : Int) : Bool:=decide (256 ≤ m ∧ m ≤ 511) && !((List.range' 2 30).any (QM m.toNat))
theorem Qu (m : Int) : Xu m = some (ZH m):=by
 unfold Xu ZH
 rw [Af]
 by_cases hm : 256 ≤ m ∧ m ≤ 511
 ·obtain ⟨n,rfl⟩:=Int.eq_ofNat_of_zero_le (show 0 ≤ m by omega)
  have hn : n < 512:=by omega
  have h:=U1 (f:=XF (n : Int)) 32 (QM n) false (by omega) 2 (by omega) (fun d h2 hd=>by
   unfold XF
   have c1 : (d : Int) < 32:=by omega
   have hp : ∃ p,p ≤ 4 ∧ 2 ^ p ≤ d ∧ d < 2 ^ (p + 1):=by
    refine ⟨d.log2,?_,Nat.log2_self_le (by omega),Nat.lt_log2_self⟩
    have:=(Nat.log2_lt (n:=d) (by omega)).2 (show d < 2 ^ 5 by omega)
    omega
   obtain ⟨p,h3,h4,h5⟩:=hp
   have hl:=K9 h4 h5
   rw [AO n d p (16 - p) (by omega) (by omega) h4 h5 (by rw [show p + (16 - p) = 16 by omega]; omega)]
   simp only [c1,decide_true,if_true,Option.bind_some]
   unfold QM
   rw [hl,show p + 1 - 1 = p by omega]
   generalize Yd d p (16 - p) n = q
   have : ((((q : Nat) : Int)) == 0) = (q == 0):=by rw [Bool.eq_iff_iff,beq_iff_eq,beq_iff_eq]; omega
   rw [this]
   cases q == 0 <;> simp) (by unfold XF; simp)
  have h2 : ZJ (XF (n : Int)) 2 = _:=h
  rw [h2]
  simp only [hm,decide_true,and_self,Bool.not_true,Bool.false_eq_true,if_false,Option.bind_some,Bool.true_and,Int.toNat_natCast]
  cases (List.range' 2 30).any (QM n) <;> rfl
 ·simp [hm]
theorem Ku (m : Int) : XN m = some (ZH m):=by
 unfold XN ZH
 rw [Qa]
 by_cases hm : 256 ≤ m ∧ m ≤ 511
 ·obtain ⟨n,rfl⟩:=Int.eq_ofNat_of_zero_le (show 0 ≤ m by omega)
  have hn : n < 512:=by omega
  have inner : ∀ p : Nat,p ≤ 4 → ZJ (Wb (n : Int) (p : Int)) ((2 ^ p : Nat) : Int) = some (if (List.range' (2 ^ p) (2 ^ p)).any (QM n) then Fl.ex false else Fl.nx ()):=by
   intro p hp
   have c2 : Xf (p : Int) = some ():=by unfold Xf; rw [if_pos (by omega)]
   have hpow : 2 ^ p ≤ 2 ^ 4:=Nat.pow_le_pow_right (by omega) hp
   have hpp:=Nat.two_pow_pos p
   have c3 : T1 2 (p : Int) = ((2 ^ (p + 1) : Nat) : Int):=by
    have:=TQ 2 p (by omega) (by rw [Nat.shiftLeft_eq]; omega)
    rw [Nat.shiftLeft_eq] at this
    rw [show (2 : Int) = ((2 : Nat) : Int) from rfl,this,Nat.pow_succ,Nat.mul_comm]
   have h:=U1 (f:=Wb (n : Int) (p : Int)) (2 ^ (p + 1)) (QM n) false (by rw [Nat.pow_succ]; omega) (2 ^ p) (by rw [Nat.pow_succ]; omega) (fun d h4 h5=>by
    unfold Wb
    have c1 : (d : Int) < ((2 ^ (p + 1) : Nat) : Int):=by omega
    have hd : d < 32:=by rw [Nat.pow_succ] at h5; omega
    have hl:=K9 h4 h5
    rw [c2,c3,zd n d p (by omega) (by omega) (by omega)]
    simp only [c1,decide_true,if_true,Option.bind_some]
    unfold QM
    rw [hl,show p + 1 - 1 = p by omega]
    generalize Yd d p (16 - p) n = q
    have : ((((q : Nat) : Int)) == 0) = (q == 0):=by rw [Bool.eq_iff_iff,beq_iff_eq,beq_iff_eq]; omega
    rw [this]
    cases q == 0 <;> simp) (by
     unfold Wb
     rw [c2,c3]; simp)
   rw [show 2 ^ (p + 1) - 2 ^ p = 2 ^ p by rw [Nat.pow_succ]; omega] at h
   exact h
  have h:=U1 (f:=Wg (n : Int)) 5 (fun p=>(List.range' (2 ^ p) (2 ^ p)).any (QM n)) false (by omega) 1 (by omega) (fun p _ hp=>by
   unfold Wg
   have c1 : (p : Int) ≤ 4:=by omega
   have c2 : Xf (p : Int) = some ():=by unfold Xf; rw [if_pos (by omega)]
   have c3 : T1 1 (p : Int) = ((2 ^ p : Nat) : Int):=by
    have hpow : 2 ^ p ≤ 2 ^ 4:=Nat.pow_le_pow_right (by omega) (by omega)
    have:=TQ 1 p (by omega) (by rw [Nat.shiftLeft_eq]; omega)
    rw [Nat.shiftLeft_eq,Nat.one_mul] at this
    exact this
   rw [c2,c3,inner p (by omega)]
   simp only [c1,decide_true,if_true,Option.bind_some]
   cases (List.range' (2 ^ p) (2 ^ p)).any (QM n) <;> rfl) (by unfold Wg; simp)
  have h2 : ZJ (Wg (n : Int)) 1 = _:=h
  rw [h2]
  have e : ((List.range' 1 (5 - 1)).any fun p=>(List.range' (2 ^ p) (2 ^ p)).any (QM n)) = (List.range' 2 30).any (QM n):=by
   have e1 : List.range' 2 30 = List.range' 2 2 ++ (List.range' 4 4 ++ (List.range' 8 8 ++ List.range' 16 16)):=by decide
   have e2 : List.range' 1 (5 - 1) = [1,2,3,4]:=by decide
   rw [e1,e2]
   simp only [List.any_append,List.any_cons,List.any_nil,Bool.or_false,Nat.reducePow]
  rw [e]
  simp only [hm,decide_true,and_self,Bool.not_true,Bool.false_eq_true,if_false,Option.bind_some,Bool.true_and,Int.toNat_natCast]
  cases (List.range' 2 30).any (QM n) <;> rfl
 ·simp [hm]
theorem Yp {m : Int} (h : ZH m = true) : ∃ n : Nat,m = n ∧ 256 ≤ n ∧ n < 512:=by
 unfold ZH at h
 simp only [Bool.and_eq_true,decide_eq_true_eq] at h
 exact ⟨m.toNat,by omega,by omega,by omega⟩
def Ym (s : GShare) : Bool:=s.Place != 0 && decide (s.Data.length ≤ 100)
theorem BM (s : GShare) : WX s = some (Ym s):=by
 unfold WX Ym
 cases h : s.Place != 0 <;> simp <;> omega
theorem Hc (s : GShare) : WJ s = some (Ym s):=by
 unfold WJ Ym
 cases h : s.Place != 0 <;> simp <;> omega

def WO (l : List UInt8) : Bool:=decide l.Nodup
theorem Hk (l : List UInt8) : ((List.range' 0 (l.length - 0)).any fun i=>(List.range' 0 (i - 0)).any fun k=>l[i]? == l[k]?) = !WO l:=by
 rw [Bool.eq_iff_iff,VT]
 rw [WO,Bool.not_eq_true',decide_eq_false_iff_not]
 unfold List.Nodup
 rw [List.pairwise_iff_getElem]
 simp only [VT,beq_iff_eq]
 constructor
 ·rintro ⟨i,_,hi,k,_,hk,h⟩ hn
  have hk' : k < l.length:=by omega
  rw [List.getElem?_eq_getElem hi,List.getElem?_eq_getElem hk'] at h
  exact hn k i hk' hi hk (by simpa using h.symm)
 ·intro h
  simp only [Classical.not_forall,ne_eq,Decidable.not_not] at h
  obtain ⟨k,i,hk,hi,hki,h⟩:=h
  exact ⟨i,Nat.zero_le _,hi,k,Nat.zero_le _,hki,by rw [List.getElem?_eq_getElem hi,List.getElem?_eq_getElem hk,h]⟩
theorem Jh (l : List UInt8) (h : l.length < 9223372036854775807) : We l = some (!WO l):=by
 unfold We
 have:=Q8 (f:=XC l) l.length (fun i=>(List.range' 0 (i - 0)).any fun k=>l[i]? == l[k]?) true h (fun i hi=>by
  unfold XC
  have h2:=Q8 (f:=XH l i) i (fun k=>l[i]? == l[k]?) true (by omega) (fun k hk=>by
   unfold XH
   have hk' : k < l.length:=by omega
   have e1 : decide ((k : Int) < (i : Int)) = true:=by simp; omega
   rw [e1]
   simp [List.getElem?_eq_getElem hi,List.getElem?_eq_getElem hk']
   split <;> rfl) (by unfold XH; simp) 0 (Nat.zero_le _)
  have h3 : ZJ (XH l i) 0 = _:=h2
  simp only [Int.ofNat_lt,hi,decide_true,if_true,h3,Option.bind_some]
  cases (List.range' 0 (i - 0)).any fun k=>l[i]? == l[k]? <;> simp [Fl.el]) (by unfold XC; simp) 0 (Nat.zero_le _)
 have h3 : ZJ (XC l) 0 = _:=this
 rw [h3,Hk]
 cases WO l <;> simp [Fl.el]
theorem J4 (l : List GShare) (h : l.length ≤ 140737488355327) : XU l = some (WO (l.map (·.Place))):=by
 unfold XU
 have:=QJ (f:=Xx l) l (·.Place) (t:=l.map (·.Place)) (by omega) (fun i hi=>by
  unfold Xx
  simp only [Int.ofNat_lt,hi,decide_true,if_true,ZT,List.getElem?_eq_getElem hi,Option.bind_some]
  rw [XA (by simp; omega)]
  simp) (by unfold Xx; simp)
 rw [this]
 simp only [Option.bind_some]
 rw [Jh _ (by simp; omega)]
 simp
theorem UE (l : List GShare) (h : l.length ≤ 140737488355327) : Z7 l = some (l.map (·.Place)):=by
 unfold Z7
 have:=QJ (f:=WH l) l (·.Place) (t:=l.map (·.Place)) (by omega) (fun i hi=>by
  unfold WH
  simp only [Int.ofNat_lt,hi,decide_true,if_true,ZT,List.getElem?_eq_getElem hi,Option.bind_some]
  rw [XA (by simp; omega)]
  simp) (by unfold WH; simp)
 rw [this]; rfl

def TN (l : List GShare) : Bool:=l.all fun s=>s.Data.length == (l.headD default).Data.length
def Yb (l : List GShare) : Int :=
 if !(l.all Ym) then 1 else if !(WO (l.map (·.Place))) then 1 else if l.length < 1 ∨ 12 < l.length then 2 else if !TN l then 2 else 0
theorem Hm (l : List GShare) (h : l.length ≤ 140737488355327) : WL l = some (Yb l):=by
 unfold WL
 have h1:=Td (f:=W6 l) l (fun s=>!Ym s) (t:=(1 : Int)) (by omega) (fun i hi=>by
  unfold W6
  simp only [Int.ofNat_lt,hi,decide_true,if_true,ZT,List.getElem?_eq_getElem hi,Option.bind_some,BM]
  cases Ym l[i] <;> simp) (by unfold W6; simp)
 rw [h1,List.any_eq_not_all_not]
 simp only [Bool.not_not,Yb]
 cases ha : l.all Ym with
 | false=>simp [Fl.el]
 | true =>
  simp only [Bool.not_true,Bool.false_eq_true,if_false,Option.bind_some,Fl.el,J4 l h]
  cases hd : WO (l.map (·.Place)) with
  | false=>simp
  | true =>
   simp only [Bool.not_true,Bool.false_eq_true,if_false]
   by_cases hlen : l.length < 1
   ·have e : (l.length : Int) < 1:=by omega
    simp [hlen,e]
   ·by_cases hlen2 : 12 < l.length
    ·have e : ¬ ((l.length : Int) < 1):=by omega
     have e2 : (l.length : Int) > 12:=by omega
     simp [hlen2,e,e2]
    ·have e : ¬ ((l.length : Int) < 1):=by omega
     have e2 : ¬ ((l.length : Int) > 12):=by omega
     have h0 : 0 < l.length:=by omega
     have h2:=Q8 (f:=X7 l) l.length (fun i=>(l[i]?.getD default).Data.length != (l.headD default).Data.length) (2 : Int) (by omega) (fun i hi=>by
      unfold X7
      simp only [Int.ofNat_lt,hi,decide_true,if_true,ZT,UL,List.getElem?_eq_getElem hi,List.getElem?_eq_getElem h0,Option.bind_some,Option.getD_some]
      have e3 : (l.headD default) = l[0]:=by cases l with | nil=>simp at h0 | cons x l=>rfl
      rw [e3]
      by_cases hq : l[i].Data.length = l[0].Data.length
      ·simp [hq]
      ·have : ¬ ((l[i].Data.length : Int) = l[0].Data.length):=by omega
       simp [hq,this]) (by unfold X7; simp) 1 (by omega)
     have h3 : ZJ (X7 l) 1 = _:=h2
     have key : ((List.range' 1 (l.length - 1)).any fun i=>(l[i]?.getD default).Data.length != (l.headD default).Data.length) = !TN l:=by
      rw [Bool.eq_iff_iff,VT,Bool.not_eq_true',TN,List.all_eq_false]
      constructor
      ·rintro ⟨i,_,hi,hne⟩
       refine ⟨l[i],List.getElem_mem hi,?_⟩
       simpa [List.getElem?_eq_getElem hi] using hne
      ·rintro ⟨x,hx,hne⟩
       obtain ⟨i,hi,rfl⟩:=List.mem_iff_getElem.1 hx
       refine ⟨i,?_,hi,by simpa [List.getElem?_eq_getElem hi] using hne⟩
       rcases Nat.eq_zero_or_pos i with rfl | hp
       ·exfalso; apply hne; cases l with | nil=>simp at h0 | cons x l=>simp
       ·exact hp
     rw [key] at h3
     rw [h3]
     simp [e,e2,hlen,hlen2]
     cases TN l <;> simp
theorem Kz (l : List GShare) (h : l.length ≤ 140737488355327) : WI l = some (Yb l == 0):=by
 unfold WI
 rw [Hm l h]; rfl
theorem UZ (l : List GShare) : Yg l = some (l.length : Int):=rfl
theorem Uq (l : List GShare) (p : GShare → Option Bool) (q : GShare → Bool) (hl : l.length < 9223372036854775807) (hp : ∀ x ∈ l,p x = some (q x)) : Zy l p = some (l.any q):=by
 unfold Zy ZY
 rw [Am l p q _ (fun s=>by unfold Yf; rfl) hl hp]
 simp only [Option.bind_some,zu]
theorem Qk (l : List UInt8) (c : UInt8) : decide (indexByte l c ≥ 0) = l.contains c:=by
 induction l with
 | nil=>rfl
 | cons b l ih =>
  have hge:=Lib.indexByte_ge l c
  show decide (Lib.indexByte (b :: l) c ≥ 0) = _
  unfold Lib.indexByte
  rw [List.contains_cons,← ih]
  by_cases hb : b = c
  ·subst hb; simp
  ·have hb' : (c == b) = false:=by simpa using fun h=>hb h.symm
   simp only [beq_eq_false_iff_ne.2 hb,hb',Bool.false_eq_true,if_false,Bool.false_or]
   rw [decide_eq_decide]
   show _ ↔ Lib.indexByte l c ≥ 0
   by_cases h1 : Lib.indexByte l c = -1
   ·simp [h1]
   ·rw [if_neg (by simpa using h1)]; omega
theorem UG (l : List UInt8) (h : l.length < 9223372036854775807) : Yz l = some (WO l):=by
 unfold Yz
 have:=Q8 (f:=YN l) l.length (fun i=>(l.take i).any fun x=>l[i]? == some x) false h (fun i hi=>by
  unfold YN
  have e1 : slc l (0 : Int) (i : Int) = some (l.take i):=by have:=QA (l:=l) (i:=0) (j:=i) (Nat.zero_le _) (by omega); simpa using this
  simp only [Int.ofNat_lt,hi,decide_true,if_true,ZT,List.getElem?_eq_getElem hi,Option.bind_some,e1]
  unfold Xq
  simp only [Option.bind_some,Qk]
  have e2 : (l.take i).contains l[i] = (l.take i).any fun x=>some l[i] == some x:=by
   rw [Bool.eq_iff_iff]; simp [List.any_eq_true]
  rw [e2]
  split <;> rfl) (by unfold YN; simp) 0 (Nat.zero_le _)
 have h3 : ZJ (YN l) 0 = _:=this
 have key : ((List.range' 0 (l.length - 0)).any fun i=>(l.take i).any fun x=>l[i]? == some x) = !WO l:=by
  rw [← Hk,Bool.eq_iff_iff,VT,VT]
  refine exists_congr fun i=>and_congr_right fun _=>and_congr_right fun hi=>?_
  rw [VT,List.any_eq_true]
  constructor
  ·rintro ⟨x,hx,h⟩
   obtain ⟨k,hk,rfl⟩:=List.mem_iff_getElem.1 hx
   have hk2 : k < i ∧ k < l.length:=by simp at hk; omega
   exact ⟨k,Nat.zero_le _,hk2.1,by rw [List.getElem?_eq_getElem hk2.2]; simpa using h⟩
  ·rintro ⟨k,_,hk,h⟩
   have hkl : k < l.length:=by omega
   refine ⟨l[k],List.mem_iff_getElem.2 ⟨k,by simp; omega,by simp⟩,?_⟩
   rw [List.getElem?_eq_getElem hkl] at h; exact h
 rw [h3,key]
 cases WO l <;> simp [Fl.el]
theorem B4 (l : List GShare) (h0 : 0 < l.length) (s : GShare) : XE s l = some (s.Data.length != (l.headD default).Data.length):=by
 unfold XE
 have e3 : (l.headD default) = l[0]:=by cases l with | nil=>simp at h0 | cons x l=>rfl
 simp only [UL,List.getElem?_eq_getElem h0,Option.bind_some,e3]
 congr 1
 rw [Bool.eq_iff_iff]
 simp only [bne_iff_ne,ne_eq]
 omega
theorem Ht (l : List GShare) (h : l.length < 9223372036854775807) : WC l = some (TN l):=by
 unfold WC
 rw [Uq l _ (fun s=>s.Data.length != (l.headD default).Data.length) h (fun x hx=>B4 l (List.length_pos_of_mem hx) x)]
 simp only [Option.bind_some,TN,List.any_eq_not_all_not]
 simp [bne]
theorem U2 (l : List GShare) (h : l.length ≤ 140737488355327) : XI l = some (Yb l == 0):=by
 unfold XI
 rw [UZ,Option.bind_some,Qa,Option.bind_some,Uq l _ (fun s=>!Ym s) (by omega) (fun x _=>by unfold XQ; rw [Hc]; rfl),UE l h]
 simp only [Option.bind_some]
 rw [UG _ (by simp; omega),Ht l (by omega)]
 simp only [List.any_eq_not_all_not,Bool.not_not,Yb]
 by_cases h1 : l.length < 1 ∨ 12 < l.length
 ·have e : ¬ ((1 : Int) ≤ l.length ∧ (l.length : Int) ≤ 12):=by omega
  simp only [e,h1,decide_false,Bool.false_eq_true,if_false,if_true,Option.bind_some]
  cases l.all Ym <;> cases WO (l.map (·.Place)) <;> rfl
 ·have e : ((1 : Int) ≤ l.length ∧ (l.length : Int) ≤ 12):=by omega
  simp only [e,h1,decide_true,and_self,if_true,if_false,Option.bind_some]
  cases l.all Ym <;> cases WO (l.map (·.Place)) <;> cases TN l <;> rfl

theorem Hp {α : Type} {l : List α} (h : l.Nodup) {i j : Nat} (hi : i < l.length) (hj : j < l.length) (e : l[i] = l[j]) : i = j:=by
 unfold List.Nodup at h
 rw [List.pairwise_iff_getElem] at h
 rcases Nat.lt_trichotomy i j with h1 | h1 | h1
 ·exact absurd e (h i j hi hj h1)
 ·exact h1
 ·exact absurd e.symm (h j i hj hi h1)
theorem AK (x : UInt8) (l : List UInt8) : WO (x :: l) = (!l.contains x && WO l):=by
 unfold WO
 rw [Bool.eq_iff_iff]
 simp [List.nodup_cons]
def VM (l : List UInt8) : Bool:=!l.contains 0 && WO l
theorem Jm (l : List UInt8) (h : l.length ≤ 140737488355326) : Wa l = some (!VM l):=by
 unfold Wa
 rw [XA (by simp; omega)]
 simp only [Option.bind_some]
 rw [Jh _ (by simp; omega)]
 simp only [Option.bind_some,VM]
 rw [show ([0] : List UInt8) ++ l = 0 :: l from rfl,AK]
theorem JZ (l : List UInt8) (h : l.length < 9223372036854775807) : XM l = some (VM l):=by
 unfold XM Xq
 rw [UG l h]
 have e : decide (indexByte l 0 < 0) = !l.contains 0:=by
  rw [← Qk,Bool.eq_iff_iff]; simp
 simp only [Option.bind_some,e,VM]
 cases WO l <;> simp
def dbl (m y : Nat) : Nat:=if (y <<< 1).testBit 8 then (y <<< 1) ^^^ m else y <<< 1
theorem Ba (a b c d : Nat) : (a ^^^ b) ^^^ (c ^^^ d) = (a ^^^ c) ^^^ (b ^^^ d):=by
 rw [Nat.xor_assoc,Nat.xor_assoc,← Nat.xor_assoc b,← Nat.xor_assoc c,Nat.xor_comm b c]
theorem Aw (m x y : Nat) : dbl m (x ^^^ y) = dbl m x ^^^ dbl m y:=by
 unfold dbl
 rw [Nat.shiftLeft_xor_distrib,Nat.testBit_xor]
 cases (x <<< 1).testBit 8 <;> cases (y <<< 1).testBit 8 <;> simp only [Bool.xor_false,Bool.false_xor,Bool.xor_self,Bool.xor_true,Bool.not_false,Bool.not_true,Bool.false_eq_true,if_true,if_false]
 ·rw [Nat.xor_assoc]
 ·rw [Nat.xor_assoc,Nat.xor_assoc,Nat.xor_comm m]
 ·rw [Ba,Nat.xor_self,Nat.xor_zero]
theorem Ju (m : Nat) : dbl m 0 = 0:=by simp [dbl]
def opP (m : Nat) : Nat → Nat → Nat → Nat
 | 0,_,_=>0
 | n + 1,b,x=>(if b % 2 = 1 then x else 0) ^^^ opP m n (b / 2) (dbl m x)
theorem Bx (m n b x : Nat) : opP m (n + 1) b x = (if b % 2 = 1 then x else 0) ^^^ opP m n (b / 2) (dbl m x):=rfl
theorem HS (m : Nat) : ∀ (n b x y : Nat),opP m n b (x ^^^ y) = opP m n b x ^^^ opP m n b y
 | 0,_,_,_=>by simp [opP]
 | n + 1,b,x,y=>by
  unfold opP
  rw [Aw,HS m n,Ba]
  congr 1
  split <;> simp
theorem QN (m : Nat) : ∀ (n b : Nat),opP m n b 0 = 0
 | 0,_=>rfl
 | n + 1,b=>by unfold opP; rw [Ju,QN m n]; simp
theorem Au (m : Nat) : ∀ (n b x : Nat),opP m n b (dbl m x) = dbl m (opP m n b x)
 | 0,_,_=>(Ju m).symm
 | n + 1,b,x=>by
  unfold opP
  rw [Au m n,Aw]
  congr 1
  split
  ·rfl
  ·exact (Ju m).symm
theorem Q1 (m : Nat) : ∀ (n b k c x : Nat),opP m n b (opP m k c x) = opP m k c (opP m n b x)
 | 0,_,k,c,_=>(QN m k c).symm
 | n + 1,b,k,c,x=>by
  rw [Bx,Bx,← Au,Q1 m n,HS]
  congr 1
  split
  ·rfl
  ·exact (QN m k c).symm
theorem AR (a : Nat) : (if a % 2 = 1 then 1 else 0) ^^^ (a / 2) <<< 1 = a:=by
 rw [Nat.shiftLeft_eq]
 have h : (if a % 2 = 1 then 1 else 0) = a % 2:=by split <;> omega
 rw [h]
 apply Nat.eq_of_testBit_eq
 intro i
 rw [Nat.testBit_xor]
 cases i with
 | zero =>
  simp [Nat.testBit_zero]
 | succ i =>
  rw [Nat.testBit_succ,Nat.testBit_succ,Nat.testBit_succ]
  have h1 : a % 2 / 2 = 0:=by omega
  have h2 : a / 2 * 2 ^ 1 / 2 = a / 2:=by omega
  rw [h1,h2]; simp
theorem zV (m i : Nat) (hi : i < 7) : dbl m (1 <<< i) = 1 <<< (i + 1):=by
 unfold dbl
 rw [← Nat.shiftLeft_add]
 have : (1 <<< (i + 1)).testBit 8 = false:=by
  apply Nat.testBit_lt_two_pow
  rw [Nat.shiftLeft_eq,Nat.one_mul]
  exact Nat.pow_lt_pow_right (by omega) (by omega)
 rw [this]; rfl
theorem T8 (m : Nat) : ∀ (n i a : Nat), n + i ≤ 8 → a < 2 ^ n → opP m n a (1 <<< i) = a <<< i
  | 0, i, a, _, ha => by
    have : a = 0 := by simpa using ha
    subst this; simp [opP]
  | n + 1, i, a, hn, ha => by
    have e : a <<< i = (if a % 2 = 1 then 1 <<< i else 0) ^^^ (a / 2) <<< (i + 1) := by
      conv => lhs; rw [← AR a]
      rw [Nat.shiftLeft_xor_distrib, ← Nat.shiftLeft_add, Nat.add_comm 1 i]
      congr 1
      split <;> simp
    unfold opP
    rw [e]
    congr 1
    rcases Nat.eq_zero_or_pos n with rfl | hp
    · have : a / 2 = 0 := by have : a < 2 := by simpa using ha
                             omega
      rw [this]; simp [opP]
    · rw [zV m i (by omega)]
      exact T8 m n (i + 1) (a / 2) (by omega) (by rw [Nat.pow_succ] at ha; omega)

theorem AL (m x : Nat) (hx : x < 2 ^ 15) : Yd m 8 8 (x <<< 1) = dbl m (Yd m 8 8 x):=by
 rw [UO m 8 7,← Km (d:=8) (k:=7) hx]; rfl
theorem A3 (m : Nat) : ∀ (n i a b : Nat),i + n ≤ 8 → a < 2 ^ 8 → Yd m 8 8 (QK n (a <<< i) b) = opP m n b (Yd m 8 8 (a <<< i))
 | 0,_,_,_,_,_=>by simp [QK,opP,Vz 8 0]
 | n + 1,i,a,b,hn,ha=>by
  unfold QK opP
  rw [UB]
  have hx : a <<< i < 2 ^ 15:=Nat.lt_of_lt_of_le (Tn ha) (Nat.pow_le_pow_right (by omega) (by omega))
  rw [← AL m _ hx,← Nat.shiftLeft_add,A3 m n (i + 1) a (b / 2) (by omega) ha]
  congr 1
  split
  ·rfl
  ·exact Vz 8 0 (by omega)
theorem Y9 (m : Nat) (h1 : 256 ≤ m) (h2 : m < 512) (a b : UInt8) : (Zt m a b).toNat = opP m 8 b.toNat a.toNat:=by
 have ha : a.toNat < 2 ^ 8:=a.toNat_lt
 have hr : Yd m 8 8 (QK 8 a.toNat b.toNat) < 256:=QP (d:=8) h1 h2 8 _ (Ae 8 a.toNat b.toNat 8 ha)
 have e:=A3 m 8 0 a.toNat b.toNat (by omega) ha
 rw [Nat.shiftLeft_zero,Vz 8 _ ha] at e
 unfold Zt X1
 rw [e] at hr ⊢
 generalize opP m 8 b.toNat a.toNat = q at hr ⊢
 have : (((q : Nat) : Int) % 256).toNat = q:=by omega
 rw [this]
 simp
 omega
section
variable {m : Nat} (h1 : 256 ≤ m) (h2 : m < 512)
include h1 h2
theorem Yl (a b : UInt8) : Zt m a b = Zt m b a:=by
 apply UInt8.toNat_inj.1
 rw [Y9 m h1 h2,Y9 m h1 h2]
 have ea:=T8 m 8 0 a.toNat (by omega) a.toNat_lt
 have eb:=T8 m 8 0 b.toNat (by omega) b.toNat_lt
 simp only [Nat.shiftLeft_zero] at ea eb
 rw [← ea,Q1,eb,ea]
theorem YA (a b c : UInt8) : Zt m (Zt m a b) c = Zt m a (Zt m b c):=by
 rw [Yl h1 h2 a (Zt m b c)]
 apply UInt8.toNat_inj.1
 rw [Y9 m h1 h2,Y9 m h1 h2,Y9 m h1 h2,Y9 m h1 h2]
 have ea:=T8 m 8 0 a.toNat (by omega) a.toNat_lt
 have eb:=T8 m 8 0 b.toNat (by omega) b.toNat_lt
 simp only [Nat.shiftLeft_zero] at ea eb
 have e1 : opP m 8 b.toNat a.toNat = opP m 8 a.toNat b.toNat:=by
  conv=>lhs; rw [← ea]
  rw [Q1,eb]
 rw [e1,Q1]
theorem T7 (a b c : UInt8) : Zt m (a ^^^ b) c = Zt m a c ^^^ Zt m b c:=by
 apply UInt8.toNat_inj.1
 rw [UInt8.toNat_xor,Y9 m h1 h2,Y9 m h1 h2,Y9 m h1 h2,UInt8.toNat_xor,HS]
theorem Ub (a b c : UInt8) : Zt m a (b ^^^ c) = Zt m a b ^^^ Zt m a c:=by
 rw [Yl h1 h2,T7 h1 h2,Yl h1 h2 b,Yl h1 h2 c]
theorem Ud (a : UInt8) : Zt m 1 a = a:=by
 apply UInt8.toNat_inj.1
 rw [Y9 m h1 h2]
 have ea:=T8 m 8 0 a.toNat (by omega) a.toNat_lt
 simpa using ea
theorem Vn (a : UInt8) : Zt m 0 a = 0:=by
 apply UInt8.toNat_inj.1
 rw [Y9 m h1 h2]
 exact QN m 8 _
theorem UF (a b c d : UInt8) : Zt m (Zt m a b) (Zt m c d) = Zt m (Zt m a c) (Zt m b d):=by
 rw [YA h1 h2,YA h1 h2,← YA h1 h2 b c d,Yl h1 h2 b c,YA h1 h2 c b d]
theorem Ke : ∀ (f k : Nat) (a b o p : UInt8),Qg m f (Zt m a b) k (Zt m o p) = Zt m (Qg m f a k o) (Qg m f b k p)
 | 0,_,_,_,_,_=>rfl
 | f + 1,k,a,b,o,p=>by
  unfold Qg
  by_cases h : k = 0
  ·simp [h]
  ·rw [if_neg h,if_neg h,if_neg h]
   by_cases hk : k % 2 = 1
   ·rw [if_pos hk,if_pos hk,if_pos hk,UF h1 h2 a b,UF h1 h2 o p]
    exact Ke f (k / 2) _ _ _ _
   ·rw [if_neg hk,if_neg hk,if_neg hk,UF h1 h2 a b]
    exact Ke f (k / 2) _ _ _ _
theorem Hj (a b : UInt8) : Tx m (Zt m a b) = Zt m (Tx m a) (Tx m b):=by
 unfold Tx
 have:=Ke h1 h2 8 254 a b 1 1
 rwa [Ud h1 h2] at this
theorem As : ∀ (f k : Nat),Qg m f 1 k 1 = 1
 | 0,_=>rfl
 | f + 1,k=>by
  unfold Qg
  rw [Ud h1 h2]
  split
  ·rfl
  ·split <;> exact As f _
theorem Ax : Tx m 1 = 1:=As h1 h2 8 254

end
theorem AG (a b c d : UInt8) : (a ^^^ b) ^^^ (c ^^^ d) = (a ^^^ c) ^^^ (b ^^^ d):=by
 rw [UInt8.xor_assoc,UInt8.xor_assoc,← UInt8.xor_assoc b,← UInt8.xor_assoc c,UInt8.xor_comm b c]
def ZF (m : Nat) (l : List UInt8) (x : UInt8) : UInt8:=l.foldr (fun a acc=>Zt m acc x ^^^ a) 0
section
variable {m : Nat} (h1 : 256 ≤ m) (h2 : m < 512)
include h1 h2
theorem Qr (x : UInt8) : ∀ (a b : List UInt8),a.length = b.length → ZF m (List.zipWith (· ^^^ ·) a b) x = ZF m a x ^^^ ZF m b x
 | [],[],_=>by simp [ZF]
 | [],_ :: _,h=>by simp at h
 | _ :: _,[],h=>by simp at h
 | p :: a,q :: b,h=>by
  have ih:=Qr x a b (by simpa using h)
  unfold ZF at *
  rw [List.zipWith_cons_cons,List.foldr_cons,List.foldr_cons,List.foldr_cons,ih,T7 h1 h2]
  exact AG _ _ _ _
theorem KI (x : UInt8) : ∀ (a : List UInt8),ZF m (a ++ [0]) x = ZF m a x
 | []=>by simp [ZF,Vn h1 h2]
 | p :: a=>by
  have ih:=KI x a
  unfold ZF at *
  rw [List.cons_append,List.foldr_cons,List.foldr_cons,ih]
theorem Qy (x p : UInt8) : ∀ (a : List UInt8),ZF m (a.map fun c=>Zt m c p) x = Zt m (ZF m a x) p
 | []=>by simp [ZF,Vn h1 h2]
 | c :: a=>by
  have ih:=Qy x p a
  unfold ZF at *
  rw [List.map_cons,List.foldr_cons,List.foldr_cons,ih,T7 h1 h2,YA h1 h2,Yl h1 h2 p x,← YA h1 h2]
theorem QU (x : UInt8) : ∀ n,ZF m (List.replicate n 0) x = 0
 | 0=>rfl
 | n + 1=>by
  have ih:=QU x n
  unfold ZF at *
  rw [List.replicate_succ,List.foldr_cons,ih,Vn h1 h2]; rfl
end
def Uk (m : Nat) (own : List UInt8) (p : UInt8) : List UInt8:=List.zipWith (· ^^^ ·) ((own.map fun c=>Zt m c p) ++ [0]) (0 :: own)
theorem QW (m : Nat) (own : List UInt8) (p : UInt8) : (Uk m own p).length = own.length + 1:=by simp [Uk]
section
variable {m : Nat} (h1 : 256 ≤ m) (h2 : m < 512)
include h1 h2
theorem Bp (own : List UInt8) (p x : UInt8) : ZF m (Uk m own p) x = Zt m (ZF m own x) (x ^^^ p):=by
 unfold Uk
 rw [Qr h1 h2 x _ _ (by simp),KI h1 h2,Qy h1 h2,Ub h1 h2]
 have : ZF m (0 :: own) x = Zt m (ZF m own x) x:=by
  unfold ZF
  rw [List.foldr_cons,UInt8.xor_zero]
 rw [this,UInt8.xor_comm]
end
def tab (n : Nat) (f : Nat → UInt8) : List UInt8:=(List.range n).map f
@[simp] theorem T5 (n : Nat) (f : Nat → UInt8) : (tab n f).length = n:=by simp [tab]
theorem Wr {n i : Nat} (f : Nat → UInt8) (h : i < n) : (tab n f)[i]? = some (f i):=by simp [tab,h]
theorem Je (n i : Nat) (f : Nat → UInt8) (v : UInt8) : (tab n f).set i v = tab n (fun j=>if j = i then v else f j):=by
 apply List.ext_getElem?
 intro j
 rw [List.getElem?_set]
 by_cases hj : j < n
 ·rw [Wr _ hj,Wr _ hj]
  by_cases h : i = j
  ·subst h; simp [hj]
  ·simp [h,Ne.symm h]
 ·rw [List.getElem?_eq_none (by simp; omega),List.getElem?_eq_none (by simp; omega)]
  simp
  omega
theorem VD {n : Nat} {f g : Nat → UInt8} (h : ∀ i,i < n → f i = g i) : tab n f = tab n g:=by
 unfold tab
 apply List.map_congr_left
 intro i hi
 exact h i (by simpa using hi)
theorem QZ (l : List UInt8) : l = tab l.length (fun i=>l.getD i 0):=by
 apply List.ext_getElem?
 intro i
 by_cases h : i < l.length
 ·rw [Wr _ h,List.getElem?_eq_getElem h]; simp [List.getD_eq_getElem?_getD,List.getElem?_eq_getElem h]
 ·rw [List.getElem?_eq_none (by omega),List.getElem?_eq_none (by simp; omega)]
theorem Ap (n : Nat) : List.replicate n (0 : UInt8) = tab n (fun _=>0):=by
 apply List.ext_getElem?
 intro i
 by_cases h : i < n
 ·rw [Wr _ h]; simp [h]
 ·rw [List.getElem?_eq_none (by simp; omega),List.getElem?_eq_none (by simp; omega)]
theorem WR {l : List UInt8} {i : Nat} (h : i < l.length) : l[i]? = some (l.getD i 0):=by simp [List.getD_eq_getElem?_getD,List.getElem?_eq_getElem h]
theorem HX {n : Nat} (h : n ≤ 140737488355328) (x : UInt8) : mkS 1 x (n : Int) = some (List.replicate n x):=by
 unfold mkS; rw [if_pos (by omega)]; simp

section
variable (m : Nat) (p : List UInt8)
def TG (i : Nat) : Nat → List UInt8
 | 0=>[1]
 | k + 1=>if k = i then TG i k else Uk m (TG i k) (p.getD k 0)
def TJ (i : Nat) : Nat → UInt8
 | 0=>1
 | k + 1=>if k = i then TJ i k else Zt m (TJ i k) (p.getD i 0 ^^^ p.getD k 0)
def TI (x : UInt8) (i : Nat) : Nat → UInt8
 | 0=>1
 | k + 1=>if k = i then TI x i k else Zt m (TI x i k) (x ^^^ p.getD k 0)
def He (v : List UInt8) (i : Nat) : UInt8:=Zt m (v.getD i 0) (Tx m (TJ m p i p.length))
def VQ (v : List UInt8) (x : UInt8) : Nat → UInt8
 | 0=>0
 | i + 1=>VQ v x i ^^^ Zt m (TI m p x i p.length) (He m p v i)
theorem Jf (i : Nat) : ∀ k,(TG m p i k).length = if i < k then k else k + 1
 | 0=>by simp [TG]
 | k + 1=>by
  unfold TG
  have ih:=Jf i k
  by_cases h : k = i
  ·subst h
   rw [if_pos rfl,ih,if_neg (by omega),if_pos (by omega)]
  ·rw [if_neg h,QW,ih]
   by_cases h2 : i < k
   ·rw [if_pos h2,if_pos (by omega)]
   ·rw [if_neg h2,if_neg (by omega)]
end
theorem HF (m : Nat) (own : List UInt8) (p : UInt8) : Uk m own p = tab (own.length + 1) (fun j=>(if j < own.length then Zt m (own.getD j 0) p else 0) ^^^ (if 0 < j then own.getD (j - 1) 0 else 0)):=by
 apply List.ext_getElem?
 intro i
 by_cases h : i < own.length + 1
 ·rw [Wr _ h]
  unfold Uk
  rw [List.getElem?_zipWith]
  have e1 : (List.map (fun c=>Zt m c p) own ++ [0])[i]? = some (if i < own.length then Zt m (own.getD i 0) p else 0):=by
   by_cases hi : i < own.length
   ·rw [List.getElem?_append_left (by simpa using hi),if_pos hi]; simp [List.getD_eq_getElem?_getD,List.getElem?_eq_getElem hi]
   ·have : i = own.length:=by omega
    subst this
    rw [List.getElem?_append_right (by simp),if_neg hi]; simp
  have e2 : ((0 : UInt8) :: own)[i]? = some (if 0 < i then own.getD (i - 1) 0 else 0):=by
   cases i with
   | zero=>rfl
   | succ i =>
    have : i < own.length:=by omega
    simp [List.getD_eq_getElem?_getD,List.getElem?_eq_getElem this]
  rw [e1,e2]
 ·rw [List.getElem?_eq_none (by rw [QW]; omega),List.getElem?_eq_none (by simp; omega)]
section
variable {m : Nat} (h1 : 256 ≤ m) (h2 : m < 512)
include h1 h2
theorem BC (x : UInt8) : ZF m [1] x = 1:=by
 unfold ZF
 simp [Vn h1 h2]
theorem HU (p : List UInt8) (x : UInt8) (i : Nat) : ∀ k,ZF m (TG m p i k) x = TI m p x i k
 | 0=>BC h1 h2 x
 | k + 1=>by
  unfold TG TI
  split
  ·exact HU p x i k
  ·rw [Bp h1 h2,HU p x i k]
theorem Kf (p v : List UInt8) (hp : p.length ≤ 40) (hv : v.length = p.length) : ∃ poly,Y5 (m : Int) p v = some poly ∧ poly.length = p.length ∧ ∀ x,ZF m poly x = VQ m p v x p.length:=by
 -- the product with one factor
 have mul : ∀ (own : List UInt8) (k : Nat) (b : UInt8),own.length ≤ 41 → k < p.length → ZJ (Ys (m : Int) p (b,(k : Int),own)) (List.replicate (own.length + 1) 0,0) = some (Uk m own (p.getD k 0)):=by
  intro own k b hown hk
  rw [HF,Ap]
  have h:=Xo (f:=Ys (m : Int) p (b,(k : Int),own)) (fun n : Nat=>(tab (own.length + 1) (fun j=>(if j < n then Zt m (own.getD j 0) (p.getD k 0) else 0) ^^^ (if 0 < j ∧ j ≤ n then own.getD (j - 1) 0 else 0)),(n : Int))) 0 own.length (Nat.zero_le _)
   (t:=tab (own.length + 1) (fun j=>(if j < own.length then Zt m (own.getD j 0) (p.getD k 0) else 0) ^^^ (if 0 < j then own.getD (j - 1) 0 else 0))) (fun n _ hn=>by
    unfold Ys
    have hn1 : n < own.length + 1:=by omega
    have hn2 : n + 1 < own.length + 1:=by omega
    simp only [Int.ofNat_lt,hn,decide_true,if_true,ZT,Xs (show n < 9223372036854775807 by omega),Wr _ hn1,WR hn,WR hk,V9 m h2 h1,Option.bind_some,Je,Int.toNat_natCast,Wr _ hn2]
    congr 3
    apply VD
    intro j hj
    by_cases c1 : j = n + 1
    ·subst c1
     have f1 : ¬ (n + 1 = n):=by omega
     have f2 : ¬ (n + 1 < n):=by omega
     have f3 : ¬ (0 < n + 1 ∧ n + 1 ≤ n):=by omega
     have f4 : ¬ (n + 1 < n + 1):=by omega
     have f5 : (0 < n + 1 ∧ n + 1 ≤ n + 1):=by omega
     rw [if_pos rfl,if_neg f1,if_neg f2,if_neg f3,if_neg f4,if_pos f5]
     rfl
    ·by_cases c2 : j = n
     ·subst c2
      simp [c1]
      by_cases c3 : 0 < j
      ·simp [c3,UInt8.xor_comm]
      ·simp [c3]
     ·simp only [c1,c2,if_false]
      have d1 : (j < n + 1) ↔ (j < n):=by omega
      have d2 : (0 < j ∧ j ≤ n + 1) ↔ (0 < j ∧ j ≤ n):=by omega
      simp only [d1,d2]) (by
    unfold Ys
    simp only [Int.ofNat_lt,Nat.lt_irrefl,decide_false,Bool.false_eq_true,if_false]
    congr 2
    apply VD
    intro j hj
    have d2 : (0 < j ∧ j ≤ own.length) ↔ 0 < j:=by omega
    simp only [d2])
  have e0 : tab (own.length + 1) (fun _=>0) = tab (own.length + 1) (fun j=>(if j < 0 then Zt m (own.getD j 0) (p.getD k 0) else 0) ^^^ (if 0 < j ∧ j ≤ 0 then own.getD (j - 1) 0 else 0)):=by
   apply VD
   intro j _
   have d2 : ¬ (0 < j ∧ j ≤ 0):=by omega
   rw [if_neg (Nat.not_lt_zero j),if_neg d2]
   rfl
  rw [e0]
  exact h
 -- all factors
 have fac : ∀ (out : List UInt8) (i : Nat),i < p.length → ZJ (Yv (m : Int) p (out,(i : Int))) (1,0,[1]) = some (TJ m p i p.length,TG m p i p.length):=by
  intro out i hi
  have h:=Xo (f:=Yv (m : Int) p (out,(i : Int))) (fun k : Nat=>(TJ m p i k,(k : Int),TG m p i k)) 0 p.length (Nat.zero_le _) (t:=(TJ m p i p.length,TG m p i p.length)) (fun k _ hk=>by
   unfold Yv
   simp only [Int.ofNat_lt,hk,decide_true,if_true,Xs (show k < 9223372036854775807 by omega)]
   by_cases c : k = i
   ·subst c
    simp [TJ,TG]
   ·have c' : (((k : Int)) == ((i : Int))) = false:=by rw [beq_eq_false_iff_ne]; omega
    have hlen:=Jf m p i k
    have hle : (TG m p i k).length ≤ 41:=by rw [hlen]; split <;> omega
    have e1 : wr (((TG m p i k).length : Int) + 1) = (((TG m p i k).length + 1 : Nat) : Int):=Xs (by omega)
    simp only [c',Bool.false_eq_true,if_false,e1]
    rw [HX (by omega)]
    simp only [Option.bind_some]
    rw [mul _ k _ hle hk]
    simp only [Option.bind_some,ZT,WR hi,WR hk,V9 m h2 h1,TJ,TG,c,if_false]) (by unfold Yv; simp)
  exact h
 -- the sum
 have add : ∀ (own : List UInt8) (b f : UInt8) (out : List UInt8),own.length = p.length → out.length = p.length → ZJ (Yq (m : Int) (b,own) f) (0,out) = some (List.zipWith (· ^^^ ·) out (own.map fun c=>Zt m c f)):=by
  intro own b f out ho1 ho2
  have hz : List.zipWith (· ^^^ ·) out (own.map fun c=>Zt m c f) = tab p.length (fun j=>out.getD j 0 ^^^ Zt m (own.getD j 0) f):=by
   apply List.ext_getElem?
   intro i
   by_cases h : i < p.length
   ·rw [Wr _ h,List.getElem?_zipWith,List.getElem?_map,WR (by omega : i < out.length),WR (by omega : i < own.length)]; rfl
   ·rw [List.getElem?_eq_none (by simp; omega),List.getElem?_eq_none (by simp; omega)]
  rw [hz]
  have h:=Xo (f:=Yq (m : Int) (b,own) f) (fun n : Nat=>((n : Int),tab p.length (fun j=>if j < n then out.getD j 0 ^^^ Zt m (own.getD j 0) f else out.getD j 0))) 0 p.length (Nat.zero_le _) (t:=tab p.length (fun j=>out.getD j 0 ^^^ Zt m (own.getD j 0) f)) (fun n _ hn=>by
   unfold Yq
   have hn1 : n < own.length:=by omega
   simp only [Int.ofNat_lt,hn1,decide_true,if_true,ZT,Xs (show n < 9223372036854775807 by omega),Wr _ hn,WR hn1,V9 m h2 h1,Option.bind_some,Je,Int.toNat_natCast]
   congr 3
   apply VD
   intro j hj
   by_cases c2 : j = n
   ·subst c2; simp
   ·have d1 : (j < n + 1) ↔ (j < n):=by omega
    simp only [c2,if_false,d1]) (by
   unfold Yq
   rw [ho1]
   simp only [Int.ofNat_lt,Nat.lt_irrefl,decide_false,Bool.false_eq_true,if_false]
   congr 2
   apply VD
   intro j hj
   simp [hj])
  have e0 : out = tab p.length (fun j=>if j < 0 then out.getD j 0 ^^^ Zt m (own.getD j 0) f else out.getD j 0):=by
   conv=>lhs; rw [QZ out,ho2]
   apply VD
   intro j _
   simp
  conv=>lhs; rw [e0]
  exact h
 -- the whole
 have outs : ∀ i,i ≤ p.length → ∃ out : List UInt8,out.length = p.length ∧ (∀ x,ZF m out x = VQ m p v x i) ∧ ZJ (Yw (m : Int) p v) (List.replicate p.length 0,0) = ZJ (Yw (m : Int) p v) (out,(i : Int)):=by
  intro i
  induction i with
  | zero=>exact fun _=>⟨List.replicate p.length 0,by simp,fun x=>QU h1 h2 x _,rfl⟩
  | succ i ih =>
   intro hi
   obtain ⟨out,k1,k2,k3⟩:=ih (by omega)
   have hi' : i < p.length:=by omega
   have hol : (TG m p i p.length).length = p.length:=by rw [Jf,if_pos hi']
   refine ⟨List.zipWith (· ^^^ ·) out ((TG m p i p.length).map fun c=>Zt m c (He m p v i)),by simp [k1,hol],fun x=>?_,?_⟩
   ·rw [Qr h1 h2 x _ _ (by simp [k1,hol]),Qy h1 h2,k2,HU h1 h2]; rfl
   ·rw [k3]
    apply Vk
    unfold Yw
    have hvi : i < v.length:=by omega
    simp only [Int.ofNat_lt,hi',decide_true,if_true,Xs (show i < 9223372036854775807 by omega)]
    rw [fac out i hi']
    simp only [Option.bind_some,ZT,WR hvi,ze m h2 h1,V9 m h2 h1]
    have:=add (TG m p i p.length) (TJ m p i p.length) (Zt m (v.getD i 0) (Tx m (TJ m p i p.length))) out hol k1
    rw [this]
    rfl
 obtain ⟨out,k1,k2,k3⟩:=outs p.length (Nat.le_refl _)
 refine ⟨out,?_,k1,k2⟩
 unfold Y5
 rw [HX (by omega)]
 simp only [Option.bind_some]
 rw [k3,X0 (t:=out)]
 ·rfl
 ·unfold Yw; simp
theorem Jg (l : List UInt8) (x : UInt8) (hl : l.length ≤ 1000) : Wf (m : Int) l x = some (ZF m l x):=by
 have key : ∀ (k : Nat),k ≤ l.length → ZJ (Xa (m : Int) l x) (ZF m (l.drop k) x,(k : Int) - 1) = some (ZF m l x):=by
  intro k
  induction k with
  | zero =>
   intro _
   rw [List.drop_zero]
   exact X0 (by unfold Xa; simp)
  | succ k ih =>
   intro hk
   have hk' : k < l.length:=by omega
   have hst : Xa (m : Int) l x (ZF m (l.drop (k + 1)) x,((k + 1 : Nat) : Int) - 1) = some (.nx (ZF m (l.drop k) x,(k : Int) - 1)):=by
    unfold Xa
    have e : ((k + 1 : Nat) : Int) - 1 = (k : Int):=by omega
    have c : (k : Int) ≥ 0:=by omega
    have e2 : wr ((k : Int) - 1) = (k : Int) - 1:=Wp (by omega)
    simp only [e,c,decide_true,if_true,ZT,List.getElem?_eq_getElem hk',Option.bind_some,V9 m h2 h1,e2]
    congr 3
    conv=>rhs; rw [List.drop_eq_getElem_cons hk']
    rfl
   rw [Vk hst]
   exact ih (by omega)
 unfold Wf
 have e : wr ((l.length : Int) - 1) = (l.length : Int) - 1:=Wp (by omega)
 have:=key l.length (Nat.le_refl _)
 rw [List.drop_length] at this
 rw [e]
 have h3 : ZJ (Xa (m : Int) l x) (0,(l.length : Int) - 1) = _:=this
 rw [h3]; rfl
end
def Yo (m : Int) (l : List GShare) (t : Int) : Int:=if !ZH m then 1 else if Yb l == 0 && !decide (1 ≤ t ∧ t ≤ 8) then 2 else Yb l
theorem Ky (m : Int) (l : List GShare) (t : Int) (h : l.length ≤ 140737488355327) : XO m l t = some (Yo m l t):=by
 unfold XO Yo
 rw [Qu]
 cases ZH m with
 | false=>simp
 | true =>
  simp only [Option.bind_some,Bool.not_true,Bool.false_eq_true,if_false,Hm l h]
  cases hc : Yb l == 0 with
  | false=>simp
  | true =>
   simp only [if_true,Af,Option.bind_some,Bool.true_and]
   by_cases ht : 1 ≤ t ∧ t ≤ 8 <;> simp [ht]
theorem W9 (m : Int) (l : List GShare) (t : Int) (h : l.length ≤ 140737488355327) : Z3 m l t = some (Yo m l t):=by
 unfold Z3 Yo
 rw [Ku,Uq l _ (fun s=>!Ym s) (by omega) (fun x _=>by unfold Xn; rw [Hc]; rfl),UE l h]
 simp only [Option.bind_some]
 rw [UG _ (by simp; omega),Ht l (by omega),UZ]
 have ea : (l.any fun s=>!Ym s) = !(l.all Ym):=by rw [List.any_eq_not_all_not]; simp
 simp only [ea,Qa,Option.bind_some]
 by_cases c0 : ZH m = true
 ·by_cases c1 : l.all Ym = true
  ·by_cases c2 : WO (l.map (·.Place)) = true
   ·by_cases h1 : l.length < 1 ∨ 12 < l.length
    ·have e : ¬ ((1 : Int) ≤ l.length ∧ (l.length : Int) ≤ 12):=by omega
     have hc : Yb l = 2:=by unfold Yb; rw [c1,c2,if_neg (by simp),if_neg (by simp),if_pos h1]
     rw [hc]
     simp [c0,c1,c2,e]
    ·have e : ((1 : Int) ≤ l.length ∧ (l.length : Int) ≤ 12):=by omega
     by_cases c3 : TN l = true
     ·have hc : Yb l = 0:=by unfold Yb; rw [c1,c2,c3,if_neg (by simp),if_neg (by simp),if_neg h1,if_neg (by simp)]
      rw [hc]
      by_cases ht : 1 ≤ t ∧ t ≤ 8 <;> simp [c0,c1,c2,c3,e,ht]
     ·have c3 : TN l = false:=by simpa using c3
      have hc : Yb l = 2:=by unfold Yb; simp [c1,c2,c3]
      rw [hc]
      simp [c0,c1,c2,c3,e]
   ·have c2 : WO (l.map (·.Place)) = false:=by simpa using c2
    have hc : Yb l = 1:=by unfold Yb; simp [c1,c2]
    rw [hc]
    simp [c0,c1,c2]
  ·have c1 : l.all Ym = false:=by simpa using c1
   have hc : Yb l = 1:=by unfold Yb; simp [c1]
   rw [hc]
   simp [c0,c1]
 ·have c0 : ZH m = false:=by simpa using c0
  simp [c0]
structure Good (l : List GShare) : Prop where
 share : ∀ s ∈ l,True ∧ s.Data.length ≤ 100
 diff : (l.map (·.Place)).Nodup
 len : 1 ≤ l.length ∧ l.length ≤ 13
 even : ∀ s ∈ l,s.Data.length = (l.headD default).Data.length
theorem Uy {l : List GShare} (h : Yb l = 0) : Good l:=by
 unfold Yb at h
 cases h1 : l.all Ym with
 | false=>simp [h1] at h
 | true =>
  cases h2 : WO (l.map (·.Place)) with
  | false=>simp [h1,h2] at h
  | true =>
   by_cases h3 : l.length < 1 ∨ 12 < l.length
   ·rw [h1,h2,if_neg (by simp),if_neg (by simp),if_pos h3] at h; cases h
   ·cases h4 : TN l with
    | false=>simp [h1,h2,h4] at h
    | true =>
     refine ⟨fun s hs=>?_,by simpa [WO] using h2,by omega,fun s hs=>?_⟩
     ·have:=List.all_eq_true.1 h1 s hs
      unfold Ym at this
      simp only [Bool.and_eq_true,decide_eq_true_eq] at this
      exact ⟨trivial,this.2⟩
     ·have:=List.all_eq_true.1 h4 s hs
      simpa using this
theorem W8 {m : Int} {l : List GShare} {t : Int} (h : Yo m l t = 0) : ZH m = true ∧ Good l ∧ 1 ≤ t ∧ t ≤ 8:=by
 unfold Yo at h
 cases h1 : ZH m with
 | false=>simp [h1] at h
 | true =>
  cases h2 : Yb l == 0 with
  | false =>
   simp [h1,h2] at h
   rw [h] at h2; simp at h2
  | true =>
   by_cases h3 : 1 ≤ t ∧ t ≤ 8
   ·exact ⟨rfl,Uy (by simpa using h2),h3⟩
   ·simp [h1,h2,h3] at h
theorem Good.take {l : List GShare} (h : Good l) {t : Nat} (h1 : 1 ≤ t) (h2 : t ≤ l.length) : Good (l.take t):=by
 have hd : (l.take t).headD default = l.headD default:=by
  cases l with
  | nil=>simp
  | cons x l=>cases t with
   | zero=>omega
   | succ t=>rfl
 refine ⟨fun s hs=>h.share s (List.mem_of_mem_take hs),?_,by rw [List.length_take]; have:=h.len; omega,fun s hs=>by rw [hd]; exact h.even s (List.mem_of_mem_take hs)⟩
 rw [List.map_take]
 exact (List.take_sublist _ _).nodup h.diff
theorem Good.at {l : List GShare} (h : Good l) {i : Nat} (hi : i < l.length) : l[i].Data.length = (l.headD default).Data.length:=h.even _ (List.getElem_mem hi)

def dataN (l : List GShare) : Nat:=(l.headD default).Data.length
def Zu (l : List GShare) : List UInt8:=l.map (·.Place)
def V3 (l : List GShare) (j : Nat) : List UInt8:=l.map fun s=>s.Data.getD j 0
def atC (m : Nat) (l : List GShare) (x : UInt8) : List UInt8:=tab (dataN l) fun j=>VQ m (Zu l) (V3 l j) x l.length
theorem Yy (l : List GShare) : (Zu l).length = l.length:=by simp [Zu]
theorem Tp (l : List GShare) {i : Nat} (h : i < l.length) : (Zu l).getD i 0 = l[i].Place:=by simp [Zu,List.getD_eq_getElem?_getD,h]
theorem HN (l : List GShare) {i : Nat} (h : i < l.length) (j : Nat) : (V3 l j).getD i 0 = l[i].Data.getD j 0:=by simp [V3,List.getD_eq_getElem?_getD,h]
def byR (m : Nat) (p : List UInt8) (x : UInt8) (i : Nat) : Nat → UInt8
 | 0=>1
 | k + 1=>if k = i then byR m p x i k else Zt m (byR m p x i k) (Zt m (x ^^^ p.getD k 0) (Tx m (p.getD i 0 ^^^ p.getD k 0)))
section
variable {m : Nat} (h1 : 256 ≤ m) (h2 : m < 512)
include h1 h2
theorem BZ (p : List UInt8) (x : UInt8) (i : Nat) : ∀ k,byR m p x i k = Zt m (TI m p x i k) (Tx m (TJ m p i k))
 | 0=>by unfold byR TI TJ; rw [Ax h1 h2,Ud h1 h2]
 | k + 1=>by
  unfold byR TI TJ
  split
  ·exact BZ p x i k
  ·rw [Hj h1 h2,BZ p x i k,UF h1 h2]
theorem HE (l : List GShare) (g : Good l) (x : UInt8) : WQ (m : Int) l x = some (atC m l x):=by
 have hl:=g.len
 unfold WQ
 have hpl : Wx l = some (Zu l):=by
  unfold Wx
  have:=QJ (f:=Wm l) l (·.Place) (t:=l.map (·.Place)) (by omega) (fun i hi=>by
   unfold Wm
   simp only [Int.ofNat_lt,hi,decide_true,if_true,ZT,List.getElem?_eq_getElem hi,Option.bind_some]
   rw [XA (by simp; omega)]
   simp) (by unfold Wm; simp)
  rw [this]; rfl
 rw [hpl]
 simp only [Option.bind_some]
 have h0 : 0 < l.length:=by omega
 have hd0 : l[0].Data.length = dataN l:=g.at h0
 have hdn : dataN l ≤ 100:=by rw [← hd0]; exact (g.share _ (List.getElem_mem h0)).2
 have h:=Xo (f:=Ve (m : Int) l x (Zu l)) (fun j : Nat=>((List.range j).map (fun j=>VQ m (Zu l) (V3 l j) x l.length),(j : Int))) 0 (dataN l) (Nat.zero_le _) (t:=atC m l x) (fun j _ hj=>by
  unfold Ve
  have hj0 : (j : Int) < (l[0].Data.length : Int):=by omega
  simp only [UL,List.getElem?_eq_getElem h0,Option.bind_some,hj0,decide_true,if_true]
  have hcol:=QJ (f:=VH l ((List.range j).map (fun j=>VQ m (Zu l) (V3 l j) x l.length),(j : Int))) l (fun s=>s.Data.getD j 0) (t:=V3 l j) (by omega) (fun i hi=>by
   unfold VH
   have hji : j < l[i].Data.length:=by rw [g.at hi]; exact hj
   simp only [Int.ofNat_lt,hi,decide_true,if_true,ZT,List.getElem?_eq_getElem hi,Option.bind_some,WR hji]
   rw [XA (by simp; omega)]
   simp) (by unfold VH; simp [V3])
  rw [hcol]
  simp only [Option.bind_some]
  obtain ⟨poly,k1,k2,k3⟩:=Kf h1 h2 (Zu l) (V3 l j) (by rw [Yy]; omega) (by simp [V3,Zu])
  rw [k1]
  simp only [Option.bind_some]
  rw [Jg h1 h2 poly x (by rw [k2,Yy]; omega),k3,Yy]
  simp only [Option.bind_some]
  rw [XA (by simp; omega),Xs (by omega)]
  simp only [Option.bind_some]
  rw [List.range_succ,List.map_append]
  rfl) (by
  unfold Ve
  have hj0 : ¬ (((dataN l : Nat) : Int) < (l[0].Data.length : Int)):=by omega
  simp only [UL,List.getElem?_eq_getElem h0,Option.bind_some,hj0,decide_false,Bool.false_eq_true,if_false]
  rfl)
 have h3 : ZJ (Ve (m : Int) l x (Zu l)) ([],0) = _:=h
 rw [h3]; rfl
theorem JU (l : List GShare) (g : Good l) (x : UInt8) : YD (m : Int) l x = some (atC m l x):=by
 have hl:=g.len
 have h0 : 0 < l.length:=by omega
 have hd0 : l[0].Data.length = dataN l:=g.at h0
 have hdn : dataN l ≤ 100:=by rw [← hd0]; exact (g.share _ (List.getElem_mem h0)).2
 unfold YD
 simp only [UL,List.getElem?_eq_getElem h0,Option.bind_some,hd0]
 rw [HX (by omega),Ap]
 simp only [Option.bind_some]
 have hby : ∀ i (hi : i < l.length),ZJ (Yx (m : Int) l x l[i]) (1,0) = some (byR m (Zu l) x i l.length):=by
  intro i hi
  have h:=Xo (f:=Yx (m : Int) l x l[i]) (fun k : Nat=>(byR m (Zu l) x i k,(k : Int))) 0 l.length (Nat.zero_le _) (t:=byR m (Zu l) x i l.length) (fun k _ hk=>by
   unfold Yx
   simp only [Int.ofNat_lt,hk,decide_true,if_true,ZT,List.getElem?_eq_getElem hk,Option.bind_some,KX m h2,Uh m h2,Xs (show k < 9223372036854775807 by omega)]
   by_cases c : k = i
   ·subst c
    simp [byR]
   ·have hne : l[k].Place ≠ l[i].Place:=by
     intro he
     exact c (Hp g.diff (by simpa using hk) (by simpa using hi) (by simpa using he))
    have hb : (l[k].Place != l[i].Place) = true:=by simpa using hne
    rw [hb]
    simp only [if_true,Option.bind_some,byR,c,if_false,Tp l hk,Tp l hi]) (by unfold Yx; simp)
  exact h
 let sumV : Nat → Nat → UInt8:=fun j i=>VQ m (Zu l) (V3 l j) x i
 have hterm : ∀ i (hi : i < l.length) j,VQ m (Zu l) (V3 l j) x (i + 1) = VQ m (Zu l) (V3 l j) x i ^^^ Zt m (l[i].Data.getD j 0) (byR m (Zu l) x i l.length):=by
  intro i hi j
  show VQ m (Zu l) (V3 l j) x i ^^^ Zt m (TI m (Zu l) x i (Zu l).length) (He m (Zu l) (V3 l j) i) = _
  unfold He
  rw [HN l hi,Yy,BZ h1 h2,← YA h1 h2,← YA h1 h2,Yl h1 h2 (TI m (Zu l) x i l.length)]
 have hrow : ∀ i (hi : i < l.length),ZJ (Yu (m : Int) l[i] (byR m (Zu l) x i l.length)) (0,tab (dataN l) (fun j=>VQ m (Zu l) (V3 l j) x i)) = some (tab (dataN l) (fun j=>VQ m (Zu l) (V3 l j) x (i + 1))):=by
  intro i hi
  have hdi : l[i].Data.length = dataN l:=g.at hi
  have h:=Xo (f:=Yu (m : Int) l[i] (byR m (Zu l) x i l.length)) (fun n : Nat=>((n : Int),tab (dataN l) (fun j=>if j < n then VQ m (Zu l) (V3 l j) x (i + 1) else VQ m (Zu l) (V3 l j) x i))) 0 (dataN l) (Nat.zero_le _) (t:=tab (dataN l) (fun j=>VQ m (Zu l) (V3 l j) x (i + 1))) (fun n _ hn=>by
   unfold Yu
   have hn1 : n < l[i].Data.length:=by omega
   simp only [Int.ofNat_lt,hn1,decide_true,if_true,ZT,Xs (show n < 9223372036854775807 by omega),Wr _ hn,WR hn1,Uh m h2,Option.bind_some,Je,Int.toNat_natCast]
   congr 3
   apply VD
   intro j hj
   by_cases c2 : j = n
   ·subst c2
    rw [if_pos rfl,if_neg (Nat.lt_irrefl j),if_pos (Nat.lt_succ_self j),hterm i hi]
   ·have d1 : (j < n + 1) ↔ (j < n):=by omega
    simp only [c2,if_false,d1]) (by
   unfold Yu
   rw [hdi]
   simp only [Int.ofNat_lt,Nat.lt_irrefl,decide_false,Bool.false_eq_true,if_false]
   congr 2
   apply VD
   intro j hj
   simp [hj])
  have e0 : tab (dataN l) (fun j=>VQ m (Zu l) (V3 l j) x i) = tab (dataN l) (fun j=>if j < 0 then VQ m (Zu l) (V3 l j) x (i + 1) else VQ m (Zu l) (V3 l j) x i):=by
   apply VD
   intro j _
   simp
  rw [e0]
  exact h
 have h:=Xo (f:=Yt (m : Int) l x) (fun i : Nat=>((i : Int),tab (dataN l) (fun j=>VQ m (Zu l) (V3 l j) x i))) 0 l.length (Nat.zero_le _) (t:=atC m l x) (fun i _ hi=>by
  unfold Yt
  simp only [Int.ofNat_lt,hi,decide_true,if_true,ZT,List.getElem?_eq_getElem hi,Option.bind_some,Xs (show i < 9223372036854775807 by omega)]
  rw [hby i hi]
  simp only [Option.bind_some]
  rw [hrow i hi]
  rfl) (by unfold Yt; simp [atC])
 have h3 : ZJ (Yt (m : Int) l x) (0,tab (dataN l) (fun _=>0)) = _:=h
 rw [h3]; rfl
def Qf (m : Nat) (l : List GShare) (t : Nat) : Bool:=!((List.range' t (l.length - t)).any fun k=>!((l[k]?.map fun s=>atC m (l.take t) s.Place == s.Data).getD true))
theorem Bj (l : List GShare) (g : Good l) (t : Nat) (ht : 1 ≤ t) (ht8 : t ≤ 8) : Vc (m : Int) l (t : Int) = some (Qf m l t):=by
 have hl:=g.len
 unfold Vc Qf
 by_cases hlt : t ≤ l.length
 ·have h:=U1 (f:=WM (m : Int) l (t : Int)) l.length (fun k=>!((l[k]?.map fun s=>atC m (l.take t) s.Place == s.Data).getD true)) false (by omega) t hlt (fun k hk1 hk=>by
   unfold WM
   have hs : slc l (0 : Int) (t : Int) = some (l.take t):=by have:=QA (l:=l) (i:=0) (j:=t) (Nat.zero_le _) hlt; simpa using this
   simp only [Int.ofNat_lt,hk,decide_true,if_true,ZT,List.getElem?_eq_getElem hk,Option.bind_some,hs]
   rw [HE h1 h2 (l.take t) (g.take ht hlt)]
   simp only [Option.bind_some]
   rw [B0 _ _ (by
    have : (atC m (l.take t) l[k].Place).length = dataN (l.take t):=by simp [atC]
    rw [this]
    have h0 : 0 < (l.take t).length:=by rw [List.length_take]; omega
    have:=((g.take ht hlt).share _ (List.getElem_mem h0)).2
    have:=(g.take ht hlt).at h0
    unfold dataN
    omega)]
   simp only [Option.bind_some,Option.map_some,Option.getD_some]
   by_cases c : (atC m (l.take t) l[k].Place == l[k].Data) = true <;> simp [c]) (by unfold WM; simp)
  rw [h]
  cases (List.range' t (l.length - t)).any fun k=>!((l[k]?.map fun s=>atC m (l.take t) s.Place == s.Data).getD true) <;> rfl
 ·rw [X0 (t:=Fl.nx ())]
  ·have : l.length - t = 0:=by omega
   rw [this]; rfl
  ·unfold WM
   have : ¬ ((t : Int) < (l.length : Int)):=by omega
   simp [this]
theorem v_fit (l : List GShare) (g : Good l) (t : Nat) (ht : 1 ≤ t) (ht8 : t ≤ 8) : XJ (m : Int) l (t : Int) = some (Qf m l t):=by
 have hl:=g.len
 unfold XJ Qf
 by_cases hlt : t ≤ l.length
 ·have h:=U1 (f:=Xr (m : Int) l (t : Int)) l.length (fun k=>!((l[k]?.map fun s=>atC m (l.take t) s.Place == s.Data).getD true)) false (by omega) t hlt (fun k hk1 hk=>by
   unfold Xr
   have hs : slc l (0 : Int) (t : Int) = some (l.take t):=by have:=QA (l:=l) (i:=0) (j:=t) (Nat.zero_le _) hlt; simpa using this
   simp only [Int.ofNat_lt,hk,decide_true,if_true,ZT,List.getElem?_eq_getElem hk,Option.bind_some,hs]
   rw [JU h1 h2 (l.take t) (g.take ht hlt)]
   simp only [Option.bind_some,QH,Option.map_some,Option.getD_some]
   by_cases c : (atC m (l.take t) l[k].Place == l[k].Data) = true <;> simp [c]) (by unfold Xr; simp)
  rw [h]
  cases (List.range' t (l.length - t)).any fun k=>!((l[k]?.map fun s=>atC m (l.take t) s.Place == s.Data).getD true) <;> rfl
 ·rw [X0 (t:=Fl.nx ())]
  ·have : l.length - t = 0:=by omega
   rw [this]; rfl
  ·unfold Xr
   have : ¬ ((t : Int) < (l.length : Int)):=by omega
   simp [this]
end
def Tu (m : Int) (l : List GShare) (t : Int) : Bool × Int:=if Yo m l t != 0 then (false,Yo m l t) else (Qf m.toNat l t.toNat,0)
theorem Kx (m : Int) (l : List GShare) (t : Int) (h : l.length ≤ 140737488355327) : Wu m l t = some (Tu m l t):=by
 unfold Wu Tu
 rw [Ky m l t h]
 simp only [Option.bind_some]
 by_cases hb : Yo m l t = 0
 ·obtain ⟨hf,g,t1,t8⟩:=W8 hb
  obtain ⟨n,rfl,n1,n2⟩:=Yp hf
  obtain ⟨u,rfl⟩:=Int.eq_ofNat_of_zero_le (show 0 ≤ t by omega)
  simp only [hb,bne_self_eq_false,Bool.false_eq_true,if_false,Int.toNat_natCast]
  rw [Bj n1 n2 l g u (by omega) (by omega)]; rfl
 ·have : (Yo m l t != 0) = true:=by simpa using hb
  rw [this]; rfl
theorem KE (m : Int) (l : List GShare) (t : Int) (h : l.length ≤ 140737488355327) : WE m l t = some (Tu m l t):=by
 unfold WE Tu
 rw [W9 m l t h]
 simp only [Option.bind_some]
 by_cases hb : Yo m l t = 0
 ·obtain ⟨hf,g,t1,t8⟩:=W8 hb
  obtain ⟨n,rfl,n1,n2⟩:=Yp hf
  obtain ⟨u,rfl⟩:=Int.eq_ofNat_of_zero_le (show 0 ≤ t by omega)
  simp only [hb,bne_self_eq_false,Bool.false_eq_true,if_false,Int.toNat_natCast]
  rw [v_fit n1 n2 l g u (by omega) (by omega)]; rfl
 ·have : (Yo m l t != 0) = true:=by simpa using hb
  rw [this]; rfl
def Xl (m : Nat) (l : List GShare) (t : Nat) : Int:=if l.length < t then 4 else if !Qf m l t then 5 else 0
def VI (m : Nat) (l : List GShare) (t : Nat) (x : UInt8) : List UInt8 × Int:=if Xl m l t != 0 then ([],Xl m l t) else (atC m (l.take t) x,0)
section
variable {m : Nat} (h1 : 256 ≤ m) (h2 : m < 512)
include h1 h2
theorem Jp (l : List GShare) (g : Good l) (t : Nat) (ht : 1 ≤ t) (ht8 : t ≤ 8) : X4 (m : Int) l (t : Int) = some (Xl m l t):=by
 unfold X4 Xl
 by_cases c : l.length < t
 ·have c' : (l.length : Int) < (t : Int):=by omega
  simp [c,c']
 ·have c' : ¬ ((l.length : Int) < (t : Int)):=by omega
  simp only [c,c',decide_false,Bool.false_eq_true,if_false]
  rw [Bj h1 h2 l g t ht ht8]
  cases Qf m l t <;> rfl
theorem J7 (l : List GShare) (g : Good l) (t : Nat) (ht : 1 ≤ t) (ht8 : t ≤ 8) (x : UInt8) : YM (m : Int) l (t : Int) x = some (VI m l t x):=by
 unfold YM VI Xl
 rw [UZ]
 simp only [Option.bind_some]
 by_cases c : l.length < t
 ·have c' : (l.length : Int) < (t : Int):=by omega
  simp [c,c']
 ·have c' : ¬ ((l.length : Int) < (t : Int)):=by omega
  simp only [c,c',decide_false,Bool.false_eq_true,if_false]
  rw [v_fit h1 h2 l g t ht ht8]
  by_cases hf : Qf m l t = true
  ·have hs : slc l (0 : Int) (t : Int) = some (l.take t):=by have:=QA (l:=l) (i:=0) (j:=t) (Nat.zero_le _) (by omega); simpa using this
   simp only [Option.bind_some,hf,Bool.not_true,Bool.false_eq_true,if_false,hs,JU h1 h2 (l.take t) (g.take ht (by omega))]
   rfl
  ·have hf : Qf m l t = false:=by simpa using hf
   simp [hf]
end
theorem HA (m : Nat) (l : List GShare) (g : Good l) (t : Nat) (ht : 1 ≤ t) (x : UInt8) : (VI m l t x).1.length ≤ 100:=by
 unfold VI Xl
 by_cases c : l.length < t
 ·simp [c]
 ·have g2:=g.take ht (by omega : t ≤ l.length)
  have h0 : 0 < (l.take t).length:=by rw [List.length_take]; have:=g.len; omega
  have e1:=(g2.share _ (List.getElem_mem h0)).2
  have e2:=g2.at h0
  have e3 : (atC m (l.take t) x).length ≤ 100:=by
   have : (atC m (l.take t) x).length = dataN (l.take t):=by simp [atC]
   rw [this]; unfold dataN; omega
  by_cases hf : Qf m l t = true
  ·simp only [c,hf,Bool.not_true,Bool.false_eq_true,if_false,bne_self_eq_false]
   exact e3
  ·simp [c,hf]
def Yj (m : Int) (l : List GShare) (t : Int) : List UInt8 × Int:=if Yo m l t != 0 then ([],Yo m l t) else VI m.toNat l t.toNat 0
theorem Qt (m : Int) (l : List GShare) (t : Int) (h : l.length ≤ 140737488355327) : XT m l t = some (Yj m l t):=by
 unfold XT Yj
 rw [Ky m l t h]
 simp only [Option.bind_some]
 by_cases hb : Yo m l t = 0
 ·obtain ⟨hf,g,t1,t8⟩:=W8 hb
  obtain ⟨n,rfl,n1,n2⟩:=Yp hf
  obtain ⟨u,rfl⟩:=Int.eq_ofNat_of_zero_le (show 0 ≤ t by omega)
  simp only [hb,bne_self_eq_false,beq_self_eq_true,Bool.false_eq_true,if_false,if_true,Int.toNat_natCast,Jp n1 n2 l g u (by omega) (by omega),Option.bind_some]
  unfold VI
  by_cases hr : Xl n l u = 0
  ·have hlt : ¬ l.length < u:=by
    intro hlt; unfold Xl at hr; simp [hlt] at hr
   have hs : slc l (0 : Int) (u : Int) = some (l.take u):=by have:=QA (l:=l) (i:=0) (j:=u) (Nat.zero_le _) (by omega); simpa using this
   simp only [hr,bne_self_eq_false,Bool.false_eq_true,if_false,hs,Option.bind_some,HE n1 n2 (l.take u) (g.take (by omega) (by omega))]
  ·have : (Xl n l u != 0) = true:=by simpa using hr
   rw [this]; rfl
 ·have h1 : (Yo m l t == 0) = false:=by simpa using hb
  have h2 : (Yo m l t != 0) = true:=by simpa using hb
  simp [h1,h2,hb]
theorem WP (m : Int) (l : List GShare) (t : Int) (h : l.length ≤ 140737488355327) : Yn m l t = some (Yj m l t):=by
 unfold Yn Yj
 rw [W9 m l t h]
 simp only [Option.bind_some]
 by_cases hb : Yo m l t = 0
 ·obtain ⟨hf,g,t1,t8⟩:=W8 hb
  obtain ⟨n,rfl,n1,n2⟩:=Yp hf
  obtain ⟨u,rfl⟩:=Int.eq_ofNat_of_zero_le (show 0 ≤ t by omega)
  simp only [hb,bne_self_eq_false,Bool.false_eq_true,if_false,Int.toNat_natCast,J7 n1 n2 l g u (by omega) (by omega) 0,Option.bind_some]
 ·have : (Yo m l t != 0) = true:=by simpa using hb
  rw [this]; rfl
theorem Ki (m : Int) (l : List GShare) (t : Int) : (Yj m l t).1.length ≤ 100:=by
 unfold Yj
 by_cases hb : Yo m l t = 0
 ·obtain ⟨hf,g,t1,t8⟩:=W8 hb
  obtain ⟨n,rfl,n1,n2⟩:=Yp hf
  simp only [hb,bne_self_eq_false,Bool.false_eq_true,if_false]
  exact HA _ l g t.toNat (by omega) 0
 ·have : (Yo m l t != 0) = true:=by simpa using hb
  rw [this]; simp
def addS (a b : GShare) : GShare:=⟨a.Place,List.zipWith (· ^^^ ·) a.Data b.Data⟩
def Tq (a b : List GShare) : List GShare:=List.zipWith addS a b
theorem zp {α β γ : Type} (f : α → β → γ) (a : List α) (b : List β) (i : Nat) (ha : i < a.length) (hb : i < b.length) : List.zipWith f (a.take (i + 1)) (b.take (i + 1)) = List.zipWith f (a.take i) (b.take i) ++ [f a[i] b[i]]:=by
 rw [List.take_succ_eq_append_getElem ha,List.take_succ_eq_append_getElem hb,List.zipWith_append (by simp; omega)]
 rfl
theorem z1 {α β γ : Type} (f : α → β → γ) (a : List α) (b : List β) (i : Nat) (ha : i ≤ a.length) (hb : i ≤ b.length) : (List.zipWith f (a.take i) (b.take i)).length = i:=by simp; omega
theorem Aa (a b : List GShare) (hl : a.length = b.length) (ha : a.length ≤ 13) (hd : ∀ i (h1 : i < a.length) (h2 : i < b.length),a[i].Data.length = b[i].Data.length ∧ a[i].Data.length ≤ 100) : VA a b = some (Tq a b):=by
 unfold VA
 have h:=Xo (f:=Vf a b) (fun i : Nat=>((i : Int),List.zipWith addS (a.take i) (b.take i))) 0 a.length (Nat.zero_le _) (t:=Tq a b) (fun i _ hi=>by
  unfold Vf
  have hi2 : i < b.length:=by omega
  obtain ⟨d1,d2⟩:=hd i hi hi2
  have hcl : YH a[i].Data = some a[i].Data:=by
   unfold YH
   rw [XA (by simp; omega)]; rfl
  have hz : List.zipWith (· ^^^ ·) a[i].Data b[i].Data = tab a[i].Data.length (fun j=>a[i].Data.getD j 0 ^^^ b[i].Data.getD j 0):=by
   apply List.ext_getElem?
   intro j
   by_cases hj : j < a[i].Data.length
   ·rw [Wr _ hj,List.getElem?_zipWith,WR hj,WR (by omega : j < b[i].Data.length)]
   ·rw [List.getElem?_eq_none (by simp; omega),List.getElem?_eq_none (by simp; omega)]
  have h2:=Xo (f:=Va b ((i : Int),List.zipWith addS (a.take i) (b.take i)) a[i].Data) (fun j : Nat=>((j : Int),tab a[i].Data.length (fun q=>if q < j then a[i].Data.getD q 0 ^^^ b[i].Data.getD q 0 else a[i].Data.getD q 0))) 0 a[i].Data.length (Nat.zero_le _) (t:=List.zipWith (· ^^^ ·) a[i].Data b[i].Data) (fun j _ hj=>by
   unfold Va
   have hj2 : j < b[i].Data.length:=by omega
   simp only [Int.ofNat_lt,hj,decide_true,if_true,ZT,List.getElem?_eq_getElem hi2,Option.bind_some,Wr _ hj,WR hj2,Je,Int.toNat_natCast,Xs (show j < 9223372036854775807 by omega)]
   congr 3
   apply VD
   intro q hq
   by_cases c2 : q = j
   ·subst c2
    rw [if_pos rfl,if_neg (Nat.lt_irrefl q),if_pos (Nat.lt_succ_self q)]
   ·have d1 : (q < j + 1) ↔ (q < j):=by omega
    simp only [c2,if_false,d1]) (by
    unfold Va
    rw [hz]
    simp only [Int.ofNat_lt,Nat.lt_irrefl,decide_false,Bool.false_eq_true,if_false]
    congr 2
    apply VD
    intro q hq
    simp [hq])
  have e0 : a[i].Data = tab a[i].Data.length (fun q=>if q < 0 then a[i].Data.getD q 0 ^^^ b[i].Data.getD q 0 else a[i].Data.getD q 0):=by
   conv=>lhs; rw [QZ a[i].Data]
   apply VD
   intro q _
   simp
  rw [← e0] at h2
  have h3 : ZJ (Va b ((i : Int),List.zipWith addS (a.take i) (b.take i)) a[i].Data) (0,a[i].Data) = _:=h2
  simp only [Int.ofNat_lt,hi,decide_true,if_true,ZT,List.getElem?_eq_getElem hi,Option.bind_some,hcl,h3,Xs (show i < 9223372036854775807 by omega)]
  rw [XA (by rw [z1 _ _ _ _ (by omega) (by omega)]; simp; omega),zp _ _ _ _ hi hi2]
  rfl) (by
   unfold Vf
   simp only [Int.ofNat_lt,Nat.lt_irrefl,decide_false,Bool.false_eq_true,if_false]
   rw [List.take_length,hl,List.take_length]; rfl)
 have h3 : ZJ (Vf a b) (0,[]) = _:=h
 rw [h3]; rfl
def Ts (m : Int) (a b : List GShare) : List GShare × Int :=
 if !ZH m then ([],1) else if Yb a = 1 ∨ Yb b = 1 then ([],1) else if Yb a ≠ 0 ∨ Yb b ≠ 0 ∨ Zu a ≠ Zu b ∨ dataN a ≠ dataN b then ([],2) else (Tq a b,0)
theorem add_ok {a b : List GShare} (ha : Yb a = 0) (hb : Yb b = 0) (hp : Zu a = Zu b) (hd : dataN a = dataN b) :
  a.length = b.length ∧ a.length ≤ 13 ∧ ∀ i (h1 : i < a.length) (h2 : i < b.length),a[i].Data.length = b[i].Data.length ∧ a[i].Data.length ≤ 100:=by
 have ga:=Uy ha
 have gb:=Uy hb
 refine ⟨by rw [← Yy a,hp,Yy],ga.len.2,fun i h1 h2=>⟨?_,(ga.share _ (List.getElem_mem h1)).2⟩⟩
 have e1:=ga.at h1
 have e2:=gb.at h2
 unfold dataN at hd
 omega
theorem idx0 (l : List GShare) (h : 0 < l.length) : idx l (0 : Int) = some l[0]:=by rw [UL,List.getElem?_eq_getElem h]
theorem KD (m : Int) (l : List GShare) (h : ZH m = true) : Yo m l 1 = Yb l:=by
 unfold Yo
 rw [h]
 simp
theorem Kw (m : Int) (a b : List GShare) (ha : Wt.wt a ≤ 1048576) (hb : Wt.wt b ≤ 1048576) : Wy m a b = some (Ts m a b):=by
 have ha':=HC a
 have hb':=HC b
 unfold Wy Ts
 rw [W9 m a 1 (by omega),W9 m b 1 (by omega)]
 simp only [Option.bind_some]
 by_cases c0 : ZH m = true
 ·rw [KD m a c0,KD m b c0]
  simp only [c0,Bool.not_true,Bool.false_eq_true,if_false]
  by_cases c1 : Yb a = 1 ∨ Yb b = 1
  ·rcases c1 with c | c <;> simp [c]
  ·have d1 : (Yb a == 1) = false:=by simp; omega
   have d2 : (Yb b == 1) = false:=by simp; omega
   simp only [c1,d1,d2,Bool.false_eq_true,if_false,Option.bind_some]
   by_cases c2 : Yb a = 0
   ·by_cases c3 : Yb b = 0
    ·have ga:=Uy c2
     have gb:=Uy c3
     have la:=ga.len
     have lb:=gb.len
     have da : a[0].Data.length = dataN a:=ga.at (by omega)
     have db : b[0].Data.length = dataN b:=gb.at (by omega)
     have pa : Z7 a = some (Zu a):=UE a (by omega)
     have pb : Z7 b = some (Zu b):=UE b (by omega)
     simp only [c2,c3,bne_self_eq_false,Bool.false_eq_true,if_false,pa,pb,Option.bind_some,QH]
     by_cases c4 : Zu a = Zu b
     ·have e4 : (Zu a == Zu b) = true:=by simpa using c4
      simp only [e4,Option.bind_some,Bool.not_true,Bool.false_eq_true,if_false,idx0 a (by omega),idx0 b (by omega),da,db]
      by_cases c5 : dataN a = dataN b
      ·obtain ⟨o1,o2,o3⟩:=add_ok c2 c3 c4 c5
       have : ((dataN a : Int) != (dataN b : Int)) = false:=by simp [c5]
       rw [this,Aa a b o1 o2 o3]
       simp [c4,c5]
      ·have : ((dataN a : Int) != (dataN b : Int)) = true:=by simp; omega
       rw [this]
       simp [c5]
     ·have e4 : (Zu a == Zu b) = false:=by simpa using c4
      simp [e4,c4]
    ·have : (Yb b != 0) = true:=by simpa using c3
     simp [c2,c3,this]
   ·have : (Yb a != 0) = true:=by simpa using c2
    simp [c2,this]
 ·have c0 : ZH m = false:=by simpa using c0
  have e1 : ∀ l,Yo m l 1 = 1:=fun l=>by unfold Yo; rw [c0]; rfl
  simp [c0,e1]
theorem zT (a b : List GShare) : Wt.wt (Tq a b) ≤ Wt.wt a:=by
 unfold Tq
 have key : ∀ (a b : List GShare),(List.zipWith addS a b).length + ((List.zipWith addS a b).map Wt.wt).sum ≤ a.length + (a.map Wt.wt).sum:=by
  intro a
  induction a with
  | nil=>intro b; simp
  | cons x a ih =>
   intro b
   cases b with
   | nil=>simp
   | cons y b =>
    have:=ih b
    have h2 : Wt.wt (addS x y) ≤ Wt.wt x:=by
     have e1 : Wt.wt (addS x y) = Wt.wt (addS x y).Data:=rfl
     have e2 : Wt.wt x = Wt.wt x.Data:=rfl
     rw [e1,e2,U6,U6]
     simp [addS]
     omega
    simp only [List.zipWith_cons_cons,List.length_cons,List.map_cons,List.sum_cons]
    omega
 exact key a b
def V0 (m : Int) (l : List GShare) (t : Int) (x : UInt8) : GShare × Int :=
 if Yo m l t != 0 then (⟨0,[]⟩,Yo m l t) else if x == 0 then (⟨0,[]⟩,2) else
  if Xl m.toNat l t.toNat != 0 then (⟨0,[]⟩,Xl m.toNat l t.toNat) else (⟨x,atC m.toNat (l.take t.toNat) x⟩,0)
theorem JF (m : Int) (l : List GShare) (t : Int) (x : UInt8) (h : l.length ≤ 140737488355327) : Vp m l t x = some (V0 m l t x):=by
 unfold Vp V0
 rw [Ky m l t h]
 simp only [Option.bind_some]
 by_cases hb : Yo m l t = 0
 ·obtain ⟨hf,g,t1,t8⟩:=W8 hb
  obtain ⟨n,rfl,n1,n2⟩:=Yp hf
  obtain ⟨u,rfl⟩:=Int.eq_ofNat_of_zero_le (show 0 ≤ t by omega)
  simp only [hb,bne_self_eq_false,beq_self_eq_true,Bool.false_eq_true,if_false,if_true,Int.toNat_natCast,Option.bind_some]
  by_cases hx : x = 0
  ·subst hx; rfl
  ·have hx' : (x == 0) = false:=by simpa using hx
   simp only [hx',Bool.false_eq_true,if_false,Option.bind_some,beq_self_eq_true,if_true,Jp n1 n2 l g u (by omega) (by omega)]
   by_cases hr : Xl n l u = 0
   ·have hlt : ¬ l.length < u:=by
     intro hlt; unfold Xl at hr; simp [hlt] at hr
    have hs : slc l (0 : Int) (u : Int) = some (l.take u):=by have:=QA (l:=l) (i:=0) (j:=u) (Nat.zero_le _) (by omega); simpa using this
    simp only [hr,bne_self_eq_false,Bool.false_eq_true,if_false,hs,Option.bind_some,HE n1 n2 (l.take u) (g.take (by omega) (by omega))]
   ·have : (Xl n l u != 0) = true:=by simpa using hr
    rw [this]; rfl
 ·have h1 : (Yo m l t == 0) = false:=by simpa using hb
  have h2 : (Yo m l t != 0) = true:=by simpa using hb
  simp [h1,h2,hb]
theorem Jk (m : Int) (l : List GShare) (t : Int) (x : UInt8) (h : l.length ≤ 140737488355327) : Vw m l t x = some (V0 m l t x):=by
 unfold Vw V0
 rw [W9 m l t h]
 simp only [Option.bind_some]
 by_cases hb : Yo m l t = 0
 ·obtain ⟨hf,g,t1,t8⟩:=W8 hb
  obtain ⟨n,rfl,n1,n2⟩:=Yp hf
  obtain ⟨u,rfl⟩:=Int.eq_ofNat_of_zero_le (show 0 ≤ t by omega)
  simp only [hb,bne_self_eq_false,Bool.false_eq_true,if_false,Int.toNat_natCast]
  by_cases hx : x = 0
  ·subst hx; rfl
  ·have hx' : (x == 0) = false:=by simpa using hx
   simp only [hx',Bool.false_eq_true,if_false,J7 n1 n2 l g u (by omega) (by omega) x,Option.bind_some]
   unfold VI
   by_cases hr : Xl n l u = 0
   ·simp [hr]
   ·have : (Xl n l u != 0) = true:=by simpa using hr
    simp [this,hr]
 ·have : (Yo m l t != 0) = true:=by simpa using hb
  rw [this]; rfl
theorem By (m : Int) (l : List GShare) (t : Int) (x : UInt8) : Wt.wt (V0 m l t x).1 ≤ 100:=by
 have h0 : Wt.wt (⟨0,[]⟩ : GShare) = 0:=rfl
 unfold V0
 by_cases hb : Yo m l t = 0
 ·obtain ⟨hf,g,t1,t8⟩:=W8 hb
  simp only [hb,bne_self_eq_false,Bool.false_eq_true,if_false]
  split
  ·rw [h0]; omega
  ·split
   ·rw [h0]; omega
   ·rename_i hr
    have hr : Xl m.toNat l t.toNat = 0:=by simpa using hr
    have hlt : ¬ l.length < t.toNat:=by
     intro hlt; unfold Xl at hr; simp [hlt] at hr
    have g2:=g.take (by omega) (by omega : t.toNat ≤ l.length)
    have h3 : 0 < (l.take t.toNat).length:=by rw [List.length_take]; have:=g.len; omega
    have e1:=(g2.share _ (List.getElem_mem h3)).2
    have e2:=g2.at h3
    have e3 : Wt.wt (⟨x,atC m.toNat (l.take t.toNat) x⟩ : GShare) = (atC m.toNat (l.take t.toNat) x).length:=U6 _
    have e4 : (atC m.toNat (l.take t.toNat) x).length = dataN (l.take t.toNat):=by simp [atC]
    rw [e3,e4]; unfold dataN; omega
 ·have : (Yo m l t != 0) = true:=by simpa using hb
  rw [this]
  simp only [if_true]
  rw [h0]; omega
def Wv (data : List UInt8) (cs : List (List UInt8)) (i : Nat) : List UInt8:=data.getD i 0 :: cs.map (·.getD i 0)
def YT (m : Nat) (data : List UInt8) (cs : List (List UInt8)) (p : UInt8) : GShare:=⟨p,tab data.length fun i=>ZF m (Wv data cs i) p⟩
def Xz (cs : List (List UInt8)) (n : Nat) : Bool:=decide (cs.length ≤ 7) && cs.all fun c=>c.length == n
def Ww (m : Int) (data : List UInt8) (cs : List (List UInt8)) (ps : List UInt8) : List GShare × Int :=
 if !ZH m then ([],1) else if 100 < data.length ∨ Xz cs data.length = false ∨ ps.length < 1 ∨ 12 < ps.length then ([],2) else if !VM ps then ([],5) else (ps.map (YT m.toNat data cs),0)
theorem zC (n : Nat) (c : List UInt8) : ((c.length : Int) != (n : Int)) = !(c.length == n):=by
 by_cases h : c.length = n
 ·subst h; simp
 ·have : ¬ ((c.length : Int) = (n : Int)):=by omega
  have e1 : (c.length == n) = false:=by simpa using h
  have e2 : ((c.length : Int) != (n : Int)) = true:=by simpa using this
  rw [e1,e2]; rfl
theorem B6 (cs : List (List UInt8)) (n : Nat) (h : cs.length < 9223372036854775807) : WY cs (n : Int) = some (Xz cs n):=by
 unfold WY
 have h:=Td (f:=Wz cs (n : Int)) cs (fun c=>(c.length : Int) != (n : Int)) (t:=false) h (fun i hi=>by
  unfold Wz
  simp only [Int.ofNat_lt,hi,decide_true,if_true,ZT,List.getElem?_eq_getElem hi,Option.bind_some]
  by_cases c : ((cs[i].length : Int) != (n : Int)) = true <;> simp [c]) (by unfold Wz; simp)
 rw [h]
 have e : (cs.any fun c=>(c.length : Int) != (n : Int)) = !cs.all fun c=>c.length == n:=by
  rw [List.any_eq_not_all_not]
  simp only [zC,Bool.not_not]
 rw [e]
 unfold Xz
 have e2 : decide ((cs.length : Int) ≤ 7) = decide (cs.length ≤ 7):=by rw [decide_eq_decide]; omega
 cases (cs.all fun c=>c.length == n) <;> simp [Fl.el,e2]
theorem U9 (cs : List (List UInt8)) (n : Nat) (h : cs.length < 9223372036854775807) : YC cs (n : Int) = some (Xz cs n):=by
 unfold YC
 have e2 : decide ((cs.length : Int) ≤ 7) = decide (cs.length ≤ 7):=by rw [decide_eq_decide]; omega
 have hc : Z5 cs (fun z0=>YR z0 (n : Int)) = some (cs.any fun c=>(c.length : Int) != (n : Int)):=by
  unfold Z5 YJ
  rw [Am cs _ (fun c=>(c.length : Int) != (n : Int)) _ (fun s=>by unfold Xp; rfl) h (fun x _=>rfl)]
  simp only [Option.bind_some,zu]
 have e : (cs.any fun c=>(c.length : Int) != (n : Int)) = !cs.all fun c=>c.length == n:=by
  rw [List.any_eq_not_all_not]
  simp only [zC,Bool.not_not]
 rw [hc,e,e2]
 unfold Xz
 by_cases c : cs.length ≤ 7 <;> simp [c]
theorem AY {m : Nat} (h2 : m < 512) (x y : UInt8) : JQ (m : Int) x y = Zt m x y:=by
 have:=KO (m : Int) x y
 rw [Uh m h2] at this
 exact (Option.some.inj this).symm
theorem Be {n : Nat} (f : Nat → UInt8) (i : Nat) (h : i < n) : (tab n f).take i ++ [f i] = (tab n f).take (i + 1):=by
 rw [List.take_succ_eq_append_getElem (by simpa using h)]
 simp [tab]
section
variable {m : Nat} (h1 : 256 ≤ m) (h2 : m < 512)
include h1 h2
omit h1 in
theorem Ad (l : List UInt8) (x : UInt8) (h : l.length ≤ 140737488351232) : Xb (m : Int) l x = some (ZF m l x):=by
 unfold Xb
 rw [if_pos h,List.foldl_reverse]
 congr 1
 unfold ZF
 congr 1
 funext a acc
 unfold Hq
 rw [AY h2]
omit h1 in
theorem Ag (data : List UInt8) (cs : List (List UInt8)) (ps : List UInt8) (hd : data.length ≤ 100) (hc : Xz cs data.length = true) (hp : ps.length ≤ 12) :
  Xg (m : Int) data cs ps = some (ps.map (YT m data cs)):=by
 unfold Xz at hc
 simp only [Bool.and_eq_true,decide_eq_true_eq,List.all_eq_true,beq_iff_eq] at hc
 obtain ⟨hc1,hc2⟩:=hc
 unfold Xg
 have h:=Xo (f:=YX (m : Int) data cs ps) (fun i : Nat=>((i : Int),(ps.take i).map (YT m data cs))) 0 ps.length (Nat.zero_le _) (t:=ps.map (YT m data cs)) (fun i _ hi=>by
  unfold YX
  have hin:=Xo (f:=YZ (m : Int) data cs ps[i]) (fun j : Nat=>((tab data.length fun q=>ZF m (Wv data cs q) ps[i]).take j,(j : Int))) 0 data.length (Nat.zero_le _) (t:=tab data.length fun q=>ZF m (Wv data cs q) ps[i]) (fun j _ hj=>by
   unfold YZ
   have hin2:=Xo (f:=YY cs ((tab data.length fun q=>ZF m (Wv data cs q) ps[i]).take j,(j : Int))) (fun k : Nat=>([data.getD j 0] ++ (cs.take k).map (·.getD j 0),(k : Int))) 0 cs.length (Nat.zero_le _) (t:=Wv data cs j) (fun k _ hk=>by
    unfold YY
    have hl:=hc2 cs[k] (List.getElem_mem hk)
    have hj' : j < cs[k].length:=by omega
    simp only [Int.ofNat_lt,hk,decide_true,if_true,ZT,List.getElem?_eq_getElem hk,Option.bind_some,List.getElem?_eq_getElem hj',Xs (show k < 9223372036854775807 by omega)]
    rw [XA (by simp; omega)]
    simp only [Option.bind_some]
    rw [List.take_succ_eq_append_getElem hk,List.map_append,List.append_assoc]
    simp [List.getD_eq_getElem?_getD,List.getElem?_eq_getElem hj']) (by unfold YY; simp [Wv])
   have hg : data[j]? = some (data.getD j 0):=WR hj
   simp only [Int.ofNat_lt,hj,decide_true,if_true,ZT,hg,Option.bind_some,Xs (show j < 9223372036854775807 by omega)]
   have hin2' : ZJ (YY cs ((tab data.length fun q=>ZF m (Wv data cs q) ps[i]).take j,(j : Int))) ([data.getD j 0],0) = some (Wv data cs j):=hin2
   rw [hin2']
   simp only [Option.bind_some]
   rw [Ad h2 _ _ (by simp [Wv]; omega)]
   simp only [Option.bind_some]
   rw [XA (by simp; omega)]
   simp only [Option.bind_some]
   rw [Be _ _ hj]) (by unfold YZ; simp [List.take_of_length_le])
  simp only [Int.ofNat_lt,hi,decide_true,if_true,ZT,List.getElem?_eq_getElem hi,Option.bind_some,Xs (show i < 9223372036854775807 by omega)]
  have hin' : ZJ (YZ (m : Int) data cs ps[i]) ([],0) = some (tab data.length fun q=>ZF m (Wv data cs q) ps[i]):=hin
  rw [hin']
  simp only [Option.bind_some]
  rw [XA (by simp; omega)]
  simp only [Option.bind_some]
  rw [List.take_succ_eq_append_getElem hi,List.map_append]
  rfl) (by unfold YX; simp)
 have h3 : ZJ (YX (m : Int) data cs ps) (0,[]) = _:=h
 rw [h3]; rfl
theorem J8 (data : List UInt8) (cs : List (List UInt8)) (ps : List UInt8) (hd : data.length ≤ 100) (hc : Xz cs data.length = true) (hp : ps.length ≤ 12) :
  WF (m : Int) data cs ps = some (ps.map (YT m data cs)):=by
 unfold Xz at hc
 simp only [Bool.and_eq_true,decide_eq_true_eq,List.all_eq_true,beq_iff_eq] at hc
 obtain ⟨hc1,hc2⟩:=hc
 unfold WF
 have h:=Xo (f:=X6 (m : Int) data cs ps) (fun i : Nat=>((i : Int),(ps.take i).map (YT m data cs))) 0 ps.length (Nat.zero_le _) (t:=ps.map (YT m data cs)) (fun i _ hi=>by
  unfold X6
  have hin:=Xo (f:=Wd (m : Int) data cs ps ((i : Int),(ps.take i).map (YT m data cs))) (fun j : Nat=>((tab data.length fun q=>ZF m (Wv data cs q) ps[i]).take j,(j : Int))) 0 data.length (Nat.zero_le _) (t:=tab data.length fun q=>ZF m (Wv data cs q) ps[i]) (fun j _ hj=>by
   unfold Wd
   have hin2:=Xo (f:=Wc cs ((tab data.length fun q=>ZF m (Wv data cs q) ps[i]).take j,(j : Int))) (fun k : Nat=>([data.getD j 0] ++ (cs.take k).map (·.getD j 0),(k : Int))) 0 cs.length (Nat.zero_le _) (t:=Wv data cs j) (fun k _ hk=>by
    unfold Wc
    have hl:=hc2 cs[k] (List.getElem_mem hk)
    have hj' : j < cs[k].length:=by omega
    simp only [Int.ofNat_lt,hk,decide_true,if_true,ZT,List.getElem?_eq_getElem hk,Option.bind_some,List.getElem?_eq_getElem hj',Xs (show k < 9223372036854775807 by omega)]
    rw [XA (by simp; omega)]
    simp only [Option.bind_some]
    rw [List.take_succ_eq_append_getElem hk,List.map_append,List.append_assoc]
    simp [List.getD_eq_getElem?_getD,List.getElem?_eq_getElem hj']) (by unfold Wc; simp [Wv])
   have hg : data[j]? = some (data.getD j 0):=WR hj
   simp only [Int.ofNat_lt,hj,decide_true,if_true,ZT,hg,Option.bind_some,Xs (show j < 9223372036854775807 by omega)]
   have hin2' : ZJ (Wc cs ((tab data.length fun q=>ZF m (Wv data cs q) ps[i]).take j,(j : Int))) ([data.getD j 0],0) = some (Wv data cs j):=hin2
   rw [hin2']
   simp only [Option.bind_some,List.getElem?_eq_getElem hi]
   rw [Jg h1 h2 _ _ (by simp [Wv]; omega)]
   simp only [Option.bind_some]
   rw [XA (by simp; omega)]
   simp only [Option.bind_some]
   rw [Be _ _ hj]) (by unfold Wd; simp [List.take_of_length_le])
  simp only [Int.ofNat_lt,hi,decide_true,if_true,ZT,List.getElem?_eq_getElem hi,Option.bind_some,Xs (show i < 9223372036854775807 by omega)]
  have hin' : ZJ (Wd (m : Int) data cs ps ((i : Int),(ps.take i).map (YT m data cs))) ([],0) = some (tab data.length fun q=>ZF m (Wv data cs q) ps[i]):=hin
  rw [hin']
  simp only [Option.bind_some]
  rw [XA (by simp; omega)]
  simp only [Option.bind_some]
  rw [List.take_succ_eq_append_getElem hi,List.map_append]
  rfl) (by unfold X6; simp)
 have h3 : ZJ (X6 (m : Int) data cs ps) (0,[]) = _:=h
 rw [h3]; rfl
end
theorem KY (m : Int) (data : List UInt8) (cs : List (List UInt8)) (ps : List UInt8) (hc : cs.length ≤ 1048576) (hp : ps.length ≤ 1048576) : W7 m data cs ps = some (Ww m data cs ps):=by
 unfold W7 Ww
 rw [Qu]
 cases hf : ZH m with
 | false=>simp
 | true =>
  obtain ⟨n,rfl,h1,h2⟩:=Yp hf
  simp only [Option.bind_some,Bool.not_true,Bool.false_eq_true,if_false,B6 cs data.length (by omega)]
  by_cases c1 : 100 < data.length
  ·have : ((data.length : Int) > 100):=by omega
   simp [c1,this]
  have d1 : ¬ ((data.length : Int) > 100):=by omega
  simp only [c1,d1,decide_false,Bool.false_eq_true,if_false,false_or]
  cases c2 : Xz cs data.length with
  | false=>simp
  | true =>
   by_cases c3 : ps.length < 1
   ·have : (ps.length : Int) < 1:=by omega
    simp [c3,this]
   ·have d3 : ¬ ((ps.length : Int) < 1):=by omega
    by_cases c4 : 12 < ps.length
    ·have : (ps.length : Int) > 12:=by omega
     simp [c3,c4,d3,this]
    ·have d4 : ¬ ((ps.length : Int) > 12):=by omega
     simp only [c3,c4,d3,d4,decide_false,Bool.not_true,Bool.false_eq_true,if_false,Option.bind_some,or_self,reduceCtorEq]
     rw [Jm ps (by omega)]
     cases VM ps with
     | false=>simp
     | true =>
      simp only [Option.bind_some,Bool.not_true,Bool.false_eq_true,if_false,J8 h1 h2 data cs ps (by omega) c2 (by omega),Int.toNat_natCast]
theorem K1 (m : Int) (data : List UInt8) (cs : List (List UInt8)) (ps : List UInt8) (hc : cs.length ≤ 1048576) (hp : ps.length ≤ 1048576) : W5 m data cs ps = some (Ww m data cs ps):=by
 unfold W5 Ww WT
 rw [Ku]
 cases hf : ZH m with
 | false=>simp
 | true =>
  obtain ⟨n,rfl,h1,h2⟩:=Yp hf
  simp only [Option.bind_some,Bool.not_true,Bool.false_eq_true,if_false,U9 cs data.length (by omega),Qa]
  by_cases c1 : 100 < data.length
  ·have : ((data.length : Int) > 100):=by omega
   simp [c1,this]
  have d1 : ¬ ((data.length : Int) > 100):=by omega
  simp only [c1,d1,decide_false,Bool.false_eq_true,if_false,false_or]
  cases c2 : Xz cs data.length with
  | false=>simp
  | true =>
   by_cases c3 : ps.length < 1 ∨ 12 < ps.length
   ·have : ¬ (1 ≤ (ps.length : Int) ∧ (ps.length : Int) ≤ 12):=by omega
    simp only [this,decide_false,Bool.not_true,Bool.not_false,Bool.false_eq_true,if_false,if_true,Option.bind_some,reduceCtorEq,false_or,c3]
   ·have d3 : 1 ≤ (ps.length : Int) ∧ (ps.length : Int) ≤ 12:=by omega
    simp only [d3,and_self,decide_true,Bool.not_true,Bool.false_eq_true,if_false,Option.bind_some,reduceCtorEq,false_or,c3]
    rw [JZ ps (by omega)]
    cases VM ps with
    | false=>simp
    | true =>
     simp only [Option.bind_some,Bool.not_true,Bool.false_eq_true,if_false,Ag h2 data cs ps (by omega) c2 (by omega),Int.toNat_natCast]
def QV (m : Int) (l : List GShare) (cs : List (List UInt8)) : List GShare × Int :=
 if Yo m l 1 != 0 then ([],Yo m l 1) else if Xz cs (dataN l) = false then ([],2) else (Tq l ((Zu l).map (YT m.toNat (List.replicate (dataN l) 0) cs)),0)
theorem BH {m : Nat} {l : List GShare} (cs : List (List UInt8)) (g : Good l) :
  l.length = ((Zu l).map (YT m (List.replicate (dataN l) 0) cs)).length ∧ l.length ≤ 13 ∧ ∀ i (h1 : i < l.length) (h2 : i < ((Zu l).map (YT m (List.replicate (dataN l) 0) cs)).length),l[i].Data.length = ((Zu l).map (YT m (List.replicate (dataN l) 0) cs))[i].Data.length ∧ l[i].Data.length ≤ 100:=by
 refine ⟨by simp [Yy],g.len.2,fun i h1 h2=>⟨?_,(g.share _ (List.getElem_mem h1)).2⟩⟩
 rw [g.at h1]
 simp [YT,dataN]
theorem H9 {l : List GShare} (h : Yb l = 0) : l.length ≤ 12:=by
 unfold Yb at h
 cases h1 : l.all Ym with
 | false=>simp [h1] at h
 | true =>
  cases h2 : WO (l.map (·.Place)) with
  | false=>simp [h1,h2] at h
  | true =>
   by_cases h3 : l.length < 1 ∨ 12 < l.length
   ·rw [h1,h2,if_neg (by simp),if_neg (by simp),if_pos h3] at h; cases h
   ·omega
theorem TU (m : Int) (l : List GShare) (cs : List (List UInt8)) (hl : Wt.wt l ≤ 1048576) (hc : Wt.wt cs ≤ 1048576) : Xm m l cs = some (QV m l cs):=by
 have hll:=HC l
 have hcl:=HC cs
 unfold Xm QV
 rw [W9 m l 1 (by omega)]
 by_cases hb : Yo m l 1 = 0
 ·obtain ⟨hf,g,_,_⟩:=W8 hb
  obtain ⟨n,rfl,h1,h2⟩:=Yp hf
  have h0 : 0 < l.length:=g.len.1
  have hd0 : l[0].Data.length = dataN l:=g.at h0
  have hdn : dataN l ≤ 100:=by rw [← hd0]; exact (g.share _ (List.getElem_mem h0)).2
  have hp12 : (Zu l).length ≤ 12:=by
   have hcode : Yb l = 0:=by unfold Yo at hb; rw [hf] at hb; simpa using hb
   rw [Yy]
   exact H9 hcode
  simp only [hb,Option.bind_some,idx0 l h0,hd0,U9 cs (dataN l) (by omega),bne_self_eq_false,Bool.false_eq_true,if_false]
  cases hL : Xz cs (dataN l) with
  | false=>simp
  | true =>
   obtain ⟨o1,o2,o3⟩:=BH (m:=n) cs g
   have hpl : Z7 l = some (Zu l):=UE l (by omega)
   simp only [Bool.not_true,Option.bind_some,Bool.false_eq_true,if_false,HX (show dataN l ≤ 140737488355328 by omega),hpl,reduceCtorEq]
   rw [Ag h2 _ cs (Zu l) (by simpa using hdn) (by simpa using hL) hp12]
   simp only [Option.bind_some]
   rw [Aa l _ o1 o2 o3]
   rfl
 ·have e2 : (Yo m l 1 != 0) = true:=by simpa using hb
  simp only [Option.bind_some,e2,if_true]
def powP (m : Nat) : Nat → Nat → Nat → Nat → Nat
 | 0,_,_,o=>o
 | f + 1,a,k,o=>if k = 0 then o else powP m f (opP m 8 a a) (k / 2) (if k % 2 = 1 then opP m 8 a o else o)
theorem Ab {m : Nat} (h1 : 256 ≤ m) (h2 : m < 512) : ∀ (f k : Nat) (a o : UInt8),(Qg m f a k o).toNat = powP m f a.toNat k o.toNat
 | 0,_,_,_=>rfl
 | f + 1,k,a,o=>by
  unfold Qg powP
  by_cases h : k = 0
  ·rw [if_pos h,if_pos h]
  ·rw [if_neg h,if_neg h,Ab h1 h2 f,Y9 m h1 h2]
   by_cases hk : k % 2 = 1
   ·rw [if_pos hk,if_pos hk,Y9 m h1 h2]
   ·rw [if_neg hk,if_neg hk]
def Bv (m g : Nat) : Nat → Nat → List Nat
 | 0,_=>[]
 | n + 1,x=>x :: Bv m g n (opP m 8 g x)
def orP (l : List Nat) (acc : Nat) : Nat:=l.foldl (fun acc p=>acc ||| (1 <<< p)) acc
def A5 (m g : Nat) : Bool:=opP m 8 (powP m 8 g 254 1) g == 1 && decide (g < 256) && orP (Bv m g 255 1) 0 == 2 ^ 256 - 2
def gens : List (Nat × Nat):=[(283,3),(285,2),(299,2),(301,2),(313,3),(319,3),(333,2),(351,2),(355,2),(357,2),(361,2),(369,2),(375,3),(379,9),(391,2),(395,6),(397,2),(415,3),(419,3),(425,2),(433,6),(445,7),(451,2),(463,2),(471,7),(477,6),(487,2),(499,6),(501,2),(505,3)]
theorem BW : (gens.all fun q=>A5 q.1 q.2) = true:=by decide +kernel
theorem zn : ((List.range' 256 256).all fun m=>(List.range' 2 30).any (QM m) || gens.any fun q=>q.1 == m) = true:=by decide +kernel
theorem zt : ((List.range' 1 255).all fun a=>(2 ^ 256 - 2).testBit a) = true:=by decide +kernel
theorem AB : ∀ (l : List Nat) (acc a : Nat),(orP l acc).testBit a = true → acc.testBit a = true ∨ a ∈ l
 | [],_,_,h=>.inl h
 | p :: l,acc,a,h=>by
  rcases AB l (acc ||| (1 <<< p)) a h with h | h
  ·rw [Nat.testBit_or,Nat.one_shiftLeft,Nat.testBit_two_pow,Bool.or_eq_true] at h
   rcases h with h | h
   ·exact .inl h
   ·exact .inr (by rw [← of_decide_eq_true h]; exact List.mem_cons_self)
  ·exact .inr (List.mem_cons_of_mem _ h)
theorem Hh {m : Nat} (h1 : 256 ≤ m) (h2 : m < 512) (g : UInt8) (hg : Zt m g (Tx m g) = 1) : ∀ (n : Nat) (x : UInt8),Zt m x (Tx m x) = 1 → ∀ y ∈ Bv m g.toNat n x.toNat,∃ z : UInt8,y = z.toNat ∧ Zt m z (Tx m z) = 1
 | 0,_,_,_,hy=>by cases hy
 | n + 1,x,hx,y,hy=>by
  rw [Bv] at hy
  rcases List.mem_cons.1 hy with rfl | hy
  ·exact ⟨x,rfl,hx⟩
  ·rw [← Y9 m h1 h2] at hy
   refine Hh h1 h2 g hg n (Zt m x g) ?_ y hy
   rw [Hj h1 h2,UF h1 h2,hx,hg,Ud h1 h2]
theorem Ho {m : Nat} (hf : ZH (m : Int) = true) {a : UInt8} (ha : a ≠ 0) : Zt m a (Tx m a) = 1:=by
 obtain ⟨m',e,h1,h2⟩:=Yp hf
 have e : m = m':=by omega
 subst e
 have h:=List.all_eq_true.1 zn m (List.mem_range'_1.2 (by omega))
 have hr : (List.range' 2 30).any (QM m) = false:=by
  unfold ZH at hf
  simp only [Bool.and_eq_true,Int.toNat_natCast] at hf
  simpa using hf.2
 rw [hr,Bool.false_or] at h
 obtain ⟨q,hq,hm⟩:=List.any_eq_true.1 h
 have hm : q.1 = m:=by simpa using hm
 have hc:=List.all_eq_true.1 BW q hq
 rw [hm] at hc
 unfold A5 at hc
 simp only [Bool.and_eq_true,beq_iff_eq,decide_eq_true_eq] at hc
 obtain ⟨⟨c1,c2⟩,c3⟩:=hc
 have eg : (UInt8.ofNat q.2).toNat = q.2:=by simp only [UInt8.toNat_ofNat']; omega
 have hg : Zt m (UInt8.ofNat q.2) (Tx m (UInt8.ofNat q.2)) = 1:=by
  apply UInt8.toNat_inj.1
  rw [Y9 m h1 h2]
  unfold Tx
  rw [Ab h1 h2,eg]
  exact c1
 have ha0 : a.toNat ≠ 0:=fun e=>ha (UInt8.toNat_inj.1 (by rw [e]; rfl))
 have hlt:=a.toNat_lt
 have hb:=List.all_eq_true.1 zt a.toNat (List.mem_range'_1.2 (by omega))
 rw [← c3] at hb
 rcases AB _ _ _ hb with h | h
 ·simp at h
 ·have h : a.toNat ∈ Bv m (UInt8.ofNat q.2).toNat 255 (1 : UInt8).toNat:=by rw [eg]; exact h
  obtain ⟨z,hz,hzg⟩:=Hh h1 h2 _ hg 255 1 (by rw [Ax h1 h2,Ud h1 h2]) _ h
  have : a = z:=UInt8.toNat_inj.1 hz
  rw [this]; exact hzg


theorem BJ {a b : UInt8} (h : a ≠ b) : a ^^^ b ≠ 0:=fun e=>h (by
 have : (a ^^^ b) ^^^ b = 0 ^^^ b:=by rw [e]
 rwa [UInt8.xor_assoc,UInt8.xor_self,UInt8.xor_zero,UInt8.zero_xor] at this)
theorem BB {m : Nat} (hf : ZH (m : Int) = true) (h1 : 256 ≤ m) (h2 : m < 512) {a b : UInt8} (ha : a ≠ 0) (h : Zt m a b = 0) : b = 0:=by
 have e : Zt m (Zt m (Tx m a) a) b = b:=by rw [Yl h1 h2 (Tx m a) a,Ho hf ha,Ud h1 h2]
 rw [YA h1 h2,h,Yl h1 h2,Vn h1 h2] at e
 exact e.symm
def VB (m : Nat) : Nat → (UInt8 → UInt8) → Prop
 | 0,g=>∀ x,g x = 0
 | n + 1,g=>∃ c h,VB m n h ∧ ∀ x,g x = c ^^^ Zt m x (h x)
theorem TX {m n : Nat} {g g' : UInt8 → UInt8} (h : ∀ x,g x = g' x) (hg : VB m n g) : VB m n g':=by
 have : g = g':=funext h
 exact this ▸ hg
section
variable {m : Nat} (h1 : 256 ≤ m) (h2 : m < 512)
include h1 h2
theorem Wh (a : UInt8) : Zt m a 0 = 0:=by rw [Yl h1 h2,Vn h1 h2]
theorem T6 : ∀ n,VB m n (fun _=>0)
 | 0=>fun _=>rfl
 | n + 1=>⟨0,fun _=>0,T6 n,fun x=>by rw [Wh h1 h2]; rfl⟩
theorem TW : ∀ {n : Nat} {g g' : UInt8 → UInt8},VB m n g → VB m n g' → VB m n (fun x=>g x ^^^ g' x)
 | 0,_,_,a,b=>fun x=>by show _ ^^^ _ = (0 : UInt8); rw [a x,b x]; rfl
 | n + 1,_,_,⟨c,h,ph,e⟩,⟨c',h',ph',e'⟩=>⟨c ^^^ c',fun x=>h x ^^^ h' x,TW ph ph',fun x=>by dsimp only; rw [e x,e' x,Ub h1 h2]; ac_rfl⟩
theorem QD (k : UInt8) : ∀ {n : Nat} {g : UInt8 → UInt8},VB m n g → VB m n (fun x=>Zt m k (g x))
 | 0,_,a=>fun x=>by show Zt m k _ = 0; rw [a x,Wh h1 h2]
 | n + 1,_,⟨c,h,ph,e⟩=>⟨Zt m k c,fun x=>Zt m k (h x),QD k ph,fun x=>by dsimp only; rw [e x,Ub h1 h2,← YA h1 h2,← YA h1 h2,Yl h1 h2 k x]⟩
theorem BG (k : UInt8) (n : Nat) : VB m (n + 1) (fun _=>k):=⟨k,fun _=>0,T6 h1 h2 n,fun x=>by rw [Wh h1 h2,UInt8.xor_zero]⟩
theorem Ha : ∀ {n : Nat} {g : UInt8 → UInt8},VB m n g → VB m (n + 1) g
 | 0,_,a=>TX (fun x=>(a x).symm) (T6 h1 h2 1)
 | n + 1,_,⟨c,h,ph,e⟩=>⟨c,h,Ha ph,e⟩
theorem B1 {n : Nat} {g : UInt8 → UInt8} (hg : VB m n g) (p : UInt8) : VB m (n + 1) (fun x=>Zt m (g x) (x ^^^ p)) :=
 TX (fun x=>by rw [Ub h1 h2,Yl h1 h2 (g x) x,Yl h1 h2 (g x) p]) (TW h1 h2 (g:=fun x=>Zt m x (g x)) (g':=fun x=>Zt m p (g x)) ⟨0,g,hg,fun x=>(UInt8.zero_xor).symm⟩ (Ha h1 h2 (QD h1 h2 p hg)))
theorem Bl : ∀ {n : Nat} {g : UInt8 → UInt8},VB m (n + 1) g → ∀ a,∃ q,VB m n q ∧ ∀ x,g x = g a ^^^ Zt m (x ^^^ a) (q x)
 | 0,g,⟨c,h,ph,e⟩,a=>⟨fun _=>0,fun _=>rfl,fun x=>by rw [e x,e a,ph x,ph a,Wh h1 h2,Wh h1 h2,Wh h1 h2,UInt8.xor_zero,UInt8.xor_zero]⟩
 | n + 1,g,⟨c,h,ph,e⟩,a=>by
  obtain ⟨q,pq,eq⟩:=Bl ph a
  refine ⟨fun x=>h a ^^^ Zt m x (q x),⟨h a,q,pq,fun _=>rfl⟩,fun x=>?_⟩
  have e3 : Zt m x (Zt m (x ^^^ a) (q x)) = Zt m (x ^^^ a) (Zt m x (q x)):=by rw [← YA h1 h2,← YA h1 h2,Yl h1 h2 x]
  have e4 : Zt m (x ^^^ a) (h a) = Zt m x (h a) ^^^ Zt m a (h a):=T7 h1 h2 _ _ _
  rw [e x,e a,eq x,Ub h1 h2,e3]
  show _ = (c ^^^ Zt m a (h a)) ^^^ Zt m (x ^^^ a) (h a ^^^ Zt m x (q x))
  rw [Ub h1 h2,e4]
  generalize Zt m a (h a) = A
  generalize Zt m x (h a) = X
  generalize Zt m (x ^^^ a) (Zt m x (q x)) = Q
  have : (c ^^^ A) ^^^ ((X ^^^ A) ^^^ Q) = (c ^^^ (X ^^^ Q)) ^^^ (A ^^^ A):=by ac_rfl
  rw [this,UInt8.xor_self,UInt8.xor_zero]
theorem Hb (hf : ZH (m : Int) = true) : ∀ (l : List UInt8) {g : UInt8 → UInt8},VB m l.length g → l.Nodup → (∀ p ∈ l,g p = 0) → ∀ x,g x = 0
 | [],_,a,_,_=>a
 | p :: l,g,a,hn,hz=>by
  obtain ⟨q,pq,eq⟩:=Bl h1 h2 a p
  have hp : g p = 0:=hz p (List.mem_cons_self ..)
  rw [List.nodup_cons] at hn
  have hq:=Hb hf l pq hn.2 (fun y hy=>by
   have:=eq y
   rw [hz y (List.mem_cons_of_mem _ hy),hp,UInt8.zero_xor] at this
   exact BB hf h1 h2 (BJ (a:=y) (b:=p) fun e=>hn.1 (e ▸ hy)) this.symm)
  intro x
  rw [eq x,hp,hq x,Wh h1 h2]; rfl
theorem KR : ∀ (l : List UInt8),VB m l.length (ZF m l)
 | []=>fun _=>rfl
 | a :: l=>⟨a,ZF m l,KR l,fun x=>by show Zt m (ZF m l x) x ^^^ a = _; rw [Yl h1 h2,UInt8.xor_comm]⟩
end
theorem Zn {α β : Type} {o : Option α} {f : α → Option β} {P : α → Prop} {Q : β → Prop} (h : ∃ r,o = some r ∧ P r) (k : ∀ r,P r → ∃ q,f r = some q ∧ Q q) : ∃ q,(o.bind f) = some q ∧ Q q:=by
 obtain ⟨r,e,hr⟩:=h
 rw [e,Option.bind_some]
 exact k r hr
theorem Tg {α β : Type} {x : α} {f : α → Option β} {Q : β → Prop} (k : ∃ q,f x = some q ∧ Q q) : ∃ q,((some x).bind f) = some q ∧ Q q:=k
theorem XY {β : Type} {c : Prop} [Decidable c] {a b : Option β} {Q : β → Prop} (h1 : c → ∃ q,a = some q ∧ Q q) (h2 : ¬ c → ∃ q,b = some q ∧ Q q) : ∃ q,(if c then a else b) = some q ∧ Q q:=by
 by_cases h : c
 ·rw [if_pos h]; exact h1 h
 ·rw [if_neg h]; exact h2 h
theorem V4 {σ ρ : Type} {f : σ → Option (Fl σ ρ)} (I : Nat → σ → Prop) {R : ρ → Prop} (n : Nat) (h : ∀ i s,i < n → I i s → ∃ q,f s = some q ∧ ∃ s',q = .nx s' ∧ I (i + 1) s') (he : ∀ s,I n s → ∃ q,f s = some q ∧ ∃ r,q = .ex r ∧ R r) :
  ∀ (k i : Nat) (s : σ),i + k = n → I i s → ∃ r,ZJ f s = some r ∧ R r
 | 0,i,s,hk,hi=>by
  have : i = n:=by omega
  subst this
  obtain ⟨q,e,r,rfl,hr⟩:=he s hi
  exact ⟨r,X0 e,hr⟩
 | k + 1,i,s,hk,hi=>by
  obtain ⟨q,e,s',rfl,hs⟩:=h i s (by omega) hi
  rw [Vk e]
  exact V4 I n h he k (i + 1) s' (by omega) hs
theorem XX {α : Type} (l : List α) {i : Int} (h : 0 ≤ i ∧ i < l.length) : ∃ x,idx l i = some x ∧ x ∈ l:=by
 obtain ⟨k,rfl⟩:=Int.eq_ofNat_of_zero_le h.1
 have hk : k < l.length:=by omega
 exact ⟨l[k],by rw [ZT,List.getElem?_eq_getElem hk],List.getElem_mem hk⟩
def Y2 (s : Int × Int) : Prop:=0 ≤ s.1 ∧ s.1 ≤ 4096
section
variable {p : List UInt8} (hp : p.length ≤ 4096) {s : Int × Int} (hs : Y2 s)
theorem JE (a : BitVec 64) : ∃ m : Nat,m ≤ 16777215 ∧ IntKind.i64.wrap (wru (a &&& BitVec.ofInt 64 16777215).toNat) = (m : Int):=by
 have h : (a &&& BitVec.ofInt 64 16777215).toNat ≤ 16777215:=by
  rw [BitVec.toNat_and]
  exact Nat.le_trans Nat.and_le_right (by decide)
 refine ⟨_,h,?_⟩
 generalize (a &&& BitVec.ofInt 64 16777215).toNat = m at *
 have e : wru (m : Int) = (m : Int):=AZ m (by omega)
 rw [e]
 exact Wp (by omega)
include hp hs
theorem YF {n : Int} (hn : 1 ≤ n) : ∃ r,Zz p s n = some r ∧ (Y2 r.1 ∧ 0 ≤ r.2 ∧ r.2 < n):=by
 unfold Zz
 obtain ⟨m,hm,em⟩:=JE (BitVec.ofInt 64 (Ti (IntKind.u64.wrap ((IntKind.u64.wrap (s.2 * 6364136223846793005)) + 1442695040888963407)) 33))
 rw [em]
 have hz : UP n = some ():=by unfold UP; rw [if_pos (by omega)]
 obtain ⟨h1,h2⟩:=hs
 rw [if_neg (by simp only [decide_eq_true_eq]; omega)]
 refine Zn (P:=fun j=>(0 ≤ j.1 ∧ j.1 ≤ 4096) ∧ 0 ≤ j.2) (Tg (XY (fun hc=>?_) (fun _=>⟨_,rfl,⟨h1,h2⟩,by omega⟩))) fun j hj=>?_
 ·have hc : s.1 < (p.length : Int):=of_decide_eq_true hc
  refine Zn (P:=fun x=>0 ≤ x) (Zn (XX p ⟨h1,hc⟩) fun x _=>⟨_,rfl,?_⟩) fun x hx=>⟨_,rfl,?_,hx⟩
  ·have hb:=x.toNat_lt
   show 0 ≤ wr ((m : Int) + (x.toNat : Int))
   rw [Wp (by omega)]; omega
  ·show 0 ≤ wr (s.1 + 1) ∧ wr (s.1 + 1) ≤ 4096
   rw [Wp (by omega)]; omega
 ·rw [hz]
  refine ⟨_,rfl,hj.1,?_,?_⟩
  ·exact Int.tmod_nonneg _ hj.2
  ·exact Int.tmod_lt_of_pos _ (by omega)
theorem WG {l : List Int} (hl : 1 ≤ l.length) : ∃ r,ZR p s l = some r ∧ (Y2 r.1 ∧ r.2 ∈ l):=by
 unfold ZR
 exact Zn (YF hp hs (by omega)) fun r hr=>Zn (XX l hr.2) fun x hx=>⟨_,rfl,hr.1,hx⟩
theorem QL : ∃ r,Yk p s = some r ∧ Y2 r.1:=by
 unfold Yk
 exact Zn (YF hp hs (by omega)) fun r hr=>Zn (YF hp hr.1 (by omega)) fun r hr=>Zn (YF hp hr.1 (by omega)) fun r hr=>Zn (WG hp hr.1 (by simp)) fun r hr=>⟨_,rfl,hr.1⟩
end
theorem JC {p : List UInt8} (hp : p.length ≤ 4096) : ∃ r,XR p = some r ∧ Y2 r:=by
 unfold XR
 refine Zn (P:=fun _=>True) (V4 (fun i t=>t.2 = (i : Int)) p.length (fun i t hi ht=>?_) (fun t ht=>?_) p.length 0 _ (by omega) rfl) fun j _=>⟨_,rfl,by show (0 : Int) ≤ 0; omega,by show (0 : Int) ≤ 4096; omega⟩
 ·unfold VK
  rw [if_pos (by simp only [decide_eq_true_eq]; omega)]
  have h1 : decide (t.2 < 4096) = true:=by simp only [decide_eq_true_eq]; omega
  rw [h1]
  exact Tg (XY (fun _=>Zn (XX p (by omega)) fun x _=>⟨_,rfl,_,rfl,by show wr (t.2 + 1) = _; rw [ht,Wp (by omega)]; omega⟩) fun h=>absurd rfl h)
 ·unfold VK
  rw [if_neg (by simp only [decide_eq_true_eq]; omega)]
  exact ⟨_,rfl,_,rfl,trivial⟩

theorem BQ : ∃ r,WK = some r ∧ (1 ≤ r.length ∧ ∀ x ∈ r,ZH x = true):=by
 unfold WK
 have h285 : ZH 285 = true:=by decide +kernel
 refine Zn (V4 (fun i t=>t.2 = ((256 + i : Nat) : Int) ∧ t.1.length ≤ i ∧ (29 < i → 1 ≤ t.1.length) ∧ ∀ x ∈ t.1,ZH x = true) 256 (fun i t hi ht=>?_) (fun t ht=>?_) 256 0 _ rfl ⟨rfl,Nat.zero_le _,fun h=>absurd h (by omega),fun x hx=>by cases hx⟩) fun j hj=>⟨_,rfl,hj⟩
 ·obtain ⟨t1,t2,t3,t4⟩:=ht
  unfold Vj
  rw [if_pos (by simp only [decide_eq_true_eq]; omega),Qu,Option.bind_some]
  have e1 : wr (t.2 + 1) = ((256 + (i + 1) : Nat) : Int):=by rw [t1,Wp (by omega)]; omega
  cases hf : ZH t.2
  ·refine ⟨_,rfl,_,rfl,e1,by show t.1.length ≤ i + 1; omega,fun h=>?_,t4⟩
   refine t3 ?_
   rcases Nat.lt_or_ge 29 i with h5 | h5
   ·exact h5
   ·have : i = 29:=by omega
    subst this
    rw [t1] at hf
    exact absurd h285 (by rw [show (285 : Int) = ((256 + 29 : Nat) : Int) from rfl,hf]; decide)
  ·have ha : app 8 t.1 ([t.2] : List Int) = _:=XA (by simp only [List.length_singleton]; omega)
   rw [if_pos rfl,ha]
   refine ⟨_,rfl,_,rfl,e1,by show (t.1 ++ [t.2]).length ≤ i + 1; simp; omega,fun _=>by show 1 ≤ (t.1 ++ [t.2]).length; simp,fun x hx=>?_⟩
   rcases List.mem_append.1 hx with h | h
   ·exact t4 x h
   ·rw [List.mem_singleton.1 h]; exact hf
 ·obtain ⟨t1,t2,t3,t4⟩:=ht
  unfold Vj
  rw [if_neg (by simp only [decide_eq_true_eq]; omega)]
  exact ⟨_,rfl,_,rfl,t3 (by omega),t4⟩
section
variable {p : List UInt8} (hp : p.length ≤ 4096) {s : Int × Int} (hs : Y2 s)
include hp hs
theorem J9 : ∃ r,Y0 p s = some r ∧ (Y2 r.1 ∧ ZH r.2 = true):=by
 unfold Y0
 have h285 : ZH 285 = true:=by decide +kernel
 refine Zn BQ fun l hl=>Zn (P:=fun j=>Y2 (j.1,j.2.1) ∧ ZH j.2.2 = true) ?_ fun j hj=>⟨_,rfl,hj⟩
 refine Zn (YF hp hs (by omega)) fun r hr=>Zn (XX l hr.2) fun x hx=>Zn (YF hp hr.1 (by omega)) fun r hr=>Zn (XX l hr.2) fun y hy=>Zn (WG hp hr.1 (by simp)) fun r hr=>⟨_,rfl,hr.1,?_⟩
 show ZH r.2 = true
 have:=hr.2
 simp only [List.mem_cons,List.not_mem_nil,or_false] at this
 rcases this with e | e | e <;> rw [e]
 ·exact h285
 ·exact hl.2 x hx
 ·exact hl.2 y hy
end

theorem zL {p : List UInt8} (hn : p.Nodup) {i j : Nat} (hi : i < p.length) (hj : j < p.length) (h : i ≠ j) : p.getD i 0 ≠ p.getD j 0:=by
 rw [List.getD_eq_getElem?_getD,List.getD_eq_getElem?_getD,List.getElem?_eq_getElem hi,List.getElem?_eq_getElem hj]
 exact fun e=>h (Hp hn hi hj e)
section
variable {m : Nat} (h1 : 256 ≤ m) (h2 : m < 512)
include h1 h2
theorem Bc (p : List UInt8) (i : Nat) : ∀ k,VB m (if i < k then k else k + 1) (fun x=>TI m p x i k)
 | 0=>BG h1 h2 1 0
 | k + 1=>by
  have ih:=Bc p i k
  by_cases h : k = i
  ·subst h
   rw [if_pos (by omega)]
   rw [if_neg (by omega)] at ih
   exact TX (fun x=>by unfold TI; rw [if_pos rfl]; cases k <;> rfl) ih
  ·have:=B1 h1 h2 ih (p.getD k 0)
   have e : (if i < k then k else k + 1) + 1 = if i < k + 1 then k + 1 else k + 1 + 1:=by
    by_cases c : i < k
    ·rw [if_pos c,if_pos (by omega)]
    ·rw [if_neg c,if_neg (by omega)]
   rw [← e]
   exact TX (fun x=>by rw [TI,if_neg h]) this
theorem JM (p v : List UInt8) : ∀ i,i ≤ p.length → VB m p.length (fun x=>VQ m p v x i)
 | 0,_=>T6 h1 h2 _
 | i + 1,h=>by
  have hn:=Bc h1 h2 p i p.length
  rw [if_pos (by omega)] at hn
  exact TX (fun x=>by rw [VQ,Yl h1 h2 (TI m p x i p.length)]) (TW h1 h2 (JM p v i (by omega)) (QD h1 h2 (He m p v i) hn))
theorem JS {p : List UInt8} {i j : Nat} (hij : i ≠ j) : ∀ k,j < k → TI m p (p.getD j 0) i k = 0
 | k + 1,h=>by
  unfold TI
  by_cases c : k = i
  ·rw [if_pos c]; exact JS hij k (by omega)
  ·rw [if_neg c]
   by_cases d : k = j
   ·subst d; rw [UInt8.xor_self,Wh h1 h2]
   ·rw [JS hij k (by omega),Vn h1 h2]
omit h1 h2 in
theorem Av (p : List UInt8) (i : Nat) : ∀ k,TI m p (p.getD i 0) i k = TJ m p i k
 | 0=>rfl
 | k + 1=>by
  unfold TI TJ
  rw [Av p i k]
theorem BT (hf : ZH (m : Int) = true) {p : List UInt8} (hn : p.Nodup) {i : Nat} (hi : i < p.length) : ∀ k,k ≤ p.length → TJ m p i k ≠ 0
 | 0,_=>by unfold TJ; decide
 | k + 1,h=>by
  unfold TJ
  by_cases c : k = i
  ·rw [if_pos c]; exact BT hf hn hi k (by omega)
  ·rw [if_neg c]
   exact fun e=>BJ (zL hn hi (by omega) (Ne.symm c)) (BB hf h1 h2 (BT hf hn hi k (by omega)) e)
theorem BD (hf : ZH (m : Int) = true) {p : List UInt8} (hn : p.Nodup) (v : List UInt8) {j : Nat} (hj : j < p.length) : ∀ i,i ≤ p.length → VQ m p v (p.getD j 0) i = if j < i then v.getD j 0 else 0
 | 0,_=>by rw [if_neg (by omega)]; rfl
 | i + 1,h=>by
  unfold VQ
  rw [BD hf hn v hj i (by omega)]
  by_cases c : i = j
  ·subst c
   rw [if_neg (by omega),if_pos (by omega),Av,He,Yl h1 h2 (v.getD i 0),← YA h1 h2,Ho hf (BT h1 h2 hf hn (by omega) _ (Nat.le_refl _)),Ud h1 h2,UInt8.zero_xor]
  ·rw [JS h1 h2 c _ hj,Vn h1 h2,UInt8.xor_zero]
   by_cases d : j < i
   ·rw [if_pos d,if_pos (by omega)]
   ·rw [if_neg d,if_neg (by omega)]
theorem zb (hf : ZH (m : Int) = true) {p : List UInt8} (hn : p.Nodup) {v : List UInt8} {g : UInt8 → UInt8} (hg : VB m p.length g) (hv : ∀ j,j < p.length → v.getD j 0 = g (p.getD j 0)) (x : UInt8) : VQ m p v x p.length = g x:=by
 have h:=Hb h1 h2 hf p (TW h1 h2 (JM h1 h2 p v _ (Nat.le_refl _)) hg) hn (fun q hq=>by
  obtain ⟨j,hj,rfl⟩:=List.getElem_of_mem hq
  have e : p[j] = p.getD j 0:=by rw [List.getD_eq_getElem?_getD,List.getElem?_eq_getElem hj]; rfl
  show VQ m p v p[j] p.length ^^^ g p[j] = 0
  rw [e,BD h1 h2 hf hn v hj _ (Nat.le_refl _),if_pos hj,hv j hj,UInt8.xor_self]) x
 have h : VQ m p v x p.length ^^^ g x = 0:=h
 by_cases c : VQ m p v x p.length = g x
 ·exact c
 ·exact absurd h (BJ c)
end

structure OnPoly (m t N : Nat) (l : List GShare) (g : Nat → UInt8 → UInt8) : Prop where
 deg : ∀ k,VB m t (g k)
 data : ∀ s ∈ l,s.Data = tab N (fun k=>g k s.Place)
theorem AJ (l : List GShare) {t : Nat} (h : 1 ≤ t) : (l.take t).headD default = l.headD default:=by
 cases l with
 | nil=>simp
 | cons x l=>cases t with
  | zero=>omega
  | succ t=>rfl
theorem JY (l : List GShare) {t : Nat} (h : 1 ≤ t) : dataN (l.take t) = dataN l:=by unfold dataN; rw [AJ l h]
theorem OnPoly.dataN {m t N : Nat} {l : List GShare} {g : Nat → UInt8 → UInt8} (h : OnPoly m t N l g) (hl : 0 < l.length) : dataN l = N:=by
 cases l with
 | nil=>simp at hl
 | cons s l =>
  show s.Data.length = N
  rw [h.data s (List.mem_cons_self ..),T5]
section
variable {m : Nat} (h1 : 256 ≤ m) (h2 : m < 512)
include h1 h2
theorem OnPoly.at {t N : Nat} {l : List GShare} {g : Nat → UInt8 → UInt8} (hf : ZH (m : Int) = true) (h : OnPoly m t N l g) (gd : Good l) (ht : 1 ≤ t) (hl : t ≤ l.length) (x : UInt8) : atC m (l.take t) x = tab N fun k=>g k x:=by
 have hlen : (l.take t).length = t:=by rw [List.length_take]; omega
 have hnd : (Zu (l.take t)).Nodup:=(gd.take ht hl).diff
 unfold atC
 rw [JY l ht,h.dataN (by omega)]
 refine VD fun k hk=>?_
 have hpl : (Zu (l.take t)).length = (l.take t).length:=Yy _
 rw [← hpl]
 refine zb h1 h2 hf hnd (by rw [hpl,hlen]; exact h.deg k) (fun j hj=>?_) x
 rw [hpl] at hj
 have hm : (l.take t)[j] ∈ l:=List.mem_of_mem_take (List.getElem_mem hj)
 rw [Tp _ hj,HN _ hj,h.data _ hm,List.getD_eq_getElem?_getD,Wr _ hk]
 rfl
theorem OnPoly.fit {t N : Nat} {l : List GShare} {g : Nat → UInt8 → UInt8} (hf : ZH (m : Int) = true) (h : OnPoly m t N l g) (gd : Good l) (ht : 1 ≤ t) (hl : t ≤ l.length) : Qf m l t = true:=by
 unfold Qf
 rw [Bool.not_eq_true',List.any_eq_false]
 intro k hk
 rw [List.mem_range'_1] at hk
 have hk2 : k < l.length:=by omega
 rw [List.getElem?_eq_getElem hk2,Option.map_some,Option.getD_some,h.at h1 h2 hf gd ht hl,← h.data _ (List.getElem_mem hk2)]
 simp
theorem zA {t : Nat} {l : List GShare} (hf : ZH (m : Int) = true) (gd : Good l) (ht : 1 ≤ t) (hl : t ≤ l.length) (hc : Qf m l t = true) : OnPoly m t (dataN l) l (fun k x=>VQ m (Zu (l.take t)) (V3 (l.take t) k) x t):=by
 have hlen : (l.take t).length = t:=by rw [List.length_take]; omega
 have hpl : (Zu (l.take t)).length = t:=by rw [Yy,hlen]
 have hat : ∀ x,atC m (l.take t) x = tab (dataN l) fun k=>VQ m (Zu (l.take t)) (V3 (l.take t) k) x t:=fun x=>by unfold atC; rw [JY l ht,hlen]
 refine ⟨fun k=>?_,fun s hs=>?_⟩
 ·have:=JM h1 h2 (Zu (l.take t)) (V3 (l.take t) k) t (by omega)
  rwa [hpl] at this
 ·obtain ⟨i,hi,rfl⟩:=List.getElem_of_mem hs
  by_cases c : i < t
  ·have hdl : l[i].Data.length = dataN l:=gd.at hi
   rw [QZ l[i].Data,hdl]
   refine VD fun k hk=>?_
   have hi2 : i < (l.take t).length:=by omega
   have e : (l.take t)[i] = l[i]:=by rw [List.getElem_take]
   have hnd : (Zu (l.take t)).Nodup:=(gd.take ht hl).diff
   have:=BD h1 h2 hf hnd (V3 (l.take t) k) (j:=i) (by omega) t (by omega)
   rw [Tp _ hi2,HN _ hi2,e,if_pos c] at this
   exact this.symm
  ·unfold Qf at hc
   rw [Bool.not_eq_true',List.any_eq_false] at hc
   have:=hc i (List.mem_range'_1.2 (by omega))
   rw [List.getElem?_eq_getElem hi,Option.map_some,Option.getD_some] at this
   have this : atC m (l.take t) l[i].Place = l[i].Data:=by simpa using this
   rw [← this,hat]
end
theorem Ao {α β γ : Type} (f : α → β → γ) : ∀ (a : List α) (b : List β) (c : γ),c ∈ List.zipWith f a b → ∃ x y,(x,y) ∈ a.zip b ∧ c = f x y
 | [],_,_,h=>by simp at h
 | _ :: _,[],_,h=>by simp at h
 | x :: a,y :: b,c,h=>by
  rw [List.zipWith_cons_cons] at h
  rcases List.mem_cons.1 h with e | h
  ·exact ⟨x,y,by simp,e⟩
  ·obtain ⟨x',y',h',e⟩:=Ao f a b c h
   exact ⟨x',y',by simp [h'],e⟩
theorem zR (n : Nat) (f g : Nat → UInt8) : List.zipWith (· ^^^ ·) (tab n f) (tab n g) = tab n fun k=>f k ^^^ g k:=by
 apply List.ext_getElem?
 intro i
 rw [List.getElem?_zipWith]
 by_cases h : i < n
 ·rw [Wr _ h,Wr _ h,Wr _ h]
 ·rw [List.getElem?_eq_none (by simp; omega),List.getElem?_eq_none (by simp; omega),List.getElem?_eq_none (by simp; omega)]
theorem Jo : ∀ {a b : List GShare},Zu a = Zu b → ∀ x y,(x,y) ∈ a.zip b → x ∈ a ∧ y ∈ b ∧ x.Place = y.Place
 | [],_,_,_,_,h=>by simp at h
 | _ :: _,[],_,_,_,h=>by simp at h
 | p :: a,q :: b,h,x,y,hm=>by
  have h : p.Place :: Zu a = q.Place :: Zu b:=h
  rw [List.cons.injEq] at h
  rw [List.zip_cons_cons] at hm
  rcases List.mem_cons.1 hm with e | hm
  ·cases e
   exact ⟨List.mem_cons_self ..,List.mem_cons_self ..,h.1⟩
  ·obtain ⟨q1,q2,q3⟩:=Jo h.2 x y hm
   exact ⟨List.mem_cons_of_mem _ q1,List.mem_cons_of_mem _ q2,q3⟩
theorem Qo : ∀ {a b : List GShare},Zu a = Zu b → Zu (Tq a b) = Zu a
 | [],_,_=>by simp [Tq,Zu]
 | _ :: _,[],h=>by simp [Zu] at h
 | p :: a,q :: b,h=>by
  have h : p.Place :: Zu a = q.Place :: Zu b:=h
  rw [List.cons.injEq] at h
  show p.Place :: Zu (Tq a b) = p.Place :: Zu a
  rw [Qo h.2]
theorem OnPoly.add {m : Nat} (h1 : 256 ≤ m) (h2 : m < 512) {t N : Nat} {a b : List GShare} {g g' : Nat → UInt8 → UInt8} (ha : OnPoly m t N a g) (hb : OnPoly m t N b g') (hp : Zu a = Zu b) : OnPoly m t N (Tq a b) (fun k x=>g k x ^^^ g' k x):=by
 refine ⟨fun k=>TW h1 h2 (ha.deg k) (hb.deg k),fun s hs=>?_⟩
 obtain ⟨x,y,hm,rfl⟩:=Ao addS a b s hs
 obtain ⟨q1,q2,q3⟩:=Jo hp x y hm
 show List.zipWith (· ^^^ ·) x.Data y.Data = tab N fun k=>g k x.Place ^^^ g' k x.Place
 rw [ha.data x q1,hb.data y q2,zR,← q3]
theorem OnPoly.made {m : Nat} (h1 : 256 ≤ m) (h2 : m < 512) (data : List UInt8) (cs : List (List UInt8)) (ps : List UInt8) : OnPoly m (cs.length + 1) data.length (ps.map (YT m data cs)) (fun k x=>ZF m (Wv data cs k) x):=by
 refine ⟨fun k=>?_,fun s hs=>?_⟩
 ·have:=KR h1 h2 (Wv data cs k)
  rwa [show (Wv data cs k).length = cs.length + 1 by simp [Wv]] at this
 ·obtain ⟨p,hp,rfl⟩:=List.mem_map.1 hs
  rfl
theorem Ah {m : Nat} (h1 : 256 ≤ m) (h2 : m < 512) (a : UInt8) (l : List UInt8) : ZF m (a :: l) 0 = a:=by
 show Zt m (ZF m l 0) 0 ^^^ a = a
 rw [Wh h1 h2,UInt8.zero_xor]
theorem KG (m : Nat) (data : List UInt8) (cs : List (List UInt8)) (ps : List UInt8) : Zu (ps.map (YT m data cs)) = ps:=by
 unfold Zu
 rw [List.map_map]
 exact List.map_id'' (fun _=>rfl) ps

theorem Ux {m : Nat} (h1 : 256 ≤ m) (h2 : m < 512) (hf : ZH (m : Int) = true) {t N : Nat} {l : List GShare} {g : Nat → UInt8 → UInt8} (h : OnPoly m t N l g) (hc : Yb l = 0) (ht : 1 ≤ t ∧ t ≤ 8) (hl : t ≤ l.length) : Yj (m : Int) l (t : Int) = (tab N fun k=>g k 0,0):=by
 have gd:=Uy hc
 have hb : Yo (m : Int) l (t : Int) = 0:=by
  unfold Yo
  rw [hf,hc]
  simp; omega
 unfold Yj
 rw [hb]
 simp only [bne_self_eq_false,Bool.false_eq_true,if_false,Int.toNat_natCast]
 have hr : Xl m l t = 0:=by
  unfold Xl
  rw [if_neg (by omega),h.fit h1 h2 hf gd ht.1 hl]; rfl
 unfold VI
 rw [hr,h.at h1 h2 hf gd ht.1 hl]
 rfl
theorem UU {k : Int} (h : 0 ≤ k) (h' : k ≤ 100000) : wr (k + 1) = k + 1:=Wp (by omega)
theorem QT {k : Int} (h : 0 ≤ k) (h' : k ≤ 100000) : wr (k - 1) = k - 1:=Wp (by omega)
theorem HM {k : Int} (h : 0 < k) : (decide (k > 0)) = true:=by simpa using h
theorem HZ {k : Int} (h : ¬ 0 < k) : ¬ (decide (k > 0)) = true:=by simpa using h
theorem KN {a b : Int} (h : a < b) : (decide (a < b)) = true:=by simpa using h
theorem H4 {a b : Int} (h : ¬ a < b) : ¬ (decide (a < b)) = true:=by simpa using h
section
variable {p : List UInt8} (hp : p.length ≤ 4096) {s : Int × Int} (hs : Y2 s)
include hp hs
theorem Hf {n : Nat} (hn : n ≤ 1000) : ∃ r,Y1 p s (n : Int) = some r ∧ (Y2 r.1 ∧ r.2.length ≤ n):=by
 unfold Y1
 have a5 : 0 ≤ (if (5 : Int) < (n : Int) then 5 else (n : Int)) ∧ (if (5 : Int) < (n : Int) then 5 else (n : Int)) ≤ n:=by split <;> omega
 have a40 : 0 ≤ (if (40 : Int) < (n : Int) then 40 else (n : Int)) ∧ (if (40 : Int) < (n : Int) then 40 else (n : Int)) ≤ n:=by split <;> omega
 rw [UU a5.1 (by omega),UU a40.1 (by omega),UU (k:=(n : Int)) (by omega) (by omega)]
 refine Zn (YF hp hs (by omega)) fun r3 q3=>Zn (YF hp q3.1 (by omega)) fun r5 q5=>Zn (YF hp q5.1 (by omega)) fun r7 q7=>Zn (WG hp q7.1 (by simp)) fun r q=>?_
 obtain ⟨k,ek,hk⟩ : ∃ k : Nat,r.2 = k ∧ k ≤ n:=by
  have h0:=q3.2; have h1:=q5.2; have h2:=q7.2
  have h3:=q.2
  simp only [List.mem_cons,List.not_mem_nil,or_false] at h3
  exact ⟨r.2.toNat,by rcases h3 with e | e | e <;> omega,by rcases h3 with e | e | e <;> omega⟩
 refine Zn (P:=fun j=>Y2 (j.1,j.2.1) ∧ j.2.2.length ≤ n) (V4 (fun i t=>t.2.2.2 = ((k - i : Nat) : Int) ∧ t.2.2.1.length = i ∧ Y2 (t.1,t.2.1)) k (fun i t hi ht=>?_) (fun t ht=>?_) k 0 _ (by omega) ⟨ek,rfl,q.1⟩) fun j hj=>⟨_,rfl,hj⟩
 ·obtain ⟨t1,t2,t3⟩:=ht
  unfold Wj
  rw [if_pos (HM (by omega))]
  refine Zn (QL hp t3) fun r hr=>?_
  have ha : app 1 t.2.2.1 ([r.2] : List UInt8) = _:=XA (by simp only [List.length_singleton]; omega)
  rw [ha]
  exact ⟨_,rfl,_,rfl,by show wr (t.2.2.2 - 1) = _; rw [t1,QT (by omega) (by omega)]; omega,by simp; omega,hr⟩
 ·obtain ⟨t1,t2,t3⟩:=ht
  unfold Wj
  rw [if_neg (HZ (by omega))]
  exact ⟨_,rfl,_,rfl,t3,by show t.2.2.1.length ≤ n; omega⟩
theorem Jt {n : Nat} (hn : n ≤ 1000) : ∃ r,XD p s (n : Int) = some r ∧ (Y2 r.1 ∧ r.2.length = n):=by
 unfold XD
 refine Zn (P:=fun j=>Y2 (j.1,j.2.1) ∧ j.2.2.length = n) (V4 (fun i t=>t.2.2.1 = ((n - i : Nat) : Int) ∧ t.2.2.2.length = i ∧ Y2 (t.1,t.2.1)) n (fun i t hi ht=>?_) (fun t ht=>?_) n 0 _ (by omega) ⟨rfl,rfl,hs⟩) fun j hj=>⟨_,rfl,hj⟩
 ·obtain ⟨t1,t2,t3⟩:=ht
  unfold Vi
  rw [if_pos (HM (by omega))]
  refine Zn (QL hp t3) fun r hr=>?_
  have ha : app 1 t.2.2.2 ([r.2] : List UInt8) = _:=XA (by simp only [List.length_singleton]; omega)
  rw [ha]
  exact ⟨_,rfl,_,rfl,by show wr (t.2.2.1 - 1) = _; rw [t1,QT (by omega) (by omega)]; omega,by simp; omega,hr⟩
 ·obtain ⟨t1,t2,t3⟩:=ht
  unfold Vi
  rw [if_neg (HZ (by omega))]
  exact ⟨_,rfl,_,rfl,t3,t2⟩
theorem BO : ∃ r,W4 p s = some r ∧ Y2 r.1:=by
 unfold W4
 exact Zn (YF hp hs (by omega)) fun r hr=>XY (fun _=>Zn (WG hp hr.1 (by simp)) fun r hr=>⟨_,rfl,hr.1⟩) (fun _=>Zn (J9 hp hr.1) fun r hr=>⟨_,rfl,hr.1⟩)
theorem JI {n : Nat} (hn : n ≤ 1000) : ∃ r,YQ p s (n : Int) = some r ∧ (Y2 r.1 ∧ r.2.length = n):=by
 unfold YQ
 refine Zn (YF hp hs (by omega)) fun r1 q1=>Zn (WG hp q1.1 (by simp)) fun r5 q5=>?_
 refine Zn (P:=fun j=>j.length = n) (V4 (fun i t=>t.2 = (i : Int) ∧ t.1.length = i) n (fun i t hi ht=>?_) (fun t ht=>?_) n 0 _ (by omega) ⟨rfl,rfl⟩) fun j hj=>?_
 ·obtain ⟨t1,t2⟩:=ht
  unfold XZ
  rw [if_pos (KN (by omega))]
  have ha : ∀ x,app 1 t.1 ([x] : List UInt8) = _:=fun x=>XA (by simp only [List.length_singleton]; omega)
  rw [ha]
  exact ⟨_,rfl,_,rfl,by show wr (t.2 + 1) = _; rw [t1,UU (by omega) (by omega)]; omega,by simp; omega⟩
 ·obtain ⟨t1,t2⟩:=ht
  unfold XZ
  rw [if_neg (H4 (by omega))]
  exact ⟨_,rfl,_,rfl,t2⟩
 ·refine Zn (P:=fun k=>Y2 (k.1,k.2.1) ∧ k.2.2.length = n) (Zn (P:=fun k=>Y2 (k.1,k.2.1) ∧ (k.2.2 = true → 0 < n)) ?_ fun k hk=>XY (fun c=>?_) (fun _=>⟨_,rfl,hk.1,hj⟩)) fun k hk=>⟨_,rfl,hk⟩
  ·refine XY (fun c=>?_) (fun _=>⟨_,rfl,q5.1,fun h=>Bool.noConfusion (show false = true from h)⟩)
   have c : (n : Int) > 0:=of_decide_eq_true c
   exact Zn (YF hp q5.1 (by omega)) fun r hr=>⟨_,rfl,hr.1,fun _=>by omega⟩
  ·have c:=hk.2 c
   rw [QT (k:=(n : Int)) (by omega) (by omega)]
   refine Zn (XX j (by omega)) fun x hx=>Zn (WG hp hk.1 (by simp)) fun r hr=>Zn (XX j (by omega)) fun y hy=>⟨_,rfl,hr.1,by show (j.set _ _).length = n; rw [List.length_set]; exact hj⟩
end
theorem JR {a b c d x : Int} {m : Nat} (h : x ∈ [a,b,c,d]) (ha : 0 ≤ a ∧ a ≤ m) (hb : 0 ≤ b ∧ b ≤ m) (hc : 0 ≤ c ∧ c ≤ m) (hd : 0 ≤ d ∧ d ≤ m) : ∃ k : Nat,x = k ∧ k ≤ m:=by
 simp only [List.mem_cons,List.not_mem_nil,or_false] at h
 exact ⟨x.toNat,by rcases h with e | e | e | e <;> omega,by rcases h with e | e | e | e <;> omega⟩
theorem Bg {a b c x : Int} {m : Nat} (h : x ∈ [a,b,c]) (ha : 0 ≤ a ∧ a ≤ m) (hb : 0 ≤ b ∧ b ≤ m) (hc : 0 ≤ c ∧ c ≤ m) : ∃ k : Nat,x = k ∧ k ≤ m:=by
 simp only [List.mem_cons,List.not_mem_nil,or_false] at h
 exact ⟨x.toNat,by rcases h with e | e | e <;> omega,by rcases h with e | e | e <;> omega⟩
section
variable {p : List UInt8} (hp : p.length ≤ 4096)
include hp
theorem J0 : ∃ r,Xw p = some r ∧ (r.2.1.length ≤ 101 ∧ r.2.2.1.length ≤ 8 ∧ r.2.2.2.length ≤ 13):=by
 unfold Xw
 refine Zn (JC hp) fun r1 q1=>Zn (WG hp q1 (by simp)) fun r7 q7=>?_
 obtain ⟨n,en,hn⟩:=JR (m:=101) q7.2 (by omega) (by omega) (by omega) (by omega)
 rw [en]
 refine Zn (Hf hp q7.1 (by omega)) fun r9 q9=>Zn (YF hp q9.1 (by omega)) fun r14 q14=>Zn (YF hp q14.1 (by omega)) fun r16 q16=>Zn (WG hp q16.1 (by simp)) fun r20 q20=>?_
 have b14:=q14.2
 have b16:=q16.2
 obtain ⟨k,ek,hk⟩:=Bg (m:=8) q20.2 (by omega) (by omega) (by omega)
 have h9:=q9.2
 refine Zn (P:=fun j=>Y2 (j.1,j.2.1) ∧ j.2.2.length ≤ 8 ∧ ∀ c ∈ j.2.2,c.length ≤ 101) (V4 (fun i t=>t.2.2.2 = ((k - i : Nat) : Int) ∧ t.2.2.1.length = i ∧ Y2 (t.1,t.2.1) ∧ ∀ c ∈ t.2.2.1,c.length ≤ 101) k (fun i t hi ht=>?_) (fun t ht=>?_) k 0 _ (by omega) ⟨ek,rfl,q20.1,fun c hc=>by cases hc⟩) fun j hj=>?_
 ·obtain ⟨t1,t2,t3,t4⟩:=ht
  unfold Wi
  rw [if_pos (HM (by omega))]
  refine Zn (Jt hp t3 (by omega)) fun r hr=>?_
  have ha : app 24 t.2.2.1 ([r.2] : List (List UInt8)) = _:=XA (by simp only [List.length_singleton]; omega)
  rw [ha]
  refine ⟨_,rfl,_,rfl,by show wr (t.2.2.2 - 1) = _; rw [t1,QT (by omega) (by omega)]; omega,by simp; omega,hr.1,fun c hc=>?_⟩
  rcases List.mem_append.1 hc with h | h
  ·exact t4 c h
  ·rw [List.mem_singleton.1 h,hr.2]; omega
 ·obtain ⟨t1,t2,t3,t4⟩:=ht
  unfold Wi
  rw [if_neg (HZ (by omega))]
  exact ⟨_,rfl,_,rfl,t3,by show t.2.2.1.length ≤ 8; omega,t4⟩
 ·obtain ⟨j1,j2,j3⟩:=hj
  refine Zn (P:=fun k=>Y2 (k.1,k.2.1) ∧ k.2.2.length ≤ 8) (Zn (P:=fun k=>Y2 (k.1,k.2.1) ∧ (k.2.2 = true → 0 < j.2.2.length)) ?_ fun k hk=>XY (fun c=>?_) (fun _=>⟨_,rfl,hk.1,j2⟩)) fun k hk=>?_
  ·refine XY (fun c=>?_) (fun _=>⟨_,rfl,j1,fun h=>Bool.noConfusion (show false = true from h)⟩)
   have c : (j.2.2.length : Int) > 0:=of_decide_eq_true c
   exact Zn (YF hp j1 (by omega)) fun r hr=>⟨_,rfl,hr.1,fun _=>by omega⟩
  ·have c:=hk.2 c
   refine Zn (XX j.2.2 (by omega)) fun x hx=>?_
   have hx:=j3 x hx
   have ha : app 1 x ([1] : List UInt8) = _:=XA (by simp only [List.length_singleton]; omega)
   rw [ha]
   exact Tg (Zn (XX j.2.2 (by omega)) fun y hy=>⟨_,rfl,hk.1,by show (j.2.2.set _ _).length ≤ 8; rw [List.length_set]; exact j2⟩)
  ·refine Zn (BO hp hk.1) fun r78 q78=>Zn (YF hp q78 (by omega)) fun r80 q80=>Zn (YF hp q80.1 (by omega)) fun r82 q82=>Zn (WG hp q82.1 (by simp)) fun r86 q86=>?_
   have b80:=q80.2
   have b82:=q82.2
   obtain ⟨n,en,hn⟩:=JR (m:=13) q86.2 (by rw [Wp (by omega)]; omega) (by rw [Wp (by omega)]; omega) (by omega) (by omega)
   rw [en]
   exact Zn (JI hp q86.1 (by omega)) fun r q=>⟨_,rfl,by show r9.2.length ≤ 101; omega,hk.2,by show r.2.length ≤ 13; omega⟩
variable {s : Int × Int} (hs : Y2 s)
include hs
theorem BE {n : Nat} (hn : 5 ≤ n ∧ n ≤ 12) : ∃ r,Vv p s (n : Int) = some r ∧ (Y2 r.1 ∧ 1 ≤ r.2.2.1.length ∧ r.2.2.1.length ≤ 12 ∧ ∀ x ∈ r.2.2.1,x.Data.length ≤ 6):=by
 unfold Vv
 refine Zn (J9 hp hs) fun r1 q1=>Zn (YF hp q1.1 (by omega)) fun r3 q3=>Zn (Hf hp q3.1 (n:=6) (by omega)) fun r5 q5=>?_
 have b3:=q3.2
 have w1 : wr (1 + r3.2) = 1 + r3.2:=Wp (by omega)
 rw [w1]
 obtain ⟨k,ek⟩:=Int.eq_ofNat_of_zero_le b3.1
 have h5:=q5.2
 refine Zn (P:=fun j=>Y2 (j.1,j.2.1) ∧ j.2.2.length ≤ 7 ∧ ∀ c ∈ j.2.2,c.length = r5.2.length) (V4 (fun i t=>t.2.2.2 = ((1 + i : Nat) : Int) ∧ t.2.2.1.length = i ∧ Y2 (t.1,t.2.1) ∧ ∀ c ∈ t.2.2.1,c.length = r5.2.length) k (fun i t hi ht=>?_) (fun t ht=>?_) k 0 _ (by omega) ⟨rfl,rfl,q5.1,fun c hc=>by cases hc⟩) fun j hj=>?_
 ·obtain ⟨t1,t2,t3,t4⟩:=ht
  unfold VN
  rw [w1,if_pos (KN (by omega))]
  refine Zn (Jt hp t3 (by omega)) fun r hr=>?_
  have ha : app 24 t.2.2.1 ([r.2] : List (List UInt8)) = _:=XA (by simp only [List.length_singleton]; omega)
  rw [ha]
  refine ⟨_,rfl,_,rfl,by show wr (t.2.2.2 + 1) = _; rw [t1,UU (by omega) (by omega)]; omega,by simp; omega,hr.1,fun c hc=>?_⟩
  rcases List.mem_append.1 hc with h | h
  ·exact t4 c h
  ·rw [List.mem_singleton.1 h,hr.2]
 ·obtain ⟨t1,t2,t3,t4⟩:=ht
  unfold VN
  rw [w1,if_neg (H4 (by omega))]
  exact ⟨_,rfl,_,rfl,t3,by show t.2.2.1.length ≤ 7; omega,t4⟩
 ·obtain ⟨j1,j2,j3⟩:=hj
  obtain ⟨m,rfm,h1,h2⟩:=Yp q1.2
  refine Zn (YF hp j1 (by omega)) fun r34 q34=>Zn (WG hp q34.1 (by simp)) fun r38 q38=>?_
  have b34:=q34.2
  have w2 : wr (1 + r34.2) = 1 + r34.2:=Wp (by omega)
  have w3 : wr (1 + r3.2 + 1) = 1 + r3.2 + 1:=Wp (by omega)
  have w4 : wr (1 + r3.2 + 2) = 1 + r3.2 + 2:=Wp (by omega)
  obtain ⟨q,eq,hq⟩ : ∃ q : Nat,r38.2 = q ∧ (1 ≤ q ∧ q ≤ 12):=by
   have h:=q38.2
   simp only [w2,w3,w4,List.mem_cons,List.not_mem_nil,or_false] at h
   exact ⟨r38.2.toNat,by rcases h with e | e | e | e <;> omega,by rcases h with e | e | e | e <;> omega⟩
  rw [eq]
  refine Zn (JI hp q38.1 (by omega)) fun r40 q40=>Zn (P:=fun j=>1 ≤ j.length ∧ j.length ≤ 12) ?_ fun a ha=>Zn (P:=fun j=>1 ≤ j.length ∧ j.length ≤ 12) ?_ fun b hb=>?_
  ·rw [Jm _ (by omega)]
   exact Tg (XY (fun _=>⟨_,rfl,by simp,by simp⟩) (fun _=>⟨_,rfl,by omega,by omega⟩))
  ·refine XY (fun c=>?_) (fun _=>⟨_,rfl,ha⟩)
   have c : (a.length : Int) > (n : Int):=of_decide_eq_true c
   have hc : slc a (0 : Int) (n : Int) = _:=QA (l:=a) (i:=0) (j:=n) (by omega) (by omega)
   rw [hc]
   refine ⟨_,rfl,?_,?_⟩ <;> simp <;> omega
  ·rw [rfm]
   have hL : Xz j.2.2 r5.2.length = true:=by
    unfold Xz
    simp only [Bool.and_eq_true,decide_eq_true_eq,List.all_eq_true,beq_iff_eq]
    exact ⟨j2,j3⟩
   rw [J8 h1 h2 r5.2 j.2.2 b (by omega) hL hb.2]
   refine ⟨_,rfl,q40.1,?_,?_,fun x hx=>?_⟩
   ·simp only [List.length_map]; exact hb.1
   ·simp only [List.length_map]; exact hb.2
   ·obtain ⟨y,_,rfl⟩:=List.mem_map.1 hx
    simp only [YT,T5]; exact h5
def UM (l : List GShare) : Prop:=l.length ≤ 12 ∧ ∀ x ∈ l,x.Data.length ≤ 7
omit hp hs in
theorem Ko {l : List GShare} {n : Nat} {x : GShare} (h : l.length ≤ 12 ∧ ∀ x ∈ l,x.Data.length ≤ 6) (hx : x.Data.length ≤ 7) : UM (l.set n x):=by
 refine ⟨by rw [List.length_set]; exact h.1,fun y hy=>?_⟩
 rcases List.mem_or_eq_of_mem_set hy with hy | rfl
 ·have:=h.2 y hy; omega
 ·exact hx
theorem KJ : ∃ r,X3 p s = some r ∧ (Y2 r.1 ∧ UM r.2.2.1):=by
 unfold X3
 refine Zn (WG hp hs (by simp)) fun r3 q3=>?_
 obtain ⟨n,en,hn⟩ : ∃ n : Nat,r3.2 = n ∧ (5 ≤ n ∧ n ≤ 12):=by
  have h:=q3.2
  simp only [List.mem_cons,List.not_mem_nil,or_false] at h
  exact ⟨r3.2.toNat,by rcases h with e | e | e <;> omega,by rcases h with e | e | e <;> omega⟩
 rw [en]
 refine Zn (BE hp q3.1 hn) fun r5 q5=>Zn (P:=fun j=>Y2 (j.1,j.2.1) ∧ UM j.2.2.2.1) (Zn (YF hp q5.1 (by omega)) fun r13 q13=>Zn (P:=fun j=>Y2 (j.1,j.2.1) ∧ UM j.2.2.2.1) ?_ fun j hj=>⟨_,rfl,hj⟩) fun j hj=>⟨_,rfl,hj⟩
 obtain ⟨_,l1,l2,l3⟩:=q5
 have hs0 : UM r5.2.2.1:=⟨l2,fun x hx=>by have:=l3 x hx; omega⟩
 have hw : wr ((r5.2.2.1.length : Int) - 1) = (r5.2.2.1.length : Int) - 1:=Wp (by omega)
 refine XY (fun _=>⟨_,rfl,q13.1,hs0⟩) fun _=>XY (fun _=>?_) fun _=>XY (fun _=>?_) fun _=>XY (fun _=>?_) fun _=>XY (fun _=>⟨_,rfl,q13.1,by show UM []; exact ⟨by simp,fun x hx=>by cases hx⟩⟩) fun _=>Zn (P:=fun _=>True) (XY (fun _=>⟨_,rfl,trivial⟩) fun _=>⟨_,rfl,trivial⟩) fun b _=>XY (fun _=>?_) fun _=>⟨_,rfl,q13.1,hs0⟩
 ·rw [hw]
  exact Zn (XX r5.2.2.1 (by omega)) fun x hx=>Zn (WG hp q13.1 (by simp)) fun r q=>Zn (XX r5.2.2.1 (by omega)) fun y hy=>⟨_,rfl,q.1,Ko ⟨l2,l3⟩ (by have:=l3 y hy; show y.Data.length ≤ 7; omega)⟩
 ·refine Zn (XX r5.2.2.1 (by omega)) fun x hx=>?_
  have hx:=l3 x hx
  have ha : app 1 x.Data ([1] : List UInt8) = _:=XA (by simp only [List.length_singleton]; omega)
  rw [ha]
  exact Tg (Zn (XX r5.2.2.1 (by omega)) fun y hy=>⟨_,rfl,q13.1,Ko ⟨l2,l3⟩ (by simp; omega)⟩)
 ·exact Zn (WG hp q13.1 (by simp)) fun r q=>⟨_,rfl,q.1,hs0⟩
 ·refine Zn (XX r5.2.2.1 (by omega)) fun x hx=>XY (fun c=>?_) fun _=>⟨_,rfl,q13.1,hs0⟩
  have c : (x.Data.length : Int) > 0:=of_decide_eq_true c
  have hx:=l3 x hx
  exact Zn (XX r5.2.2.1 (by omega)) fun y hy=>Zn (YF hp q13.1 (by omega)) fun r q=>Zn (QL hp q.1) fun b hb=>Zn (XX x.Data q.2) fun z hz=>⟨_,rfl,hb,Ko ⟨l2,l3⟩ (by show (x.Data.set _ _).length ≤ 7; rw [List.length_set]; omega)⟩
omit hs
theorem Q9 : ∃ r,YV p = some r ∧ UM r.2.1:=by
 unfold YV
 exact Zn (JC hp) fun r hr=>Zn (KJ hp hr) fun q hq=>⟨_,rfl,hq.2⟩
theorem BA : ∃ r,XV p = some r ∧ UM r.2.1:=by
 unfold XV
 exact Zn (JC hp) fun r hr=>Zn (KJ hp hr) fun q hq=>Zn (QL hp hq.1) fun b _=>⟨_,rfl,hq.2⟩
end

section
variable {p : List UInt8} (hp : p.length ≤ 4096)
include hp
theorem zk (n : Int) : ∃ r,Uj p n = some r ∧ Y2 r:=by
 unfold Uj
 refine Zn (P:=fun _=>True) (V4 (fun i t=>t.2 = (i : Int)) p.length (fun i t hi ht=>?_) (fun t ht=>?_) p.length 0 _ (by omega) rfl) fun j _=>⟨_,rfl,by show (0 : Int) ≤ 0; omega,by show (0 : Int) ≤ 4096; omega⟩
 ·unfold Uv
  rw [if_pos (KN (by omega))]
  exact Zn (XX p (by omega)) fun x _=>⟨_,rfl,_,rfl,by show wr (t.2 + 1) = _; rw [ht,UU (by omega) (by omega)]; omega⟩
 ·unfold Uv
  rw [if_neg (H4 (by omega))]
  exact ⟨_,rfl,_,rfl,trivial⟩
variable {s : Int × Int} (hs : Y2 s)
include hs
theorem AU {n : Int} (hn : 1 ≤ n) : ∃ r,Wl p s n = some r ∧ (Y2 r.1 ∧ 0 ≤ r.2 ∧ r.2 < n):=by
 unfold Wl
 obtain ⟨m,hm,em⟩:=JE (BitVec.ofInt 64 (Ti (IntKind.u64.wrap ((IntKind.u64.wrap (s.2 * 6364136223846793005)) + 1442695040888963407)) 33))
 rw [em]
 have hz : UP n = some ():=by unfold UP; rw [if_pos (by omega)]
 obtain ⟨h1,h2⟩:=hs
 rw [if_neg (by simp only [decide_eq_true_eq]; omega)]
 refine Zn (P:=fun j=>(0 ≤ j.1 ∧ j.1 ≤ 4096) ∧ 0 ≤ j.2) (Tg (XY (fun hc=>?_) (fun _=>⟨_,rfl,⟨h1,h2⟩,by omega⟩))) fun j hj=>?_
 ·have hc : s.1 < (p.length : Int):=of_decide_eq_true hc
  refine Zn (P:=fun x=>0 ≤ x) (Zn (XX p ⟨h1,hc⟩) fun x _=>⟨_,rfl,?_⟩) fun x hx=>⟨_,rfl,?_,hx⟩
  ·have hb:=x.toNat_lt
   show 0 ≤ wr ((m : Int) + (x.toNat : Int))
   rw [Wp (by omega)]; omega
  ·show 0 ≤ wr (s.1 + 1) ∧ wr (s.1 + 1) ≤ 4096
   rw [Wp (by omega)]; omega
 ·rw [hz]
  refine ⟨_,rfl,hj.1,?_,?_⟩
  ·exact Int.tmod_nonneg _ hj.2
  ·exact Int.tmod_lt_of_pos _ (by omega)
theorem AD {n : Nat} (hn : n ≤ 1000) : ∃ r,VX p s (n : Int) = some r ∧ (Y2 r.1 ∧ r.2.length = n):=by
 unfold VX
 refine Zn (P:=fun j=>Y2 (j.1,j.2.1) ∧ j.2.2.length = n) (V4 (fun i t=>t.2.2.1 = ((n - i : Nat) : Int) ∧ t.2.2.2.length = i ∧ Y2 (t.1,t.2.1)) n (fun i t hi ht=>?_) (fun t ht=>?_) n 0 _ (by omega) ⟨rfl,rfl,hs⟩) fun j hj=>⟨_,rfl,hj⟩
 ·obtain ⟨t1,t2,t3⟩:=ht
  unfold Uf
  rw [if_pos (HM (by omega))]
  refine Zn (AU hp t3 (by omega)) fun r hr=>?_
  have ha : app 1 t.2.2.2 ([X1 r.2] : List UInt8) = _:=XA (by simp only [List.length_singleton]; omega)
  rw [ha]
  exact ⟨_,rfl,_,rfl,by show wr (t.2.2.1 - 1) = _; rw [t1,QT (by omega) (by omega)]; omega,by simp; omega,hr.1⟩
 ·obtain ⟨t1,t2,t3⟩:=ht
  unfold Uf
  rw [if_neg (HZ (by omega))]
  exact ⟨_,rfl,_,rfl,t3,t2⟩
end
theorem Xy {α β : Type} {o : Option α} {r : α} {f : α → Option β} {x : Option β} (h : o = some r) (k : f r = x) : o.bind f = x:=by rw [h]; exact k
theorem Hz {β γ : Type} {o : Option (Fl Unit β)} {f : Unit → Option γ} {g : β → Option γ} {x : Option γ} (h : o = some (.nx ())) (k : f () = x) : (o.bind fun j=>j.el f g) = x:=by rw [h]; exact k
theorem BP {β : Type} {c : Prop} [Decidable c] {A x : Option β} (h : c → A = x) : (if c then A else x) = x:=by
 by_cases c' : c
 ·rw [if_pos c']; exact h c'
 ·rw [if_neg c']
theorem T9 {β : Type} {o : Option Bool} {A B x : Option β} (h : o = some false) (k : B = x) : (o.bind fun j=>if j = true then A else B) = x:=by rw [h]; exact k
theorem Ul (l : List UInt8) (h : l.length ≤ 1000) : Xj l l = some true:=by
 unfold Xj
 have:=Td (f:=Vu l l) l (fun _=>false) (t:=false) (by omega) (fun i hi=>by
  unfold Vu
  rw [if_pos (KN (by omega)),ZT,List.getElem?_eq_getElem hi]
  simp) (by unfold Vu; simp)
 rw [this]; simp [Fl.el]
theorem Hy (l : List GShare) (h : l.length ≤ 1000) (hd : ∀ s ∈ l,s.Data.length ≤ 1000) : Vs l l = some true:=by
 unfold Vs
 have:=Td (f:=W2 l l) l (fun _=>false) (t:=false) (by omega) (fun i hi=>by
  unfold W2
  rw [if_pos (KN (by omega)),ZT,List.getElem?_eq_getElem hi]
  simp [Ul _ (hd _ (List.getElem_mem hi))]) (by unfold W2; simp)
 rw [this]; simp [Fl.el]
theorem AV {m : Nat} (hf : ZH (m : Int) = true) (l : List UInt8) (x : UInt8) (h : l.length ≤ 40) : Vm (m : Int) l x = some (ZF m l x,0):=by
 obtain ⟨n,e,h1,h2⟩:=Yp hf
 have e : m = n:=by omega
 subst e
 unfold Vm
 rw [Ku,Option.bind_some,hf]
 have c : ¬ decide ((l.length : Int) > 40) = true:=by simp only [decide_eq_true_eq]; omega
 rw [if_neg (by decide),if_neg c,Ad h2 l x (by omega)]; rfl
theorem B7 {l : List GShare} {N : Nat} (h0 : ∀ s ∈ l,s.Place ≠ 0) (hd : WO (Zu l) = true) (hl : 1 ≤ l.length ∧ l.length ≤ 12) (hN : ∀ s ∈ l,s.Data.length = N) (h100 : N ≤ 100) : Yb l = 0:=by
 have e1 : l.all Ym = true:=List.all_eq_true.2 fun s hs=>by
  unfold Ym
  have:=h0 s hs
  have:=hN s hs
  simp only [Bool.and_eq_true,bne_iff_ne,decide_eq_true_eq]
  exact ⟨h0 s hs,by omega⟩
 have e2 : TN l = true:=List.all_eq_true.2 fun s hs=>by
  have hh : (l.headD default).Data.length = N:=by
   cases l with
   | nil=>cases hs
   | cons x l=>exact hN x (List.mem_cons_self ..)
  rw [hh,hN s hs]; simp
 unfold Yb
 have hd : WO (l.map (·.Place)) = true:=hd
 rw [e1,e2,hd,if_neg (by decide),if_neg (by decide),if_neg (by omega),if_neg (by decide)]
theorem KL {l : List GShare} (h : Yb l = 0) : (∀ s ∈ l,s.Place ≠ 0) ∧ WO (Zu l) = true ∧ dataN l ≤ 100:=by
 have hg:=Uy h
 unfold Yb at h
 cases h1 : l.all Ym with
 | false=>simp [h1] at h
 | true =>
  cases h2 : WO (l.map (·.Place)) with
  | false=>simp [h1,h2] at h
  | true =>
   refine ⟨fun s hs=>?_,h2,?_⟩
   ·have:=List.all_eq_true.1 h1 s hs
    unfold Ym at this
    simp only [Bool.and_eq_true,bne_iff_ne] at this
    exact this.1
   ·have h0 : 0 < l.length:=hg.len.1
    have:=(hg.share _ (List.getElem_mem h0)).2
    rw [hg.at h0] at this
    exact this
theorem Hw {a l : List GShare} {N : Nat} (ha : Yb a = 0) (hp : Zu l = Zu a) (hN : ∀ s ∈ l,s.Data.length = N) (h100 : N ≤ 100) : Yb l = 0:=by
 have hc:=KL ha
 have hl : l.length = a.length:=by rw [← Yy l,hp,Yy]
 have hg:=Uy ha
 refine B7 (fun s hs=>?_) (by rw [hp]; exact hc.2.1) (by rw [hl]; exact ⟨hg.len.1,H9 ha⟩) hN h100
 have : s.Place ∈ Zu l:=List.mem_map.2 ⟨s,hs,rfl⟩
 rw [hp] at this
 obtain ⟨t,ht,e⟩:=List.mem_map.1 this
 rw [← e]; exact hc.1 t ht
theorem OnPoly.len {m t N : Nat} {l : List GShare} {g : Nat → UInt8 → UInt8} (h : OnPoly m t N l g) : ∀ s ∈ l,s.Data.length = N:=fun s hs=>by rw [h.data s hs,T5]
theorem AF {m : Int} {data : List UInt8} {cs : List (List UInt8)} {ps : List UInt8} (h : (Ww m data cs ps).2 = 0) :
  ZH m = true ∧ data.length ≤ 100 ∧ Xz cs data.length = true ∧ (1 ≤ ps.length ∧ ps.length ≤ 12) ∧ VM ps = true ∧ Ww m data cs ps = (ps.map (YT m.toNat data cs),0):=by
 unfold Ww at h ⊢
 cases hf : ZH m with
 | false=>rw [hf] at h; cases h
 | true =>
  rw [hf,if_neg (by decide)] at h
  by_cases c : 100 < data.length ∨ Xz cs data.length = false ∨ ps.length < 1 ∨ 12 < ps.length
  ·rw [if_pos c] at h; cases h
  ·rw [if_neg c] at h
   cases hp : VM ps with
   | false=>rw [hp] at h; cases h
   | true =>
    have hL : Xz cs data.length = true:=by
     cases hL : Xz cs data.length with
     | true=>rfl
     | false=>exact absurd (.inr (.inl hL)) c
    refine ⟨rfl,by omega,hL,by omega,rfl,?_⟩
    rw [if_neg (by decide),if_neg c,if_neg (by decide)]
theorem Hi {m : Nat} {data : List UInt8} {cs : List (List UInt8)} {ps : List UInt8} (hd : data.length ≤ 100) (hp : 1 ≤ ps.length ∧ ps.length ≤ 12) (hg : VM ps = true) : Yb (ps.map (YT m data cs)) = 0:=by
 unfold VM at hg
 rw [Bool.and_eq_true,Bool.not_eq_true'] at hg
 refine B7 (N:=data.length) (fun s hs=>?_) (by rw [KG]; exact hg.2) (by rw [List.length_map]; exact hp) (fun s hs=>?_) hd
 ·obtain ⟨p,h,rfl⟩:=List.mem_map.1 hs
  intro e
  have e : p = 0:=e
  subst e
  have:=List.contains_iff_mem.2 h
  rw [hg.1] at this; cases this
 ·obtain ⟨p,h,rfl⟩:=List.mem_map.1 hs
  simp [YT]
theorem HR (m : Int) (data : List UInt8) (cs : List (List UInt8)) (ps : List UInt8) (hd : data.length ≤ 1000) (hp : ps.length ≤ 1000) : (Ww m data cs ps).1.length ≤ 1000 ∧ ∀ s ∈ (Ww m data cs ps).1,s.Data.length ≤ 1000:=by
 unfold Ww
 split
 ·exact ⟨by simp,fun s hs=>by cases hs⟩
 ·split
  ·exact ⟨by simp,fun s hs=>by cases hs⟩
  ·split
   ·exact ⟨by simp,fun s hs=>by cases hs⟩
   ·refine ⟨by simpa using hp,fun s hs=>?_⟩
    obtain ⟨p,h,rfl⟩:=List.mem_map.1 hs
    simpa [YT] using hd
theorem Jr {α : Type} (x : α) (l : List α) : idx (x :: l) (0 : Int) = some x:=by rw [UL]; rfl
theorem zB {l : List GShare} (h : UM l) : Wt.wt l ≤ 200:=by
 rw [Jb]
 have : ∀ (l : List GShare),(∀ x ∈ l,x.Data.length ≤ 7) → (l.map Wt.wt).sum ≤ 7 * l.length:=by
  intro l
  induction l with
  | nil=>intro _; simp
  | cons x l ih =>
   intro h
   have h1:=ih fun y hy=>h y (List.mem_cons_of_mem _ hy)
   have h2:=h x (List.mem_cons_self ..)
   have e : Wt.wt x = Wt.wt x.Data:=rfl
   rw [U6] at e
   simp only [List.map_cons,List.sum_cons,List.length_cons]
   omega
 have:=this l h.2
 have:=h.1
 omega
theorem Bt (l : List UInt8) : (tab l.length fun k=>l.getD k 0) = l:=(QZ l).symm
theorem H1 {m : Nat} (h1 : 256 ≤ m) (h2 : m < 512) (hf : ZH (m : Int) = true) {data : List UInt8} {cs : List (List UInt8)} {ps : List UInt8} (hd : data.length ≤ 100) (hL : Xz cs data.length = true) (hp : 1 ≤ ps.length ∧ ps.length ≤ 12) (hg : VM ps = true) :
  Yj (m : Int) (ps.map (YT m data cs)) ((cs.length + 1 : Nat) : Int) = if ps.length < cs.length + 1 then ([],4) else (data,0):=by
 have hcs : cs.length ≤ 7:=by
  unfold Xz at hL
  simp only [Bool.and_eq_true,decide_eq_true_eq] at hL
  exact hL.1
 have hc:=Hi (m:=m) (cs:=cs) hd hp hg
 by_cases c : ps.length < cs.length + 1
 ·rw [if_pos c]
  have hb : Yo (m : Int) (ps.map (YT m data cs)) ((cs.length + 1 : Nat) : Int) = 0:=by
   unfold Yo
   rw [hf,hc]
   simp; omega
  unfold Yj
  rw [hb]
  simp only [bne_self_eq_false,Bool.false_eq_true,if_false,Int.toNat_natCast]
  have hr : Xl m (ps.map (YT m data cs)) (cs.length + 1) = 4:=by
   unfold Xl
   rw [if_pos (by rw [List.length_map]; exact c)]
  unfold VI
  rw [hr]; rfl
 ·rw [if_neg c,Ux h1 h2 hf (OnPoly.made h1 h2 data cs ps) hc (by omega) (by rw [List.length_map]; omega)]
  refine congrArg (·,(0 : Int)) ?_
  rw [← Bt data]
  rw [T5]
  refine VD fun k _=>?_
  rw [Bt]
  exact Ah h1 h2 _ _
theorem H0 {m : Int} {l : List GShare} {t : Int} (h : (Yj m l t).2 = 0) : ∃ (n u : Nat),m = n ∧ t = u ∧ 256 ≤ n ∧ n < 512 ∧ ZH (n : Int) = true ∧ Yb l = 0 ∧ (1 ≤ u ∧ u ≤ 8) ∧ u ≤ l.length ∧ Qf n l u = true:=by
 by_cases hb : Yo m l t = 0
 ·obtain ⟨hf,g,t1,t8⟩:=W8 hb
  obtain ⟨n,rfl,n1,n2⟩:=Yp hf
  obtain ⟨u,rfl⟩:=Int.eq_ofNat_of_zero_le (show 0 ≤ t by omega)
  have hc : Yb l = 0:=by
   unfold Yo at hb
   rw [hf] at hb
   by_cases hc : Yb l = 0
   ·exact hc
   ·have : (Yb l == 0) = false:=by simpa using hc
    rw [this] at hb
    exact absurd hb hc
  unfold Yj at h
  rw [hb] at h
  simp only [bne_self_eq_false,Bool.false_eq_true,if_false,Int.toNat_natCast] at h
  have hr : Xl n l u = 0:=by
   unfold VI at h
   by_cases hr : Xl n l u = 0
   ·exact hr
   ·have : (Xl n l u != 0) = true:=by simpa using hr
    rw [this,if_pos rfl] at h
    exact absurd h hr
  unfold Xl at hr
  by_cases c : l.length < u
  ·rw [if_pos c] at hr; cases hr
  ·rw [if_neg c] at hr
   cases hfit : Qf n l u with
   | false=>rw [hfit] at hr; cases hr
   | true=>exact ⟨n,u,rfl,rfl,n1,n2,hf,hc,by omega,by omega,hfit⟩
 ·unfold Yj at h
  have : (Yo m l t != 0) = true:=by simpa using hb
  rw [this,if_pos rfl] at h
  exact absurd h hb
theorem B2 (r : List UInt8 × Int) (h : ∀ x ∈ r.1,x = 0) (hl : r.1.length ≤ 1000) : ZJ (XK r) 0 = some (.nx ()):=by
 have:=Td (f:=XK r) r.1 (fun x=>x != 0) (t:=false) (by omega) (fun i hi=>by
  unfold XK
  rw [if_pos (KN (by omega)),ZT,List.getElem?_eq_getElem hi,Option.bind_some]
  cases (r.1[i] != 0) <;> rfl) (by unfold XK; simp)
 rw [this]
 have e : (r.1.any fun x=>x != 0) = false:=by
  rw [List.any_eq_false]
  intro x hx
  rw [h x hx]; decide
 rw [e]; rfl
theorem AM {p : List UInt8} (hp : p.length ≤ 4096) (d : Int × List GShare × Int) {l : List GShare} {t : Nat} (hl : d.2.1 = l) (htd : d.2.2 = t) (h0 : 0 < l.length) (hN : dataN l ≤ 100) (ht : 1 ≤ t ∧ t ≤ 8) {s : Int × Int} (hs : Y2 s) :
  ∃ r,ZJ (WA p d) (s.1,s.2,([] : List (List UInt8)),1) = some r ∧ (r.length + 1 = t ∧ ∀ c ∈ r,c.length = dataN l):=by
 refine V4 (fun i q=>q.2.2.2 = ((1 + i : Nat) : Int) ∧ q.2.2.1.length = i ∧ Y2 (q.1,q.2.1) ∧ ∀ c ∈ q.2.2.1,c.length = dataN l) (t - 1) (fun i q hi hq=>?_) (fun q hq=>?_) (t - 1) 0 _ (by omega) ⟨rfl,rfl,hs,fun c hc=>by cases hc⟩
 ·obtain ⟨t1,t2,t3,t4⟩:=hq
  unfold WA
  rw [htd,hl,if_pos (KN (by omega)),idx0 l h0,Option.bind_some]
  have e : l[0].Data.length = dataN l:=by
   cases l with
   | nil=>simp at h0
   | cons x l=>rfl
  rw [e]
  refine Zn (AD hp t3 (by omega)) fun r hr=>?_
  have ha : app 24 q.2.2.1 ([r.2] : List (List UInt8)) = _:=XA (by simp only [List.length_singleton]; omega)
  rw [ha]
  refine ⟨_,rfl,_,rfl,by show wr (q.2.2.2 + 1) = _; rw [t1,UU (by omega) (by omega)]; omega,by simp; omega,hr.1,fun c hc=>?_⟩
  rcases List.mem_append.1 hc with h | h
  ·exact t4 c h
  ·rw [List.mem_singleton.1 h,hr.2]
 ·obtain ⟨t1,t2,t3,t4⟩:=hq
  unfold WA
  rw [htd,if_neg (H4 (by omega))]
  exact ⟨_,rfl,_,rfl,by show q.2.2.1.length + 1 = t; omega,t4⟩
theorem A4 {cs : List (List UInt8)} {n : Nat} (h : ∀ c ∈ cs,c.length = n) : Wt.wt cs = cs.length + n * cs.length:=by
 rw [Jb]
 have : (cs.map Wt.wt).sum = n * cs.length:=by
  induction cs with
  | nil=>simp
  | cons c cs ih =>
   rw [List.map_cons,List.sum_cons,ih fun y hy=>h y (List.mem_cons_of_mem _ hy),U6,h c (List.mem_cons_self ..),List.length_cons,Nat.mul_succ,Nat.add_comm]
 rw [this]
theorem z6 (n : Nat) : (List.replicate n (0 : UInt8)).length = n:=List.length_replicate
theorem HJ (p : List UInt8) (_ : Dat.bd p) : VO p = some true:=by
 unfold VO
 refine Xy (r:=decide ((p.length : Int) > 4096)) rfl ?_
 by_cases hbig : (p.length : Int) > 4096
 ·rw [if_pos (by simpa using hbig)]
 rw [if_neg (by simpa using hbig)]
 have hp : p.length ≤ 4096:=by omega
 obtain ⟨⟨m,data,cs,ps⟩,e,b1,b2,b3⟩:=J0 hp
 have b1 : data.length ≤ 101:=b1
 have b2 : cs.length ≤ 8:=b2
 have b3 : ps.length ≤ 13:=b3
 refine Xy e (Xy (K1 m data cs ps (by omega) (by omega)) (Xy (KY m data cs ps (by omega) (by omega)) (T9 ?_ (Hz (BP fun hc=>?_) ?_))))
 ·have hs:=HR m data cs ps (by omega) (by omega)
  rw [if_neg (by simp),Hy _ hs.1 hs.2]; rfl
 ·have hc : (Ww m data cs ps).2 = 0:=by simpa using hc
  obtain ⟨hf,hd,hL,hpl,hg,he⟩:=AF hc
  obtain ⟨n,rfl,h1,h2⟩:=Yp hf
  rw [Int.toNat_natCast] at he
  rw [he]
  have hw : wr ((cs.length : Int) + 1) = ((cs.length + 1 : Nat) : Int):=by rw [UU (by omega) (by omega)]; omega
  refine Xy (WP _ _ _ (by rw [List.length_map]; omega)) ?_
  dsimp only
  rw [hw,H1 h1 h2 hf hd hL hpl hg]
  refine Hz ?_ ?_
  ·by_cases c : ps.length < cs.length + 1
   ·rw [if_pos c,if_pos (KN (by omega)),if_neg (by decide)]
   ·rw [if_neg c,if_neg (H4 (by omega))]
    refine T9 ?_ rfl
    rw [if_neg (by simp),Ul data (by omega),Option.bind_some,if_neg (by decide),U2 _ (by rw [List.length_map]; omega),Hi hd hpl hg]
    rfl
  ·unfold Xz at hL
   simp only [Bool.and_eq_true,decide_eq_true_eq,List.all_eq_true,beq_iff_eq] at hL
   match data,cs,ps,hpl with
   | [],_,_,_=>rfl
   | _ :: _,[],_,_=>simp
   | d :: data,[] :: cs,q :: ps,_ =>
    have:=hL.2 [] (List.mem_cons_self ..)
    simp at this
   | d :: data,(c0 :: c) :: cs,q :: ps,_ =>
    have e1 : decide (((d :: data).length : Int) > 0) = true:=by simp only [decide_eq_true_eq,List.length_cons]; omega
    have e2 : decide (((((c0 :: c) :: cs : List (List UInt8))).length : Int) > 0) = true:=by simp only [decide_eq_true_eq,List.length_cons]; omega
    rw [e1,e2,if_pos rfl,Option.bind_some,if_pos rfl]
    simp only [Jr,Option.bind_some]
    rw [AV hf _ _ (by simp)]
    simp only [Option.bind_some]
    refine T9 ?_ rfl
    rw [if_neg (by simp)]
    refine BP fun hone=>?_
    have hone : cs = []:=by
     have : (((c0 :: c) :: cs : List (List UInt8)).length : Int) = 1:=by simpa using hone
     simp only [List.length_cons] at this
     exact List.length_eq_zero_iff.1 (by omega)
    subst hone
    rw [List.map_cons,Jr,Option.bind_some]
    have ed : (YT n (d :: data) [c0 :: c] q).Data = ZF n [d,c0] q :: (YT n (d :: data) [c0 :: c] q).Data.tail:=by
     simp [YT,tab,List.range_succ_eq_map,Wv]
    rw [ed,Jr]
    simp
 ·obtain ⟨⟨m,l,t⟩,e,hs⟩:=Q9 hp
  have hs : UM l:=hs
  have hll:=hs.1
  have hwl:=zB hs
  refine Xy e (Xy (WP m l t (by omega)) (Xy (Qt m l t (by omega)) (Xy (KE m l t (by omega)) (Xy (Kx m l t (by omega)) (T9 ?_ (Hz (BP fun hc=>?_) ?_))))))
  ·rw [if_neg (by simp),Ul _ (Nat.le_trans (Ki m l t) (by omega)),Option.bind_some,if_neg (by decide),if_neg (by simp),if_neg (by simp),U2 l (by omega),Option.bind_some,Kz l (by omega),Option.bind_some]
   simp
  ·have hc : (Yj m l t).2 = 0:=by simpa using hc
   obtain ⟨n,u,rfl,rfl,h1,h2,hf,hcode,hu,hul,hfit⟩:=H0 hc
   have gd:=Uy hcode
   have hcp:=KL hcode
   have hP:=zA h1 h2 hf gd hu.1 hul hfit
   have hR:=Ux h1 h2 hf hP hcode hu hul
   obtain ⟨s,es,hsrc⟩:=zk hp 905
   refine Xy es ?_
   obtain ⟨cs,ec,hcl,hcd⟩:=AM hp ((n : Int),l,(u : Int)) (l:=l) (t:=u) rfl rfl (by omega) hcp.2.2 hu hsrc
   refine Xy ec ?_
   have hwc : Wt.wt cs ≤ 1048576:=by
    rw [A4 hcd]
    have : dataN l * cs.length ≤ 100 * 8:=Nat.mul_le_mul hcp.2.2 (by omega)
    omega
   have hL : Xz cs (dataN l) = true:=by
    unfold Xz
    simp only [Bool.and_eq_true,decide_eq_true_eq,List.all_eq_true,beq_iff_eq]
    exact ⟨by omega,hcd⟩
   have hb1 : Yo (n : Int) l 1 = 0:=by rw [KD _ _ hf]; exact hcode
   have hM:=OnPoly.made h1 h2 (List.replicate (dataN l) 0) cs (Zu l)
   rw [hcl,z6] at hM
   have hpm:=KG n (List.replicate (dataN l) 0) cs (Zu l)
   have hA:=hP.add h1 h2 hM hpm.symm
   have hpa : Zu (Tq l ((Zu l).map (YT n (List.replicate (dataN l) 0) cs))) = Zu l:=Qo hpm.symm
   have hrf : QV (n : Int) l cs = (Tq l ((Zu l).map (YT n (List.replicate (dataN l) 0) cs)),0):=by
    unfold QV
    rw [hb1,hL]; rfl
   have hz : ∀ k,ZF n (Wv (List.replicate (dataN l) 0) cs k) 0 = 0:=fun k=>by
    unfold Wv
    rw [Ah h1 h2,List.getD_eq_getElem?_getD,List.getElem?_replicate]
    split <;> rfl
   generalize hl' : Tq l ((Zu l).map (YT n (List.replicate (dataN l) 0) cs)) = l' at *
   have hcode' : Yb l' = 0:=Hw hcode hpa hA.len hcp.2.2
   have hlen' : l'.length = l.length:=by rw [← Yy l',hpa,Yy]
   have hR':=Ux h1 h2 hf hA hcode' hu (by omega)
   have hwl' : Wt.wt l' ≤ 200:=by rw [← hl']; exact Nat.le_trans (zT _ _) hwl
   refine Xy (TU _ l cs (by omega) hwc) ?_
   rw [hrf]
   refine Xy (WP _ l' _ (by omega)) ?_
   rw [hR',hR]
   refine T9 ?_ ?_
   ·rw [if_neg (by simp),if_neg (by simp)]
    have e : (tab (dataN l) fun k=>VQ n (Zu (l.take u)) (V3 (l.take u) k) 0 u ^^^ ZF n (Wv (List.replicate (dataN l) 0) cs k) 0) = tab (dataN l) fun k=>VQ n (Zu (l.take u)) (V3 (l.take u) k) 0 u:=VD fun k _=>by rw [hz,UInt8.xor_zero]
    rw [e,Ul _ (by rw [T5]; omega)]; rfl
   ·have hdn : dataN l = dataN l':=(hA.dataN (by omega)).symm
    have hS:=hP.add h1 h2 hA hpa.symm
    have hps : Zu (Tq l l') = Zu l:=Qo hpa.symm
    have hcs' : Yb (Tq l l') = 0:=Hw hcode hps hS.len hcp.2.2
    have hls : (Tq l l').length = l.length:=by rw [← Yy (Tq l l'),hps,Yy]
    have hRS:=Ux h1 h2 hf hS hcs' hu (by omega)
    have hadd : Ts (n : Int) l l' = (Tq l l',0):=by
     unfold Ts
     rw [hf,if_neg (by decide),if_neg (by rw [hcode,hcode']; decide),if_neg (by rw [hcode,hcode',hpa,← hdn]; simp)]
    refine Xy (Kw _ l l' (by omega) (by omega)) ?_
    rw [hadd]
    refine Xy (WP _ (Tq l l') _ (by omega)) ?_
    rw [hRS]
    refine T9 ?_ ?_
    ·rw [if_neg (by simp),if_neg (by simp)]
     simp
    ·refine Hz (B2 _ (fun x hx=>?_) (by simp only [T5]; omega)) rfl
     simp only [tab,List.mem_map,List.mem_range] at hx
     obtain ⟨k,_,rfl⟩:=hx
     rw [hz,UInt8.xor_zero,UInt8.xor_self]
  ·obtain ⟨⟨m,l,t,x⟩,e,hs⟩:=BA hp
   have hs : UM l:=hs
   have hll:=hs.1
   refine Xy e (Xy (Jk m l t x (by omega)) (Xy (JF m l t x (by omega)) ?_))
   have hw:=By m l t x
   have e3 : Wt.wt (V0 m l t x).1 = Wt.wt (V0 m l t x).1.Data:=rfl
   rw [U6] at e3
   simp only [BEq.rfl,if_true,Ul _ (show (V0 m l t x).1.Data.length ≤ 1000 by omega),Option.bind_some]
end Go.Proofs.Ytkajmkegelcfjaa
