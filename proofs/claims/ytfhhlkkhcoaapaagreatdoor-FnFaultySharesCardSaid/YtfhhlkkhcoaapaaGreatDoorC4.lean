/- Plain laws, no program in sight. -/
import Derived.Test.YtfhhlkkhcoaapaaGreatDoorC3
set_option linter.unusedVariables false
set_option linter.unusedSimpArgs false
set_option maxRecDepth 20000
set_option maxHeartbeats 400000
namespace Go.Proofs.YtfhhlkkhcoaapaaGreatDoor
open Go
open Flat (enc)
theorem Yl {i : Nat} (h : i < 9223372036854775807) : wr ((i : Int) + 1) = ((i + 1 : Nat) : Int):=by
 rw [YM (by omega)]; rfl

section
variable {S T : Type} {f : S → Option (Fl S T)}
theorem kX (g : Nat → S) (m n : Nat) (hmn : m ≤ n) (h : ∀ i, m ≤ i → i < n → f (g i) = some (.nx (g (i + 1)))) : ZH f (g m) = ZH f (g n) := by
  induction n with
  | zero => have : m = 0 := by omega
            subst this; rfl
  | succ n ih =>
    rcases Nat.lt_or_ge m (n + 1) with h1 | h1
    · rw [ih (by omega) (fun i h2 h3 => h i h2 (by omega)), Xr (h n (by omega) (by omega))]
    · have : m = n + 1 := by omega
      subst this; rfl
theorem Yq (g : Nat → S) (m n : Nat) (hmn : m ≤ n) {t : T} (h : ∀ i,m ≤ i → i < n → f (g i) = some (.nx (g (i + 1)))) (he : f (g n) = some (.ex t)) : ZH f (g m) = some t:=by
 rw [kX g m n hmn h,Yi he]
theorem BC (g : Nat → S) (p : Nat → Bool) (t : Nat → T) {e : T} (n : Nat) : ∀ (k m : Nat),m + k = n → (∀ i,m ≤ i → i < n → f (g i) = some (if p i then .ex (t i) else .nx (g (i + 1)))) → f (g n) = some (.ex e) →
  ZH f (g m) = some (((List.range' m k).find? p).elim e t)
 | 0,m,hk,_,he=>by
  have : m = n:=by omega
  subst this
  rw [Yi he]; rfl
 | k + 1,m,hk,h,he=>by
  have h1:=h m (Nat.le_refl _) (by omega)
  rw [List.range'_succ,List.find?_cons]
  cases hp : p m with
  | true=>rw [hp] at h1; rw [Yi h1]; rfl
  | false =>
   rw [hp] at h1
   rw [Xr h1,BC g p t n k (m + 1) (by omega) (fun i h2 h3=>h i (by omega) h3) he]
end

theorem HW {T : Type} {f : Int → Option (Fl Int (Fl Unit T))} (p : Nat → Bool) {t : T} {n m : Nat} (hm : m ≤ n)
  (h : ∀ i,m ≤ i → i < n → f (i : Int) = some (if p i then .ex (.ex t) else .nx ((i + 1 : Nat) : Int))) (he : f (n : Int) = some (.ex (.nx ()))) :
  ZH f (m : Int) = some (if (List.range' m (n - m)).any p then .ex t else .nx ()):=by
 rw [BC (fun i : Nat=>(i : Int)) p (fun _=>.ex t) n (n - m) m (by omega) h he]
 cases hf : (List.range' m (n - m)).find? p with
 | none =>
  have : (List.range' m (n - m)).any p = false:=by
   rw [List.any_eq_false]
   rw [List.find?_eq_none] at hf
   exact hf
  rw [this]; rfl
 | some i =>
  have : (List.range' m (n - m)).any p = true:=by
   rw [List.any_eq_true]
   exact ⟨i,List.mem_of_find?_eq_some hf,List.find?_some hf⟩
  rw [this]; rfl
theorem TM {p : Nat → Bool} {m n : Nat} : (List.range' m (n - m)).any p = true ↔ ∃ i,m ≤ i ∧ i < n ∧ p i = true:=by
 rw [List.any_eq_true]
 simp only [List.mem_range'_1]
 constructor
 ·rintro ⟨i,⟨h1,h2⟩,h3⟩; exact ⟨i,h1,by omega,h3⟩
 ·rintro ⟨i,h1,h2,h3⟩; exact ⟨i,⟨h1,by omega⟩,h3⟩
theorem Zax {α : Type} {q : α → Bool} {l : List α} {p : Nat → Bool} (hp : ∀ i (h : i < l.length),p i = q l[i]) : (List.range' 0 (l.length - 0)).any p = l.any q:=by
 rw [Bool.eq_iff_iff,TM,List.any_eq_true]
 constructor
 ·rintro ⟨i,_,h,h3⟩; exact ⟨l[i],List.getElem_mem h,by rw [← hp i h]; exact h3⟩
 ·rintro ⟨x,hx,h⟩
  obtain ⟨i,hi,rfl⟩:=List.mem_iff_getElem.1 hx
  exact ⟨i,Nat.zero_le _,hi,by rw [hp i hi]; exact h⟩

theorem QD {T α : Type} {f : Int → Option (Fl Int (Fl Unit T))} (l : List α) (q : α → Bool) {t : T} (hl : l.length < 9223372036854775807)
  (h : ∀ i (hi : i < l.length),f (i : Int) = some (if q l[i] then .ex (.ex t) else .nx (wr ((i : Int) + 1)))) (he : f (l.length : Int) = some (.ex (.nx ()))) :
  ZH f 0 = some (if l.any q then .ex t else .nx ()):=by
 have:=HW (f:=f) (fun i=>if hi : i < l.length then q l[i] else false) (t:=t) (n:=l.length) (m:=0) (Nat.zero_le _) (fun i _ hi=>by
  rw [h i hi,Yl (by omega)]; simp [hi]) he
 rw [Zax (q:=q) (fun i hi=>by simp [hi])] at this
 exact this

class Wt (α : Type) [Dat α] where
 wt : α → Nat
 ln : α → Prop
 bdln : ∀ x,Dat.bd x → ln x
 wtln : ∀ x,wt x ≤ 1048576 → ln x
instance : Wt Int:=⟨fun _=>0,fun _=>True,fun _ _=>trivial,fun _ _=>trivial⟩
instance : Wt UInt8:=⟨fun _=>0,fun _=>True,fun _ _=>trivial,fun _ _=>trivial⟩
instance : Wt Bool:=⟨fun _=>0,fun _=>True,fun _ _=>trivial,fun _ _=>trivial⟩
instance : Wt Str:=⟨fun s=>s.l.length,fun s=>s.l.length ≤ 9223372036854775807,fun _ h=>h,fun _ h=>by omega⟩
instance {n : Nat} : Wt (Vector UInt8 n):=⟨fun _=>0,fun _=>True,fun _ _=>trivial,fun _ _=>trivial⟩
instance {n m : Nat} : Wt (Vector (Vector UInt8 m) n):=⟨fun _=>0,fun _=>True,fun _ _=>trivial,fun _ _=>trivial⟩
theorem Zbt {α : Type} {f : α → Nat} {l : List α} {x : α} (h : x ∈ l) : f x ≤ (l.map f).sum:=by
 induction l with
 | nil=>cases h
 | cons y l ih =>
  rw [List.map_cons,List.sum_cons]
  rcases List.mem_cons.1 h with rfl | h
  ·omega
  ·have:=ih h; omega
instance {α : Type} [Dat α] [Wt α] : Wt (List α):=⟨fun l=>l.length + (l.map Wt.wt).sum,fun l=>l.length ≤ 9223372036854775807 ∧ ∀ x ∈ l,Wt.ln x,fun _ h=>⟨h.1,fun x hx=>Wt.bdln x (h.2 x hx)⟩,
 fun l h=>⟨by omega,fun x hx=>Wt.wtln x (by have:=Zbt (f:=Wt.wt) hx; omega)⟩⟩
instance {α β : Type} [Dat α] [Dat β] [Wt α] [Wt β] : Wt (α × β):=⟨fun x=>Wt.wt x.1 + Wt.wt x.2,fun x=>Wt.ln x.1 ∧ Wt.ln x.2,fun x h=>⟨Wt.bdln x.1 h.1,Wt.bdln x.2 h.2⟩,fun x h=>⟨Wt.wtln x.1 (by omega),Wt.wtln x.2 (by omega)⟩⟩
theorem HY {α : Type} [Dat α] [Wt α] (l : List α) : Wt.wt l = l.length + (l.map Wt.wt).sum:=rfl
theorem JA {α : Type} [Dat α] [Wt α] (l : List α) : l.length ≤ Wt.wt l:=by rw [HY]; omega
@[simp] theorem ZC {α : Type} (l : List α) (i : Nat) : idx l (i : Int) = l[i]?:=by unfold idx; simp
@[simp] theorem Tu {α : Type} (l : List α) : idx l (0 : Int) = l[0]?:=ZC l 0
theorem BV {T : Type} {f : Int → Option (Fl Int (Fl Unit T))} (n : Nat) (p : Nat → Bool) (t : Nat → T) (hn : n < 9223372036854775807)
  (h : ∀ i,i < n → f (i : Int) = some (if p i then .ex (.ex (t i)) else .nx (wr ((i : Int) + 1)))) (he : f (n : Int) = some (.ex (.nx ()))) (m : Nat) (hm : m ≤ n) :
  ZH f (m : Int) = some (match (List.range' m (n - m)).find? p with | some i=>.ex (t i) | none=>.nx ()):=by
 rw [BC (fun i : Nat=>(i : Int)) p (fun i=>.ex (t i)) n (n - m) m (by omega) (fun i _ hi=>by rw [h i hi,Yl (by omega)]) he]
 cases (List.range' m (n - m)).find? p <;> rfl
theorem H5 {T : Type} {f : Int → Option (Fl Int (Fl Unit T))} (n : Nat) (p : Nat → Bool) (t : T) (hn : n < 9223372036854775807)
  (h : ∀ i,i < n → f (i : Int) = some (if p i then .ex (.ex t) else .nx (wr ((i : Int) + 1)))) (he : f (n : Int) = some (.ex (.nx ()))) (m : Nat) (hm : m ≤ n) :
  ZH f (m : Int) = some (if (List.range' m (n - m)).any p then .ex t else .nx ()) :=
 HW p hm (fun i _ hi=>by rw [h i hi,Yl (by omega)]) he
theorem KA {T : Type} {f : Int → Option (Fl Int (Fl Unit T))} (n : Nat) (p : Nat → Bool) (t : T) (hn : n < 9223372036854775807) (m : Nat) (hm : m ≤ n)
  (h : ∀ i,m ≤ i → i < n → f (i : Int) = some (if p i then .ex (.ex t) else .nx (wr ((i : Int) + 1)))) (he : f (n : Int) = some (.ex (.nx ()))) :
  ZH f (m : Int) = some (if (List.range' m (n - m)).any p then .ex t else .nx ()) :=
 HW p hm (fun i hmi hi=>by rw [h i hmi hi,Yl (by omega)]) he
theorem JQ {α β S T : Type} {f : S → Option (Fl S T)} (l : List α) (pack : β → Int → S) (g : β → α → β) (b0 : β) {t : T} (hn : l.length < 9223372036854775807)
  (h : ∀ i (hi : i < l.length),f (pack ((l.take i).foldl g b0) (i : Int)) = some (.nx (pack (g ((l.take i).foldl g b0) l[i]) (wr ((i : Int) + 1))))) (he : f (pack (l.foldl g b0) (l.length : Int)) = some (.ex t)) :
  ZH f (pack b0 0) = some t:=by
 have:=Yq (f:=f) (fun i : Nat=>pack ((l.take i).foldl g b0) (i : Int)) 0 l.length (Nat.zero_le _) (t:=t) (fun i _ hi=>by
  rw [h i hi,Yl (by omega)]
  congr 3
  rw [List.take_succ_eq_append_getElem hi,List.foldl_append]; rfl) (by rw [List.take_length]; exact he)
 simpa using this
theorem zL {α β : Type} (g : α → β) (l : List α) (acc : List β) : l.foldl (fun b x=>b ++ [g x]) acc = acc ++ l.map g:=by
 induction l generalizing acc with
 | nil=>simp
 | cons x l ih=>simp [ih]
theorem Kr {α β T : Type} {f : List β × Int → Option (Fl (List β × Int) T)} (l : List α) (g : α → β) {t : T} (hn : l.length < 9223372036854775807)
  (h : ∀ i (hi : i < l.length),f ((l.take i).map g,(i : Int)) = some (.nx ((l.take i).map g ++ [g l[i]],wr ((i : Int) + 1)))) (he : f (l.map g,(l.length : Int)) = some (.ex t)) :
  ZH f ([],0) = some t:=by
 have e : ∀ m : List α,m.foldl (fun b x=>b ++ [g x]) [] = m.map g:=fun m=>by rw [zL]; rfl
 exact JQ (f:=f) l (fun b i=>(b,i)) (fun b x=>b ++ [g x]) [] hn (fun i hi=>by simp only [e]; exact h i hi) (by simp only [e]; exact he)
theorem Yv {α : Type} {by_ : Nat} {l m : List α} (h : (l.length + m.length) * by_ ≤ 140737488355328) : app by_ l m = some (l ++ m):=by unfold app; rw [if_pos h]
theorem Hc {α : Type} {l : List α} {i j : Nat} (h : i ≤ j) (h2 : j ≤ l.length) : slc l (i : Int) (j : Int) = some ((l.take j).drop i):=by
 unfold slc; rw [if_pos (by omega)]; simp

theorem Jg (l : List UInt8) : Wt.wt l = l.length:=by
 rw [HY]
 have : (l.map Wt.wt).sum = 0:=by
  induction l with
  | nil=>rfl
  | cons x l ih=>rw [List.map_cons,List.sum_cons,ih]; rfl
 omega
instance : Wt GShare:=⟨fun x=>Wt.wt x.Data,fun x=>Wt.ln x.Data,fun x h=>Wt.bdln x.Data h.2,fun x h=>Wt.wtln x.Data h⟩
theorem JG (n a b : Int) : YQ n a b = some (decide (a ≤ n ∧ n ≤ b)):=by
 unfold YQ
 by_cases h1 : a ≤ n <;> by_cases h2 : n ≤ b <;> simp [h1,h2]
theorem qf (n a b : Int) : WQ n a b = some (decide (a ≤ n ∧ n ≤ b)):=by
 unfold WQ
 by_cases h1 : a ≤ n <;> by_cases h2 : n ≤ b <;> simp [h1,h2]
theorem kM {α : Type} (l : List α) (p : α → Option Bool) (q : α → Bool) (L : Int → Option (Fl Int (Fl Unit Int)))
  (hL : ∀ s,L s = if (decide (s < (l.length : Int))) = true then ((idx l s).bind fun x=>((p x)).bind fun r=>if r = true then (some (Fl.ex (Fl.ex s))) else (some (Fl.nx (wr (s + 1))))) else (some (Fl.ex (Fl.nx ()))))
  (hl : l.length < 9223372036854775807) (hp : ∀ x ∈ l,p x = some (q x)) :
  ((ZH L 0 : Option (Fl Unit Int)).bind fun j1=>j1.el (fun _=>some (-1)) (fun r=>some r)) = some (match l.findIdx? q with | some i=>(i : Int) | none=>-1):=by
 have h:=BV (f:=L) l.length (fun i=>(l[i]?.map q).getD false) (fun i=>(i : Int)) hl (fun i hi=>by
  rw [hL]
  simp only [Int.ofNat_lt,hi,decide_true,if_true,ZC,List.getElem?_eq_getElem hi,Option.bind_some,Option.map_some,Option.getD_some,hp _ (List.getElem_mem hi)]
  split <;> rfl) (by rw [hL]; simp) 0 (Nat.zero_le _)
 have h3 : ZH L 0 = _:=h
 rw [h3]
 have key : (List.range' 0 (l.length - 0)).find? (fun i=>(l[i]?.map q).getD false) = l.findIdx? q:=by
  rw [Nat.sub_zero,← List.range_eq_range']
  clear h h3 hL hp hl
  induction l with
  | nil=>rfl
  | cons x l ih =>
   rw [List.length_cons,List.range_succ_eq_map,List.find?_cons,List.findIdx?_cons]
   simp only [List.getElem?_cons_zero,Option.map_some,Option.getD_some]
   cases q x with
   | true=>rfl
   | false =>
    simp only [Bool.false_eq_true,if_false]
    rw [List.find?_map,← ih]
    congr 1
 rw [key]
 cases l.findIdx? q <;> rfl
theorem Zbc {α : Type} (l : List α) (q : α → Bool) : decide ((match l.findIdx? q with | some i=>(i : Int) | none=>-1) ≥ 0) = l.any q:=by
 rw [Bool.eq_iff_iff,decide_eq_true_eq]
 cases h : l.findIdx? q with
 | none =>
  have:=List.findIdx?_eq_none_iff.1 h
  simp
  exact this
 | some i =>
  have h2:=List.findIdx?_eq_some_iff_getElem.1 h
  obtain ⟨hi,hq,_⟩:=h2
  simp
  exact ⟨_,List.getElem_mem hi,hq⟩
theorem Za3 (a b : List UInt8) : decide (a = b) = (a == b):=by rw [Bool.eq_iff_iff]; simp
theorem HD (a b : List UInt8) : UE a b = some (a == b):=by
 unfold UE
 rw [← Za3]
 congr 1
 rw [decide_eq_decide]
 constructor
 ·intro h; exact Str.mk.inj h
 ·intro h; rw [h]
theorem AN (a b : List UInt8) (h : a.length ≤ 9223372036854775807) : VB a b = some (a == b):=by
 unfold VB
 by_cases hl : a.length = b.length
 ·have hne : ((a.length : Int) != (b.length : Int)) = false:=by simp [hl]
  have h1:=HW (f:=WX a b) (fun i=>(a[i]? != b[i]?)) (t:=false) (n:=a.length) (m:=0) (Nat.zero_le _) (fun i _ hi=>by
   unfold WX
   have hi' : i < b.length:=by omega
   simp only [Int.ofNat_lt,hi,decide_true,if_true,ZC,List.getElem?_eq_getElem hi,List.getElem?_eq_getElem hi',Option.bind_some,Yl (show i < 9223372036854775807 by omega)]
   have e : (some a[i] != some b[i]) = (a[i] != b[i]):=by
    rw [Bool.eq_iff_iff]; simp
   rw [e]
   split <;> rfl) (by unfold WX; simp)
  have h2 : ZH (WX a b) 0 = _:=h1
  rw [hne,h2]
  simp only [Bool.false_eq_true,if_false,Option.bind_some]
  by_cases hab : a = b
  ·subst hab
   have : ((List.range' 0 (a.length - 0)).any fun i=>a[i]? != a[i]?) = false:=by rw [List.any_eq_false]; intro i _; simp
   rw [this]; simp [Fl.el]
  ·have : ((List.range' 0 (a.length - 0)).any fun i=>a[i]? != b[i]?) = true:=by
    rw [TM]
    apply Classical.byContradiction
    intro hn
    apply hab
    apply List.ext_getElem?
    intro i
    by_cases hi : i < a.length
    ·apply Classical.byContradiction
     intro hne2
     exact hn ⟨i,Nat.zero_le _,hi,by simpa using hne2⟩
    ·rw [List.getElem?_eq_none (by omega),List.getElem?_eq_none (by omega)]
   rw [this]
   have : (a == b) = false:=by simpa using hab
   rw [this]; simp [Fl.el]
 ·have hne : ((a.length : Int) != (b.length : Int)) = true:=by simp; omega
  rw [hne]
  have : (a == b) = false:=by simp; intro h; exact hl (by rw [h])
  rw [this]; rfl
theorem By (a : Nat) (h : a < 9223372036854775808) : (BitVec.ofInt 64 (a : Int)).toNat = a:=by
 rw [BitVec.toNat_ofInt]
 omega
theorem Kw (a b : Nat) (ha : a < 9223372036854775808) (hb : b < 9223372036854775808) : K4 (a : Int) (b : Int) = ((a ^^^ b : Nat) : Int):=by
 unfold K4
 rw [BitVec.toNat_xor,By a ha,By b hb]
 have : a ^^^ b < 2 ^ 63:=Nat.xor_lt_two_pow ha hb
 exact YM (by omega)
theorem AY (a b : Nat) (ha : a < 9223372036854775808) (hb : b < 9223372036854775808) : B8 (a : Int) (b : Int) = ((a &&& b : Nat) : Int):=by
 unfold B8
 rw [BitVec.toNat_and,By a ha,By b hb]
 have : a &&& b < 2 ^ 63:=Nat.and_lt_two_pow _ hb
 exact YM (by omega)
theorem TR (a i : Nat) (hi : i ≤ 63) (h : a <<< i < 9223372036854775808) : TN (a : Int) (i : Int) = ((a <<< i : Nat) : Int):=by
 unfold TN
 rw [show min ((i : Int)).toNat 64 = i by omega]
 have : ((a : Int) * 2 ^ i) = ((a <<< i : Nat) : Int):=by rw [Nat.shiftLeft_eq]; simp
 rw [this]
 generalize a <<< i = x at h ⊢
 exact YM (by omega)
theorem A4 (a i : Nat) (hi : i ≤ 63) : YD (a : Int) (i : Int) = ((a >>> i : Nat) : Int):=by
 unfold YD
 rw [show min ((i : Int)).toNat 64 = i by omega,Nat.shiftRight_eq_div_pow,Int.fdiv_eq_ediv_of_nonneg _ (by exact_mod_cast Nat.zero_le _)]
 simp
theorem yA (a i : Nat) : ((a >>> i) &&& 1 = 1) ↔ a.testBit i = true:=by
 rw [Nat.testBit,Nat.and_comm]
 have h:=Nat.and_one_is_mod (a >>> i)
 rw [Nat.and_comm] at h
 rw [h]
 rcases Nat.mod_two_eq_zero_or_one (a >>> i) with h | h <;> simp [h]
theorem tmod2 (a : Nat) : Int.tmod (a : Int) 2 = ((a % 2 : Nat) : Int):=by
 rw [Int.tmod_eq_emod_of_nonneg (by omega)]; simp
theorem Zba (a : Nat) : Int.tdiv (a : Int) 2 = ((a / 2 : Nat) : Int):=by
 rw [Int.tdiv_eq_ediv_of_nonneg (by omega)]; simp
theorem yZ (a : Nat) (h : a < 9223372036854775808) : wr (a : Int) = (a : Int):=YM (by omega)
theorem kE (a : Nat) (h : a < 9223372036854775808) : IntKind.u64.wrap (a : Int) = (a : Int):=by
 simp only [IntKind.wrap,IntKind.bits,IntKind.signed]
 simp
 omega

def YL (m deg : Nat) : Nat → Nat → Nat
 | 0,a=>a
 | k + 1,a=>YL m deg k (if a.testBit (deg + k) then a ^^^ (m <<< k) else a)
theorem KK {m k n : Nat} (h : m < 2 ^ n) : m <<< k < 2 ^ (n + k):=by
 rw [Nat.shiftLeft_eq,Nat.pow_add]
 exact Nat.mul_lt_mul_of_pos_right h (Nat.two_pow_pos _)
theorem Bh {a n : Nat} (h : a < 2 ^ (n + 1)) (hb : a.testBit n = false) : a < 2 ^ n:=by
 apply Nat.lt_pow_two_of_testBit
 intro i hi
 rcases Nat.eq_or_lt_of_le hi with rfl | hi
 ·exact hb
 ·exact Nat.testBit_lt_two_pow (Nat.lt_of_lt_of_le h (Nat.pow_le_pow_right (by omega) hi))
theorem kL {m d : Nat} (h1 : 2 ^ d ≤ m) (h2 : m < 2 ^ (d + 1)) : m.testBit d = true:=by
 rw [Nat.testBit,Nat.shiftRight_eq_div_pow]
 have : m / 2 ^ d = 1:=by
  apply Nat.div_eq_of_lt_le
  ·simpa using h1
  ·rw [Nat.pow_succ] at h2; omega
 rw [this]; rfl
theorem kQ {m d k a : Nat} (h1 : 2 ^ d ≤ m) (h2 : m < 2 ^ (d + 1)) (ha : a < 2 ^ (d + (k + 1))) (hb : a.testBit (d + k) = true) : a ^^^ (m <<< k) < 2 ^ (d + k):=by
 have hm : m <<< k < 2 ^ (d + (k + 1)):=by have:=KK (k:=k) h2; rwa [show d + 1 + k = d + (k + 1) by omega] at this
 refine Bh (Nat.xor_lt_two_pow (by rwa [show d + k + 1 = d + (k + 1) by omega]) (by rwa [show d + k + 1 = d + (k + 1) by omega])) ?_
 rw [Nat.testBit_xor,hb,Nat.testBit_shiftLeft]
 simp [kL h1 h2]
theorem HG {m d : Nat} (h1 : 2 ^ d ≤ m) (h2 : m < 2 ^ (d + 1)) : ∀ (k a : Nat),a < 2 ^ (d + k) → YL m d k a < 2 ^ d
 | 0,a,h=>by simpa [YL] using h
 | k + 1,a,h=>by
  unfold YL
  cases hb : a.testBit (d + k) with
  | true=>simp only [if_true]; exact HG h1 h2 k _ (kQ h1 h2 h hb)
  | false=>simp only [Bool.false_eq_true,if_false]; exact HG h1 h2 k a (Bh h hb)
theorem QE (m d : Nat) : ∀ (k a b : Nat),YL m d k (a ^^^ b) = YL m d k a ^^^ YL m d k b
 | 0,_,_=>rfl
 | k + 1,a,b=>by
  simp only [YL]
  rw [Nat.testBit_xor]
  cases a.testBit (d + k) <;> cases b.testBit (d + k) <;> simp only [Bool.xor_false,Bool.false_xor,Bool.xor_self,Bool.xor_true,Bool.not_false,Bool.not_true,Bool.false_eq_true,if_true,if_false]
  ·exact QE m d k a b
  ·rw [Nat.xor_assoc]; exact QE m d k a _
  ·rw [← QE m d k]; congr 1; rw [Nat.xor_assoc,Nat.xor_comm b,← Nat.xor_assoc]
  ·rw [← QE m d k]; congr 1
   rw [Nat.xor_assoc,← Nat.xor_assoc (m <<< k),Nat.xor_comm (m <<< k) b,Nat.xor_assoc,Nat.xor_self,Nat.xor_zero]
theorem Tj {m d : Nat} : ∀ (k a : Nat),a < 2 ^ d → YL m d k a = a
 | 0,_,_=>rfl
 | k + 1,a,h=>by
  unfold YL
  rw [Nat.testBit_lt_two_pow (Nat.lt_of_lt_of_le h (Nat.pow_le_pow_right (by omega) (by omega)))]
  simp only [Bool.false_eq_true,if_false]
  exact Tj k a h
theorem Bi {m d k a : Nat} (h : a < 2 ^ (d + k)) : YL m d (k + 1) a = YL m d k a:=by
 conv=>lhs; unfold YL
 rw [Nat.testBit_lt_two_pow h]; rfl
theorem Q5 (m d : Nat) : ∀ (k x : Nat),YL m d (k + 1) (x <<< 1) = (if ((YL m d k x) <<< 1).testBit d then ((YL m d k x) <<< 1) ^^^ m else (YL m d k x) <<< 1)
 | 0,x=>by simp [YL]
 | k + 1,x=>by
  conv=>lhs; unfold YL
  conv=>rhs; unfold YL
  have e : (x <<< 1).testBit (d + (k + 1)) = x.testBit (d + k):=by
   rw [Nat.testBit_shiftLeft]
   have : d + (k + 1) ≥ 1:=by omega
   simp only [this,decide_true,Bool.true_and]
   congr 1
  rw [e]
  cases x.testBit (d + k) with
  | false=>simp only [Bool.false_eq_true,if_false]; exact Q5 m d k x
  | true =>
   simp only [if_true]
   have e2 : x <<< 1 ^^^ m <<< (k + 1) = (x ^^^ m <<< k) <<< 1:=by
    rw [Nat.shiftLeft_xor_distrib,← Nat.shiftLeft_add]
   rw [e2]
   exact Q5 m d k _

def Ks (n : Nat) : Nat:=if n = 0 then 0 else n.log2 + 1
theorem qK (n : Nat) (h : 0 < n) : Ks n = Ks (n / 2) + 1:=by
 unfold Ks
 rw [if_neg (by omega)]
 by_cases h2 : n / 2 = 0
 ·have : n = 1:=by omega
  subst this; rfl
 ·rw [if_neg h2]
  conv=>lhs; rw [Nat.log2_def]
  rw [if_pos (by omega)]
theorem Aq {n p : Nat} (h1 : 2 ^ p ≤ n) (h2 : n < 2 ^ (p + 1)) : Ks n = p + 1:=by
 have h0 : n ≠ 0:=by have:=Nat.two_pow_pos p; omega
 unfold Ks
 rw [if_neg h0,(Nat.log2_eq_iff h0).2 ⟨h1,h2⟩]
theorem Zbu {n p : Nat} (h : n < 2 ^ p) : Ks n ≤ p:=by
 unfold Ks
 split
 ·omega
 ·rename_i h0
  have:=(Nat.log2_lt h0).2 h
  omega
theorem Jo (n : Nat) (h : n < 9223372036854775808) : Wa (n : Int) = some ((Ks n : Nat) : Int):=by
 have key : ∀ (f n c : Nat),n < 2 ^ f → f ≤ 63 → c + f ≤ 1000 → ZH Xp ((n : Int),(c : Int)) = some ((c + Ks n : Nat) : Int):=by
  intro f
  induction f with
  | zero =>
   intro n c hn _ _
   have : n = 0:=by simpa using hn
   subst this
   rw [Yi (t:=(c : Int))]
   ·simp [Ks]
   ·unfold Xp; simp
  | succ f ih =>
   intro n c hn hf hc
   by_cases h0 : n = 0
   ·subst h0
    rw [Yi (t:=(c : Int))]
    ·simp [Ks]
    ·unfold Xp; simp
   ·have hp : 0 < n:=by omega
    have hlt : n < 9223372036854775808:=Nat.lt_of_lt_of_le hn (Nat.pow_le_pow_right (by omega : 0 < 2) hf)
    have hst : Xp ((n : Int),(c : Int)) = some (.nx (((n / 2 : Nat) : Int),((c + 1 : Nat) : Int))):=by
     unfold Xp
     have : (n : Int) > 0:=by omega
     simp only [this,decide_true,if_true,Zba]
     rw [yZ _ (by omega),Yl (by omega)]
    rw [Xr hst,ih (n / 2) (c + 1) (by rw [Nat.pow_succ] at hn; omega) (by omega) (by omega),qK n hp]
    congr 2; omega
 unfold Wa
 have:=key 63 n 0 h (by omega) (by omega)
 have h2 : ZH Xp ((n : Int),0) = _:=this
 rw [h2]
 simp
theorem qy (a b d k : Nat) (hd : d ≤ 20) (hk : k ≤ 20) (h1 : 2 ^ d ≤ b) (h2 : b < 2 ^ (d + 1)) (ha : a < 2 ^ (d + k)) : UY (a : Int) (b : Int) = some ((YL b d k a : Nat) : Int):=by
 have big : ∀ n,n ≤ 62 → ∀ x : Nat,x < 2 ^ n → x < 9223372036854775808:=fun n hn x hx=>Nat.lt_of_lt_of_le hx (Nat.pow_le_pow_right (by omega : 0 < 2) (by omega : n ≤ 63))
 have key : ∀ (k a : Nat),k ≤ 20 → a < 2 ^ (d + k) → ZH (VA (b : Int) ((d + 1 : Nat) : Int)) ((a : Int),((Ks a : Nat) : Int)) = some ((YL b d k a : Nat) : Int):=by
  intro k
  induction k with
  | zero =>
   intro a _ ha
   have hl:=Zbu (p:=d) ha
   rw [Yi (t:=(a : Int))]
   ·rfl
   ·unfold VA
    have : ¬ (((Ks a : Nat) : Int) ≥ ((d + 1 : Nat) : Int)):=by omega
    simp only [this,decide_false,Bool.false_eq_true,if_false]
  | succ k ih =>
   intro a hk ha
   cases hb : a.testBit (d + k) with
   | false =>
    have ha':=Bh (by rwa [show d + k + 1 = d + (k + 1) by omega]) hb
    rw [ih a (by omega) ha',Bi ha']
   | true =>
    have hge : 2 ^ (d + k) ≤ a:=Nat.ge_two_pow_of_testBit hb
    have hl : Ks a = d + k + 1:=Aq hge (by rwa [show d + k + 1 = d + (k + 1) by omega])
    have hx:=kQ h1 h2 ha hb
    have hshl : b <<< k < 2 ^ (d + 1 + k):=KK h2
    have hst : VA (b : Int) ((d + 1 : Nat) : Int) ((a : Int),((Ks a : Nat) : Int)) = some (.nx (((a ^^^ b <<< k : Nat) : Int),((Ks (a ^^^ b <<< k) : Nat) : Int))):=by
     unfold VA
     have c1 : ((Ks a : Nat) : Int) ≥ ((d + 1 : Nat) : Int):=by rw [hl]; omega
     have c2 : IntKind.u64.wrap (wr (((Ks a : Nat) : Int) - ((d + 1 : Nat) : Int))) = ((k : Nat) : Int):=by
      rw [hl,show ((d + k + 1 : Nat) : Int) - ((d + 1 : Nat) : Int) = ((k : Nat) : Int) by omega,yZ _ (by omega),kE _ (by omega)]
     simp only [c1,decide_true,if_true,c2]
     have c3 : YI ((k : Nat) : Int) = some ():=by unfold YI; rw [if_pos (by omega)]
     rw [c3,TR b k (by omega) (big _ (by omega) _ hshl),Kw a _ (big _ (by omega) _ ha) (big _ (by omega) _ hshl)]
     simp only [Option.bind_some]
     rw [Jo _ (big _ (by omega) _ hx)]
     rfl
    rw [Xr hst,ih _ (by omega) hx]
    conv=>rhs; unfold YL
    rw [hb]; rfl
 unfold UY
 rw [Jo b (big _ (by omega) _ h2),Jo a (big _ (by omega) _ ha)]
 simp only [Option.bind_some]
 rw [Aq h1 h2,key k a hk ha]
 rfl
theorem Zbd (a m d : Nat) (hd : d ≤ 15) (ha : a < 2 ^ 16) (hm : m < 2 ^ 20) : Uq (a : Int) (m : Int) (d : Int) = some ((YL m d (16 - d) a : Nat) : Int):=by
 have key : ∀ (k a : Nat),d + k ≤ 16 → a < 2 ^ 40 → ZH (XR (m : Int) (d : Int)) ((a : Int),((d + k : Nat) : Int) - 1) = some ((YL m d k a : Nat) : Int):=by
  intro k
  induction k with
  | zero =>
   intro a _ _
   rw [Yi (t:=(a : Int))]
   ·rfl
   ·unfold XR
    have : ¬ (((d + 0 : Nat) : Int) - 1 ≥ (d : Int)):=by omega
    simp only [this,decide_false,Bool.false_eq_true,if_false]
  | succ k ih =>
   intro a hk ha
   have e0 : ((d + (k + 1) : Nat) : Int) - 1 = ((d + k : Nat) : Int):=by omega
   have hsh : m <<< k < 2 ^ (20 + k):=KK hm
   have hsh2 : m <<< k < 2 ^ 40:=Nat.lt_of_lt_of_le hsh (Nat.pow_le_pow_right (by omega) (by omega))
   have hst : XR (m : Int) (d : Int) ((a : Int),((d + (k + 1) : Nat) : Int) - 1) = some (.nx (((if a.testBit (d + k) then a ^^^ (m <<< k) else a : Nat) : Int),((d + k : Nat) : Int) - 1)):=by
    rw [e0]
    unfold XR
    have c1 : ((d + k : Nat) : Int) ≥ (d : Int):=by omega
    have c2 : YI ((d + k : Nat) : Int) = some ():=by unfold YI; rw [if_pos (by omega)]
    have c3 : wr (((d + k : Nat) : Int) - (d : Int)) = ((k : Nat) : Int):=by rw [show ((d + k : Nat) : Int) - (d : Int) = ((k : Nat) : Int) by omega,yZ _ (by omega)]
    have c4 : YI ((k : Nat) : Int) = some ():=by unfold YI; rw [if_pos (by omega)]
    have c5 : wr (((d + k : Nat) : Int) - 1) = ((d + k : Nat) : Int) - 1:=YM (by omega)
    simp only [c1,decide_true,if_true,c2,c3,c4,c5,Option.bind_some]
    have c6 : B8 (YD (a : Int) ((d + k : Nat) : Int)) 1 = (((a >>> (d + k)) &&& 1 : Nat) : Int):=by
     rw [A4 a (d + k) (by omega)]
     exact AY _ 1 (Nat.lt_of_le_of_lt (Nat.shiftRight_le _ _) (by omega)) (by omega)
    rw [c6,TR m k (by omega) (by omega),Kw a _ (by omega) (by omega)]
    cases hb : a.testBit (d + k) with
    | true =>
     have:=(yA a (d + k)).2 hb
     rw [this]; rfl
    | false =>
     have : ¬ ((a >>> (d + k)) &&& 1 = 1):=fun h=>by rw [(yA a (d + k)).1 h] at hb; cases hb
     have h2 : (((((a >>> (d + k)) &&& 1 : Nat) : Int)) == 1) = false:=by
      rw [beq_eq_false_iff_ne]; omega
     rw [h2]; rfl
   rw [Xr hst,ih _ (by omega) ?_]
   ·conv=>rhs; unfold YL
   ·split
    ·exact Nat.xor_lt_two_pow ha hsh2
    ·exact ha
 unfold Uq
 have:=key (16 - d) a (by omega) (by omega)
 rw [show ((d + (16 - d) : Nat) : Int) - 1 = 15 by omega] at this
 rw [this]; rfl

def HK : Nat → Nat → Nat → Nat
 | 0,_,_=>0
 | n + 1,a,b=>(if b % 2 = 1 then a else 0) ^^^ HK n (a <<< 1) (b / 2)
theorem Bt : ∀ (n a : Nat),HK n a 0 = 0
 | 0,_=>rfl
 | n + 1,a=>by simp [HK,Bt n]
theorem qe : ∀ (n a b p : Nat),a < 2 ^ p → HK n a b < 2 ^ (p + n)
 | 0,_,_,_,_=>by simp [HK]; exact Nat.two_pow_pos _
 | n + 1,a,b,p,h=>by
  unfold HK
  have h1 : a <<< 1 < 2 ^ (p + 1):=KK h
  have h2:=qe n (a <<< 1) (b / 2) (p + 1) h1
  rw [show p + 1 + n = p + (n + 1) by omega] at h2
  refine Nat.xor_lt_two_pow ?_ h2
  have h3 : 2 ^ p ≤ 2 ^ (p + (n + 1)):=Nat.pow_le_pow_right (by omega) (by omega)
  have h4:=Nat.two_pow_pos (p + (n + 1))
  split <;> omega
def prC : Nat → Nat → Nat → Nat
 | 0,_,_=>0
 | i + 1,a,b=>prC i a b ^^^ (if b.testBit i then a <<< i else 0)
theorem y9 : ∀ (n a b : Nat),prC (n + 1) a b = (if b % 2 = 1 then a else 0) ^^^ prC n (a <<< 1) (b / 2)
 | 0,a,b=>by
  simp only [prC,Nat.zero_xor,Nat.xor_zero,Nat.shiftLeft_zero]
  have : b.testBit 0 = decide (b % 2 = 1):=by simp [Nat.testBit_zero]
  rw [this]; simp
 | n + 1,a,b=>by
  conv=>lhs; unfold prC
  rw [y9 n a b]
  conv=>rhs; unfold prC
  rw [← Nat.xor_assoc]
  congr 1
  rw [Nat.testBit_succ,← Nat.shiftLeft_add,Nat.add_comm 1 n]
theorem Zbl : ∀ (n a b : Nat),prC n a b = HK n a b
 | 0,_,_=>rfl
 | n + 1,a,b=>by rw [y9,Zbl n]; rfl
theorem kp (a b : Nat) (h : a < 256) : ∀ i,i ≤ 8 → prC i a b < 2 ^ 16
 | 0,_=>by simp [prC]
 | i + 1,hi=>by
  unfold prC
  have h1 : a <<< i < 2 ^ (8 + i):=KK h
  have h2 : 2 ^ (8 + i) ≤ 2 ^ 16:=Nat.pow_le_pow_right (by omega) (by omega)
  refine Nat.xor_lt_two_pow (kp a b h i (by omega)) ?_
  split
  ·omega
  ·omega
def Zz (m : Nat) (a b : UInt8) : UInt8:=Yp ((YL m 8 8 (HK 8 a.toNat b.toNat) : Nat) : Int)
theorem WW (m : Nat) (hm : m < 512) (a b : UInt8) : ZM (m : Int) a b = some (Zz m a b):=by
 have ha : a.toNat < 256:=a.toNat_lt
 have hb : b.toNat < 256:=b.toNat_lt
 have h:=Yq (f:=Ye a b) (fun i : Nat=>(((prC i a.toNat b.toNat : Nat) : Int),(i : Int))) 0 8 (Nat.zero_le _) (t:=((prC 8 a.toNat b.toNat : Nat) : Int)) (fun i _ hi=>by
  unfold Ye
  have c1 : ((i : Int) < 8):=by omega
  have c2 : YI (i : Int) = some ():=by unfold YI; rw [if_pos (by omega)]
  have c3 : prC i a.toNat b.toNat < 2 ^ 16:=kp _ _ ha i (by omega)
  have c4 : a.toNat <<< i < 2 ^ (8 + i):=KK ha
  have c5 : 2 ^ (8 + i) ≤ 2 ^ 16:=Nat.pow_le_pow_right (by omega) (by omega)
  have c6 : (((BR b (i : Int)) &&& 1) == 1) = b.toNat.testBit i:=by
   have e1 : (BR b (i : Int)).toNat = b.toNat >>> i:=by
    unfold BR Yp
    rw [show min ((i : Int)).toNat 8 = i by omega,Int.fdiv_eq_ediv_of_nonneg _ (by exact_mod_cast Nat.zero_le _)]
    have : ((b.toNat : Int) / 2 ^ i) = ((b.toNat >>> i : Nat) : Int):=by rw [Nat.shiftRight_eq_div_pow]; simp
    rw [this]
    have h3 : b.toNat >>> i ≤ b.toNat:=Nat.shiftRight_le _ _
    generalize b.toNat >>> i = q at h3 ⊢
    have h4 : (((q : Nat) : Int) % 256).toNat = q:=by omega
    rw [h4]
    simp
    omega
   rw [Bool.eq_iff_iff,beq_iff_eq,← yA,← UInt8.toNat_inj,UInt8.toNat_and,e1]
   simp
  simp only [c1,decide_true,if_true,c2,Option.bind_some,c6,Yl (show i < 9223372036854775807 by omega)]
  rw [TR _ i (by omega) (by omega),Kw _ _ (by omega) (by omega)]
  cases hbit : b.toNat.testBit i with
  | true=>simp [prC,hbit]
  | false=>simp [prC,hbit]) (by unfold Ye; simp)
 have h2 : ZH (Ye a b) (0,0) = _:=h
 unfold ZM
 rw [h2]
 simp only [Option.bind_some]
 have h3:=Zbd (prC 8 a.toNat b.toNat) m 8 (by omega) (kp _ _ ha 8 (by omega)) (by omega)
 have h4 : Uq ((prC 8 a.toNat b.toNat : Nat) : Int) (m : Int) 8 = _:=h3
 rw [h4,Zbl]
 rfl
theorem TJ (m : Nat) (hm : m < 512) (hm2 : 256 ≤ m) (a b : UInt8) : Yx (m : Int) a b = some (Zz m a b):=by
 have ha : a.toNat < 256:=a.toNat_lt
 have hb : b.toNat < 256:=b.toNat_lt
 have h1 : 2 ^ 8 ≤ m:=hm2
 have h2 : m < 2 ^ (8 + 1):=hm
 have hR : ∀ i,i ≤ 8 → YL m 8 8 (a.toNat <<< i) < 256:=fun i hi=>HG h1 h2 8 _ (by
  have:=KK (k:=i) (show a.toNat < 2 ^ 8 from ha)
  exact Nat.lt_of_lt_of_le this (Nat.pow_le_pow_right (by omega) (by omega)))
 have hdbl : ∀ i,i ≤ 7 → YL m 8 8 (a.toNat <<< (i + 1)) = if 256 ≤ (YL m 8 8 (a.toNat <<< i)) * 2 then (YL m 8 8 (a.toNat <<< i)) * 2 ^^^ m else (YL m 8 8 (a.toNat <<< i)) * 2:=by
  intro i hi
  have hx : a.toNat <<< i < 2 ^ (8 + 7):=Nat.lt_of_lt_of_le (KK (show a.toNat < 2 ^ 8 from ha)) (Nat.pow_le_pow_right (by omega) (by omega))
  have e : a.toNat <<< (i + 1) = (a.toNat <<< i) <<< 1:=by rw [← Nat.shiftLeft_add]
  rw [e,Q5 m 8 7,← Bi hx]
  have hlt:=hR i (by omega)
  generalize YL m 8 8 (a.toNat <<< i) = y at hlt ⊢
  have e2 : y <<< 1 = y * 2:=by rw [Nat.shiftLeft_eq]
  rw [e2]
  have e3 : (y * 2).testBit 8 = decide (256 ≤ y * 2):=by
   by_cases hy : 256 ≤ y * 2
   ·rw [kL (d:=8) hy (by omega)]; simp [hy]
   ·rw [Nat.testBit_lt_two_pow (by omega : y * 2 < 2 ^ 8)]; simp [hy]
  rw [e3]
  by_cases hy : 256 ≤ y * 2 <;> simp [hy]
 have key : ∀ (n i o r : Nat),i + n ≤ 8 → r < 2 ^ n → o < 256 → ZH (XL (m : Int)) ((o : Int),((YL m 8 8 (a.toNat <<< i) : Nat) : Int),(r : Int)) = some ((o ^^^ YL m 8 8 (HK n (a.toNat <<< i) r) : Nat) : Int):=by
  intro n
  induction n with
  | zero =>
   intro i o r _ hr ho
   have : r = 0:=by simpa using hr
   subst this
   rw [Yi (t:=(o : Int))]
   ·rw [Bt,Tj 8 0 (by omega),Nat.xor_zero]
   ·unfold XL; simp
  | succ n ih =>
   intro i o r hi hr ho
   by_cases h0 : r = 0
   ·subst h0
    rw [Yi (t:=(o : Int))]
    ·rw [Bt,Tj 8 0 (by omega),Nat.xor_zero]
    ·unfold XL; simp
   ·have hy:=hR i (by omega)
    have hst : XL (m : Int) ((o : Int),((YL m 8 8 (a.toNat <<< i) : Nat) : Int),(r : Int)) = some (.nx (((o ^^^ YL m 8 8 (if r % 2 = 1 then a.toNat <<< i else 0) : Nat) : Int),((YL m 8 8 (a.toNat <<< (i + 1)) : Nat) : Int),((r / 2 : Nat) : Int))):=by
     rw [hdbl i (by omega)]
     unfold XL
     have c1 : (r : Int) > 0:=by omega
     have hr2 : r < 512:=Nat.lt_of_lt_of_le hr (Nat.le_trans (Nat.pow_le_pow_right (by omega) (by omega : n + 1 ≤ 9)) (by omega))
     simp only [c1,decide_true,if_true,tmod2,Zba]
     have e1 : wr (((YL m 8 8 (a.toNat <<< i) : Nat) : Int) * 2) = (((YL m 8 8 (a.toNat <<< i)) * 2 : Nat) : Int):=by rw [YM (by omega)]; omega
     have e2 : wr ((r / 2 : Nat) : Int) = ((r / 2 : Nat) : Int):=yZ _ (by omega)
     rw [e1,e2,Kw _ _ (by omega) (by omega),Kw _ _ (by omega) (by omega)]
     have e3 : ((((r % 2 : Nat) : Int)) == 1) = decide (r % 2 = 1):=by
      rw [Bool.eq_iff_iff,beq_iff_eq,decide_eq_true_eq]; omega
     rw [e3]
     have e4 : decide ((((YL m 8 8 (a.toNat <<< i)) * 2 : Nat) : Int) ≥ 256) = decide (256 ≤ (YL m 8 8 (a.toNat <<< i)) * 2):=by rw [decide_eq_decide]; omega
     rw [e4]
     have e5 : YL m 8 8 0 = 0:=Tj 8 0 (by omega)
     by_cases c2 : r % 2 = 1 <;> by_cases c3 : 256 ≤ (YL m 8 8 (a.toNat <<< i)) * 2 <;> simp only [c2,c3,decide_true,decide_false,Bool.false_eq_true,if_true,if_false,Option.bind_some,e5,Nat.xor_zero]
    rw [Xr hst,ih (i + 1) _ (r / 2) (by omega) (by rw [Nat.pow_succ] at hr; omega) ?_]
    ·conv=>rhs; unfold HK
     rw [QE,Nat.xor_assoc,Nat.shiftLeft_add]
    ·refine Nat.xor_lt_two_pow (n:=8) ho ?_
     split
     ·exact hR i (by omega)
     ·rw [Tj 8 0 (by omega)]; omega
 have:=key 8 0 0 b.toNat (by omega) hb (by omega)
 rw [Nat.shiftLeft_zero,Tj 8 a.toNat ha,Nat.zero_xor] at this
 have h3 : ZH (XL (m : Int)) (0,bI a,bI b) = _:=this
 unfold Yx
 rw [h3]
 rfl

def JZ (m : Nat) : Nat → UInt8 → Nat → UInt8 → UInt8
 | 0,_,_,o=>o
 | f + 1,a,k,o=>if k = 0 then o else JZ m f (Zz m a a) (k / 2) (if k % 2 = 1 then Zz m o a else o)
theorem jH (m : Nat) (L : UInt8 × Int × UInt8 → Option (Fl (UInt8 × Int × UInt8) UInt8)) (T : UInt8 → UInt8 → Option UInt8) (hT : ∀ a b,T a b = some (Zz m a b))
  (hL : ∀ s,L s = if (decide (s.2.1 > 0)) = true then (((if ((Int.tmod s.2.1 2) == 1) = true then ((T s.2.2 s.1).bind fun r=>some r) else (some s.2.2) : Option UInt8).bind fun j12=>(T s.1 s.1).bind fun r20=>some (r20,j12) : Option (UInt8 × UInt8)).bind fun j9=>some (Fl.nx (j9.1,wr (Int.tdiv s.2.1 2),j9.2))) else (some (Fl.ex s.2.2))) :
  ∀ (f k : Nat) (a o : UInt8),k < 2 ^ f → f ≤ 62 → ZH L (a,(k : Int),o) = some (JZ m f a k o):=by
 intro f
 induction f with
 | zero =>
  intro k a o hk _
  have : k = 0:=by simpa using hk
  subst this
  exact Yi (by rw [hL]; simp [JZ])
 | succ f ih =>
  intro k a o hk hf
  by_cases h0 : k = 0
  ·subst h0
   exact Yi (by rw [hL]; simp [JZ])
  ·have hlt : k < 9223372036854775808:=Nat.lt_of_lt_of_le hk (Nat.pow_le_pow_right (by omega : 0 < 2) (by omega : f + 1 ≤ 63))
   have hst : L (a,(k : Int),o) = some (.nx (Zz m a a,((k / 2 : Nat) : Int),if k % 2 = 1 then Zz m o a else o)):=by
    rw [hL]
    have c1 : (k : Int) > 0:=by omega
    have e3 : ((((k % 2 : Nat) : Int)) == 1) = decide (k % 2 = 1):=by
     rw [Bool.eq_iff_iff,beq_iff_eq,decide_eq_true_eq]; omega
    simp only [c1,decide_true,if_true,tmod2,Zba,hT,e3,Option.bind_some,yZ (k / 2) (by omega)]
    by_cases c2 : k % 2 = 1 <;> simp [c2]
   rw [Xr hst,ih (k / 2) _ _ (by rw [Nat.pow_succ] at hk; omega) (by omega)]
   conv=>rhs; unfold JZ
   rw [if_neg h0]
theorem zE (m : Nat) (hm : m < 512) (a : UInt8) (k f : Nat) (hk : k < 2 ^ f) (hf : f ≤ 62) : Wg (m : Int) a (k : Int) = some (JZ m f a k 1):=by
 unfold Wg
 rw [jH m (VT (m : Int)) _ (WW m hm) (fun s=>by unfold VT; rfl) f k a 1 hk hf]; rfl
theorem jU (m : Nat) (hm : m < 512) (hm2 : 256 ≤ m) (a : UInt8) (k f : Nat) (hk : k < 2 ^ f) (hf : f ≤ 62) : Vu (m : Int) a (k : Int) = some (JZ m f a k 1):=by
 unfold Vu
 rw [jH m (Ta (m : Int)) _ (TJ m hm hm2) (fun s=>by unfold Ta; rfl) f k a 1 hk hf]; rfl
def Qy (m : Nat) (a : UInt8) : UInt8:=JZ m 8 a 254 1
theorem Qn (m : Nat) (hm : m < 512) (a : UInt8) : Y4 (m : Int) a = some (Qy m a):=by
 unfold Y4
 have:=zE m hm a 254 8 (by omega) (by omega)
 have h2 : Wg (m : Int) a 254 = _:=this
 rw [h2]; rfl
theorem jL (m : Nat) (hm : m < 512) (hm2 : 256 ≤ m) (a : UInt8) : UG (m : Int) a = some (Qy m a):=by
 unfold UG
 have:=jU m hm hm2 a 254 8 (by omega) (by omega)
 have h2 : Vu (m : Int) a 254 = _:=this
 rw [h2]; rfl

def HO (m d : Nat) : Bool:=YL d (Ks d - 1) (16 - (Ks d - 1)) m == 0
def ZV (m : Int) : Bool:=decide (256 ≤ m ∧ m ≤ 511) && !((List.range' 2 30).any (HO m.toNat))
theorem KF (m : Int) : XW m = some (ZV m):=by
 unfold XW ZV
 rw [qf]
 by_cases hm : 256 ≤ m ∧ m ≤ 511
 ·obtain ⟨n,rfl⟩:=Int.eq_ofNat_of_zero_le (show 0 ≤ m by omega)
  have hn : n < 512:=by omega
  have h:=KA (f:=WY (n : Int)) 32 (HO n) false (by omega) 2 (by omega) (fun d h2 hd=>by
   unfold WY
   have c1 : (d : Int) < 32:=by omega
   have hp : ∃ p,p ≤ 4 ∧ 2 ^ p ≤ d ∧ d < 2 ^ (p + 1):=by
    refine ⟨d.log2,?_,Nat.log2_self_le (by omega),Nat.lt_log2_self⟩
    have:=(Nat.log2_lt (n:=d) (by omega)).2 (show d < 2 ^ 5 by omega)
    omega
   obtain ⟨p,h3,h4,h5⟩:=hp
   have hl:=Aq h4 h5
   rw [qy n d p (16 - p) (by omega) (by omega) h4 h5 (by rw [show p + (16 - p) = 16 by omega]; omega)]
   simp only [c1,decide_true,if_true,Option.bind_some]
   unfold HO
   rw [hl,show p + 1 - 1 = p by omega]
   generalize YL d p (16 - p) n = q
   have : ((((q : Nat) : Int)) == 0) = (q == 0):=by rw [Bool.eq_iff_iff,beq_iff_eq,beq_iff_eq]; omega
   rw [this]
   cases q == 0 <;> simp) (by unfold WY; simp)
  have h2 : ZH (WY (n : Int)) 2 = _:=h
  rw [h2]
  simp only [hm,decide_true,and_self,Bool.not_true,Bool.false_eq_true,if_false,Option.bind_some,Bool.true_and,Int.toNat_natCast]
  cases (List.range' 2 30).any (HO n) <;> rfl
 ·simp [hm]
theorem JI (m : Int) : WC m = some (ZV m):=by
 unfold WC ZV
 rw [JG]
 by_cases hm : 256 ≤ m ∧ m ≤ 511
 ·obtain ⟨n,rfl⟩:=Int.eq_ofNat_of_zero_le (show 0 ≤ m by omega)
  have hn : n < 512:=by omega
  have inner : ∀ p : Nat,p ≤ 4 → ZH (Vt (n : Int) (p : Int)) ((2 ^ p : Nat) : Int) = some (if (List.range' (2 ^ p) (2 ^ p)).any (HO n) then Fl.ex false else Fl.nx ()):=by
   intro p hp
   have c2 : YI (p : Int) = some ():=by unfold YI; rw [if_pos (by omega)]
   have hpow : 2 ^ p ≤ 2 ^ 4:=Nat.pow_le_pow_right (by omega) hp
   have hpp:=Nat.two_pow_pos p
   have c3 : TN 2 (p : Int) = ((2 ^ (p + 1) : Nat) : Int):=by
    have:=TR 2 p (by omega) (by rw [Nat.shiftLeft_eq]; omega)
    rw [Nat.shiftLeft_eq] at this
    rw [show (2 : Int) = ((2 : Nat) : Int) from rfl,this,Nat.pow_succ,Nat.mul_comm]
   have h:=KA (f:=Vt (n : Int) (p : Int)) (2 ^ (p + 1)) (HO n) false (by rw [Nat.pow_succ]; omega) (2 ^ p) (by rw [Nat.pow_succ]; omega) (fun d h4 h5=>by
    unfold Vt
    have c1 : (d : Int) < ((2 ^ (p + 1) : Nat) : Int):=by omega
    have hd : d < 32:=by rw [Nat.pow_succ] at h5; omega
    have hl:=Aq h4 h5
    rw [c2,c3,Zbd n d p (by omega) (by omega) (by omega)]
    simp only [c1,decide_true,if_true,Option.bind_some]
    unfold HO
    rw [hl,show p + 1 - 1 = p by omega]
    generalize YL d p (16 - p) n = q
    have : ((((q : Nat) : Int)) == 0) = (q == 0):=by rw [Bool.eq_iff_iff,beq_iff_eq,beq_iff_eq]; omega
    rw [this]
    cases q == 0 <;> simp) (by
     unfold Vt
     rw [c2,c3]; simp)
   rw [show 2 ^ (p + 1) - 2 ^ p = 2 ^ p by rw [Nat.pow_succ]; omega] at h
   exact h
  have h:=KA (f:=Vw (n : Int)) 5 (fun p=>(List.range' (2 ^ p) (2 ^ p)).any (HO n)) false (by omega) 1 (by omega) (fun p _ hp=>by
   unfold Vw
   have c1 : (p : Int) ≤ 4:=by omega
   have c2 : YI (p : Int) = some ():=by unfold YI; rw [if_pos (by omega)]
   have c3 : TN 1 (p : Int) = ((2 ^ p : Nat) : Int):=by
    have hpow : 2 ^ p ≤ 2 ^ 4:=Nat.pow_le_pow_right (by omega) (by omega)
    have:=TR 1 p (by omega) (by rw [Nat.shiftLeft_eq]; omega)
    rw [Nat.shiftLeft_eq,Nat.one_mul] at this
    exact this
   rw [c2,c3,inner p (by omega)]
   simp only [c1,decide_true,if_true,Option.bind_some]
   cases (List.range' (2 ^ p) (2 ^ p)).any (HO n) <;> rfl) (by unfold Vw; simp)
  have h2 : ZH (Vw (n : Int)) 1 = _:=h
  rw [h2]
  have e : ((List.range' 1 (5 - 1)).any fun p=>(List.range' (2 ^ p) (2 ^ p)).any (HO n)) = (List.range' 2 30).any (HO n):=by
   have e1 : List.range' 2 30 = List.range' 2 2 ++ (List.range' 4 4 ++ (List.range' 8 8 ++ List.range' 16 16)):=by decide
   have e2 : List.range' 1 (5 - 1) = [1,2,3,4]:=by decide
   rw [e1,e2]
   simp only [List.any_append,List.any_cons,List.any_nil,Bool.or_false,Nat.reducePow]
  rw [e]
  simp only [hm,decide_true,and_self,Bool.not_true,Bool.false_eq_true,if_false,Option.bind_some,Bool.true_and,Int.toNat_natCast]
  cases (List.range' 2 30).any (HO n) <;> rfl
 ·simp [hm]
theorem XD {m : Int} (h : ZV m = true) : ∃ n : Nat,m = n ∧ 256 ≤ n ∧ n < 512:=by
 unfold ZV at h
 simp only [Bool.and_eq_true,decide_eq_true_eq] at h
 exact ⟨m.toNat,by omega,by omega,by omega⟩
def Yf (s : GShare) : Bool:=s.Place != 0 && decide (s.Data.length ≤ 100)
theorem AU (s : GShare) : VC s = some (Yf s):=by
 unfold VC Yf
 cases h : s.Place != 0 <;> simp <;> omega
theorem z9 (s : GShare) : Uj s = some (Yf s):=by
 unfold Uj Yf
 cases h : s.Place != 0 <;> simp <;> omega

def WM (l : List UInt8) : Bool:=decide l.Nodup
theorem z4 (l : List UInt8) : ((List.range' 0 (l.length - 0)).any fun i=>(List.range' 0 (i - 0)).any fun k=>l[i]? == l[k]?) = !WM l:=by
 rw [Bool.eq_iff_iff,TM]
 rw [WM,Bool.not_eq_true',decide_eq_false_iff_not]
 unfold List.Nodup
 rw [List.pairwise_iff_getElem]
 simp only [TM,beq_iff_eq]
 constructor
 ·rintro ⟨i,_,hi,k,_,hk,h⟩ hn
  have hk' : k < l.length:=by omega
  rw [List.getElem?_eq_getElem hi,List.getElem?_eq_getElem hk'] at h
  exact hn k i hk' hi hk (by simpa using h.symm)
 ·intro h
  simp only [Classical.not_forall,ne_eq,Decidable.not_not] at h
  obtain ⟨k,i,hk,hi,hki,h⟩:=h
  exact ⟨i,Nat.zero_le _,hi,k,Nat.zero_le _,hki,by rw [List.getElem?_eq_getElem hi,List.getElem?_eq_getElem hk,h]⟩
theorem A5 (l : List UInt8) (h : l.length < 9223372036854775807) : Vx l = some (!WM l):=by
 unfold Vx
 have:=H5 (f:=WZ l) l.length (fun i=>(List.range' 0 (i - 0)).any fun k=>l[i]? == l[k]?) true h (fun i hi=>by
  unfold WZ
  have h2:=H5 (f:=W6 l i) i (fun k=>l[i]? == l[k]?) true (by omega) (fun k hk=>by
   unfold W6
   have hk' : k < l.length:=by omega
   have e1 : decide ((k : Int) < (i : Int)) = true:=by simp; omega
   rw [e1]
   simp [List.getElem?_eq_getElem hi,List.getElem?_eq_getElem hk']
   split <;> rfl) (by unfold W6; simp) 0 (Nat.zero_le _)
  have h3 : ZH (W6 l i) 0 = _:=h2
  simp only [Int.ofNat_lt,hi,decide_true,if_true,h3,Option.bind_some]
  cases (List.range' 0 (i - 0)).any fun k=>l[i]? == l[k]? <;> simp [Fl.el]) (by unfold WZ; simp) 0 (Nat.zero_le _)
 have h3 : ZH (WZ l) 0 = _:=this
 rw [h3,z4]
 cases WM l <;> simp [Fl.el]
theorem zH (l : List GShare) (h : l.length ≤ 140737488355327) : Vb l = some (WM (l.map (·.Place))):=by
 unfold Vb
 have:=Kr (f:=WL l) l (·.Place) (t:=l.map (·.Place)) (by omega) (fun i hi=>by
  unfold WL
  simp only [Int.ofNat_lt,hi,decide_true,if_true,ZC,List.getElem?_eq_getElem hi,Option.bind_some]
  rw [Yv (by simp; omega)]
  simp) (by unfold WL; simp)
 rw [this]
 simp only [Option.bind_some]
 rw [A5 _ (by simp; omega)]
 simp
theorem KE (l : List GShare) (h : l.length ≤ 140737488355327) : YP l = some (l.map (·.Place)):=by
 unfold YP
 have:=Kr (f:=Ub l) l (·.Place) (t:=l.map (·.Place)) (by omega) (fun i hi=>by
  unfold Ub
  simp only [Int.ofNat_lt,hi,decide_true,if_true,ZC,List.getElem?_eq_getElem hi,Option.bind_some]
  rw [Yv (by simp; omega)]
  simp) (by unfold Ub; simp)
 rw [this]; rfl

def J2 (l : List GShare) : Bool:=l.all fun s=>s.Data.length == (l.headD default).Data.length
def Yo (l : List GShare) : Int :=
 if !(l.all Yf) then 1 else if !(WM (l.map (·.Place))) then 1 else if l.length < 1 ∨ 12 < l.length then 2 else if !J2 l then 2 else 0
theorem H9 (l : List GShare) (h : l.length ≤ 140737488355327) : Vh l = some (Yo l):=by
 unfold Vh
 have h1:=QD (f:=UB l) l (fun s=>!Yf s) (t:=(1 : Int)) (by omega) (fun i hi=>by
  unfold UB
  simp only [Int.ofNat_lt,hi,decide_true,if_true,ZC,List.getElem?_eq_getElem hi,Option.bind_some,AU]
  cases Yf l[i] <;> simp) (by unfold UB; simp)
 rw [h1,List.any_eq_not_all_not]
 simp only [Bool.not_not,Yo]
 cases ha : l.all Yf with
 | false=>simp [Fl.el]
 | true =>
  simp only [Bool.not_true,Bool.false_eq_true,if_false,Option.bind_some,Fl.el,zH l h]
  cases hd : WM (l.map (·.Place)) with
  | false=>simp
  | true =>
   simp only [Bool.not_true,Bool.false_eq_true,if_false]
   by_cases hlen : l.length < 1
   ·have e : (l.length : Int) < 1:=by omega
    simp [hlen,e]
   ·by_cases hlen2 : 12 < l.length
    ·have e : ¬ ((l.length : Int) < 1):=by omega
     have e2 : (l.length : Int) > 12:=by omega
     simp [hlen2,e,e2]
    ·have e : ¬ ((l.length : Int) < 1):=by omega
     have e2 : ¬ ((l.length : Int) > 12):=by omega
     have h0 : 0 < l.length:=by omega
     have h2:=H5 (f:=Vq l) l.length (fun i=>(l[i]?.getD default).Data.length != (l.headD default).Data.length) (2 : Int) (by omega) (fun i hi=>by
      unfold Vq
      simp only [Int.ofNat_lt,hi,decide_true,if_true,ZC,Tu,List.getElem?_eq_getElem hi,List.getElem?_eq_getElem h0,Option.bind_some,Option.getD_some]
      have e3 : (l.headD default) = l[0]:=by cases l with | nil=>simp at h0 | cons x l=>rfl
      rw [e3]
      by_cases hq : l[i].Data.length = l[0].Data.length
      ·simp [hq]
      ·have : ¬ ((l[i].Data.length : Int) = l[0].Data.length):=by omega
       simp [hq,this]) (by unfold Vq; simp) 1 (by omega)
     have h3 : ZH (Vq l) 1 = _:=h2
     have key : ((List.range' 1 (l.length - 1)).any fun i=>(l[i]?.getD default).Data.length != (l.headD default).Data.length) = !J2 l:=by
      rw [Bool.eq_iff_iff,TM,Bool.not_eq_true',J2,List.all_eq_false]
      constructor
      ·rintro ⟨i,_,hi,hne⟩
       refine ⟨l[i],List.getElem_mem hi,?_⟩
       simpa [List.getElem?_eq_getElem hi] using hne
      ·rintro ⟨x,hx,hne⟩
       obtain ⟨i,hi,rfl⟩:=List.mem_iff_getElem.1 hx
       refine ⟨i,?_,hi,by simpa [List.getElem?_eq_getElem hi] using hne⟩
       rcases Nat.eq_zero_or_pos i with rfl | hp
       ·exfalso; apply hne; cases l with | nil=>simp at h0 | cons x l=>simp
       ·exact hp
     rw [key] at h3
     rw [h3]
     simp [e,e2,hlen,hlen2]
     cases J2 l <;> simp
theorem zF (l : List GShare) : Wm l = some (l.length : Int):=rfl
theorem KY (l : List GShare) (p : GShare → Option Bool) (q : GShare → Bool) (hl : l.length < 9223372036854775807) (hp : ∀ x ∈ l,p x = some (q x)) : ZR l p = some (l.any q):=by
 unfold ZR Yt
 rw [kM l p q _ (fun s=>by unfold YN; rfl) hl hp]
 simp only [Option.bind_some,Zbc]
theorem J4 (l : List UInt8) (c : UInt8) : decide (indexByte l c ≥ 0) = l.contains c:=by
 induction l with
 | nil=>rfl
 | cons b l ih =>
  have hge:=Lib.indexByte_ge l c
  show decide (Lib.indexByte (b :: l) c ≥ 0) = _
  unfold Lib.indexByte
  rw [List.contains_cons,← ih]
  by_cases hb : b = c
  ·subst hb; simp
  ·have hb' : (c == b) = false:=by simpa using fun h=>hb h.symm
   simp only [beq_eq_false_iff_ne.2 hb,hb',Bool.false_eq_true,if_false,Bool.false_or]
   rw [decide_eq_decide]
   show _ ↔ Lib.indexByte l c ≥ 0
   by_cases h1 : Lib.indexByte l c = -1
   ·simp [h1]
   ·rw [if_neg (by simpa using h1)]; omega
theorem QG (l : List UInt8) (h : l.length < 9223372036854775807) : Xl l = some (WM l):=by
 unfold Xl
 have:=H5 (f:=XK l) l.length (fun i=>(l.take i).any fun x=>l[i]? == some x) false h (fun i hi=>by
  unfold XK
  have e1 : slc l (0 : Int) (i : Int) = some (l.take i):=by have:=Hc (l:=l) (i:=0) (j:=i) (Nat.zero_le _) (by omega); simpa using this
  simp only [Int.ofNat_lt,hi,decide_true,if_true,ZC,List.getElem?_eq_getElem hi,Option.bind_some,e1]
  unfold WF
  simp only [Option.bind_some,J4]
  have e2 : (l.take i).contains l[i] = (l.take i).any fun x=>some l[i] == some x:=by
   rw [Bool.eq_iff_iff]; simp [List.any_eq_true]
  rw [e2]
  split <;> rfl) (by unfold XK; simp) 0 (Nat.zero_le _)
 have h3 : ZH (XK l) 0 = _:=this
 have key : ((List.range' 0 (l.length - 0)).any fun i=>(l.take i).any fun x=>l[i]? == some x) = !WM l:=by
  rw [← z4,Bool.eq_iff_iff,TM,TM]
  refine exists_congr fun i=>and_congr_right fun _=>and_congr_right fun hi=>?_
  rw [TM,List.any_eq_true]
  constructor
  ·rintro ⟨x,hx,h⟩
   obtain ⟨k,hk,rfl⟩:=List.mem_iff_getElem.1 hx
   have hk2 : k < i ∧ k < l.length:=by simp at hk; omega
   exact ⟨k,Nat.zero_le _,hk2.1,by rw [List.getElem?_eq_getElem hk2.2]; simpa using h⟩
  ·rintro ⟨k,_,hk,h⟩
   have hkl : k < l.length:=by omega
   refine ⟨l[k],List.mem_iff_getElem.2 ⟨k,by simp; omega,by simp⟩,?_⟩
   rw [List.getElem?_eq_getElem hkl] at h; exact h
 rw [h3,key]
 cases WM l <;> simp [Fl.el]
theorem jT (l : List GShare) (h0 : 0 < l.length) (s : GShare) : W5 s l = some (s.Data.length != (l.headD default).Data.length):=by
 unfold W5
 have e3 : (l.headD default) = l[0]:=by cases l with | nil=>simp at h0 | cons x l=>rfl
 simp only [Tu,List.getElem?_eq_getElem h0,Option.bind_some,e3]
 congr 1
 rw [Bool.eq_iff_iff]
 simp only [bne_iff_ne,ne_eq]
 omega
theorem qq (l : List GShare) (h : l.length < 9223372036854775807) : U7 l = some (J2 l):=by
 unfold U7
 rw [KY l _ (fun s=>s.Data.length != (l.headD default).Data.length) h (fun x hx=>jT l (List.length_pos_of_mem hx) x)]
 simp only [Option.bind_some,J2,List.any_eq_not_all_not]
 simp [bne]
theorem JR {α : Type} {l : List α} (h : l.Nodup) {i j : Nat} (hi : i < l.length) (hj : j < l.length) (e : l[i] = l[j]) : i = j:=by
 unfold List.Nodup at h
 rw [List.pairwise_iff_getElem] at h
 rcases Nat.lt_trichotomy i j with h1 | h1 | h1
 ·exact absurd e (h i j hi hj h1)
 ·exact h1
 ·exact absurd e.symm (h j i hj hi h1)
theorem qC (x : UInt8) (l : List UInt8) : WM (x :: l) = (!l.contains x && WM l):=by
 unfold WM
 rw [Bool.eq_iff_iff]
 simp [List.nodup_cons]
def Qf (l : List UInt8) : Bool:=!l.contains 0 && WM l
theorem zw (l : List UInt8) (h : l.length ≤ 140737488355326) : Vp l = some (!Qf l):=by
 unfold Vp
 rw [Yv (by simp; omega)]
 simp only [Option.bind_some]
 rw [A5 _ (by simp; omega)]
 simp only [Option.bind_some,Qf]
 rw [show ([0] : List UInt8) ++ l = 0 :: l from rfl,qC]
theorem zK (l : List UInt8) (h : l.length < 9223372036854775807) : Vf l = some (Qf l):=by
 unfold Vf WF
 rw [QG l h]
 have e : decide (indexByte l 0 < 0) = !l.contains 0:=by
  rw [← J4,Bool.eq_iff_iff]; simp
 simp only [Option.bind_some,e,Qf]
 cases WM l <;> simp
def wtC (m : Nat) (l : List UInt8) (p : UInt8) : UInt8:=l.foldl (fun w q=>if q != p then Zz m w (Zz m q (Qy m (p ^^^ q))) else w) 1
theorem yp (m : Nat) (hm : m < 512) (hm2 : 256 ≤ m) (l : List UInt8) (hl : l.length ≤ 12) (hd : WM l = true) : VI (m : Int) l = some (l.map (wtC m l)):=by
 have hnd : l.Nodup:=by simpa [WM] using hd
 unfold VI
 have h:=Kr (f:=Vi (m : Int) l) l (wtC m l) (t:=l.map (wtC m l)) (by omega) (fun i hi=>by
  unfold Vi
  have h2:=JQ (f:=Vg (m : Int) l ((l.take i).map (wtC m l),(i : Int))) l (fun b i=>(b,i)) (fun w q=>if q != l[i] then Zz m w (Zz m q (Qy m (l[i] ^^^ q))) else w) 1 (t:=wtC m l l[i]) (by omega) (fun k hk=>by
   unfold Vg
   have e : (((k : Int)) != ((i : Int))) = (l[k] != l[i]):=by
    rw [Bool.eq_iff_iff,bne_iff_ne,bne_iff_ne]
    constructor
    ·intro h h2
     have:=JR hnd hk hi h2
     exact h (by omega)
    ·intro h h2
     have : k = i:=by omega
     subst this
     exact h rfl
   simp only [Int.ofNat_lt,hk,decide_true,if_true,ZC,List.getElem?_eq_getElem hk,List.getElem?_eq_getElem hi,Option.bind_some,jL m hm hm2,TJ m hm hm2,e]
   cases l[k] != l[i] <;> simp) (by unfold Vg; simp [wtC])
  simp only [Int.ofNat_lt,hi,decide_true,if_true]
  rw [h2]
  simp only [Option.bind_some]
  rw [Yv (by simp; omega)]
  rfl) (by unfold Vi; simp)
 rw [h]; rfl
def Tz (m : Int) (l : List UInt8) : List UInt8 × Int:=if !ZV m then ([],1) else if l.length < 1 ∨ 12 < l.length then ([],2) else if !Qf l then ([],5) else (l.map (wtC m.toNat l),0)
theorem Bd (m : Int) (l : List UInt8) (hl : l.length ≤ 1048576) : VX m l = some (Tz m l):=by
 unfold VX Tz
 rw [KF]
 cases hf : ZV m with
 | false=>simp
 | true =>
  obtain ⟨n,rfl,h1,h2⟩:=XD hf
  simp only [Option.bind_some,Bool.not_true,Bool.false_eq_true,if_false]
  by_cases c1 : l.length < 1
  ·have : (l.length : Int) < 1:=by omega
   simp [c1,this]
  ·by_cases c2 : 12 < l.length
   ·have d1 : ¬ ((l.length : Int) < 1):=by omega
    have d2 : (l.length : Int) > 12:=by omega
    simp [c2,d1,d2]
   ·have d1 : ¬ ((l.length : Int) < 1):=by omega
    have d2 : ¬ ((l.length : Int) > 12):=by omega
    simp only [d1,d2,c1,c2,decide_false,Bool.false_eq_true,if_false,Option.bind_some,or_self]
    rw [zw l (by omega)]
    cases hp : Qf l with
    | false=>simp
    | true =>
     have hd : WM l = true:=by unfold Qf at hp; simp only [Bool.and_eq_true] at hp; exact hp.2
     simp only [Option.bind_some,Bool.not_true,Bool.false_eq_true,if_false,Int.toNat_natCast]
     rw [yp n h2 h1 l (by omega) hd]
     rfl
theorem BM (m : Int) (l : List UInt8) (hl : l.length ≤ 1048576) : Ug m l = some (Tz m l):=by
 unfold Ug Tz X9
 rw [JI]
 cases hf : ZV m with
 | false=>simp
 | true =>
  obtain ⟨n,rfl,h1,h2⟩:=XD hf
  simp only [Option.bind_some,Bool.not_true,Bool.false_eq_true,if_false,JG]
  by_cases c1 : l.length < 1 ∨ 12 < l.length
  ·have d : ¬ ((1 : Int) ≤ l.length ∧ (l.length : Int) ≤ 12):=by omega
   simp only [c1,d,decide_false,Bool.not_false,if_true]
  ·have d : ((1 : Int) ≤ l.length ∧ (l.length : Int) ≤ 12):=by omega
   simp only [c1,d,decide_true,and_self,Bool.not_true,Bool.false_eq_true,if_false]
   rw [zK l (by omega)]
   cases hp : Qf l with
   | false=>simp
   | true =>
    simp only [Option.bind_some,Bool.not_true,Bool.false_eq_true,if_false,Int.toNat_natCast]
    have h:=Yq (f:=WG (n : Int) l) (fun i : Nat=>((i : Int),(l.take i).map (wtC n l))) 0 l.length (Nat.zero_le _) (t:=l.map (wtC n l)) (fun i _ hi=>by
     unfold WG
     have h2:=JQ (f:=VF (n : Int) l l[i]) l (fun b i=>(i,b)) (fun w q=>if q != l[i] then Zz n w (Zz n q (Qy n (l[i] ^^^ q))) else w) 1 (t:=wtC n l l[i]) (by omega) (fun k hk=>by
      unfold VF
      simp only [Int.ofNat_lt,hk,decide_true,if_true,ZC,List.getElem?_eq_getElem hk,Option.bind_some,Qn n h2,WW n h2]
      cases l[k] != l[i] <;> simp) (by unfold VF; simp [wtC])
     simp only [Int.ofNat_lt,hi,decide_true,if_true,ZC,List.getElem?_eq_getElem hi,Option.bind_some,Yl (show i < 9223372036854775807 by omega)]
     rw [h2]
     simp only [Option.bind_some]
     rw [Yv (by simp; omega)]
     simp only [Option.bind_some]
     rw [List.take_succ_eq_append_getElem hi,List.map_append]
     rfl) (by unfold WG; simp)
    have h3 : ZH (WG (n : Int) l) (0,[]) = _:=h
    rw [h3]; rfl
theorem yx (m : Int) (l : List UInt8) : (Tz m l).1.length ≤ 12:=by
 unfold Tz
 split
 ·simp
 ·split
  ·simp
  ·rename_i h
   split
   ·simp
   ·simp; omega
def dbl (m y : Nat) : Nat:=if (y <<< 1).testBit 8 then (y <<< 1) ^^^ m else y <<< 1
theorem jr (a b c d : Nat) : (a ^^^ b) ^^^ (c ^^^ d) = (a ^^^ c) ^^^ (b ^^^ d):=by
 rw [Nat.xor_assoc,Nat.xor_assoc,← Nat.xor_assoc b,← Nat.xor_assoc c,Nat.xor_comm b c]
theorem kP (m x y : Nat) : dbl m (x ^^^ y) = dbl m x ^^^ dbl m y:=by
 unfold dbl
 rw [Nat.shiftLeft_xor_distrib,Nat.testBit_xor]
 cases (x <<< 1).testBit 8 <;> cases (y <<< 1).testBit 8 <;> simp only [Bool.xor_false,Bool.false_xor,Bool.xor_self,Bool.xor_true,Bool.not_false,Bool.not_true,Bool.false_eq_true,if_true,if_false]
 ·rw [Nat.xor_assoc]
 ·rw [Nat.xor_assoc,Nat.xor_assoc,Nat.xor_comm m]
 ·rw [jr,Nat.xor_self,Nat.xor_zero]
theorem AL (m : Nat) : dbl m 0 = 0:=by simp [dbl]
def opP (m : Nat) : Nat → Nat → Nat → Nat
 | 0,_,_=>0
 | n + 1,b,x=>(if b % 2 = 1 then x else 0) ^^^ opP m n (b / 2) (dbl m x)
theorem jF (m n b x : Nat) : opP m (n + 1) b x = (if b % 2 = 1 then x else 0) ^^^ opP m n (b / 2) (dbl m x):=rfl
theorem yI (m : Nat) : ∀ (n b x y : Nat),opP m n b (x ^^^ y) = opP m n b x ^^^ opP m n b y
 | 0,_,_,_=>by simp [opP]
 | n + 1,b,x,y=>by
  unfold opP
  rw [kP,yI m n,jr]
  congr 1
  split <;> simp
theorem HI (m : Nat) : ∀ (n b : Nat),opP m n b 0 = 0
 | 0,_=>rfl
 | n + 1,b=>by unfold opP; rw [AL,HI m n]; simp
theorem kG (m : Nat) : ∀ (n b x : Nat),opP m n b (dbl m x) = dbl m (opP m n b x)
 | 0,_,_=>(AL m).symm
 | n + 1,b,x=>by
  unfold opP
  rw [kG m n,kP]
  congr 1
  split
  ·rfl
  ·exact (AL m).symm
theorem H6 (m : Nat) : ∀ (n b k c x : Nat),opP m n b (opP m k c x) = opP m k c (opP m n b x)
 | 0,_,k,c,_=>(HI m k c).symm
 | n + 1,b,k,c,x=>by
  rw [jF,jF,← kG,H6 m n,yI]
  congr 1
  split
  ·rfl
  ·exact (HI m k c).symm
theorem qH (a : Nat) : (if a % 2 = 1 then 1 else 0) ^^^ (a / 2) <<< 1 = a:=by
 rw [Nat.shiftLeft_eq]
 have h : (if a % 2 = 1 then 1 else 0) = a % 2:=by split <;> omega
 rw [h]
 apply Nat.eq_of_testBit_eq
 intro i
 rw [Nat.testBit_xor]
 cases i with
 | zero =>
  simp [Nat.testBit_zero]
 | succ i =>
  rw [Nat.testBit_succ,Nat.testBit_succ,Nat.testBit_succ]
  have h1 : a % 2 / 2 = 0:=by omega
  have h2 : a / 2 * 2 ^ 1 / 2 = a / 2:=by omega
  rw [h1,h2]; simp
theorem Zcb (m i : Nat) (hi : i < 7) : dbl m (1 <<< i) = 1 <<< (i + 1):=by
 unfold dbl
 rw [← Nat.shiftLeft_add]
 have : (1 <<< (i + 1)).testBit 8 = false:=by
  apply Nat.testBit_lt_two_pow
  rw [Nat.shiftLeft_eq,Nat.one_mul]
  exact Nat.pow_lt_pow_right (by omega) (by omega)
 rw [this]; rfl
theorem JM (m : Nat) : ∀ (n i a : Nat), n + i ≤ 8 → a < 2 ^ n → opP m n a (1 <<< i) = a <<< i
  | 0, i, a, _, ha => by
    have : a = 0 := by simpa using ha
    subst this; simp [opP]
  | n + 1, i, a, hn, ha => by
    have e : a <<< i = (if a % 2 = 1 then 1 <<< i else 0) ^^^ (a / 2) <<< (i + 1) := by
      conv => lhs; rw [← qH a]
      rw [Nat.shiftLeft_xor_distrib, ← Nat.shiftLeft_add, Nat.add_comm 1 i]
      congr 1
      split <;> simp
    unfold opP
    rw [e]
    congr 1
    rcases Nat.eq_zero_or_pos n with rfl | hp
    · have : a / 2 = 0 := by have : a < 2 := by simpa using ha
                             omega
      rw [this]; simp [opP]
    · rw [Zcb m i (by omega)]
      exact JM m n (i + 1) (a / 2) (by omega) (by rw [Nat.pow_succ] at ha; omega)

theorem qs (m x : Nat) (hx : x < 2 ^ 15) : YL m 8 8 (x <<< 1) = dbl m (YL m 8 8 x):=by
 rw [Q5 m 8 7,← Bi (d:=8) (k:=7) hx]; rfl
theorem qP (m : Nat) : ∀ (n i a b : Nat),i + n ≤ 8 → a < 2 ^ 8 → YL m 8 8 (HK n (a <<< i) b) = opP m n b (YL m 8 8 (a <<< i))
 | 0,_,_,_,_,_=>by simp [HK,opP,Tj 8 0]
 | n + 1,i,a,b,hn,ha=>by
  unfold HK opP
  rw [QE]
  have hx : a <<< i < 2 ^ 15:=Nat.lt_of_lt_of_le (KK ha) (Nat.pow_le_pow_right (by omega) (by omega))
  rw [← qs m _ hx,← Nat.shiftLeft_add,qP m n (i + 1) a (b / 2) (by omega) ha]
  congr 1
  split
  ·rfl
  ·exact Tj 8 0 (by omega)
theorem Wk (m : Nat) (h1 : 256 ≤ m) (h2 : m < 512) (a b : UInt8) : (Zz m a b).toNat = opP m 8 b.toNat a.toNat:=by
 have ha : a.toNat < 2 ^ 8:=a.toNat_lt
 have hr : YL m 8 8 (HK 8 a.toNat b.toNat) < 256:=HG (d:=8) h1 h2 8 _ (qe 8 a.toNat b.toNat 8 ha)
 have e:=qP m 8 0 a.toNat b.toNat (by omega) ha
 rw [Nat.shiftLeft_zero,Tj 8 _ ha] at e
 unfold Zz Yp
 rw [e] at hr ⊢
 generalize opP m 8 b.toNat a.toNat = q at hr ⊢
 have : (((q : Nat) : Int) % 256).toNat = q:=by omega
 rw [this]
 simp
 omega
section
variable {m : Nat} (h1 : 256 ≤ m) (h2 : m < 512)
include h1 h2
theorem Xn (a b : UInt8) : Zz m a b = Zz m b a:=by
 apply UInt8.toNat_inj.1
 rw [Wk m h1 h2,Wk m h1 h2]
 have ea:=JM m 8 0 a.toNat (by omega) a.toNat_lt
 have eb:=JM m 8 0 b.toNat (by omega) b.toNat_lt
 simp only [Nat.shiftLeft_zero] at ea eb
 rw [← ea,H6,eb,ea]
theorem Y3 (a b c : UInt8) : Zz m (Zz m a b) c = Zz m a (Zz m b c):=by
 rw [Xn h1 h2 a (Zz m b c)]
 apply UInt8.toNat_inj.1
 rw [Wk m h1 h2,Wk m h1 h2,Wk m h1 h2,Wk m h1 h2]
 have ea:=JM m 8 0 a.toNat (by omega) a.toNat_lt
 have eb:=JM m 8 0 b.toNat (by omega) b.toNat_lt
 simp only [Nat.shiftLeft_zero] at ea eb
 have e1 : opP m 8 b.toNat a.toNat = opP m 8 a.toNat b.toNat:=by
  conv=>lhs; rw [← ea]
  rw [H6,eb]
 rw [e1,H6]
theorem JN (a b c : UInt8) : Zz m (a ^^^ b) c = Zz m a c ^^^ Zz m b c:=by
 apply UInt8.toNat_inj.1
 rw [UInt8.toNat_xor,Wk m h1 h2,Wk m h1 h2,Wk m h1 h2,UInt8.toNat_xor,yI]
theorem Qb (a b c : UInt8) : Zz m a (b ^^^ c) = Zz m a b ^^^ Zz m a c:=by
 rw [Xn h1 h2,JN h1 h2,Xn h1 h2 b,Xn h1 h2 c]
theorem T8 (a : UInt8) : Zz m 1 a = a:=by
 apply UInt8.toNat_inj.1
 rw [Wk m h1 h2]
 have ea:=JM m 8 0 a.toNat (by omega) a.toNat_lt
 simpa using ea
theorem UX (a : UInt8) : Zz m 0 a = 0:=by
 apply UInt8.toNat_inj.1
 rw [Wk m h1 h2]
 exact HI m 8 _
theorem QF (a b c d : UInt8) : Zz m (Zz m a b) (Zz m c d) = Zz m (Zz m a c) (Zz m b d):=by
 rw [Y3 h1 h2,Y3 h1 h2,← Y3 h1 h2 b c d,Xn h1 h2 b c,Y3 h1 h2 c b d]
theorem Bx : ∀ (f k : Nat) (a b o p : UInt8),JZ m f (Zz m a b) k (Zz m o p) = Zz m (JZ m f a k o) (JZ m f b k p)
 | 0,_,_,_,_,_=>rfl
 | f + 1,k,a,b,o,p=>by
  unfold JZ
  by_cases h : k = 0
  ·simp [h]
  ·rw [if_neg h,if_neg h,if_neg h]
   by_cases hk : k % 2 = 1
   ·rw [if_pos hk,if_pos hk,if_pos hk,QF h1 h2 a b,QF h1 h2 o p]
    exact Bx f (k / 2) _ _ _ _
   ·rw [if_neg hk,if_neg hk,if_neg hk,QF h1 h2 a b]
    exact Bx f (k / 2) _ _ _ _
theorem yj (a b : UInt8) : Qy m (Zz m a b) = Zz m (Qy m a) (Qy m b):=by
 unfold Qy
 have:=Bx h1 h2 8 254 a b 1 1
 rwa [T8 h1 h2] at this
theorem qb : ∀ (f k : Nat),JZ m f 1 k 1 = 1
 | 0,_=>rfl
 | f + 1,k=>by
  unfold JZ
  rw [T8 h1 h2]
  split
  ·rfl
  ·split <;> exact qb f _
theorem kK : Qy m 1 = 1:=qb h1 h2 8 254

end
theorem qn (a b c d : UInt8) : (a ^^^ b) ^^^ (c ^^^ d) = (a ^^^ c) ^^^ (b ^^^ d):=by
 rw [UInt8.xor_assoc,UInt8.xor_assoc,← UInt8.xor_assoc b,← UInt8.xor_assoc c,UInt8.xor_comm b c]
def Z7 (m : Nat) (l : List UInt8) (x : UInt8) : UInt8:=l.foldr (fun a acc=>Zz m acc x ^^^ a) 0
section
variable {m : Nat} (h1 : 256 ≤ m) (h2 : m < 512)
include h1 h2
theorem Hk (x : UInt8) : ∀ (a b : List UInt8),a.length = b.length → Z7 m (List.zipWith (· ^^^ ·) a b) x = Z7 m a x ^^^ Z7 m b x
 | [],[],_=>by simp [Z7]
 | [],_ :: _,h=>by simp at h
 | _ :: _,[],h=>by simp at h
 | p :: a,q :: b,h=>by
  have ih:=Hk x a b (by simpa using h)
  unfold Z7 at *
  rw [List.zipWith_cons_cons,List.foldr_cons,List.foldr_cons,List.foldr_cons,ih,JN h1 h2]
  exact qn _ _ _ _
theorem BZ (x : UInt8) : ∀ (a : List UInt8),Z7 m (a ++ [0]) x = Z7 m a x
 | []=>by simp [Z7,UX h1 h2]
 | p :: a=>by
  have ih:=BZ x a
  unfold Z7 at *
  rw [List.cons_append,List.foldr_cons,List.foldr_cons,ih]
theorem Hb (x p : UInt8) : ∀ (a : List UInt8),Z7 m (a.map fun c=>Zz m c p) x = Zz m (Z7 m a x) p
 | []=>by simp [Z7,UX h1 h2]
 | c :: a=>by
  have ih:=Hb x p a
  unfold Z7 at *
  rw [List.map_cons,List.foldr_cons,List.foldr_cons,ih,JN h1 h2,Y3 h1 h2,Xn h1 h2 p x,← Y3 h1 h2]
theorem HX (x : UInt8) : ∀ n,Z7 m (List.replicate n 0) x = 0
 | 0=>rfl
 | n + 1=>by
  have ih:=HX x n
  unfold Z7 at *
  rw [List.replicate_succ,List.foldr_cons,ih,UX h1 h2]; rfl
end
def Ql (m : Nat) (own : List UInt8) (p : UInt8) : List UInt8:=List.zipWith (· ^^^ ·) ((own.map fun c=>Zz m c p) ++ [0]) (0 :: own)
theorem H7 (m : Nat) (own : List UInt8) (p : UInt8) : (Ql m own p).length = own.length + 1:=by simp [Ql]
section
variable {m : Nat} (h1 : 256 ≤ m) (h2 : m < 512)
include h1 h2
theorem jy (own : List UInt8) (p x : UInt8) : Z7 m (Ql m own p) x = Zz m (Z7 m own x) (x ^^^ p):=by
 unfold Ql
 rw [Hk h1 h2 x _ _ (by simp),BZ h1 h2,Hb h1 h2,Qb h1 h2]
 have : Z7 m (0 :: own) x = Zz m (Z7 m own x) x:=by
  unfold Z7
  rw [List.foldr_cons,UInt8.xor_zero]
 rw [this,UInt8.xor_comm]
end
def tab (n : Nat) (f : Nat → UInt8) : List UInt8:=(List.range n).map f
@[simp] theorem yz (n : Nat) (f : Nat → UInt8) : (tab n f).length = n:=by simp [tab]
theorem Tf {n i : Nat} (f : Nat → UInt8) (h : i < n) : (tab n f)[i]? = some (f i):=by simp [tab,h]
theorem Ar (n i : Nat) (f : Nat → UInt8) (v : UInt8) : (tab n f).set i v = tab n (fun j=>if j = i then v else f j):=by
 apply List.ext_getElem?
 intro j
 rw [List.getElem?_set]
 by_cases hj : j < n
 ·rw [Tf _ hj,Tf _ hj]
  by_cases h : i = j
  ·subst h; simp [hj]
  ·simp [h,Ne.symm h]
 ·rw [List.getElem?_eq_none (by simp; omega),List.getElem?_eq_none (by simp; omega)]
  simp
  omega
theorem T4 {n : Nat} {f g : Nat → UInt8} (h : ∀ i,i < n → f i = g i) : tab n f = tab n g:=by
 unfold tab
 apply List.map_congr_left
 intro i hi
 exact h i (by simpa using hi)
theorem jx (l : List UInt8) : l = tab l.length (fun i=>l.getD i 0):=by
 apply List.ext_getElem?
 intro i
 by_cases h : i < l.length
 ·rw [Tf _ h,List.getElem?_eq_getElem h]; simp [List.getD_eq_getElem?_getD,List.getElem?_eq_getElem h]
 ·rw [List.getElem?_eq_none (by omega),List.getElem?_eq_none (by simp; omega)]
theorem qa (n : Nat) : List.replicate n (0 : UInt8) = tab n (fun _=>0):=by
 apply List.ext_getElem?
 intro i
 by_cases h : i < n
 ·rw [Tf _ h]; simp [h]
 ·rw [List.getElem?_eq_none (by simp; omega),List.getElem?_eq_none (by simp; omega)]
theorem Ut {l : List UInt8} {i : Nat} (h : i < l.length) : l[i]? = some (l.getD i 0):=by simp [List.getD_eq_getElem?_getD,List.getElem?_eq_getElem h]
theorem Hx {n : Nat} (h : n ≤ 140737488355328) (x : UInt8) : mkS 1 x (n : Int) = some (List.replicate n x):=by
 unfold mkS; rw [if_pos (by omega)]; simp

section
variable (m : Nat) (p : List UInt8)
def K9 (i : Nat) : Nat → List UInt8
 | 0=>[1]
 | k + 1=>if k = i then K9 i k else Ql m (K9 i k) (p.getD k 0)
def K2 (i : Nat) : Nat → UInt8
 | 0=>1
 | k + 1=>if k = i then K2 i k else Zz m (K2 i k) (p.getD i 0 ^^^ p.getD k 0)
def KZ (x : UInt8) (i : Nat) : Nat → UInt8
 | 0=>1
 | k + 1=>if k = i then KZ x i k else Zz m (KZ x i k) (x ^^^ p.getD k 0)
def z1 (v : List UInt8) (i : Nat) : UInt8:=Zz m (v.getD i 0) (Qy m (K2 m p i p.length))
def T9 (v : List UInt8) (x : UInt8) : Nat → UInt8
 | 0=>0
 | i + 1=>T9 v x i ^^^ Zz m (KZ m p x i p.length) (z1 m p v i)
theorem A1 (i : Nat) : ∀ k,(K9 m p i k).length = if i < k then k else k + 1
 | 0=>by simp [K9]
 | k + 1=>by
  unfold K9
  have ih:=A1 i k
  by_cases h : k = i
  ·subst h
   rw [if_pos rfl,ih,if_neg (by omega),if_pos (by omega)]
  ·rw [if_neg h,H7,ih]
   by_cases h2 : i < k
   ·rw [if_pos h2,if_pos (by omega)]
   ·rw [if_neg h2,if_neg (by omega)]
end
theorem yJ (m : Nat) (own : List UInt8) (p : UInt8) : Ql m own p = tab (own.length + 1) (fun j=>(if j < own.length then Zz m (own.getD j 0) p else 0) ^^^ (if 0 < j then own.getD (j - 1) 0 else 0)):=by
 apply List.ext_getElem?
 intro i
 by_cases h : i < own.length + 1
 ·rw [Tf _ h]
  unfold Ql
  rw [List.getElem?_zipWith]
  have e1 : (List.map (fun c=>Zz m c p) own ++ [0])[i]? = some (if i < own.length then Zz m (own.getD i 0) p else 0):=by
   by_cases hi : i < own.length
   ·rw [List.getElem?_append_left (by simpa using hi),if_pos hi]; simp [List.getD_eq_getElem?_getD,List.getElem?_eq_getElem hi]
   ·have : i = own.length:=by omega
    subst this
    rw [List.getElem?_append_right (by simp),if_neg hi]; simp
  have e2 : ((0 : UInt8) :: own)[i]? = some (if 0 < i then own.getD (i - 1) 0 else 0):=by
   cases i with
   | zero=>rfl
   | succ i =>
    have : i < own.length:=by omega
    simp [List.getD_eq_getElem?_getD,List.getElem?_eq_getElem this]
  rw [e1,e2]
 ·rw [List.getElem?_eq_none (by rw [H7]; omega),List.getElem?_eq_none (by simp; omega)]
section
variable {m : Nat} (h1 : 256 ≤ m) (h2 : m < 512)
include h1 h2
theorem kC (x : UInt8) : Z7 m [1] x = 1:=by
 unfold Z7
 simp [UX h1 h2]
theorem yt (p : List UInt8) (x : UInt8) (i : Nat) : ∀ k,Z7 m (K9 m p i k) x = KZ m p x i k
 | 0=>kC h1 h2 x
 | k + 1=>by
  unfold K9 KZ
  split
  ·exact yt p x i k
  ·rw [jy h1 h2,yt p x i k]
theorem Bk (p v : List UInt8) (hp : p.length ≤ 40) (hv : v.length = p.length) : ∃ poly,X4 (m : Int) p v = some poly ∧ poly.length = p.length ∧ ∀ x,Z7 m poly x = T9 m p v x p.length:=by
 -- the product with one factor
 have mul : ∀ (own : List UInt8) (k : Nat) (b : UInt8),own.length ≤ 41 → k < p.length → ZH (Y5 (m : Int) p (b,(k : Int),own)) (List.replicate (own.length + 1) 0,0) = some (Ql m own (p.getD k 0)):=by
  intro own k b hown hk
  rw [yJ,qa]
  have h:=Yq (f:=Y5 (m : Int) p (b,(k : Int),own)) (fun n : Nat=>(tab (own.length + 1) (fun j=>(if j < n then Zz m (own.getD j 0) (p.getD k 0) else 0) ^^^ (if 0 < j ∧ j ≤ n then own.getD (j - 1) 0 else 0)),(n : Int))) 0 own.length (Nat.zero_le _)
   (t:=tab (own.length + 1) (fun j=>(if j < own.length then Zz m (own.getD j 0) (p.getD k 0) else 0) ^^^ (if 0 < j then own.getD (j - 1) 0 else 0))) (fun n _ hn=>by
    unfold Y5
    have hn1 : n < own.length + 1:=by omega
    have hn2 : n + 1 < own.length + 1:=by omega
    simp only [Int.ofNat_lt,hn,decide_true,if_true,ZC,Yl (show n < 9223372036854775807 by omega),Tf _ hn1,Ut hn,Ut hk,TJ m h2 h1,Option.bind_some,Ar,Int.toNat_natCast,Tf _ hn2]
    congr 3
    apply T4
    intro j hj
    by_cases c1 : j = n + 1
    ·subst c1
     have f1 : ¬ (n + 1 = n):=by omega
     have f2 : ¬ (n + 1 < n):=by omega
     have f3 : ¬ (0 < n + 1 ∧ n + 1 ≤ n):=by omega
     have f4 : ¬ (n + 1 < n + 1):=by omega
     have f5 : (0 < n + 1 ∧ n + 1 ≤ n + 1):=by omega
     rw [if_pos rfl,if_neg f1,if_neg f2,if_neg f3,if_neg f4,if_pos f5]
     rfl
    ·by_cases c2 : j = n
     ·subst c2
      simp [c1]
      by_cases c3 : 0 < j
      ·simp [c3,UInt8.xor_comm]
      ·simp [c3]
     ·simp only [c1,c2,if_false]
      have d1 : (j < n + 1) ↔ (j < n):=by omega
      have d2 : (0 < j ∧ j ≤ n + 1) ↔ (0 < j ∧ j ≤ n):=by omega
      simp only [d1,d2]) (by
    unfold Y5
    simp only [Int.ofNat_lt,Nat.lt_irrefl,decide_false,Bool.false_eq_true,if_false]
    congr 2
    apply T4
    intro j hj
    have d2 : (0 < j ∧ j ≤ own.length) ↔ 0 < j:=by omega
    simp only [d2])
  have e0 : tab (own.length + 1) (fun _=>0) = tab (own.length + 1) (fun j=>(if j < 0 then Zz m (own.getD j 0) (p.getD k 0) else 0) ^^^ (if 0 < j ∧ j ≤ 0 then own.getD (j - 1) 0 else 0)):=by
   apply T4
   intro j _
   have d2 : ¬ (0 < j ∧ j ≤ 0):=by omega
   rw [if_neg (Nat.not_lt_zero j),if_neg d2]
   rfl
  rw [e0]
  exact h
 -- all factors
 have fac : ∀ (out : List UInt8) (i : Nat),i < p.length → ZH (Y7 (m : Int) p (out,(i : Int))) (1,0,[1]) = some (K2 m p i p.length,K9 m p i p.length):=by
  intro out i hi
  have h:=Yq (f:=Y7 (m : Int) p (out,(i : Int))) (fun k : Nat=>(K2 m p i k,(k : Int),K9 m p i k)) 0 p.length (Nat.zero_le _) (t:=(K2 m p i p.length,K9 m p i p.length)) (fun k _ hk=>by
   unfold Y7
   simp only [Int.ofNat_lt,hk,decide_true,if_true,Yl (show k < 9223372036854775807 by omega)]
   by_cases c : k = i
   ·subst c
    simp [K2,K9]
   ·have c' : (((k : Int)) == ((i : Int))) = false:=by rw [beq_eq_false_iff_ne]; omega
    have hlen:=A1 m p i k
    have hle : (K9 m p i k).length ≤ 41:=by rw [hlen]; split <;> omega
    have e1 : wr (((K9 m p i k).length : Int) + 1) = (((K9 m p i k).length + 1 : Nat) : Int):=Yl (by omega)
    simp only [c',Bool.false_eq_true,if_false,e1]
    rw [Hx (by omega)]
    simp only [Option.bind_some]
    rw [mul _ k _ hle hk]
    simp only [Option.bind_some,ZC,Ut hi,Ut hk,TJ m h2 h1,K2,K9,c,if_false]) (by unfold Y7; simp)
  exact h
 -- the sum
 have add : ∀ (own : List UInt8) (b f : UInt8) (out : List UInt8),own.length = p.length → out.length = p.length → ZH (Xb (m : Int) (b,own) f) (0,out) = some (List.zipWith (· ^^^ ·) out (own.map fun c=>Zz m c f)):=by
  intro own b f out ho1 ho2
  have hz : List.zipWith (· ^^^ ·) out (own.map fun c=>Zz m c f) = tab p.length (fun j=>out.getD j 0 ^^^ Zz m (own.getD j 0) f):=by
   apply List.ext_getElem?
   intro i
   by_cases h : i < p.length
   ·rw [Tf _ h,List.getElem?_zipWith,List.getElem?_map,Ut (by omega : i < out.length),Ut (by omega : i < own.length)]; rfl
   ·rw [List.getElem?_eq_none (by simp; omega),List.getElem?_eq_none (by simp; omega)]
  rw [hz]
  have h:=Yq (f:=Xb (m : Int) (b,own) f) (fun n : Nat=>((n : Int),tab p.length (fun j=>if j < n then out.getD j 0 ^^^ Zz m (own.getD j 0) f else out.getD j 0))) 0 p.length (Nat.zero_le _) (t:=tab p.length (fun j=>out.getD j 0 ^^^ Zz m (own.getD j 0) f)) (fun n _ hn=>by
   unfold Xb
   have hn1 : n < own.length:=by omega
   simp only [Int.ofNat_lt,hn1,decide_true,if_true,ZC,Yl (show n < 9223372036854775807 by omega),Tf _ hn,Ut hn1,TJ m h2 h1,Option.bind_some,Ar,Int.toNat_natCast]
   congr 3
   apply T4
   intro j hj
   by_cases c2 : j = n
   ·subst c2; simp
   ·have d1 : (j < n + 1) ↔ (j < n):=by omega
    simp only [c2,if_false,d1]) (by
   unfold Xb
   rw [ho1]
   simp only [Int.ofNat_lt,Nat.lt_irrefl,decide_false,Bool.false_eq_true,if_false]
   congr 2
   apply T4
   intro j hj
   simp [hj])
  have e0 : out = tab p.length (fun j=>if j < 0 then out.getD j 0 ^^^ Zz m (own.getD j 0) f else out.getD j 0):=by
   conv=>lhs; rw [jx out,ho2]
   apply T4
   intro j _
   simp
  conv=>lhs; rw [e0]
  exact h
 -- the whole
 have outs : ∀ i,i ≤ p.length → ∃ out : List UInt8,out.length = p.length ∧ (∀ x,Z7 m out x = T9 m p v x i) ∧ ZH (Xc (m : Int) p v) (List.replicate p.length 0,0) = ZH (Xc (m : Int) p v) (out,(i : Int)):=by
  intro i
  induction i with
  | zero=>exact fun _=>⟨List.replicate p.length 0,by simp,fun x=>HX h1 h2 x _,rfl⟩
  | succ i ih =>
   intro hi
   obtain ⟨out,k1,k2,k3⟩:=ih (by omega)
   have hi' : i < p.length:=by omega
   have hol : (K9 m p i p.length).length = p.length:=by rw [A1,if_pos hi']
   refine ⟨List.zipWith (· ^^^ ·) out ((K9 m p i p.length).map fun c=>Zz m c (z1 m p v i)),by simp [k1,hol],fun x=>?_,?_⟩
   ·rw [Hk h1 h2 x _ _ (by simp [k1,hol]),Hb h1 h2,k2,yt h1 h2]; rfl
   ·rw [k3]
    apply Xr
    unfold Xc
    have hvi : i < v.length:=by omega
    simp only [Int.ofNat_lt,hi',decide_true,if_true,Yl (show i < 9223372036854775807 by omega)]
    rw [fac out i hi']
    simp only [Option.bind_some,ZC,Ut hvi,jL m h2 h1,TJ m h2 h1]
    have:=add (K9 m p i p.length) (K2 m p i p.length) (Zz m (v.getD i 0) (Qy m (K2 m p i p.length))) out hol k1
    rw [this]
    rfl
 obtain ⟨out,k1,k2,k3⟩:=outs p.length (Nat.le_refl _)
 refine ⟨out,?_,k1,k2⟩
 unfold X4
 rw [Hx (by omega)]
 simp only [Option.bind_some]
 rw [k3,Yi (t:=out)]
 ·rfl
 ·unfold Xc; simp
theorem zo (l : List UInt8) (x : UInt8) (hl : l.length ≤ 1000) : Vy (m : Int) l x = some (Z7 m l x):=by
 have key : ∀ (k : Nat),k ≤ l.length → ZH (Wh (m : Int) l x) (Z7 m (l.drop k) x,(k : Int) - 1) = some (Z7 m l x):=by
  intro k
  induction k with
  | zero =>
   intro _
   rw [List.drop_zero]
   exact Yi (by unfold Wh; simp)
  | succ k ih =>
   intro hk
   have hk' : k < l.length:=by omega
   have hst : Wh (m : Int) l x (Z7 m (l.drop (k + 1)) x,((k + 1 : Nat) : Int) - 1) = some (.nx (Z7 m (l.drop k) x,(k : Int) - 1)):=by
    unfold Wh
    have e : ((k + 1 : Nat) : Int) - 1 = (k : Int):=by omega
    have c : (k : Int) ≥ 0:=by omega
    have e2 : wr ((k : Int) - 1) = (k : Int) - 1:=YM (by omega)
    simp only [e,c,decide_true,if_true,ZC,List.getElem?_eq_getElem hk',Option.bind_some,TJ m h2 h1,e2]
    congr 3
    conv=>rhs; rw [List.drop_eq_getElem_cons hk']
    rfl
   rw [Xr hst]
   exact ih (by omega)
 unfold Vy
 have e : wr ((l.length : Int) - 1) = (l.length : Int) - 1:=YM (by omega)
 have:=key l.length (Nat.le_refl _)
 rw [List.drop_length] at this
 rw [e]
 have h3 : ZH (Wh (m : Int) l x) (0,(l.length : Int) - 1) = _:=this
 rw [h3]; rfl
end
def YJ (m : Int) (l : List GShare) (t : Int) : Int:=if !ZV m then 1 else if Yo l == 0 && !decide (1 ≤ t ∧ t ≤ 8) then 2 else Yo l
theorem BF (m : Int) (l : List GShare) (t : Int) (h : l.length ≤ 140737488355327) : W8 m l t = some (YJ m l t):=by
 unfold W8 YJ
 rw [KF]
 cases ZV m with
 | false=>simp
 | true =>
  simp only [Option.bind_some,Bool.not_true,Bool.false_eq_true,if_false,H9 l h]
  cases hc : Yo l == 0 with
  | false=>simp
  | true =>
   simp only [if_true,qf,Option.bind_some,Bool.true_and]
   by_cases ht : 1 ≤ t ∧ t ≤ 8 <;> simp [ht]
theorem UF (m : Int) (l : List GShare) (t : Int) (h : l.length ≤ 140737488355327) : YC m l t = some (YJ m l t):=by
 unfold YC YJ
 rw [JI,KY l _ (fun s=>!Yf s) (by omega) (fun x _=>by unfold Ww; rw [z9]; rfl),KE l h]
 simp only [Option.bind_some]
 rw [QG _ (by simp; omega),qq l (by omega),zF]
 have ea : (l.any fun s=>!Yf s) = !(l.all Yf):=by rw [List.any_eq_not_all_not]; simp
 simp only [ea,JG,Option.bind_some]
 by_cases c0 : ZV m = true
 ·by_cases c1 : l.all Yf = true
  ·by_cases c2 : WM (l.map (·.Place)) = true
   ·by_cases h1 : l.length < 1 ∨ 12 < l.length
    ·have e : ¬ ((1 : Int) ≤ l.length ∧ (l.length : Int) ≤ 12):=by omega
     have hc : Yo l = 2:=by unfold Yo; rw [c1,c2,if_neg (by simp),if_neg (by simp),if_pos h1]
     rw [hc]
     simp [c0,c1,c2,e]
    ·have e : ((1 : Int) ≤ l.length ∧ (l.length : Int) ≤ 12):=by omega
     by_cases c3 : J2 l = true
     ·have hc : Yo l = 0:=by unfold Yo; rw [c1,c2,c3,if_neg (by simp),if_neg (by simp),if_neg h1,if_neg (by simp)]
      rw [hc]
      by_cases ht : 1 ≤ t ∧ t ≤ 8 <;> simp [c0,c1,c2,c3,e,ht]
     ·have c3 : J2 l = false:=by simpa using c3
      have hc : Yo l = 2:=by unfold Yo; simp [c1,c2,c3]
      rw [hc]
      simp [c0,c1,c2,c3,e]
   ·have c2 : WM (l.map (·.Place)) = false:=by simpa using c2
    have hc : Yo l = 1:=by unfold Yo; simp [c1,c2]
    rw [hc]
    simp [c0,c1,c2]
  ·have c1 : l.all Yf = false:=by simpa using c1
   have hc : Yo l = 1:=by unfold Yo; simp [c1]
   rw [hc]
   simp [c0,c1]
 ·have c0 : ZV m = false:=by simpa using c0
  simp [c0]
structure Good (l : List GShare) : Prop where
 share : ∀ s ∈ l,True ∧ s.Data.length ≤ 100
 diff : (l.map (·.Place)).Nodup
 len : 1 ≤ l.length ∧ l.length ≤ 13
 even : ∀ s ∈ l,s.Data.length = (l.headD default).Data.length
theorem QA {l : List GShare} (h : Yo l = 0) : Good l:=by
 unfold Yo at h
 cases h1 : l.all Yf with
 | false=>simp [h1] at h
 | true =>
  cases h2 : WM (l.map (·.Place)) with
  | false=>simp [h1,h2] at h
  | true =>
   by_cases h3 : l.length < 1 ∨ 12 < l.length
   ·rw [h1,h2,if_neg (by simp),if_neg (by simp),if_pos h3] at h; cases h
   ·cases h4 : J2 l with
    | false=>simp [h1,h2,h4] at h
    | true =>
     refine ⟨fun s hs=>?_,by simpa [WM] using h2,by omega,fun s hs=>?_⟩
     ·have:=List.all_eq_true.1 h1 s hs
      unfold Yf at this
      simp only [Bool.and_eq_true,decide_eq_true_eq] at this
      exact ⟨trivial,this.2⟩
     ·have:=List.all_eq_true.1 h4 s hs
      simpa using this
theorem UH {m : Int} {l : List GShare} {t : Int} (h : YJ m l t = 0) : ZV m = true ∧ Good l ∧ 1 ≤ t ∧ t ≤ 8:=by
 unfold YJ at h
 cases h1 : ZV m with
 | false=>simp [h1] at h
 | true =>
  cases h2 : Yo l == 0 with
  | false =>
   simp [h1,h2] at h
   rw [h] at h2; simp at h2
  | true =>
   by_cases h3 : 1 ≤ t ∧ t ≤ 8
   ·exact ⟨rfl,QA (by simpa using h2),h3⟩
   ·simp [h1,h2,h3] at h
theorem Good.take {l : List GShare} (h : Good l) {t : Nat} (h1 : 1 ≤ t) (h2 : t ≤ l.length) : Good (l.take t):=by
 have hd : (l.take t).headD default = l.headD default:=by
  cases l with
  | nil=>simp
  | cons x l=>cases t with
   | zero=>omega
   | succ t=>rfl
 refine ⟨fun s hs=>h.share s (List.mem_of_mem_take hs),?_,by rw [List.length_take]; have:=h.len; omega,fun s hs=>by rw [hd]; exact h.even s (List.mem_of_mem_take hs)⟩
 rw [List.map_take]
 exact (List.take_sublist _ _).nodup h.diff
theorem Good.at {l : List GShare} (h : Good l) {i : Nat} (hi : i < l.length) : l[i].Data.length = (l.headD default).Data.length:=h.even _ (List.getElem_mem hi)

def dataN (l : List GShare) : Nat:=(l.headD default).Data.length
def ZU (l : List GShare) : List UInt8:=l.map (·.Place)
def QR (l : List GShare) (j : Nat) : List UInt8:=l.map fun s=>s.Data.getD j 0
def atC (m : Nat) (l : List GShare) (x : UInt8) : List UInt8:=tab (dataN l) fun j=>T9 m (ZU l) (QR l j) x l.length
theorem Vd (l : List GShare) : (ZU l).length = l.length:=by simp [ZU]
theorem Hn (l : List GShare) {i : Nat} (h : i < l.length) : (ZU l).getD i 0 = l[i].Place:=by simp [ZU,List.getD_eq_getElem?_getD,h]
theorem kT (l : List GShare) {i : Nat} (h : i < l.length) (j : Nat) : (QR l j).getD i 0 = l[i].Data.getD j 0:=by simp [QR,List.getD_eq_getElem?_getD,h]
def byR (m : Nat) (p : List UInt8) (x : UInt8) (i : Nat) : Nat → UInt8
 | 0=>1
 | k + 1=>if k = i then byR m p x i k else Zz m (byR m p x i k) (Zz m (x ^^^ p.getD k 0) (Qy m (p.getD i 0 ^^^ p.getD k 0)))
section
variable {m : Nat} (h1 : 256 ≤ m) (h2 : m < 512)
include h1 h2
theorem kF (p : List UInt8) (x : UInt8) (i : Nat) : ∀ k,byR m p x i k = Zz m (KZ m p x i k) (Qy m (K2 m p i k))
 | 0=>by unfold byR KZ K2; rw [kK h1 h2,T8 h1 h2]
 | k + 1=>by
  unfold byR KZ K2
  split
  ·exact kF p x i k
  ·rw [yj h1 h2,kF p x i k,QF h1 h2]
theorem Zb0 (l : List GShare) (g : Good l) (x : UInt8) : TY (m : Int) l x = some (atC m l x):=by
 have hl:=g.len
 unfold TY
 have hpl : YT l = some (ZU l):=by
  unfold YT
  have:=Kr (f:=Xq l) l (·.Place) (t:=l.map (·.Place)) (by omega) (fun i hi=>by
   unfold Xq
   simp only [Int.ofNat_lt,hi,decide_true,if_true,ZC,List.getElem?_eq_getElem hi,Option.bind_some]
   rw [Yv (by simp; omega)]
   simp) (by unfold Xq; simp)
  rw [this]; rfl
 rw [hpl]
 simp only [Option.bind_some]
 have h0 : 0 < l.length:=by omega
 have hd0 : l[0].Data.length = dataN l:=g.at h0
 have hdn : dataN l ≤ 100:=by rw [← hd0]; exact (g.share _ (List.getElem_mem h0)).2
 have h:=Yq (f:=UI (m : Int) l x (ZU l)) (fun j : Nat=>((List.range j).map (fun j=>T9 m (ZU l) (QR l j) x l.length),(j : Int))) 0 (dataN l) (Nat.zero_le _) (t:=atC m l x) (fun j _ hj=>by
  unfold UI
  have hj0 : (j : Int) < (l[0].Data.length : Int):=by omega
  simp only [Tu,List.getElem?_eq_getElem h0,Option.bind_some,hj0,decide_true,if_true]
  have hcol:=Kr (f:=Tt l ((List.range j).map (fun j=>T9 m (ZU l) (QR l j) x l.length),(j : Int))) l (fun s=>s.Data.getD j 0) (t:=QR l j) (by omega) (fun i hi=>by
   unfold Tt
   have hji : j < l[i].Data.length:=by rw [g.at hi]; exact hj
   simp only [Int.ofNat_lt,hi,decide_true,if_true,ZC,List.getElem?_eq_getElem hi,Option.bind_some,Ut hji]
   rw [Yv (by simp; omega)]
   simp) (by unfold Tt; simp [QR])
  rw [hcol]
  simp only [Option.bind_some]
  obtain ⟨poly,k1,k2,k3⟩:=Bk h1 h2 (ZU l) (QR l j) (by rw [Vd]; omega) (by simp [QR,ZU])
  rw [k1]
  simp only [Option.bind_some]
  rw [zo h1 h2 poly x (by rw [k2,Vd]; omega),k3,Vd]
  simp only [Option.bind_some]
  rw [Yv (by simp; omega),Yl (by omega)]
  simp only [Option.bind_some]
  rw [List.range_succ,List.map_append]
  rfl) (by
  unfold UI
  have hj0 : ¬ (((dataN l : Nat) : Int) < (l[0].Data.length : Int)):=by omega
  simp only [Tu,List.getElem?_eq_getElem h0,Option.bind_some,hj0,decide_false,Bool.false_eq_true,if_false]
  rfl)
 have h3 : ZH (UI (m : Int) l x (ZU l)) ([],0) = _:=h
 rw [h3]; rfl
theorem kb (l : List GShare) (g : Good l) (x : UInt8) : X7 (m : Int) l x = some (atC m l x):=by
 have hl:=g.len
 have h0 : 0 < l.length:=by omega
 have hd0 : l[0].Data.length = dataN l:=g.at h0
 have hdn : dataN l ≤ 100:=by rw [← hd0]; exact (g.share _ (List.getElem_mem h0)).2
 unfold X7
 simp only [Tu,List.getElem?_eq_getElem h0,Option.bind_some,hd0]
 rw [Hx (by omega),qa]
 simp only [Option.bind_some]
 have hby : ∀ i (hi : i < l.length),ZH (Y6 (m : Int) l x l[i]) (1,0) = some (byR m (ZU l) x i l.length):=by
  intro i hi
  have h:=Yq (f:=Y6 (m : Int) l x l[i]) (fun k : Nat=>(byR m (ZU l) x i k,(k : Int))) 0 l.length (Nat.zero_le _) (t:=byR m (ZU l) x i l.length) (fun k _ hk=>by
   unfold Y6
   simp only [Int.ofNat_lt,hk,decide_true,if_true,ZC,List.getElem?_eq_getElem hk,Option.bind_some,Qn m h2,WW m h2,Yl (show k < 9223372036854775807 by omega)]
   by_cases c : k = i
   ·subst c
    simp [byR]
   ·have hne : l[k].Place ≠ l[i].Place:=by
     intro he
     exact c (JR g.diff (by simpa using hk) (by simpa using hi) (by simpa using he))
    have hb : (l[k].Place != l[i].Place) = true:=by simpa using hne
    rw [hb]
    simp only [if_true,Option.bind_some,byR,c,if_false,Hn l hk,Hn l hi]) (by unfold Y6; simp)
  exact h
 let sumV : Nat → Nat → UInt8:=fun j i=>T9 m (ZU l) (QR l j) x i
 have hterm : ∀ i (hi : i < l.length) j,T9 m (ZU l) (QR l j) x (i + 1) = T9 m (ZU l) (QR l j) x i ^^^ Zz m (l[i].Data.getD j 0) (byR m (ZU l) x i l.length):=by
  intro i hi j
  show T9 m (ZU l) (QR l j) x i ^^^ Zz m (KZ m (ZU l) x i (ZU l).length) (z1 m (ZU l) (QR l j) i) = _
  unfold z1
  rw [kT l hi,Vd,kF h1 h2,← Y3 h1 h2,← Y3 h1 h2,Xn h1 h2 (KZ m (ZU l) x i l.length)]
 have hrow : ∀ i (hi : i < l.length),ZH (Xa (m : Int) l[i] (byR m (ZU l) x i l.length)) (0,tab (dataN l) (fun j=>T9 m (ZU l) (QR l j) x i)) = some (tab (dataN l) (fun j=>T9 m (ZU l) (QR l j) x (i + 1))):=by
  intro i hi
  have hdi : l[i].Data.length = dataN l:=g.at hi
  have h:=Yq (f:=Xa (m : Int) l[i] (byR m (ZU l) x i l.length)) (fun n : Nat=>((n : Int),tab (dataN l) (fun j=>if j < n then T9 m (ZU l) (QR l j) x (i + 1) else T9 m (ZU l) (QR l j) x i))) 0 (dataN l) (Nat.zero_le _) (t:=tab (dataN l) (fun j=>T9 m (ZU l) (QR l j) x (i + 1))) (fun n _ hn=>by
   unfold Xa
   have hn1 : n < l[i].Data.length:=by omega
   simp only [Int.ofNat_lt,hn1,decide_true,if_true,ZC,Yl (show n < 9223372036854775807 by omega),Tf _ hn,Ut hn1,WW m h2,Option.bind_some,Ar,Int.toNat_natCast]
   congr 3
   apply T4
   intro j hj
   by_cases c2 : j = n
   ·subst c2
    rw [if_pos rfl,if_neg (Nat.lt_irrefl j),if_pos (Nat.lt_succ_self j),hterm i hi]
   ·have d1 : (j < n + 1) ↔ (j < n):=by omega
    simp only [c2,if_false,d1]) (by
   unfold Xa
   rw [hdi]
   simp only [Int.ofNat_lt,Nat.lt_irrefl,decide_false,Bool.false_eq_true,if_false]
   congr 2
   apply T4
   intro j hj
   simp [hj])
  have e0 : tab (dataN l) (fun j=>T9 m (ZU l) (QR l j) x i) = tab (dataN l) (fun j=>if j < 0 then T9 m (ZU l) (QR l j) x (i + 1) else T9 m (ZU l) (QR l j) x i):=by
   apply T4
   intro j _
   simp
  rw [e0]
  exact h
 have h:=Yq (f:=Xd (m : Int) l x) (fun i : Nat=>((i : Int),tab (dataN l) (fun j=>T9 m (ZU l) (QR l j) x i))) 0 l.length (Nat.zero_le _) (t:=atC m l x) (fun i _ hi=>by
  unfold Xd
  simp only [Int.ofNat_lt,hi,decide_true,if_true,ZC,List.getElem?_eq_getElem hi,Option.bind_some,Yl (show i < 9223372036854775807 by omega)]
  rw [hby i hi]
  simp only [Option.bind_some]
  rw [hrow i hi]
  rfl) (by unfold Xd; simp [atC])
 have h3 : ZH (Xd (m : Int) l x) (0,tab (dataN l) (fun _=>0)) = _:=h
 rw [h3]; rfl
def Ti (m : Nat) (l : List GShare) (t : Nat) : Bool:=!((List.range' t (l.length - t)).any fun k=>!((l[k]?.map fun s=>atC m (l.take t) s.Place == s.Data).getD true))
theorem H2 (l : List GShare) (g : Good l) (t : Nat) (ht : 1 ≤ t) (ht8 : t ≤ 8) : VM (m : Int) l (t : Int) = some (Ti m l t):=by
 have hl:=g.len
 unfold VM Ti
 by_cases hlt : t ≤ l.length
 ·have h:=KA (f:=Ua (m : Int) l (t : Int)) l.length (fun k=>!((l[k]?.map fun s=>atC m (l.take t) s.Place == s.Data).getD true)) false (by omega) t hlt (fun k hk1 hk=>by
   unfold Ua
   have hs : slc l (0 : Int) (t : Int) = some (l.take t):=by have:=Hc (l:=l) (i:=0) (j:=t) (Nat.zero_le _) hlt; simpa using this
   simp only [Int.ofNat_lt,hk,decide_true,if_true,ZC,List.getElem?_eq_getElem hk,Option.bind_some,hs]
   rw [Zb0 h1 h2 (l.take t) (g.take ht hlt)]
   simp only [Option.bind_some]
   rw [AN _ _ (by
    have : (atC m (l.take t) l[k].Place).length = dataN (l.take t):=by simp [atC]
    rw [this]
    have h0 : 0 < (l.take t).length:=by rw [List.length_take]; omega
    have:=((g.take ht hlt).share _ (List.getElem_mem h0)).2
    have:=(g.take ht hlt).at h0
    unfold dataN
    omega)]
   simp only [Option.bind_some,Option.map_some,Option.getD_some]
   by_cases c : (atC m (l.take t) l[k].Place == l[k].Data) = true <;> simp [c]) (by unfold Ua; simp)
  rw [h]
  cases (List.range' t (l.length - t)).any fun k=>!((l[k]?.map fun s=>atC m (l.take t) s.Place == s.Data).getD true) <;> rfl
 ·rw [Yi (t:=Fl.nx ())]
  ·have : l.length - t = 0:=by omega
   rw [this]; rfl
  ·unfold Ua
   have : ¬ ((t : Int) < (l.length : Int)):=by omega
   simp [this]
theorem jE (l : List GShare) (g : Good l) (t : Nat) (ht : 1 ≤ t) (ht8 : t ≤ 8) : We (m : Int) l (t : Int) = some (Ti m l t):=by
 have hl:=g.len
 unfold We Ti
 by_cases hlt : t ≤ l.length
 ·have h:=KA (f:=WH (m : Int) l (t : Int)) l.length (fun k=>!((l[k]?.map fun s=>atC m (l.take t) s.Place == s.Data).getD true)) false (by omega) t hlt (fun k hk1 hk=>by
   unfold WH
   have hs : slc l (0 : Int) (t : Int) = some (l.take t):=by have:=Hc (l:=l) (i:=0) (j:=t) (Nat.zero_le _) hlt; simpa using this
   simp only [Int.ofNat_lt,hk,decide_true,if_true,ZC,List.getElem?_eq_getElem hk,Option.bind_some,hs]
   rw [kb h1 h2 (l.take t) (g.take ht hlt)]
   simp only [Option.bind_some,HD,Option.map_some,Option.getD_some]
   by_cases c : (atC m (l.take t) l[k].Place == l[k].Data) = true <;> simp [c]) (by unfold WH; simp)
  rw [h]
  cases (List.range' t (l.length - t)).any fun k=>!((l[k]?.map fun s=>atC m (l.take t) s.Place == s.Data).getD true) <;> rfl
 ·rw [Yi (t:=Fl.nx ())]
  ·have : l.length - t = 0:=by omega
   rw [this]; rfl
  ·unfold WH
   have : ¬ ((t : Int) < (l.length : Int)):=by omega
   simp [this]
end
def KN (m : Int) (l : List GShare) (t : Int) : Bool × Int:=if YJ m l t != 0 then (false,YJ m l t) else (Ti m.toNat l t.toNat,0)
theorem Bc (m : Int) (l : List GShare) (t : Int) (h : l.length ≤ 140737488355327) : V2 m l t = some (KN m l t):=by
 unfold V2 KN
 rw [UF m l t h]
 simp only [Option.bind_some]
 by_cases hb : YJ m l t = 0
 ·obtain ⟨hf,g,t1,t8⟩:=UH hb
  obtain ⟨n,rfl,n1,n2⟩:=XD hf
  obtain ⟨u,rfl⟩:=Int.eq_ofNat_of_zero_le (show 0 ≤ t by omega)
  simp only [hb,bne_self_eq_false,Bool.false_eq_true,if_false,Int.toNat_natCast]
  rw [jE n1 n2 l g u (by omega) (by omega)]; rfl
 ·have : (YJ m l t != 0) = true:=by simpa using hb
  rw [this]; rfl
def addS (a b : GShare) : GShare:=⟨a.Place,List.zipWith (· ^^^ ·) a.Data b.Data⟩
def jD (a b : List GShare) : List GShare:=List.zipWith addS a b
theorem zA {α β γ : Type} (f : α → β → γ) (a : List α) (b : List β) (i : Nat) (ha : i < a.length) (hb : i < b.length) : List.zipWith f (a.take (i + 1)) (b.take (i + 1)) = List.zipWith f (a.take i) (b.take i) ++ [f a[i] b[i]]:=by
 rw [List.take_succ_eq_append_getElem ha,List.take_succ_eq_append_getElem hb,List.zipWith_append (by simp; omega)]
 rfl
theorem yB {α β γ : Type} (f : α → β → γ) (a : List α) (b : List β) (i : Nat) (ha : i ≤ a.length) (hb : i ≤ b.length) : (List.zipWith f (a.take i) (b.take i)).length = i:=by simp; omega
theorem jk (a b : List GShare) (hl : a.length = b.length) (ha : a.length ≤ 13) (hd : ∀ i (h1 : i < a.length) (h2 : i < b.length),a[i].Data.length = b[i].Data.length ∧ a[i].Data.length ≤ 100) : UN a b = some (jD a b):=by
 unfold UN
 have h:=Yq (f:=V7 a b) (fun i : Nat=>(List.zipWith addS (a.take i) (b.take i),(i : Int))) 0 a.length (Nat.zero_le _) (t:=jD a b) (fun i _ hi=>by
  unfold V7
  have hi2 : i < b.length:=by omega
  obtain ⟨d1,d2⟩:=hd i hi hi2
  have h2:=Yq (f:=V5 a b (List.zipWith addS (a.take i) (b.take i),(i : Int))) (fun j : Nat=>(List.zipWith (· ^^^ ·) (a[i].Data.take j) (b[i].Data.take j),(j : Int))) 0 a[i].Data.length (Nat.zero_le _) (t:=List.zipWith (· ^^^ ·) a[i].Data b[i].Data) (fun j _ hj=>by
   unfold V5
   have hj2 : j < b[i].Data.length:=by omega
   simp only [ZC,List.getElem?_eq_getElem hi,List.getElem?_eq_getElem hi2,Option.bind_some,Int.ofNat_lt,hj,decide_true,if_true,List.getElem?_eq_getElem hj,List.getElem?_eq_getElem hj2,Yl (show j < 9223372036854775807 by omega)]
   rw [Yv (by rw [yB _ _ _ _ (by omega) (by omega)]; simp; omega),zA _ _ _ _ hj hj2]
   rfl) (by
    unfold V5
    simp only [ZC,List.getElem?_eq_getElem hi,Option.bind_some,Int.ofNat_lt,Nat.lt_irrefl,decide_false,Bool.false_eq_true,if_false]
    rw [List.take_length,d1,List.take_length])
  have h3 : ZH (V5 a b (List.zipWith addS (a.take i) (b.take i),(i : Int))) ([],0) = _:=h2
  simp only [Int.ofNat_lt,hi,decide_true,if_true,ZC,List.getElem?_eq_getElem hi,Option.bind_some,h3,Yl (show i < 9223372036854775807 by omega)]
  rw [Yv (by rw [yB _ _ _ _ (by omega) (by omega)]; simp; omega),zA _ _ _ _ hi hi2]
  rfl) (by
   unfold V7
   simp only [Int.ofNat_lt,Nat.lt_irrefl,decide_false,Bool.false_eq_true,if_false]
   rw [List.take_length,hl,List.take_length]; rfl)
 have h3 : ZH (V7 a b) ([],0) = _:=h
 rw [h3]; rfl
theorem kN (a b : List GShare) (hl : a.length = b.length) (ha : a.length ≤ 13) (hd : ∀ i (h1 : i < a.length) (h2 : i < b.length),a[i].Data.length = b[i].Data.length ∧ a[i].Data.length ≤ 100) : U8 a b = some (jD a b):=by
 unfold U8
 have h:=Yq (f:=UK a b) (fun i : Nat=>((i : Int),List.zipWith addS (a.take i) (b.take i))) 0 a.length (Nat.zero_le _) (t:=jD a b) (fun i _ hi=>by
  unfold UK
  have hi2 : i < b.length:=by omega
  obtain ⟨d1,d2⟩:=hd i hi hi2
  have hcl : Xx a[i].Data = some a[i].Data:=by
   unfold Xx
   rw [Yv (by simp; omega)]; rfl
  have hz : List.zipWith (· ^^^ ·) a[i].Data b[i].Data = tab a[i].Data.length (fun j=>a[i].Data.getD j 0 ^^^ b[i].Data.getD j 0):=by
   apply List.ext_getElem?
   intro j
   by_cases hj : j < a[i].Data.length
   ·rw [Tf _ hj,List.getElem?_zipWith,Ut hj,Ut (by omega : j < b[i].Data.length)]
   ·rw [List.getElem?_eq_none (by simp; omega),List.getElem?_eq_none (by simp; omega)]
  have h2:=Yq (f:=UL b ((i : Int),List.zipWith addS (a.take i) (b.take i)) a[i].Data) (fun j : Nat=>((j : Int),tab a[i].Data.length (fun q=>if q < j then a[i].Data.getD q 0 ^^^ b[i].Data.getD q 0 else a[i].Data.getD q 0))) 0 a[i].Data.length (Nat.zero_le _) (t:=List.zipWith (· ^^^ ·) a[i].Data b[i].Data) (fun j _ hj=>by
   unfold UL
   have hj2 : j < b[i].Data.length:=by omega
   simp only [Int.ofNat_lt,hj,decide_true,if_true,ZC,List.getElem?_eq_getElem hi2,Option.bind_some,Tf _ hj,Ut hj2,Ar,Int.toNat_natCast,Yl (show j < 9223372036854775807 by omega)]
   congr 3
   apply T4
   intro q hq
   by_cases c2 : q = j
   ·subst c2
    rw [if_pos rfl,if_neg (Nat.lt_irrefl q),if_pos (Nat.lt_succ_self q)]
   ·have d1 : (q < j + 1) ↔ (q < j):=by omega
    simp only [c2,if_false,d1]) (by
    unfold UL
    rw [hz]
    simp only [Int.ofNat_lt,Nat.lt_irrefl,decide_false,Bool.false_eq_true,if_false]
    congr 2
    apply T4
    intro q hq
    simp [hq])
  have e0 : a[i].Data = tab a[i].Data.length (fun q=>if q < 0 then a[i].Data.getD q 0 ^^^ b[i].Data.getD q 0 else a[i].Data.getD q 0):=by
   conv=>lhs; rw [jx a[i].Data]
   apply T4
   intro q _
   simp
  rw [← e0] at h2
  have h3 : ZH (UL b ((i : Int),List.zipWith addS (a.take i) (b.take i)) a[i].Data) (0,a[i].Data) = _:=h2
  simp only [Int.ofNat_lt,hi,decide_true,if_true,ZC,List.getElem?_eq_getElem hi,Option.bind_some,hcl,h3,Yl (show i < 9223372036854775807 by omega)]
  rw [Yv (by rw [yB _ _ _ _ (by omega) (by omega)]; simp; omega),zA _ _ _ _ hi hi2]
  rfl) (by
   unfold UK
   simp only [Int.ofNat_lt,Nat.lt_irrefl,decide_false,Bool.false_eq_true,if_false]
   rw [List.take_length,hl,List.take_length]; rfl)
 have h3 : ZH (UK a b) (0,[]) = _:=h
 rw [h3]; rfl
theorem Ja (l : List GShare) (hl : l.length ≤ 140737488355327) : YT l = some (ZU l):=by
 unfold YT
 have:=Kr (f:=Xq l) l (·.Place) (t:=l.map (·.Place)) (by omega) (fun i hi=>by
  unfold Xq
  simp only [Int.ofNat_lt,hi,decide_true,if_true,ZC,List.getElem?_eq_getElem hi,Option.bind_some]
  rw [Yv (by simp; omega)]
  simp) (by unfold Xq; simp)
 rw [this]; rfl
def T3 (m : Int) (a b : List GShare) : List GShare × Int :=
 if !ZV m then ([],1) else if Yo a = 1 ∨ Yo b = 1 then ([],1) else if Yo a ≠ 0 ∨ Yo b ≠ 0 ∨ ZU a ≠ ZU b ∨ dataN a ≠ dataN b then ([],2) else (jD a b,0)
theorem Zbi {a b : List GShare} (ha : Yo a = 0) (hb : Yo b = 0) (hp : ZU a = ZU b) (hd : dataN a = dataN b) :
  a.length = b.length ∧ a.length ≤ 13 ∧ ∀ i (h1 : i < a.length) (h2 : i < b.length),a[i].Data.length = b[i].Data.length ∧ a[i].Data.length ≤ 100:=by
 have ga:=QA ha
 have gb:=QA hb
 refine ⟨by rw [← Vd a,hp,Vd],ga.len.2,fun i h1 h2=>⟨?_,(ga.share _ (List.getElem_mem h1)).2⟩⟩
 have e1:=ga.at h1
 have e2:=gb.at h2
 unfold dataN at hd
 omega
theorem idx0 (l : List GShare) (h : 0 < l.length) : idx l (0 : Int) = some l[0]:=by rw [Tu,List.getElem?_eq_getElem h]
theorem Bo (m : Int) (a b : List GShare) (ha : Wt.wt a ≤ 1048576) (hb : Wt.wt b ≤ 1048576) : Uf m a b = some (T3 m a b):=by
 have ha':=JA a
 have hb':=JA b
 unfold Uf T3
 rw [KF]
 by_cases c0 : ZV m = true
 ·simp only [c0,Option.bind_some,Bool.not_true,Bool.false_eq_true,if_false,H9 a (by omega),H9 b (by omega)]
  by_cases c1 : Yo a = 1 ∨ Yo b = 1
  ·rcases c1 with c | c <;> simp [c]
  ·have d1 : (Yo a == 1) = false:=by simp; omega
   have d2 : (Yo b == 1) = false:=by simp; omega
   simp only [c1,d1,d2,Bool.false_eq_true,if_false,Option.bind_some]
   by_cases c2 : Yo a = 0
   ·by_cases c3 : Yo b = 0
    ·have ga:=QA c2
     have gb:=QA c3
     have la:=ga.len
     have lb:=gb.len
     have da : a[0].Data.length = dataN a:=ga.at (by omega)
     have db : b[0].Data.length = dataN b:=gb.at (by omega)
     simp only [c2,c3,bne_self_eq_false,Bool.false_eq_true,if_false,Ja a (by omega),Ja b (by omega),Option.bind_some]
     rw [AN _ _ (by rw [Vd]; omega)]
     by_cases c4 : ZU a = ZU b
     ·have e4 : (ZU a == ZU b) = true:=by simpa using c4
      simp only [e4,Option.bind_some,Bool.not_true,Bool.false_eq_true,if_false,idx0 a (by omega),idx0 b (by omega),da,db]
      by_cases c5 : dataN a = dataN b
      ·obtain ⟨o1,o2,o3⟩:=Zbi c2 c3 c4 c5
       have : ((dataN a : Int) != (dataN b : Int)) = false:=by simp [c5]
       rw [this,jk a b o1 o2 o3]
       simp [c4,c5]
      ·have : ((dataN a : Int) != (dataN b : Int)) = true:=by simp; omega
       rw [this]
       simp [c5]
     ·have e4 : (ZU a == ZU b) = false:=by simpa using c4
      simp [e4,c4]
    ·have : (Yo b != 0) = true:=by simpa using c3
     simp [c2,c3,this]
   ·have : (Yo a != 0) = true:=by simpa using c2
    simp [c2,this]
 ·have c0 : ZV m = false:=by simpa using c0
  simp [c0]
theorem z8 (m : Int) (l : List GShare) (h : ZV m = true) : YJ m l 1 = Yo l:=by
 unfold YJ
 rw [h]
 simp
theorem Bw (m : Int) (a b : List GShare) (ha : Wt.wt a ≤ 1048576) (hb : Wt.wt b ≤ 1048576) : VV m a b = some (T3 m a b):=by
 have ha':=JA a
 have hb':=JA b
 unfold VV T3
 rw [UF m a 1 (by omega),UF m b 1 (by omega)]
 simp only [Option.bind_some]
 by_cases c0 : ZV m = true
 ·rw [z8 m a c0,z8 m b c0]
  simp only [c0,Bool.not_true,Bool.false_eq_true,if_false]
  by_cases c1 : Yo a = 1 ∨ Yo b = 1
  ·rcases c1 with c | c <;> simp [c]
  ·have d1 : (Yo a == 1) = false:=by simp; omega
   have d2 : (Yo b == 1) = false:=by simp; omega
   simp only [c1,d1,d2,Bool.false_eq_true,if_false,Option.bind_some]
   by_cases c2 : Yo a = 0
   ·by_cases c3 : Yo b = 0
    ·have ga:=QA c2
     have gb:=QA c3
     have la:=ga.len
     have lb:=gb.len
     have da : a[0].Data.length = dataN a:=ga.at (by omega)
     have db : b[0].Data.length = dataN b:=gb.at (by omega)
     have pa : YP a = some (ZU a):=KE a (by omega)
     have pb : YP b = some (ZU b):=KE b (by omega)
     simp only [c2,c3,bne_self_eq_false,Bool.false_eq_true,if_false,pa,pb,Option.bind_some,HD]
     by_cases c4 : ZU a = ZU b
     ·have e4 : (ZU a == ZU b) = true:=by simpa using c4
      simp only [e4,Option.bind_some,Bool.not_true,Bool.false_eq_true,if_false,idx0 a (by omega),idx0 b (by omega),da,db]
      by_cases c5 : dataN a = dataN b
      ·obtain ⟨o1,o2,o3⟩:=Zbi c2 c3 c4 c5
       have : ((dataN a : Int) != (dataN b : Int)) = false:=by simp [c5]
       rw [this,kN a b o1 o2 o3]
       simp [c4,c5]
      ·have : ((dataN a : Int) != (dataN b : Int)) = true:=by simp; omega
       rw [this]
       simp [c5]
     ·have e4 : (ZU a == ZU b) = false:=by simpa using c4
      simp [e4,c4]
    ·have : (Yo b != 0) = true:=by simpa using c3
     simp [c2,c3,this]
   ·have : (Yo a != 0) = true:=by simpa using c2
    simp [c2,this]
 ·have c0 : ZV m = false:=by simpa using c0
  have e1 : ∀ l,YJ m l 1 = 1:=fun l=>by unfold YJ; rw [c0]; rfl
  simp [c0,e1]
theorem kI (a b : List GShare) : Wt.wt (jD a b) ≤ Wt.wt a:=by
 unfold jD
 have key : ∀ (a b : List GShare),(List.zipWith addS a b).length + ((List.zipWith addS a b).map Wt.wt).sum ≤ a.length + (a.map Wt.wt).sum:=by
  intro a
  induction a with
  | nil=>intro b; simp
  | cons x a ih =>
   intro b
   cases b with
   | nil=>simp
   | cons y b =>
    have:=ih b
    have h2 : Wt.wt (addS x y) ≤ Wt.wt x:=by
     have e1 : Wt.wt (addS x y) = Wt.wt (addS x y).Data:=rfl
     have e2 : Wt.wt x = Wt.wt x.Data:=rfl
     rw [e1,e2,Jg,Jg]
     simp [addS]
     omega
    simp only [List.zipWith_cons_cons,List.length_cons,List.map_cons,List.sum_cons]
    omega
 exact key a b
theorem zB (m : Int) (a b : List GShare) : Wt.wt (T3 m a b).1 ≤ Wt.wt a:=by
 unfold T3
 have h0 : Wt.wt ([] : List GShare) = 0:=rfl
 split
 ·rw [h0]; omega
 ·split
  ·rw [h0]; omega
  ·split
   ·rw [h0]; omega
   ·exact kI a b
def YU (s n : Nat) : List Nat:=(List.range n).filter fun i=>s.testBit i
theorem Kx (s n : Nat) : YU s (n + 1) = if s.testBit n then YU s n ++ [n] else YU s n:=by
 unfold YU
 rw [List.range_succ,List.filter_append]
 cases h : s.testBit n <;> simp [h]
theorem TK (s n : Nat) : (YU s n).length ≤ n:=by
 have:=List.length_filter_le (fun i=>s.testBit i) (List.range n)
 simpa [YU] using this
theorem zl {s n i : Nat} : i ∈ YU s n ↔ i < n ∧ s.testBit i = true:=by simp [YU]
def Yh : Nat → Nat → Nat
 | 0,_=>0
 | n + 1,s=>s % 2 + Yh n (s / 2)
theorem zf (s n : Nat) : YU s (n + 1) = (if s % 2 = 1 then [0] else []) ++ (YU (s / 2) n).map Nat.succ:=by
 unfold YU
 rw [List.range_succ_eq_map,List.filter_cons,List.filter_map]
 have e0 : s.testBit 0 = decide (s % 2 = 1):=Nat.testBit_zero s
 have e1 : ((fun i=>s.testBit i) ∘ Nat.succ) = fun i=>(s / 2).testBit i:=by
  funext i
  simp [Nat.testBit_succ]
 rw [e0,e1]
 by_cases h : s % 2 = 1 <;> simp [h]
theorem Vv : ∀ (n s : Nat),Yh n s = (YU s n).length
 | 0,_=>rfl
 | n + 1,s=>by
  rw [zf,Yh,Vv n (s / 2),List.length_append,List.length_map]
  by_cases h : s % 2 = 1
  ·simp [h]
  ·have : s % 2 = 0:=by omega
   simp [this]
theorem AR {s n k : Nat} (hk : k < n) : YU s n = YU s k ++ ((if s.testBit k then [k] else []) ++ (List.range' (k + 1) (n - (k + 1))).filter fun i=>s.testBit i):=by
 have e : List.range n = List.range k ++ ([k] ++ List.range' (k + 1) (n - (k + 1))):=by
  rw [List.range_eq_range',List.range_eq_range']
  have h1 : n = k + (1 + (n - (k + 1))):=by omega
  conv=>lhs; rw [h1]
  rw [← List.range'_append_1,← List.range'_append_1]
  simp
 unfold YU
 rw [e,List.filter_append,List.filter_append]
 cases h : s.testBit k <;> simp [h]

def Kh : List Int → List Int → Int
 | [],[]=>0
 | [],_ :: _=>-1
 | _ :: _,[]=>1
 | x :: l,y :: m=>if x < y then -1 else if y < x then 1 else Kh l m
theorem zm (p : List Int) (l m : List Int) : Kh (p ++ l) (p ++ m) = Kh l m:=by
 induction p with
 | nil=>rfl
 | cons x p ih =>
  show (if x < x then -1 else if x < x then 1 else Kh (p ++ l) (p ++ m)) = _
  rw [if_neg (by omega),if_neg (by omega),ih]
theorem Zah (l : List Int) : Kh l l = 0:=by
 have:=zm l [] []
 simpa [Kh] using this
def Yn (s n : Nat) : List Int:=(YU s n).map fun i : Nat=>(i : Int)
theorem TL (s n : Nat) : (Yn s n).length = (YU s n).length:=by simp [Yn]
theorem Zbj {a b n k : Nat} (hk : k < n) (hd : a.testBit k ≠ b.testBit k) (hs : ∀ i,i < k → a.testBit i = b.testBit i) (hl : (YU a n).length = (YU b n).length) :
  Kh (Yn a n) (Yn b n) = if a.testBit k then -1 else 1:=by
 have hp : YU a k = YU b k:=by
  unfold YU
  exact List.filter_congr fun i hi=>hs i (by simpa using hi)
 have key : ∀ (a b : Nat),a.testBit k = true → b.testBit k = false → (YU a n).length = (YU b n).length → YU a k = YU b k → Kh (Yn a n) (Yn b n) = -1 ∧ Kh (Yn b n) (Yn a n) = 1:=by
  intro a b h1 h2 hl hp
  have ea:=AR (s:=a) hk
  have eb:=AR (s:=b) hk
  rw [h1] at ea
  rw [h2] at eb
  simp only [if_true,Bool.false_eq_true,if_false,List.nil_append] at ea eb
  have hlen : ((List.range' (k + 1) (n - (k + 1))).filter fun i=>b.testBit i).length ≠ 0:=by
   intro h0
   have:=hl
   rw [ea,eb,hp,List.length_append,List.length_append,List.length_append,h0] at this
   simp only [List.length_singleton] at this
   omega
  cases hB : (List.range' (k + 1) (n - (k + 1))).filter fun i=>b.testBit i with
  | nil=>rw [hB] at hlen; exact absurd rfl hlen
  | cons x B =>
   have hx : k < x:=by
    have : x ∈ (List.range' (k + 1) (n - (k + 1))).filter fun i=>b.testBit i:=by rw [hB]; simp
    have:=(List.mem_filter.1 this).1
    have:=(List.mem_range'_1.1 this).1
    omega
   unfold Yn
   rw [ea,eb,hp,hB]
   simp only [List.map_append,List.map_cons,List.singleton_append]
   rw [zm,zm]
   constructor
   ·show (if (k : Int) < (x : Int) then -1 else _) = _
    rw [if_pos (by omega)]
   ·show (if (x : Int) < (k : Int) then -1 else if (k : Int) < (x : Int) then 1 else _) = _
    rw [if_neg (by omega),if_pos (by omega)]
 cases h1 : a.testBit k with
 | true =>
  have h2 : b.testBit k = false:=by
   cases h : b.testBit k with
   | false=>rfl
   | true=>rw [h1,h] at hd; exact absurd rfl hd
  rw [if_pos rfl]; exact (key a b h1 h2 hl hp).1
 | false =>
  have h2 : b.testBit k = true:=by
   cases h : b.testBit k with
   | true=>rfl
   | false=>rw [h1,h] at hd; exact absurd rfl hd
  rw [if_neg (by simp)]; exact (key b a h2 h1 hl.symm hp.symm).2
theorem Ap {i : Nat} (h : i < 9223372036854775808) : IntKind.u64.wrap (i : Int) = (i : Int):=by
 simp only [IntKind.wrap,IntKind.bits,IntKind.signed]
 simp
 omega
theorem Zb3 (a k : Nat) : a &&& 2 ^ k = if a.testBit k then 2 ^ k else 0:=by
 apply Nat.eq_of_testBit_eq
 intro j
 rw [Nat.testBit_and,Nat.testBit_two_pow]
 by_cases h : k = j
 ·subst h
  cases h2 : a.testBit k
  ·simp
  ·simp [Nat.testBit_two_pow]
 ·cases h2 : a.testBit k
  ·simp [h]
  ·simp [h,Nat.testBit_two_pow]
theorem jw (s i : Nat) (hi : i ≤ 63) (hs : s < 9223372036854775808) : ((B8 (YD (s : Int) (i : Int)) 1) == 1) = s.testBit i:=by
 rw [A4 s i hi]
 have h1 : s >>> i < 9223372036854775808:=by rw [Nat.shiftRight_eq_div_pow]; exact Nat.lt_of_le_of_lt (Nat.div_le_self _ _) hs
 have:=AY (s >>> i) 1 h1 (by omega)
 have e1 : ((1 : Nat) : Int) = 1:=rfl
 rw [e1] at this
 rw [this]
 have e2 : (s >>> i) &&& 1 = (s >>> i) % 2:=Nat.and_one_is_mod _
 rw [e2]
 have e3 : s.testBit i = decide ((s >>> i) % 2 = 1):=by
  rw [Nat.testBit_eq_decide_div_mod_eq,Nat.shiftRight_eq_div_pow]
 rw [e3]
 by_cases h : (s >>> i) % 2 = 1
 ·simp [h]
 ·have : (s >>> i) % 2 = 0:=by omega
  simp [this]
theorem H1 {s n m : Nat} (hs : s < 2 ^ n) (h : n ≤ m) : YU s m = YU s n := by
  induction m with
  | zero => have : n = 0 := by omega
            subst this; rfl
  | succ m ih =>
    rcases Nat.lt_or_ge m n with h1 | h1
    · have : n = m + 1 := by omega
      subst this; rfl
    · rw [Kx, Nat.testBit_lt_two_pow (Nat.lt_of_lt_of_le hs (Nat.pow_le_pow_right (by omega) h1))]
      simpa using ih h1
theorem Hm : ∀ n,Yh n 0 = 0
 | 0=>rfl
 | n + 1=>by rw [Yh,Nat.zero_div,Hm n]
theorem yd : ∀ (n s acc : Nat),s < 2 ^ n → acc + n < 1000000 → n ≤ 60 → ZH XX ((s : Int),(acc : Int)) = some ((acc + Yh n s : Nat) : Int)
 | 0,s,acc,hs,_,_=>by
  have : s = 0:=by omega
  subst this
  rw [Yi (t:=(acc : Int))]
  ·rfl
  ·unfold XX; simp
 | n + 1,s,acc,hs,ha,hn=>by
  by_cases h0 : s = 0
  ·subst h0
   rw [Yi (t:=(acc : Int)),Hm]
   ·rfl
   ·unfold XX; simp
  ·have hb : 2 ^ n ≤ 2 ^ 60:=Nat.pow_le_pow_right (by omega) (by omega)
   have e1 : Int.tdiv (s : Int) 2 = ((s / 2 : Nat) : Int):=by rw [Int.tdiv_eq_ediv_of_nonneg (by omega)]; omega
   have e2 : Int.tmod (s : Int) 2 = ((s % 2 : Nat) : Int):=by rw [Int.tmod_eq_emod_of_nonneg (by omega)]; omega
   rw [Nat.pow_succ] at hs
   have h2 : (2 : Nat) ^ 60 = 1152921504606846976:=by decide
   have st : XX ((s : Int),(acc : Int)) = some (.nx (((s / 2 : Nat) : Int),((acc + s % 2 : Nat) : Int))):=by
    unfold XX
    have hp : decide ((s : Int) > 0) = true:=by simp only [decide_eq_true_eq]; omega
    simp only [hp,if_true,e1,e2]
    rw [YM (by omega),YM (by omega)]
    rfl
   rw [Xr st,yd n (s / 2) (acc + s % 2) (by omega) (by omega) (by omega),Yh,Nat.add_assoc]
theorem v_ones (s : Nat) (hs : s < 4096) : U0 (s : Int) = some ((Yh 12 s : Nat) : Int):=by
 unfold U0
 have:=yd 12 s 0 hs (by omega) (by omega)
 have h2 : ZH XX ((s : Int),0) = _:=this
 rw [h2,Nat.zero_add]; rfl
theorem qU : ((List.range 4096).all fun s=>XC (s : Int) == some ((Yh 12 s : Nat) : Int)) = true:=by decide +kernel
theorem ju (s : Nat) (hs : s < 4096) : X6 (IntKind.u64.wrap (s : Int)) = some ((Yh 12 s : Nat) : Int):=by
 have:=List.all_eq_true.1 qU s (by simpa using hs)
 have h2 : XC (s : Int) = some ((Yh 12 s : Nat) : Int):=by simpa using this
 unfold X6
 rw [Ap (by omega),h2]; rfl
theorem Zb6 : ((List.range 4096).all fun g=>g == 0 || (List.range 12).any fun k=>(B8 (g : Int) (wr (0 - (g : Int))) == ((2 ^ k : Nat) : Int)) && g.testBit k && (List.range k).all fun i=>!g.testBit i) = true:=by decide +kernel
theorem qw (a b : Nat) (ha : a < 4096) (hb : b < 4096) (hl : (YU a 12).length = (YU b 12).length) : UU (a : Int) (b : Int) = some (decide (Kh (Yn a 12) (Yn b 12) < 0)):=by
 unfold UU
 have hx : K4 (a : Int) (b : Int) = ((a ^^^ b : Nat) : Int):=Kw a b (by omega) (by omega)
 have hg : a ^^^ b < 2 ^ 12:=Nat.xor_lt_two_pow ha hb
 rw [hx]
 by_cases h : a = b
 ·subst h
  rw [Nat.xor_self,Zah]
  rfl
 ·have h0 : a ^^^ b ≠ 0:=fun e=>h (Nat.eq_of_testBit_eq fun i=>by
   have : (a ^^^ b).testBit i = false:=by rw [e]; simp
   rw [Nat.testBit_xor] at this
   cases h1 : a.testBit i <;> cases h2 : b.testBit i <;> simp [h1,h2] at this ⊢)
  have hne : (((a ^^^ b : Nat) : Int) != 0) = true:=by simp only [bne_iff_ne,ne_eq]; omega
  have hk:=List.all_eq_true.1 Zb6 (a ^^^ b) (by simpa using hg)
  have hz : ((a ^^^ b) == 0) = false:=by simpa using h0
  rw [hz,Bool.false_or,List.any_eq_true] at hk
  obtain ⟨k,hk12,hk⟩:=hk
  simp only [Bool.and_eq_true,beq_iff_eq,List.all_eq_true,Bool.not_eq_true',List.mem_range] at hk hk12
  obtain ⟨⟨k1,k2⟩,k3⟩:=hk
  simp only [hne,if_true,k1]
  have hp : (2 : Nat) ^ k ≤ 2 ^ 12:=Nat.pow_le_pow_right (by omega) (by omega)
  rw [AY a (2 ^ k) (by omega) (by omega),Zb3]
  have hd : a.testBit k ≠ b.testBit k:=by
   rw [Nat.testBit_xor] at k2
   intro e; rw [e] at k2; simp at k2
  have hs : ∀ i,i < k → a.testBit i = b.testBit i:=fun i hi=>by
   have:=k3 i hi
   rw [Nat.testBit_xor] at this
   cases h1 : a.testBit i <;> cases h2 : b.testBit i <;> simp [h1,h2] at this ⊢
  rw [Zbj hk12 hd hs hl]
  cases a.testBit k
  ·simp
  ·have h6 : (2 : Nat) ^ k ≠ 0:=Nat.pos_iff_ne_zero.1 (Nat.two_pow_pos k)
   have h7 : (((2 ^ k : Nat) : Int) != 0) = true:=by rw [bne_iff_ne]; intro e; exact h6 (Int.ofNat.inj e)
   simp only [if_true,h7,Option.bind_some]
   rfl

theorem Zao (x y : Int) : VE x y = some (if x < y then -1 else if y < x then 1 else 0):=by
 unfold VE UC
 by_cases h1 : x < y
 ·simp [h1]
 ·by_cases h2 : y < x
  ·simp [h1,h2]
  ·simp [h1,h2]
theorem yq (a b : List Int) (ha : a.length < 9223372036854775807) : Xv a b = some (Kh a b):=by
 have key : ∀ (k i : Nat),i + k = a.length → (ZH (Yc a b) (i : Int)).bind (fun j=>j.el (fun _=>if (decide ((a.length : Int) < (b.length : Int))) = true then (some (-1)) else (some 0)) (fun r=>some r)) = some (Kh (a.drop i) (b.drop i)):=by
  intro k
  induction k with
  | zero =>
   intro i hi
   have : i = a.length:=by omega
   subst this
   rw [Yi (t:=Fl.nx ()) (by unfold Yc; simp)]
   rw [List.drop_length]
   by_cases h : a.length < b.length
   ·have : b.drop a.length ≠ []:=fun e=>by have:=congrArg List.length e; simp at this; omega
    cases hb : b.drop a.length with
    | nil=>exact absurd hb this
    | cons y m=>simp [Fl.el,Kh,h]
   ·have : b.drop a.length = []:=List.drop_eq_nil_of_le (by omega)
    rw [this]
    simp [Fl.el,Kh,h]
  | succ k ih =>
   intro i hi
   have hia : i < a.length:=by omega
   rw [List.drop_eq_getElem_cons hia]
   by_cases hb : i < b.length
   ·rw [List.drop_eq_getElem_cons hb]
    have hge : ¬ ((i : Int) ≥ (b.length : Int)):=by omega
    have st : Yc a b (i : Int) = some (if a[i] < b[i] then .ex (.ex (-1)) else if b[i] < a[i] then .ex (.ex 1) else .nx ((i + 1 : Nat) : Int)):=by
     unfold Yc
     simp only [Int.ofNat_lt,hia,decide_true,if_true,ZC,List.getElem?_eq_getElem hia,List.getElem?_eq_getElem hb,Option.bind_some,hge,decide_false,Bool.false_eq_true,if_false,Zao,Yl (show i < 9223372036854775807 by omega)]
     by_cases h1 : a[i] < b[i]
     ·simp [h1]
     ·by_cases h2 : b[i] < a[i]
      ·simp [h1,h2]
      ·simp [h1,h2]
    show _ = some (if a[i] < b[i] then -1 else if b[i] < a[i] then 1 else Kh (a.drop (i + 1)) (b.drop (i + 1)))
    by_cases h1 : a[i] < b[i]
    ·rw [if_pos h1] at st
     rw [Yi st,if_pos h1]; rfl
    ·rw [if_neg h1] at st
     rw [if_neg h1]
     by_cases h2 : b[i] < a[i]
     ·rw [if_pos h2] at st
      rw [Yi st,if_pos h2]; rfl
     ·rw [if_neg h2] at st
      rw [if_neg h2,Xr st]
      exact ih (i + 1) (by omega)
   ·have hge : ((i : Int) ≥ (b.length : Int)):=by omega
    have st : Yc a b (i : Int) = some (.ex (.ex 1)):=by
     unfold Yc
     simp only [Int.ofNat_lt,hia,decide_true,if_true,ZC,List.getElem?_eq_getElem hia,Option.bind_some,hge]
    rw [Yi st,List.drop_eq_nil_of_le (show b.length ≤ i by omega)]; rfl
 have:=key a.length 0 (by omega)
 rw [List.drop_zero,List.drop_zero] at this
 unfold Xv
 exact this
theorem jB (l : List Int) (h : l.length < 9223372036854775807) (b : Int) : Xj l b = some (l.contains b):=by
 unfold Xj WS
 have:=BV (f:=YW l b) l.length (fun i=>b == l.getD i 0) (fun i=>(i : Int)) h (fun i hi=>by
  unfold YW
  have e0 : l.getD i 0 = l[i]:=by simp [List.getD_eq_getElem?_getD,List.getElem?_eq_getElem hi]
  simp only [Int.ofNat_lt,hi,decide_true,if_true,ZC,List.getElem?_eq_getElem hi,Option.bind_some,e0]
  cases b == l[i] <;> rfl) (by unfold YW; simp) 0 (Nat.zero_le _)
 have h3 : ZH (YW l b) 0 = _:=this
 rw [h3]
 cases hf : (List.range' 0 (l.length - 0)).find? (fun i=>b == l.getD i 0) with
 | none =>
  have : l.contains b = false:=by
   rw [List.contains_eq_any_beq,List.any_eq_false]
   intro x hx
   obtain ⟨i,hi,rfl⟩:=List.mem_iff_getElem.1 hx
   have:=List.find?_eq_none.1 hf i (List.mem_range'_1.2 (by omega))
   simpa [List.getD_eq_getElem?_getD,List.getElem?_eq_getElem hi] using this
  rw [this]; rfl
 | some i =>
  have hi:=List.mem_range'_1.1 (List.mem_of_find?_eq_some hf)
  have hi' : i < l.length:=by omega
  have h4:=List.find?_some hf
  have : l.contains b = true:=by
   rw [List.contains_eq_any_beq,List.any_eq_true]
   exact ⟨l[i],List.getElem_mem hi',by simpa [List.getD_eq_getElem?_getD,List.getElem?_eq_getElem hi'] using h4⟩
  rw [this]
  simp [Fl.el]
theorem zD {s n i : Nat} (hi : i < n) : (Yn s n).contains (i : Int) = s.testBit i:=by
 rw [Bool.eq_iff_iff,List.contains_iff_mem]
 unfold Yn
 rw [List.mem_map]
 constructor
 ·rintro ⟨j,hj,e⟩
  have : j = i:=by omega
  subst this
  exact (zl.1 hj).2
 ·intro h; exact ⟨i,zl.2 ⟨hi,h⟩,rfl⟩

def Tk {α : Type} : List α → Nat → List α
 | [],_=>[]
 | x :: l,s=>if s % 2 = 1 then x :: Tk l (s / 2) else Tk l (s / 2)
theorem zc {α : Type} (x : α) (l : List α) (s : Nat) : Tk (x :: l) s = if s % 2 = 1 then x :: Tk l (s / 2) else Tk l (s / 2):=rfl
theorem Q3 {α : Type} : ∀ (l : List α) (s : Nat),(Tk l s).Sublist l
 | [],_=>List.Sublist.refl _
 | x :: l,s=>by
  rw [zc]
  split
  ·exact (Q3 l (s / 2)).cons_cons x
  ·exact (Q3 l (s / 2)).cons x
theorem HM {α : Type} : ∀ (l : List α) (s : Nat),(YU s l.length).filterMap (fun i=>l[i]?) = Tk l s
 | [],_=>rfl
 | x :: l,s=>by
  rw [List.length_cons,zf,List.filterMap_append,List.filterMap_map]
  have e : ((fun i=>(x :: l)[i]?) ∘ Nat.succ) = fun i=>l[i]?:=by funext i; simp
  rw [e,HM l (s / 2),zc]
  by_cases h : s % 2 = 1 <;> simp [h]
theorem yE {α : Type} (l : List α) (s : Nat) : (Tk l s).length = Yh l.length s:=by
 induction l generalizing s with
 | nil=>rfl
 | cons x l ih =>
  rw [zc,List.length_cons,Yh]
  by_cases h : s % 2 = 1
  ·rw [if_pos h,List.length_cons,ih,h]; omega
  ·rw [if_neg h,ih]; omega
theorem Good.sub {l l' : List GShare} (g : Good l) (h : l'.Sublist l) (h0 : 0 < l'.length) : Good l':=by
 have hd : (l'.headD default).Data.length = (l.headD default).Data.length:=by
  cases l' with
  | nil=>simp at h0
  | cons x l'=>exact g.even x (h.subset (by simp))
 refine ⟨fun s hs=>g.share s (h.subset hs),(h.map _).nodup g.diff,⟨by omega,Nat.le_trans h.length_le g.len.2⟩,fun s hs=>by rw [hd]; exact g.even s (h.subset hs)⟩
def XG (s n : Nat) : List Int:=((List.range n).filter fun i=>!s.testBit i).map fun i : Nat=>(i : Int)
theorem BP (s n : Nat) : XG s (n + 1) = if s.testBit n then XG s n else XG s n ++ [(n : Int)]:=by
 unfold XG
 rw [List.range_succ,List.filter_append,List.map_append]
 cases h : s.testBit n <;> simp [h]
theorem QU (s n : Nat) : (XG s n).length + (YU s n).length = n:=by
 induction n with
 | zero=>rfl
 | succ n ih =>
  rw [BP,Kx]
  cases s.testBit n
  ·simp; omega
  ·simp; omega
theorem Za1 (s n : Nat) (hs : s < 4096) (hn : n ≤ 12) : Tx (s : Int) (n : Int) = some (Yn s n):=by
 unfold Tx
 have:=Yq (f:=Ud (s : Int) (n : Int)) (fun i : Nat=>(Yn s i,(i : Int))) 0 n (Nat.zero_le _) (t:=Yn s n) (fun i _ hi=>by
  unfold Ud
  have e1 : YI (i : Int) = some ():=by unfold YI; rw [if_pos (by omega)]
  have e2 : app 8 (Yn s i) [(i : Int)] = _:=Yv (by have:=TK s i; rw [TL]; simp; omega)
  simp only [Int.ofNat_lt,hi,decide_true,if_true,e1,Option.bind_some,jw s i (by omega) (by omega),e2,Yl (show i < 9223372036854775807 by omega)]
  unfold Yn
  rw [Kx]
  cases s.testBit i <;> simp) (by unfold Ud; simp)
 have h2 : ZH (Ud (s : Int) (n : Int)) ([],0) = _:=this
 rw [h2]; rfl
theorem z3 (l : List GShare) (s : Nat) (hs : s < 4096) (hl : l.length ≤ 12) : Ui l (s : Int) = some (Tk l s,XG s l.length):=by
 unfold Ui
 have:=Yq (f:=Vo l (s : Int)) (fun i : Nat=>((YU s i).filterMap (fun i=>l[i]?),XG s i,(i : Int))) 0 l.length (Nat.zero_le _) (t:=(Tk l s,XG s l.length)) (fun i _ hi=>by
  unfold Vo
  have e0 : IntKind.u64.wrap (i : Int) = (i : Int):=Ap (by omega)
  have e1 : YI (i : Int) = some ():=by unfold YI; rw [if_pos (by omega)]
  have b1:=TK s i
  have b2:=QU s i
  have b3:=List.length_filterMap_le (fun i=>l[i]?) (YU s i)
  have e2 : app 32 ((YU s i).filterMap (fun i=>l[i]?)) [l[i]] = _:=Yv (by simp; omega)
  have e3 : app 8 (XG s i) [(i : Int)] = _:=Yv (by simp; omega)
  simp only [Int.ofNat_lt,hi,decide_true,if_true,e0,e1,Option.bind_some,jw s i (by omega) (by omega),ZC,List.getElem?_eq_getElem hi,e2,e3,Yl (show i < 9223372036854775807 by omega)]
  rw [Kx,BP]
  cases s.testBit i <;> simp [List.getElem?_eq_getElem hi]) (by unfold Vo; simp [HM])
 have h2 : ZH (Vo l (s : Int)) ([],[],0) = _:=this
 rw [h2]; rfl

def Js (m : Nat) (l : List GShare) (t s b : Nat) : Bool :=
 if Yh 12 s < Yh 12 b then false else if Yh 12 s = Yh 12 b ∧ ¬ Kh (Yn s 12) (Yn b 12) < 0 then false else decide (Yh 12 s ≤ t) || Ti m (Tk l s) t
def VR (m : Nat) (l : List GShare) (t : Nat) : Nat → Nat
 | 0=>0
 | s + 1=>if Js m l t s (VR m l t s) then s else VR m l t s
theorem Au (m : Nat) (l : List GShare) (t : Nat) : ∀ s,VR m l t s ≤ s
 | 0=>Nat.le_refl _
 | s + 1=>by
  have:=Au m l t s
  unfold VR
  split <;> omega
section
variable {m : Nat} (h1 : 256 ≤ m) (h2 : m < 512)
include h1 h2
theorem qh (l : List GShare) (s : Nat) (hs : s < 2 ^ l.length) (hl : l.length ≤ 12) : ZH (XJ l (Yn s l.length)) ([],0) = some (Tk l s):=by
 have _:=h1
 have _:=h2
 have e:=JQ (f:=XJ l (Yn s l.length)) (YU s l.length) (fun b i=>(b,i)) (fun (b : List GShare) j=>b ++ (l[j]?).toList) [] (t:=Tk l s) (by have:=TK s l.length; omega) (fun i hi=>by
  have hm:=zl.1 (List.getElem_mem hi)
  have hb:=TK s l.length
  have hi2 : i < (Yn s l.length).length:=by rw [TL]; exact hi
  have hg : (Yn s l.length)[i] = ((YU s l.length)[i] : Int):=by simp [Yn]
  have hlen : ∀ (k : List Nat) (acc : List GShare),(k.foldl (fun (b : List GShare) j=>b ++ (l[j]?).toList) acc).length ≤ acc.length + k.length:=by
   intro k
   induction k with
   | nil=>intro acc; simp
   | cons x k ih =>
    intro acc
    have:=ih (acc ++ (l[x]?).toList)
    have h5 : (l[x]?).toList.length ≤ 1:=by cases l[x]? <;> simp
    rw [List.foldl_cons,List.length_cons]
    rw [List.length_append] at this
    omega
  have h6:=hlen ((YU s l.length).take i) []
  rw [List.length_nil,List.length_take] at h6
  unfold XJ
  have e2 : app 32 (((YU s l.length).take i).foldl (fun (b : List GShare) j=>b ++ (l[j]?).toList) []) [l[(YU s l.length)[i]]'hm.1] = _:=Yv (by rw [List.length_singleton]; omega)
  simp only [Int.ofNat_lt,hi2,decide_true,if_true,ZC,List.getElem?_eq_getElem hi2,hg,List.getElem?_eq_getElem hm.1,Option.bind_some,e2]
  rfl) (by
  unfold XJ
  have e0 : ∀ (k : List Nat) (acc : List GShare),k.foldl (fun (b : List GShare) j=>b ++ (l[j]?).toList) acc = acc ++ k.filterMap (fun i=>l[i]?):=by
   intro k
   induction k with
   | nil=>intro acc; simp
   | cons x k ih =>
    intro acc
    rw [List.foldl_cons,ih,List.filterMap_cons]
    cases l[x]? <;> simp
  simp only [e0,List.nil_append,HM]
  simp [TL])
 exact e
theorem BO (l : List GShare) (g : Good l) (hl : l.length ≤ 12) (t : Nat) (t1 : 1 ≤ t) (t8 : t ≤ 8) (s : Nat) (hs : s < 2 ^ l.length) (b : Nat) (hb : b ≤ s) :
  YZ (m : Int) l (t : Int) (Yn b l.length,(s : Int)) = some (.nx (Yn (if Js m l t s b then s else b) l.length,((s + 1 : Nat) : Int))):=by
 have hp : (2 : Nat) ^ l.length ≤ 2 ^ 12:=Nat.pow_le_pow_right (by omega) hl
 have hs12 : s < 4096:=by omega
 have hb12 : b < 4096:=by omega
 have hsh : TN 1 (l.length : Int) = ((2 ^ l.length : Nat) : Int):=by
  have:=TR 1 l.length (by omega) (by rw [Nat.shiftLeft_eq]; omega)
  rw [Nat.shiftLeft_eq,Nat.one_mul] at this
  exact this
 have bs : YU s 12 = YU s l.length:=H1 hs hl
 have bb : YU b 12 = YU b l.length:=H1 (by omega) hl
 have is : Yn s 12 = Yn s l.length:=by unfold Yn; rw [bs]
 have ib : Yn b 12 = Yn b l.length:=by unfold Yn; rw [bb]
 have os : Yh 12 s = (Yn s l.length).length:=by rw [Vv,bs,TL]
 have ob : Yh 12 b = (Yn b l.length).length:=by rw [Vv,bb,TL]
 have hsel : (Tk l s).length = Yh 12 s:=by rw [yE,Vv,Vv,bs]
 have hle : (Yn s l.length).length ≤ 12:=by rw [TL]; have:=TK s l.length; omega
 have hcmp:=yq (Yn s l.length) (Yn b l.length) (by omega)
 unfold YZ Js
 simp only [hsh,Int.ofNat_lt,hs,decide_true,if_true,ju s hs12,Option.bind_some,Za1 s l.length hs12 hl,qh h1 h2 l s hs hl,hcmp,Yl (show s < 9223372036854775807 by omega),is,ib]
 by_cases c1 : Yh 12 s < Yh 12 b
 ·have d1 : Yh 12 s < (Yn b l.length).length:=by omega
  simp only [d1,decide_true,if_true,c1,Option.bind_some,Bool.false_eq_true,if_false]
 ·have d1 : ¬ (Yh 12 s < (Yn b l.length).length):=by omega
  simp only [d1,decide_false,Bool.false_eq_true,if_false,c1]
  by_cases c2 : Yh 12 s = Yh 12 b
  ·have d2 : (((Yn s l.length).length : Int) == ((Yn b l.length).length : Int)) = true:=by simp only [beq_iff_eq]; omega
   simp only [d2,if_true,Option.bind_some,c2,true_and]
   by_cases c3 : Kh (Yn s l.length) (Yn b l.length) < 0
   ·have d3 : ¬ (Kh (Yn s l.length) (Yn b l.length) ≥ 0):=by omega
    simp only [d3,c3,decide_false,Bool.false_eq_true,if_false,not_true_eq_false]
    by_cases c4 : Yh 12 b ≤ t
    ·have d4 : ((Tk l s).length : Int) ≤ (t : Int):=by omega
     simp [d4,c4]
    ·have d4 : ¬ (((Tk l s).length : Int) ≤ (t : Int)):=by omega
     have hf:=jE h1 h2 (Tk l s) (g.sub (Q3 l s) (by omega)) t t1 t8
     simp only [d4,c4,decide_false,Bool.false_eq_true,if_false,hf,Option.bind_some,Bool.false_or]
     cases Ti m (Tk l s) t <;> simp
   ·have d3 : (Kh (Yn s l.length) (Yn b l.length) ≥ 0):=by omega
    simp [d3,c3]
  ·have d2 : (((Yn s l.length).length : Int) == ((Yn b l.length).length : Int)) = false:=by simp only [beq_eq_false_iff_ne,ne_eq]; omega
   simp only [d2,Bool.false_eq_true,if_false,Option.bind_some,c2,false_and]
   by_cases c4 : Yh 12 s ≤ t
   ·have d4 : ((Tk l s).length : Int) ≤ (t : Int):=by omega
    simp [d4,c4]
   ·have d4 : ¬ (((Tk l s).length : Int) ≤ (t : Int)):=by omega
    have hf:=jE h1 h2 (Tk l s) (g.sub (Q3 l s) (by omega)) t t1 t8
    simp only [d4,c4,decide_false,Bool.false_eq_true,if_false,hf,Option.bind_some,Bool.false_or]
    cases Ti m (Tk l s) t <;> simp
theorem BK (l : List GShare) (g : Good l) (hl : l.length ≤ 12) (t : Nat) (t1 : 1 ≤ t) (t8 : t ≤ 8) (s : Nat) (hs : s < 2 ^ l.length) (b : Nat) (hb : b ≤ s) :
  XO (m : Int) l (t : Int) (((Yh 12 b : Nat) : Int),(s : Int),(b : Int)) = some (.nx (((Yh 12 (if Js m l t s b then s else b) : Nat) : Int),((s + 1 : Nat) : Int),((if Js m l t s b then s else b : Nat) : Int))):=by
 have hp : (2 : Nat) ^ l.length ≤ 2 ^ 12:=Nat.pow_le_pow_right (by omega) hl
 have hs12 : s < 4096:=by omega
 have hb12 : b < 4096:=by omega
 have hsh : TN 1 (l.length : Int) = ((2 ^ l.length : Nat) : Int):=by
  have:=TR 1 l.length (by omega) (by rw [Nat.shiftLeft_eq]; omega)
  rw [Nat.shiftLeft_eq,Nat.one_mul] at this
  exact this
 have hu : IntKind.u64.wrap (l.length : Int) = (l.length : Int):=Ap (by omega)
 have hnn : YI (l.length : Int) = some ():=by unfold YI; rw [if_pos (by omega)]
 have bs : YU s 12 = YU s l.length:=H1 hs hl
 have hsel : (Tk l s).length = Yh 12 s:=by rw [yE,Vv,Vv,bs]
 have e9 : wr ((t : Int) + 1) = ((t + 1 : Nat) : Int):=Yl (by omega)
 unfold XO Js
 simp only [hu,hnn,hsh,Int.ofNat_lt,hs,decide_true,if_true,v_ones s hs12,Option.bind_some,z3 l s hs12 hl,Yl (show s < 9223372036854775807 by omega),e9]
 by_cases c1 : Yh 12 s < Yh 12 b
 ·simp [c1]
 ·simp only [c1,decide_false,Bool.false_eq_true,if_false]
  by_cases c2 : Yh 12 s = Yh 12 b
  ·have hless:=qw s b hs12 hb12 (by rw [← Vv,← Vv]; exact c2)
   have d2 : ((((Yh 12 s : Nat) : Int)) == ((Yh 12 b : Nat) : Int)) = true:=by simp [c2]
   simp only [d2,if_true,hless,Option.bind_some,c2,true_and]
   by_cases c3 : Kh (Yn s 12) (Yn b 12) < 0
   ·simp only [c3,decide_true,Bool.not_true,Bool.false_eq_true,if_false,not_true_eq_false]
    by_cases c4 : Yh 12 b ≤ t
    ·have d4 : Yh 12 b < t + 1:=by omega
     simp [d4,c4,c2]
    ·have d4 : ¬ (Yh 12 b < t + 1):=by omega
     have hf:=H2 h1 h2 (Tk l s) (g.sub (Q3 l s) (by omega)) t t1 t8
     simp only [d4,c4,decide_false,Bool.false_eq_true,if_false,hf,Option.bind_some,Bool.false_or]
     cases Ti m (Tk l s) t <;> simp [c2]
   ·simp [c3]
  ·have d2 : ((((Yh 12 s : Nat) : Int)) == ((Yh 12 b : Nat) : Int)) = false:=by simp only [beq_eq_false_iff_ne,ne_eq]; omega
   simp only [d2,Bool.false_eq_true,if_false,Option.bind_some,c2,false_and]
   by_cases c4 : Yh 12 s ≤ t
   ·have d4 : Yh 12 s < t + 1:=by omega
    simp [d4,c4]
   ·have d4 : ¬ (Yh 12 s < t + 1):=by omega
    have hf:=H2 h1 h2 (Tk l s) (g.sub (Q3 l s) (by omega)) t t1 t8
    simp only [d4,c4,decide_false,Bool.false_eq_true,if_false,hf,Option.bind_some,Bool.false_or]
    cases Ti m (Tk l s) t <;> simp
end
def TG (m : Int) (l : List GShare) (t : Int) : List Int × Int :=
 if YJ m l t != 0 then ([],YJ m l t) else
 if Yh 12 (VR m.toNat l t.toNat (2 ^ l.length)) ≤ t.toNat ∨ l.length < t.toNat + 2 * (XG (VR m.toNat l t.toNat (2 ^ l.length)) l.length).length then ([],4) else
 (XG (VR m.toNat l t.toNat (2 ^ l.length)) l.length,0)
theorem J9 {m : Int} {l : List GShare} {t : Int} (h : YJ m l t = 0) : l.length ≤ 12:=by
 have hc : Yo l = 0:=by
  unfold YJ at h
  cases h1 : ZV m with
  | false=>simp [h1] at h
  | true =>
   cases h2 : Yo l == 0 with
   | false=>simp only [h1,h2,Bool.not_true,Bool.false_and,Bool.false_eq_true,if_false] at h; rw [h] at h2; cases h2
   | true=>simpa using h2
 unfold Yo at hc
 cases h1 : l.all Yf with
 | false=>simp [h1] at hc
 | true =>
  cases h2 : WM (l.map (·.Place)) with
  | false=>simp [h1,h2] at hc
  | true =>
   by_cases h3 : l.length < 1 ∨ 12 < l.length
   ·rw [h1,h2,if_neg (by simp),if_neg (by simp),if_pos h3] at hc; cases hc
   ·omega
theorem pow12 {n : Nat} (h : n ≤ 12) : 2 ^ n ≤ 4096:=by
 have : (2 : Nat) ^ n ≤ 2 ^ 12:=Nat.pow_le_pow_right (by omega) h
 omega
theorem AI (m : Nat) (l : List GShare) (t n : Nat) (hn : 0 < n) : VR m l t n < n:=by
 obtain ⟨s,rfl⟩ : ∃ s,n = s + 1:=⟨n - 1,by omega⟩
 have:=Au m l t s
 unfold VR
 split <;> omega
theorem JV (m : Int) (l : List GShare) (t : Int) (h : l.length ≤ 1048576) : WK m l t = some (TG m l t):=by
 unfold WK TG
 rw [UF m l t (by omega)]
 simp only [Option.bind_some]
 by_cases hb : YJ m l t = 0
 ·obtain ⟨hf,g,t1,t8⟩:=UH hb
  have hl:=J9 hb
  obtain ⟨n,rfl,n1,n2⟩:=XD hf
  obtain ⟨u,rfl⟩:=Int.eq_ofNat_of_zero_le (show 0 ≤ t by omega)
  have hnn : YI (l.length : Int) = some ():=by unfold YI; rw [if_pos (by omega)]
  have hp:=pow12 hl
  have hpos : 0 < 2 ^ l.length:=Nat.two_pow_pos _
  simp only [hb,bne_self_eq_false,Bool.false_eq_true,if_false,Int.toNat_natCast,hnn,Option.bind_some]
  generalize hB : VR n l u (2 ^ l.length) = B
  have hBlt : B < 2 ^ l.length:=by rw [← hB]; exact AI n l u _ hpos
  have h3:=Yq (f:=YZ (n : Int) l (u : Int)) (fun s : Nat=>(Yn (VR n l u s) l.length,(s : Int))) 0 (2 ^ l.length) (Nat.zero_le _) (t:=Yn B l.length) (fun s _ hs=>by
   rw [BO n1 n2 l g hl u (by omega) (by omega) s hs _ (Au n l u s)]; rfl) (by
   unfold YZ
   have hsh : TN 1 (l.length : Int) = ((2 ^ l.length : Nat) : Int):=by
    have:=TR 1 l.length (by omega) (by rw [Nat.shiftLeft_eq]; omega)
    rw [Nat.shiftLeft_eq,Nat.one_mul] at this
    exact this
   simp only [hsh,Int.ofNat_lt,Nat.lt_irrefl,decide_false,Bool.false_eq_true,if_false,hB])
  have h4 : ZH (YZ (n : Int) l (u : Int)) ([],0) = some (Yn B l.length):=by
   have e : Yn (VR n l u 0) l.length = []:=by
    unfold Yn YU VR
    simp
   simp only [e] at h3
   exact h3
  have hbl : (Yn B l.length).length = Yh 12 B:=by rw [TL,Vv,H1 hBlt hl]
  have hrl:=QU B l.length
  rw [← TL,hbl] at hrl
  have e1 : wr ((l.length : Int) - ((Yn B l.length).length : Int)) = ((XG B l.length).length : Int):=by rw [YM (by omega)]; omega
  have e2 : wr (2 * ((XG B l.length).length : Int)) = ((2 * (XG B l.length).length : Nat) : Int):=by rw [YM (by omega)]; omega
  have e3 : wr ((u : Int) + ((2 * (XG B l.length).length : Nat) : Int)) = ((u + 2 * (XG B l.length).length : Nat) : Int):=by rw [YM (by omega)]; omega
  have h5:=Yq (f:=XH l (Yn B l.length)) (fun i : Nat=>(XG B i,(i : Int))) 0 l.length (Nat.zero_le _) (t:=XG B l.length) (fun i _ hi=>by
   unfold XH
   have b2:=QU B i
   have e4 : app 8 (XG B i) [(i : Int)] = _:=Yv (by simp; omega)
   simp only [Int.ofNat_lt,hi,decide_true,if_true,jB (Yn B l.length) (by omega) (i : Int),zD hi,Option.bind_some,e4,Yl (show i < 9223372036854775807 by omega)]
   rw [BP]
   cases B.testBit i <;> simp) (by unfold XH; simp)
  have h6 : ZH (XH l (Yn B l.length)) ([],0) = _:=h5
  rw [h4,Option.bind_some,e1,e2,e3,h6,hbl]
  by_cases c1 : Yh 12 B ≤ u
  ·have d1 : ((Yh 12 B : Nat) : Int) ≤ (u : Int):=by omega
   simp [c1]
  ·have d1 : ¬ (((Yh 12 B : Nat) : Int) ≤ (u : Int)):=by omega
   by_cases c2 : l.length < u + 2 * (XG B l.length).length
   ·have d2 : (l.length : Int) < ((u + 2 * (XG B l.length).length : Nat) : Int):=by omega
    simp only [d1,d2,c2,decide_true,decide_false,Bool.false_eq_true,if_false,if_true,Option.bind_some,or_true]
   ·have d2 : ¬ ((l.length : Int) < ((u + 2 * (XG B l.length).length : Nat) : Int)):=by omega
    simp only [d1,d2,c1,c2,decide_false,Bool.false_eq_true,if_false,Option.bind_some,or_self]
 ·have : (YJ m l t != 0) = true:=by simpa using hb
  rw [this]; rfl
theorem JX (m : Int) (l : List GShare) (t : Int) (h : l.length ≤ 1048576) : WN m l t = some (TG m l t):=by
 unfold WN TG
 rw [BF m l t (by omega)]
 simp only [Option.bind_some]
 by_cases hb : YJ m l t = 0
 ·obtain ⟨hf,g,t1,t8⟩:=UH hb
  have hl:=J9 hb
  obtain ⟨n,rfl,n1,n2⟩:=XD hf
  obtain ⟨u,rfl⟩:=Int.eq_ofNat_of_zero_le (show 0 ≤ t by omega)
  have hp:=pow12 hl
  have hpos : 0 < 2 ^ l.length:=Nat.two_pow_pos _
  simp only [hb,bne_self_eq_false,Bool.false_eq_true,if_false,Int.toNat_natCast]
  generalize hB : VR n l u (2 ^ l.length) = B
  have hBlt : B < 2 ^ l.length:=by rw [← hB]; exact AI n l u _ hpos
  have hu : IntKind.u64.wrap (l.length : Int) = (l.length : Int):=Ap (by omega)
  have hnn : YI (l.length : Int) = some ():=by unfold YI; rw [if_pos (by omega)]
  have hsh : TN 1 (l.length : Int) = ((2 ^ l.length : Nat) : Int):=by
   have:=TR 1 l.length (by omega) (by rw [Nat.shiftLeft_eq]; omega)
   rw [Nat.shiftLeft_eq,Nat.one_mul] at this
   exact this
  have h3:=Yq (f:=XO (n : Int) l (u : Int)) (fun s : Nat=>(((Yh 12 (VR n l u s) : Nat) : Int),(s : Int),((VR n l u s : Nat) : Int))) 1 (2 ^ l.length) hpos (t:=(((Yh 12 B : Nat) : Int),(B : Int))) (fun s _ hs=>by
   rw [BK n1 n2 l g hl u (by omega) (by omega) s hs _ (Au n l u s)]; rfl) (by
   unfold XO
   simp only [hu,hnn,hsh,Int.ofNat_lt,Nat.lt_irrefl,decide_false,Bool.false_eq_true,if_false,hB,Option.bind_some])
  have hb1 : VR n l u 1 = 0:=by
   unfold VR
   have : VR n l u 0 = 0:=rfl
   rw [this]
   split <;> rfl
  have h4 : ZH (XO (n : Int) l (u : Int)) (0,1,0) = some (((Yh 12 B : Nat) : Int),(B : Int)):=by
   simp only [hb1] at h3
   exact h3
  have hrl:=QU B l.length
  have e2 : wr (2 * ((XG B l.length).length : Int)) = ((2 * (XG B l.length).length : Nat) : Int):=by rw [YM (by omega)]; omega
  have e3 : wr ((u : Int) + ((2 * (XG B l.length).length : Nat) : Int)) = ((u + 2 * (XG B l.length).length : Nat) : Int):=by rw [YM (by omega)]; omega
  unfold Tg
  simp only [h4,Option.bind_some,z3 l B (by omega) hl,e2,e3]
  by_cases c1 : Yh 12 B ≤ u
  ·have d1 : ¬ (((Yh 12 B : Nat) : Int) > (u : Int)):=by omega
   simp [d1,c1]
  ·have d1 : (((Yh 12 B : Nat) : Int) > (u : Int)):=by omega
   simp only [d1,decide_true,if_true,Option.bind_some]
   by_cases c2 : l.length < u + 2 * (XG B l.length).length
   ·have d2 : ¬ ((l.length : Int) ≥ ((u + 2 * (XG B l.length).length : Nat) : Int)):=by omega
    simp only [d2,c2,decide_false,Bool.not_false,if_true,or_true]
   ·have d2 : ((l.length : Int) ≥ ((u + 2 * (XG B l.length).length : Nat) : Int)):=by omega
    simp only [d2,c1,c2,decide_true,Bool.not_true,Bool.false_eq_true,if_false,or_self]
 ·have : (YJ m l t != 0) = true:=by simpa using hb
  rw [this]; rfl
theorem qZ {α : Type} (by_ : Nat) (z : α) (n : Nat) (h : n * by_ ≤ 140737488355328) (hby : 0 < by_) :
  ((if (decide ((n : Int) < 0)) = true then (none) else (some ()) : Option (Unit)).bind fun (_ : Unit)=>(if (decide ((wr ((n : Int) - (wr (0 - 0)))) > 0)) = true then ((mkS by_ z (wr ((n : Int) - (wr (0 - 0))))).bind fun (l14 : List α)=>(slc l14 (0 : Int) (0 : Int)).bind fun (l16 : List α)=>some l16) else (some ([])) : Option (List α)).bind fun (j6 : List α)=>some j6) = some []:=by
 have hn : n ≤ 140737488355328:=Nat.le_trans (Nat.le_mul_of_pos_right _ hby) h
 have e0 : wr (0 - 0) = 0:=by decide
 have e1 : wr ((n : Int) - (wr (0 - 0))) = (n : Int):=by rw [e0,YM (by omega)]; omega
 have e2 : ¬ ((n : Int) < 0):=by omega
 rw [e1]
 simp only [e2,decide_false,Bool.false_eq_true,if_false,Option.bind_some]
 by_cases h3 : (n : Int) > 0
 ·have hm : mkS by_ z (n : Int) = some (List.replicate n z):=by
   have h4 : ((n * by_ : Nat) : Int) ≤ 140737488355328:=by omega
   rw [Int.natCast_mul] at h4
   unfold mkS
   rw [if_pos ⟨by omega,h4⟩,Int.toNat_natCast]
  have hs : slc (List.replicate n z) (0 : Int) (0 : Int) = some []:=by
   have:=Hc (l:=List.replicate n z) (i:=0) (j:=0) (Nat.le_refl _) (Nat.zero_le _)
   simpa using this
  simp [h3,hm,hs]
 ·have h4 : decide ((n : Int) > 0) = false:=by simp only [decide_eq_false_iff_not]; exact h3
  simp only [h4,Bool.false_eq_true,if_false,Option.bind_some]
theorem yr {α : Type} (by_ : Nat) (p0 : List (List α)) (L0 : Int × Int → Option (Fl (Int × Int) Int)) (L1 : Int × List α → Option (Fl (Int × List α) (List α)))
  (h0 : ∀ s,L0 s = if (decide (s.1 < (p0.length : Int))) = true then (((idx p0 s.1).bind fun (x : List α)=>(if (decide ((wr (s.2 + (x.length : Int))) < 0)) = true then (none) else (some ()) : Option (Unit)).bind fun (_ : Unit)=>some (wr (s.2 + (x.length : Int))) : Option (Int)).bind fun (j : Int)=>some (Fl.nx (wr (s.1 + 1),j))) else (some (Fl.ex s.2)))
  (h1 : ∀ s,L1 s = if (decide (s.1 < (p0.length : Int))) = true then ((idx p0 s.1).bind fun (x : List α)=>(app by_ s.2 x).bind fun (_ : List α)=>some (Fl.nx (wr (s.1 + 1),(s.2 ++ x)))) else (some (Fl.ex s.2)))
  (hl : p0.flatten.length * by_ ≤ 140737488355328) (hby : 0 < by_) (hn : p0.length < 9223372036854775807) :
  ZH L0 (0,0) = some (p0.flatten.length : Int) ∧ ZH L1 (0,[]) = some p0.flatten:=by
 have hlen : p0.flatten.length ≤ 140737488355328:=Nat.le_trans (Nat.le_mul_of_pos_right _ hby) hl
 have hstep : ∀ i (hi : i < p0.length),(p0.take (i + 1)).flatten = (p0.take i).flatten ++ p0[i]:=fun i hi=>by
  rw [List.take_succ_eq_append_getElem hi,List.flatten_append]; simp
 have hle : ∀ i,(p0.take i).flatten.length ≤ p0.flatten.length:=fun i=>by
  have : p0.flatten = (p0.take i).flatten ++ (p0.drop i).flatten:=by rw [← List.flatten_append,List.take_append_drop]
  rw [this,List.length_append]; omega
 constructor
 ·have:=Yq (f:=L0) (fun i : Nat=>((i : Int),((p0.take i).flatten.length : Int))) 0 p0.length (Nat.zero_le _) (t:=(p0.flatten.length : Int)) (fun i _ hi=>by
   have hs:=congrArg List.length (hstep i hi)
   rw [List.length_append] at hs
   have h3:=hle (i + 1)
   have e1 : wr (((p0.take i).flatten.length : Int) + (p0[i].length : Int)) = ((p0.take (i + 1)).flatten.length : Int):=by rw [YM (by omega)]; omega
   have e2 : ¬ (((p0.take (i + 1)).flatten.length : Int) < 0):=by omega
   rw [h0]
   simp only [Int.ofNat_lt,hi,decide_true,if_true,ZC,List.getElem?_eq_getElem hi,Option.bind_some,e1,e2,decide_false,Bool.false_eq_true,if_false,Yl (show i < 9223372036854775807 by omega)]) (by
   rw [h0]; simp)
  exact this
 ·have:=Yq (f:=L1) (fun i : Nat=>((i : Int),(p0.take i).flatten)) 0 p0.length (Nat.zero_le _) (t:=p0.flatten) (fun i _ hi=>by
   have hs:=congrArg List.length (hstep i hi)
   rw [List.length_append] at hs
   have h3:=hle (i + 1)
   have hap : app by_ (p0.take i).flatten p0[i] = some ((p0.take i).flatten ++ p0[i]):=Yv (by
    have : ((p0.take i).flatten.length + p0[i].length) * by_ ≤ p0.flatten.length * by_:=Nat.mul_le_mul_right _ (by omega)
    omega)
   rw [h1]
   simp only [Int.ofNat_lt,hi,decide_true,if_true,ZC,List.getElem?_eq_getElem hi,Option.bind_some,hap,Yl (show i < 9223372036854775807 by omega),hstep i hi]) (by
   rw [h1]; simp)
  exact this
theorem J6 (p0 : List (List GShare)) (hl : p0.flatten.length * 32 ≤ 140737488355328) (hn : p0.length < 9223372036854775807) : ZT p0 = some p0.flatten:=by
 obtain ⟨a1,a2⟩:=yr 32 p0 (Yz p0) (Yy p0) (fun s=>by unfold Yz; rfl) (fun s=>by unfold Yy; rfl) hl (by omega) hn
 have hg : Z6 (p0.flatten.length : Int) = some []:=by
  unfold Z6
  exact qZ 32 _ _ hl (by omega)
 unfold ZT
 simp only [a1,a2,hg,Option.bind_some]
def QX (m : Int) (d o : List UInt8) (l : List GShare) (t : Int) : Bool × Int :=
 if YJ m l t != 0 then (false,YJ m l t) else
 if d.length ≠ o.length ∨ d.length ≠ dataN l then (false,2) else
 (Ti m.toNat (⟨0,d⟩ :: l) t.toNat && Ti m.toNat (⟨0,o⟩ :: l) t.toNat,0)
theorem zh {m : Int} {l : List GShare} {t : Int} (h : YJ m l t = 0) : ∀ s ∈ l,s.Place ≠ 0:=by
 have hc : Yo l = 0:=by
  unfold YJ at h
  cases h1 : ZV m with
  | false=>simp [h1] at h
  | true =>
   cases h2 : Yo l == 0 with
   | false=>simp only [h1,h2,Bool.not_true,Bool.false_and,Bool.false_eq_true,if_false] at h; rw [h] at h2; cases h2
   | true=>simpa using h2
 unfold Yo at hc
 cases h1 : l.all Yf with
 | false=>simp [h1] at hc
 | true =>
  intro s hs
  have:=List.all_eq_true.1 h1 s hs
  unfold Yf at this
  simp only [Bool.and_eq_true,bne_iff_ne,ne_eq] at this
  exact this.1
theorem Good.hid {l : List GShare} (g : Good l) (hl : l.length ≤ 12) (hp : ∀ s ∈ l,s.Place ≠ 0) {d : List UInt8} (hd : d.length = dataN l) : Good (⟨0,d⟩ :: l):=by
 have hlen:=g.len
 have h0 : 0 < l.length:=by omega
 have hdn : dataN l ≤ 100:=by
  have:=(g.share _ (List.getElem_mem h0)).2
  have:=g.at h0
  unfold dataN; omega
 refine ⟨fun s hs=>?_,?_,by simp only [List.length_cons]; omega,fun s hs=>?_⟩
 ·rcases List.mem_cons.1 hs with rfl | hs
  ·exact ⟨trivial,by show d.length ≤ 100; omega⟩
  ·exact g.share s hs
 ·rw [List.map_cons,List.nodup_cons]
  refine ⟨fun hm=>?_,g.diff⟩
  obtain ⟨s,hs,e⟩:=List.mem_map.1 hm
  exact hp s hs e
 ·rcases List.mem_cons.1 hs with rfl | hs
  ·rfl
  ·show s.Data.length = d.length
   rw [hd]; exact g.even s hs
theorem js {m : Int} {l : List GShare} {t : Int} (h : YJ m l t = 0) : l.length ≤ 12:=by
 have hc : Yo l = 0:=by
  unfold YJ at h
  cases h1 : ZV m with
  | false=>simp [h1] at h
  | true =>
   cases h2 : Yo l == 0 with
   | false=>simp only [h1,h2,Bool.not_true,Bool.false_and,Bool.false_eq_true,if_false] at h; rw [h] at h2; cases h2
   | true=>simpa using h2
 unfold Yo at hc
 cases h1 : l.all Yf with
 | false=>simp [h1] at hc
 | true =>
  cases h2 : WM (l.map (·.Place)) with
  | false=>simp [h1,h2] at hc
  | true =>
   by_cases h3 : l.length < 1 ∨ 12 < l.length
   ·rw [h1,h2,if_neg (by simp),if_neg (by simp),if_pos h3] at hc; cases hc
   ·omega
theorem B7 (m : Int) (d o : List UInt8) (l : List GShare) (t : Int) (h : l.length ≤ 1048576) : UD m d o l t = some (QX m d o l t):=by
 unfold UD QX
 rw [BF m l t (by omega)]
 simp only [Option.bind_some]
 by_cases hb : YJ m l t = 0
 ·obtain ⟨hf,g,t1,t8⟩:=UH hb
  have h12:=js hb
  have hp:=zh hb
  obtain ⟨n,rfl,n1,n2⟩:=XD hf
  obtain ⟨u,rfl⟩:=Int.eq_ofNat_of_zero_le (show 0 ≤ t by omega)
  have hlen:=g.len
  have h0 : 0 < l.length:=by omega
  have hd0 : l[0].Data.length = dataN l:=g.at h0
  have e0 : idx l (0 : Int) = some l[0]:=by rw [Tu,List.getElem?_eq_getElem h0]
  by_cases c1 : d.length = o.length
  ·by_cases c2 : d.length = dataN l
   ·have b1 : ((d.length : Int) != (o.length : Int)) = false:=by simp [c1]
    have b2 : ((d.length : Int) != (l[0].Data.length : Int)) = false:=by simp [hd0,c2]
    have g1:=g.hid h12 hp c2
    have g2:=g.hid h12 hp (c1 ▸ c2 : o.length = dataN l)
    have a1 : app 32 [(⟨0,d⟩ : GShare)] l = some ([⟨0,d⟩] ++ l):=Yv (by simp; omega)
    have a2 : app 32 [(⟨0,o⟩ : GShare)] l = some ([⟨0,o⟩] ++ l):=Yv (by simp; omega)
    have f1:=H2 n1 n2 _ g1 u (by omega) (by omega)
    have f2:=H2 n1 n2 _ g2 u (by omega) (by omega)
    simp only [hb,e0,b1,b2,a1,a2,Option.bind_some,beq_self_eq_true,if_true,Bool.false_eq_true,if_false,bne_self_eq_false,List.singleton_append,f1,f2,Int.toNat_natCast]
    have hcc : ¬ (d.length ≠ o.length ∨ d.length ≠ dataN l):=fun h=>h.elim (fun h=>h c1) (fun h=>h c2)
    rw [show (if d.length ≠ o.length ∨ d.length ≠ dataN l then (false,(2 : Int)) else (Ti n (⟨0,d⟩ :: l) u && Ti n (⟨0,o⟩ :: l) u,0)) = (Ti n (⟨0,d⟩ :: l) u && Ti n (⟨0,o⟩ :: l) u,0) from if_neg hcc]
    cases Ti n (⟨0,d⟩ :: l) u <;> simp
   ·have b1 : ((d.length : Int) != (o.length : Int)) = false:=by simp [c1]
    have b2 : ((d.length : Int) != (l[0].Data.length : Int)) = true:=by rw [hd0]; simp; omega
    simp [hb,e0,b1,b2,c2]
  ·have b1 : ((d.length : Int) != (o.length : Int)) = true:=by simp; omega
   simp [hb,b1,c1]
 ·have : (YJ m l t != 0) = true:=by simpa using hb
  have b0 : (YJ m l t == 0) = false:=by simpa using hb
  simp [this,b0,hb]
theorem Ak (m : Int) (d o : List UInt8) (l : List GShare) (t : Int) (h : l.length ≤ 1048576) : Uw m d o l t = some (QX m d o l t):=by
 unfold Uw QX
 rw [UF m l t (by omega)]
 simp only [Option.bind_some]
 by_cases hb : YJ m l t = 0
 ·obtain ⟨hf,g,t1,t8⟩:=UH hb
  have h12:=js hb
  have hp:=zh hb
  obtain ⟨n,rfl,n1,n2⟩:=XD hf
  obtain ⟨u,rfl⟩:=Int.eq_ofNat_of_zero_le (show 0 ≤ t by omega)
  have hlen:=g.len
  have h0 : 0 < l.length:=by omega
  have hd0 : l[0].Data.length = dataN l:=g.at h0
  have hdn : dataN l ≤ 100:=by
   have:=(g.share _ (List.getElem_mem h0)).2
   omega
  have e0 : idx l (0 : Int) = some l[0]:=by rw [Tu,List.getElem?_eq_getElem h0]
  by_cases c1 : d.length = o.length
  ·by_cases c2 : d.length = dataN l
   ·have b0 : ¬ ((d.length : Int) > 100):=by omega
    have b1 : ((d.length : Int) != (o.length : Int)) = false:=by simp [c1]
    have b2 : ((d.length : Int) != (l[0].Data.length : Int)) = false:=by simp [hd0,c2]
    have g1:=g.hid h12 hp c2
    have g2:=g.hid h12 hp (c1 ▸ c2 : o.length = dataN l)
    have a1 : ZT [[(⟨0,d⟩ : GShare)],l] = some (⟨0,d⟩ :: l):=by
     have:=J6 [[(⟨0,d⟩ : GShare)],l] (by simp; omega) (by simp)
     simpa using this
    have a2 : ZT [[(⟨0,o⟩ : GShare)],l] = some (⟨0,o⟩ :: l):=by
     have:=J6 [[(⟨0,o⟩ : GShare)],l] (by simp; omega) (by simp)
     simpa using this
    have f1:=jE n1 n2 _ g1 u (by omega) (by omega)
    have f2:=jE n1 n2 _ g2 u (by omega) (by omega)
    have w1 : wr (0 + 1) = 1:=by decide
    have w2 : wr (1 + 1) = 2:=by decide
    have s0 : Y8 (n : Int) d o l (u : Int) 0 = some (if Ti n (⟨0,d⟩ :: l) u then .nx 1 else .ex (.ex (false,0))):=by
     unfold Y8
     have i0 : idx [d,o] (0 : Int) = some d:=rfl
     simp only [i0,a1,f1,Option.bind_some,w1]
     cases Ti n (⟨0,d⟩ :: l) u <;> rfl
    have s1 : Y8 (n : Int) d o l (u : Int) 1 = some (if Ti n (⟨0,o⟩ :: l) u then .nx 2 else .ex (.ex (false,0))):=by
     unfold Y8
     have i0 : idx [d,o] (1 : Int) = some o:=rfl
     simp only [i0,a2,f2,Option.bind_some,w2]
     cases Ti n (⟨0,o⟩ :: l) u <;> rfl
    have s2 : Y8 (n : Int) d o l (u : Int) 2 = some (.ex (.nx ())):=by
     unfold Y8; rfl
    have key : ZH (Y8 (n : Int) d o l (u : Int)) 0 = some (if Ti n (⟨0,d⟩ :: l) u && Ti n (⟨0,o⟩ :: l) u then .nx () else .ex (false,0)):=by
     cases q1 : Ti n (⟨0,d⟩ :: l) u
     ·rw [q1] at s0; rw [Yi s0]; rfl
     ·rw [q1] at s0
      rw [Xr s0]
      cases q2 : Ti n (⟨0,o⟩ :: l) u
      ·rw [q2] at s1; rw [Yi s1]; rfl
      ·rw [q2] at s1; rw [Xr s1,Yi s2]; rfl
    simp only [hb,e0,b0,b1,b2,key,Option.bind_some,decide_false,Bool.false_eq_true,if_false,bne_self_eq_false,Int.toNat_natCast]
    have hcc : ¬ (d.length ≠ o.length ∨ d.length ≠ dataN l):=fun h=>h.elim (fun h=>h c1) (fun h=>h c2)
    rw [show (if d.length ≠ o.length ∨ d.length ≠ dataN l then (false,(2 : Int)) else (Ti n (⟨0,d⟩ :: l) u && Ti n (⟨0,o⟩ :: l) u,0)) = (Ti n (⟨0,d⟩ :: l) u && Ti n (⟨0,o⟩ :: l) u,0) from if_neg hcc]
    cases Ti n (⟨0,d⟩ :: l) u <;> cases Ti n (⟨0,o⟩ :: l) u <;> rfl
   ·by_cases b0 : (d.length : Int) > 100
    ·simp [hb,b0,c2]
    ·have b1 : ((d.length : Int) != (o.length : Int)) = false:=by simp [c1]
     have b2 : ((d.length : Int) != (l[0].Data.length : Int)) = true:=by rw [hd0]; simp; omega
     simp [hb,e0,b0,b1,b2,c2]
  ·by_cases b0 : (d.length : Int) > 100
   ·simp [hb,b0,c1]
   ·have b1 : ((d.length : Int) != (o.length : Int)) = true:=by simp; omega
    simp [hb,b0,b1,c1]
 ·have : (YJ m l t != 0) = true:=by simpa using hb
  simp [this]
def TV (data : List UInt8) (cs : List (List UInt8)) (i : Nat) : List UInt8:=data.getD i 0 :: cs.map (·.getD i 0)
def TO (m : Nat) (data : List UInt8) (cs : List (List UInt8)) (p : UInt8) : GShare:=⟨p,tab data.length fun i=>Z7 m (TV data cs i) p⟩
def T6 (cs : List (List UInt8)) (n : Nat) : Bool:=decide (cs.length ≤ 7) && cs.all fun c=>c.length == n
theorem Zai (n : Nat) (c : List UInt8) : ((c.length : Int) != (n : Int)) = !(c.length == n):=by
 by_cases h : c.length = n
 ·subst h; simp
 ·have : ¬ ((c.length : Int) = (n : Int)):=by omega
  have e1 : (c.length == n) = false:=by simpa using h
  have e2 : ((c.length : Int) != (n : Int)) = true:=by simpa using this
  rw [e1,e2]; rfl
theorem kA (cs : List (List UInt8)) (n : Nat) (h : cs.length < 9223372036854775807) : Uy cs (n : Int) = some (T6 cs n):=by
 unfold Uy
 have h:=QD (f:=V8 cs (n : Int)) cs (fun c=>(c.length : Int) != (n : Int)) (t:=false) h (fun i hi=>by
  unfold V8
  simp only [Int.ofNat_lt,hi,decide_true,if_true,ZC,List.getElem?_eq_getElem hi,Option.bind_some]
  by_cases c : ((cs[i].length : Int) != (n : Int)) = true <;> simp [c]) (by unfold V8; simp)
 rw [h]
 have e : (cs.any fun c=>(c.length : Int) != (n : Int)) = !cs.all fun c=>c.length == n:=by
  rw [List.any_eq_not_all_not]
  simp only [Zai,Bool.not_not]
 rw [e]
 unfold T6
 have e2 : decide ((cs.length : Int) ≤ 7) = decide (cs.length ≤ 7):=by rw [decide_eq_decide]; omega
 cases (cs.all fun c=>c.length == n) <;> simp [Fl.el,e2]
theorem BD (cs : List (List UInt8)) (n : Nat) (h : cs.length < 9223372036854775807) : X2 cs (n : Int) = some (T6 cs n):=by
 unfold X2
 have e2 : decide ((cs.length : Int) ≤ 7) = decide (cs.length ≤ 7):=by rw [decide_eq_decide]; omega
 have hc : YF cs (fun z0=>XI z0 (n : Int)) = some (cs.any fun c=>(c.length : Int) != (n : Int)):=by
  unfold YF XA
  rw [kM cs _ (fun c=>(c.length : Int) != (n : Int)) _ (fun s=>by unfold Wx; rfl) h (fun x _=>rfl)]
  simp only [Option.bind_some,Zbc]
 have e : (cs.any fun c=>(c.length : Int) != (n : Int)) = !cs.all fun c=>c.length == n:=by
  rw [List.any_eq_not_all_not]
  simp only [Zai,Bool.not_not]
 rw [hc,e,e2]
 unfold T6
 by_cases c : cs.length ≤ 7 <;> simp [c]
theorem qI {m : Nat} (h2 : m < 512) (x y : UInt8) : AJ (m : Int) x y = Zz m x y:=by
 have:=BW (m : Int) x y
 rw [WW m h2] at this
 exact (Option.some.inj this).symm
theorem ja {n : Nat} (f : Nat → UInt8) (i : Nat) (h : i < n) : (tab n f).take i ++ [f i] = (tab n f).take (i + 1):=by
 rw [List.take_succ_eq_append_getElem (by simpa using h)]
 simp [tab]
section
variable {m : Nat} (h1 : 256 ≤ m) (h2 : m < 512)
include h1 h2
omit h1 in
theorem Zb2 (l : List UInt8) (x : UInt8) (h : l.length ≤ 140737488351232) : W9 (m : Int) l x = some (Z7 m l x):=by
 unfold W9
 rw [if_pos h,List.foldl_reverse]
 congr 1
 unfold Z7
 congr 1
 funext a acc
 unfold yc
 rw [qI h2]
omit h1 in
theorem Zbq (data : List UInt8) (cs : List (List UInt8)) (ps : List UInt8) (hd : data.length ≤ 100) (hc : T6 cs data.length = true) (hp : ps.length ≤ 12) :
  W7 (m : Int) data cs ps = some (ps.map (TO m data cs)):=by
 unfold T6 at hc
 simp only [Bool.and_eq_true,decide_eq_true_eq,List.all_eq_true,beq_iff_eq] at hc
 obtain ⟨hc1,hc2⟩:=hc
 unfold W7
 have h:=Yq (f:=XT (m : Int) data cs ps) (fun i : Nat=>((i : Int),(ps.take i).map (TO m data cs))) 0 ps.length (Nat.zero_le _) (t:=ps.map (TO m data cs)) (fun i _ hi=>by
  unfold XT
  have hin:=Yq (f:=XS (m : Int) data cs ps[i]) (fun j : Nat=>((tab data.length fun q=>Z7 m (TV data cs q) ps[i]).take j,(j : Int))) 0 data.length (Nat.zero_le _) (t:=tab data.length fun q=>Z7 m (TV data cs q) ps[i]) (fun j _ hj=>by
   unfold XS
   have hin2:=Yq (f:=XU cs ((tab data.length fun q=>Z7 m (TV data cs q) ps[i]).take j,(j : Int))) (fun k : Nat=>([data.getD j 0] ++ (cs.take k).map (·.getD j 0),(k : Int))) 0 cs.length (Nat.zero_le _) (t:=TV data cs j) (fun k _ hk=>by
    unfold XU
    have hl:=hc2 cs[k] (List.getElem_mem hk)
    have hj' : j < cs[k].length:=by omega
    simp only [Int.ofNat_lt,hk,decide_true,if_true,ZC,List.getElem?_eq_getElem hk,Option.bind_some,List.getElem?_eq_getElem hj',Yl (show k < 9223372036854775807 by omega)]
    rw [Yv (by simp; omega)]
    simp only [Option.bind_some]
    rw [List.take_succ_eq_append_getElem hk,List.map_append,List.append_assoc]
    simp [List.getD_eq_getElem?_getD,List.getElem?_eq_getElem hj']) (by unfold XU; simp [TV])
   have hg : data[j]? = some (data.getD j 0):=Ut hj
   simp only [Int.ofNat_lt,hj,decide_true,if_true,ZC,hg,Option.bind_some,Yl (show j < 9223372036854775807 by omega)]
   have hin2' : ZH (XU cs ((tab data.length fun q=>Z7 m (TV data cs q) ps[i]).take j,(j : Int))) ([data.getD j 0],0) = some (TV data cs j):=hin2
   rw [hin2']
   simp only [Option.bind_some]
   rw [Zb2 h2 _ _ (by simp [TV]; omega)]
   simp only [Option.bind_some]
   rw [Yv (by simp; omega)]
   simp only [Option.bind_some]
   rw [ja _ _ hj]) (by unfold XS; simp [List.take_of_length_le])
  simp only [Int.ofNat_lt,hi,decide_true,if_true,ZC,List.getElem?_eq_getElem hi,Option.bind_some,Yl (show i < 9223372036854775807 by omega)]
  have hin' : ZH (XS (m : Int) data cs ps[i]) ([],0) = some (tab data.length fun q=>Z7 m (TV data cs q) ps[i]):=hin
  rw [hin']
  simp only [Option.bind_some]
  rw [Yv (by simp; omega)]
  simp only [Option.bind_some]
  rw [List.take_succ_eq_append_getElem hi,List.map_append]
  rfl) (by unfold XT; simp)
 have h3 : ZH (XT (m : Int) data cs ps) (0,[]) = _:=h
 rw [h3]; rfl
theorem z2 (data : List UInt8) (cs : List (List UInt8)) (ps : List UInt8) (hd : data.length ≤ 100) (hc : T6 cs data.length = true) (hp : ps.length ≤ 12) :
  Ul (m : Int) data cs ps = some (ps.map (TO m data cs)):=by
 unfold T6 at hc
 simp only [Bool.and_eq_true,decide_eq_true_eq,List.all_eq_true,beq_iff_eq] at hc
 obtain ⟨hc1,hc2⟩:=hc
 unfold Ul
 have h:=Yq (f:=Vs (m : Int) data cs ps) (fun i : Nat=>((i : Int),(ps.take i).map (TO m data cs))) 0 ps.length (Nat.zero_le _) (t:=ps.map (TO m data cs)) (fun i _ hi=>by
  unfold Vs
  have hin:=Yq (f:=VD (m : Int) data cs ps ((i : Int),(ps.take i).map (TO m data cs))) (fun j : Nat=>((tab data.length fun q=>Z7 m (TV data cs q) ps[i]).take j,(j : Int))) 0 data.length (Nat.zero_le _) (t:=tab data.length fun q=>Z7 m (TV data cs q) ps[i]) (fun j _ hj=>by
   unfold VD
   have hin2:=Yq (f:=Vz cs ((tab data.length fun q=>Z7 m (TV data cs q) ps[i]).take j,(j : Int))) (fun k : Nat=>([data.getD j 0] ++ (cs.take k).map (·.getD j 0),(k : Int))) 0 cs.length (Nat.zero_le _) (t:=TV data cs j) (fun k _ hk=>by
    unfold Vz
    have hl:=hc2 cs[k] (List.getElem_mem hk)
    have hj' : j < cs[k].length:=by omega
    simp only [Int.ofNat_lt,hk,decide_true,if_true,ZC,List.getElem?_eq_getElem hk,Option.bind_some,List.getElem?_eq_getElem hj',Yl (show k < 9223372036854775807 by omega)]
    rw [Yv (by simp; omega)]
    simp only [Option.bind_some]
    rw [List.take_succ_eq_append_getElem hk,List.map_append,List.append_assoc]
    simp [List.getD_eq_getElem?_getD,List.getElem?_eq_getElem hj']) (by unfold Vz; simp [TV])
   have hg : data[j]? = some (data.getD j 0):=Ut hj
   simp only [Int.ofNat_lt,hj,decide_true,if_true,ZC,hg,Option.bind_some,Yl (show j < 9223372036854775807 by omega)]
   have hin2' : ZH (Vz cs ((tab data.length fun q=>Z7 m (TV data cs q) ps[i]).take j,(j : Int))) ([data.getD j 0],0) = some (TV data cs j):=hin2
   rw [hin2']
   simp only [Option.bind_some,List.getElem?_eq_getElem hi]
   rw [zo h1 h2 _ _ (by simp [TV]; omega)]
   simp only [Option.bind_some]
   rw [Yv (by simp; omega)]
   simp only [Option.bind_some]
   rw [ja _ _ hj]) (by unfold VD; simp [List.take_of_length_le])
  simp only [Int.ofNat_lt,hi,decide_true,if_true,ZC,List.getElem?_eq_getElem hi,Option.bind_some,Yl (show i < 9223372036854775807 by omega)]
  have hin' : ZH (VD (m : Int) data cs ps ((i : Int),(ps.take i).map (TO m data cs))) ([],0) = some (tab data.length fun q=>Z7 m (TV data cs q) ps[i]):=hin
  rw [hin']
  simp only [Option.bind_some]
  rw [Yv (by simp; omega)]
  simp only [Option.bind_some]
  rw [List.take_succ_eq_append_getElem hi,List.map_append]
  rfl) (by unfold Vs; simp)
 have h3 : ZH (Vs (m : Int) data cs ps) (0,[]) = _:=h
 rw [h3]; rfl
end
def Kq (m : Int) (l : List GShare) (cs : List (List UInt8)) : List GShare × Int :=
 if YJ m l 1 != 0 then ([],YJ m l 1) else if T6 cs (dataN l) = false then ([],2) else (jD l ((ZU l).map (TO m.toNat (List.replicate (dataN l) 0) cs)),0)
theorem AM {m : Nat} {l : List GShare} (cs : List (List UInt8)) (g : Good l) :
  l.length = ((ZU l).map (TO m (List.replicate (dataN l) 0) cs)).length ∧ l.length ≤ 13 ∧ ∀ i (h1 : i < l.length) (h2 : i < ((ZU l).map (TO m (List.replicate (dataN l) 0) cs)).length),l[i].Data.length = ((ZU l).map (TO m (List.replicate (dataN l) 0) cs))[i].Data.length ∧ l[i].Data.length ≤ 100:=by
 refine ⟨by simp [Vd],g.len.2,fun i h1 h2=>⟨?_,(g.share _ (List.getElem_mem h1)).2⟩⟩
 rw [g.at h1]
 simp [TO,dataN]
theorem Ay {l : List GShare} (h : Yo l = 0) : l.length ≤ 12:=by
 unfold Yo at h
 cases h1 : l.all Yf with
 | false=>simp [h1] at h
 | true =>
  cases h2 : WM (l.map (·.Place)) with
  | false=>simp [h1,h2] at h
  | true =>
   by_cases h3 : l.length < 1 ∨ 12 < l.length
   ·rw [h1,h2,if_neg (by simp),if_neg (by simp),if_pos h3] at h; cases h
   ·omega
theorem Jq (m : Int) (l : List GShare) (cs : List (List UInt8)) (hl : Wt.wt l ≤ 1048576) (hc : Wt.wt cs ≤ 1048576) : Wr m l cs = some (Kq m l cs):=by
 have hll:=JA l
 have hcl:=JA cs
 unfold Wr Kq
 rw [BF m l 1 (by omega)]
 by_cases hb : YJ m l 1 = 0
 ·obtain ⟨hf,g,_,_⟩:=UH hb
  obtain ⟨n,rfl,h1,h2⟩:=XD hf
  have h0 : 0 < l.length:=g.len.1
  have hd0 : l[0].Data.length = dataN l:=g.at h0
  have hdn : dataN l ≤ 100:=by rw [← hd0]; exact (g.share _ (List.getElem_mem h0)).2
  have h12:=g.len.2
  have hp12 : (ZU l).length ≤ 12:=by
   have hcode : Yo l = 0:=by unfold YJ at hb; rw [hf] at hb; simpa using hb
   rw [Vd]
   exact Ay hcode
  simp only [hb,Option.bind_some,idx0 l h0,hd0,kA cs (dataN l) (by omega),bne_self_eq_false,Bool.false_eq_true,if_false,BEq.rfl,if_true]
  cases hL : T6 cs (dataN l) with
  | false=>simp
  | true =>
   obtain ⟨o1,o2,o3⟩:=AM (m:=n) cs g
   simp only [Bool.not_true,Option.bind_some,Bool.false_eq_true,if_false,Hx (show dataN l ≤ 140737488355328 by omega),Ja l (by omega),bne_self_eq_false,reduceCtorEq]
   rw [z2 h1 h2 _ cs (ZU l) (by simpa using hdn) (by simpa using hL) hp12]
   simp only [Option.bind_some]
   rw [jk l _ o1 o2 o3]
   rfl
 ·have e1 : (YJ m l 1 == 0) = false:=by simpa using hb
  have e2 : (YJ m l 1 != 0) = true:=by simpa using hb
  simp only [Option.bind_some,e1,e2,Bool.false_eq_true,if_false,if_true]
theorem Jm (m : Int) (l : List GShare) (cs : List (List UInt8)) (hl : Wt.wt l ≤ 1048576) (hc : Wt.wt cs ≤ 1048576) : Wv m l cs = some (Kq m l cs):=by
 have hll:=JA l
 have hcl:=JA cs
 unfold Wv Kq
 rw [UF m l 1 (by omega)]
 by_cases hb : YJ m l 1 = 0
 ·obtain ⟨hf,g,_,_⟩:=UH hb
  obtain ⟨n,rfl,h1,h2⟩:=XD hf
  have h0 : 0 < l.length:=g.len.1
  have hd0 : l[0].Data.length = dataN l:=g.at h0
  have hdn : dataN l ≤ 100:=by rw [← hd0]; exact (g.share _ (List.getElem_mem h0)).2
  have hp12 : (ZU l).length ≤ 12:=by
   have hcode : Yo l = 0:=by unfold YJ at hb; rw [hf] at hb; simpa using hb
   rw [Vd]
   exact Ay hcode
  simp only [hb,Option.bind_some,idx0 l h0,hd0,BD cs (dataN l) (by omega),bne_self_eq_false,Bool.false_eq_true,if_false]
  cases hL : T6 cs (dataN l) with
  | false=>simp
  | true =>
   obtain ⟨o1,o2,o3⟩:=AM (m:=n) cs g
   have hpl : YP l = some (ZU l):=KE l (by omega)
   simp only [Bool.not_true,Option.bind_some,Bool.false_eq_true,if_false,Hx (show dataN l ≤ 140737488355328 by omega),hpl,reduceCtorEq]
   rw [Zbq h2 _ cs (ZU l) (by simpa using hdn) (by simpa using hL) hp12]
   simp only [Option.bind_some]
   rw [kN l _ o1 o2 o3]
   rfl
 ·have e2 : (YJ m l 1 != 0) = true:=by simpa using hb
  simp only [Option.bind_some,e2,if_true]
theorem jM (m : Int) (l : List GShare) (cs : List (List UInt8)) : Wt.wt (Kq m l cs).1 ≤ Wt.wt l:=by
 unfold Kq
 have h0 : Wt.wt ([] : List GShare) = 0:=rfl
 split
 ·rw [h0]; omega
 ·split
  ·rw [h0]; omega
  ·exact kI l _
def powP (m : Nat) : Nat → Nat → Nat → Nat → Nat
 | 0,_,_,o=>o
 | f + 1,a,k,o=>if k = 0 then o else powP m f (opP m 8 a a) (k / 2) (if k % 2 = 1 then opP m 8 a o else o)
theorem kZ {m : Nat} (h1 : 256 ≤ m) (h2 : m < 512) : ∀ (f k : Nat) (a o : UInt8),(JZ m f a k o).toNat = powP m f a.toNat k o.toNat
 | 0,_,_,_=>rfl
 | f + 1,k,a,o=>by
  unfold JZ powP
  by_cases h : k = 0
  ·rw [if_pos h,if_pos h]
  ·rw [if_neg h,if_neg h,kZ h1 h2 f,Wk m h1 h2]
   by_cases hk : k % 2 = 1
   ·rw [if_pos hk,if_pos hk,Wk m h1 h2]
   ·rw [if_neg hk,if_neg hk]
def jv (m g : Nat) : Nat → Nat → List Nat
 | 0,_=>[]
 | n + 1,x=>x :: jv m g n (opP m 8 g x)
def orP (l : List Nat) (acc : Nat) : Nat:=l.foldl (fun acc p=>acc ||| (1 <<< p)) acc
def qV (m g : Nat) : Bool:=opP m 8 (powP m 8 g 254 1) g == 1 && decide (g < 256) && orP (jv m g 255 1) 0 == 2 ^ 256 - 2
def gens : List (Nat × Nat):=[(283,3),(285,2),(299,2),(301,2),(313,3),(319,3),(333,2),(351,2),(355,2),(357,2),(361,2),(369,2),(375,3),(379,9),(391,2),(395,6),(397,2),(415,3),(419,3),(425,2),(433,6),(445,7),(451,2),(463,2),(471,7),(477,6),(487,2),(499,6),(501,2),(505,3)]
theorem kw : (gens.all fun q=>qV q.1 q.2) = true:=by decide +kernel
theorem Zan : ((List.range' 256 256).all fun m=>(List.range' 2 30).any (HO m) || gens.any fun q=>q.1 == m) = true:=by decide +kernel
theorem Za4 : ((List.range' 1 255).all fun a=>(2 ^ 256 - 2).testBit a) = true:=by decide +kernel
theorem kR : ∀ (l : List Nat) (acc a : Nat),(orP l acc).testBit a = true → acc.testBit a = true ∨ a ∈ l
 | [],_,_,h=>.inl h
 | p :: l,acc,a,h=>by
  rcases kR l (acc ||| (1 <<< p)) a h with h | h
  ·rw [Nat.testBit_or,Nat.one_shiftLeft,Nat.testBit_two_pow,Bool.or_eq_true] at h
   rcases h with h | h
   ·exact .inl h
   ·exact .inr (by rw [← of_decide_eq_true h]; exact List.mem_cons_self)
  ·exact .inr (List.mem_cons_of_mem _ h)
theorem zT {m : Nat} (h1 : 256 ≤ m) (h2 : m < 512) (g : UInt8) (hg : Zz m g (Qy m g) = 1) : ∀ (n : Nat) (x : UInt8),Zz m x (Qy m x) = 1 → ∀ y ∈ jv m g.toNat n x.toNat,∃ z : UInt8,y = z.toNat ∧ Zz m z (Qy m z) = 1
 | 0,_,_,_,hy=>by cases hy
 | n + 1,x,hx,y,hy=>by
  rw [jv] at hy
  rcases List.mem_cons.1 hy with rfl | hy
  ·exact ⟨x,rfl,hx⟩
  ·rw [← Wk m h1 h2] at hy
   refine zT h1 h2 g hg n (Zz m x g) ?_ y hy
   rw [yj h1 h2,QF h1 h2,hx,hg,T8 h1 h2]
theorem zR {m : Nat} (hf : ZV (m : Int) = true) {a : UInt8} (ha : a ≠ 0) : Zz m a (Qy m a) = 1:=by
 obtain ⟨m',e,h1,h2⟩:=XD hf
 have e : m = m':=by omega
 subst e
 have h:=List.all_eq_true.1 Zan m (List.mem_range'_1.2 (by omega))
 have hr : (List.range' 2 30).any (HO m) = false:=by
  unfold ZV at hf
  simp only [Bool.and_eq_true,Int.toNat_natCast] at hf
  simpa using hf.2
 rw [hr,Bool.false_or] at h
 obtain ⟨q,hq,hm⟩:=List.any_eq_true.1 h
 have hm : q.1 = m:=by simpa using hm
 have hc:=List.all_eq_true.1 kw q hq
 rw [hm] at hc
 unfold qV at hc
 simp only [Bool.and_eq_true,beq_iff_eq,decide_eq_true_eq] at hc
 obtain ⟨⟨c1,c2⟩,c3⟩:=hc
 have eg : (UInt8.ofNat q.2).toNat = q.2:=by simp only [UInt8.toNat_ofNat']; omega
 have hg : Zz m (UInt8.ofNat q.2) (Qy m (UInt8.ofNat q.2)) = 1:=by
  apply UInt8.toNat_inj.1
  rw [Wk m h1 h2]
  unfold Qy
  rw [kZ h1 h2,eg]
  exact c1
 have ha0 : a.toNat ≠ 0:=fun e=>ha (UInt8.toNat_inj.1 (by rw [e]; rfl))
 have hlt:=a.toNat_lt
 have hb:=List.all_eq_true.1 Za4 a.toNat (List.mem_range'_1.2 (by omega))
 rw [← c3] at hb
 rcases kR _ _ _ hb with h | h
 ·simp at h
 ·have h : a.toNat ∈ jv m (UInt8.ofNat q.2).toNat 255 (1 : UInt8).toNat:=by rw [eg]; exact h
  obtain ⟨z,hz,hzg⟩:=zT h1 h2 _ hg 255 1 (by rw [kK h1 h2,T8 h1 h2]) _ h
  have : a = z:=UInt8.toNat_inj.1 hz
  rw [this]; exact hzg


theorem kk {a b : UInt8} (h : a ≠ b) : a ^^^ b ≠ 0:=fun e=>h (by
 have : (a ^^^ b) ^^^ b = 0 ^^^ b:=by rw [e]
 rwa [UInt8.xor_assoc,UInt8.xor_self,UInt8.xor_zero,UInt8.zero_xor] at this)
theorem jp {m : Nat} (hf : ZV (m : Int) = true) (h1 : 256 ≤ m) (h2 : m < 512) {a b : UInt8} (ha : a ≠ 0) (h : Zz m a b = 0) : b = 0:=by
 have e : Zz m (Zz m (Qy m a) a) b = b:=by rw [Xn h1 h2 (Qy m a) a,zR hf ha,T8 h1 h2]
 rw [Y3 h1 h2,h,Xn h1 h2,UX h1 h2] at e
 exact e.symm
def Ts (m : Nat) : Nat → (UInt8 → UInt8) → Prop
 | 0,g=>∀ x,g x = 0
 | n + 1,g=>∃ c h,Ts m n h ∧ ∀ x,g x = c ^^^ Zz m x (h x)
theorem Jc {m n : Nat} {g g' : UInt8 → UInt8} (h : ∀ x,g x = g' x) (hg : Ts m n g) : Ts m n g':=by
 have : g = g':=funext h
 exact this ▸ hg
section
variable {m : Nat} (h1 : 256 ≤ m) (h2 : m < 512)
include h1 h2
theorem Up (a : UInt8) : Zz m a 0 = 0:=by rw [Xn h1 h2,UX h1 h2]
theorem JO : ∀ n,Ts m n (fun _=>0)
 | 0=>fun _=>rfl
 | n + 1=>⟨0,fun _=>0,JO n,fun x=>by rw [Up h1 h2]; rfl⟩
theorem HZ : ∀ {n : Nat} {g g' : UInt8 → UInt8},Ts m n g → Ts m n g' → Ts m n (fun x=>g x ^^^ g' x)
 | 0,_,_,a,b=>fun x=>by show _ ^^^ _ = (0 : UInt8); rw [a x,b x]; rfl
 | n + 1,_,_,⟨c,h,ph,e⟩,⟨c',h',ph',e'⟩=>⟨c ^^^ c',fun x=>h x ^^^ h' x,HZ ph ph',fun x=>by dsimp only; rw [e x,e' x,Qb h1 h2]; ac_rfl⟩
theorem Hy (k : UInt8) : ∀ {n : Nat} {g : UInt8 → UInt8},Ts m n g → Ts m n (fun x=>Zz m k (g x))
 | 0,_,a=>fun x=>by show Zz m k _ = 0; rw [a x,Up h1 h2]
 | n + 1,_,⟨c,h,ph,e⟩=>⟨Zz m k c,fun x=>Zz m k (h x),Hy k ph,fun x=>by dsimp only; rw [e x,Qb h1 h2,← Y3 h1 h2,← Y3 h1 h2,Xn h1 h2 k x]⟩
theorem jX (k : UInt8) (n : Nat) : Ts m (n + 1) (fun _=>k):=⟨k,fun _=>0,JO h1 h2 n,fun x=>by rw [Up h1 h2,UInt8.xor_zero]⟩
theorem yl : ∀ {n : Nat} {g : UInt8 → UInt8},Ts m n g → Ts m (n + 1) g
 | 0,_,a=>Jc (fun x=>(a x).symm) (JO h1 h2 1)
 | n + 1,_,⟨c,h,ph,e⟩=>⟨c,h,yl ph,e⟩
theorem jZ {n : Nat} {g : UInt8 → UInt8} (hg : Ts m n g) (p : UInt8) : Ts m (n + 1) (fun x=>Zz m (g x) (x ^^^ p)) :=
 Jc (fun x=>by rw [Qb h1 h2,Xn h1 h2 (g x) x,Xn h1 h2 (g x) p]) (HZ h1 h2 (g:=fun x=>Zz m x (g x)) (g':=fun x=>Zz m p (g x)) ⟨0,g,hg,fun x=>(UInt8.zero_xor).symm⟩ (yl h1 h2 (Hy h1 h2 p hg)))
theorem yU : ∀ {n : Nat} {g : UInt8 → UInt8},Ts m (n + 1) g → ∀ a,∃ q,Ts m n q ∧ ∀ x,g x = g a ^^^ Zz m (x ^^^ a) (q x)
 | 0,g,⟨c,h,ph,e⟩,a=>⟨fun _=>0,fun _=>rfl,fun x=>by rw [e x,e a,ph x,ph a,Up h1 h2,Up h1 h2,Up h1 h2,UInt8.xor_zero,UInt8.xor_zero]⟩
 | n + 1,g,⟨c,h,ph,e⟩,a=>by
  obtain ⟨q,pq,eq⟩:=yU ph a
  refine ⟨fun x=>h a ^^^ Zz m x (q x),⟨h a,q,pq,fun _=>rfl⟩,fun x=>?_⟩
  have e3 : Zz m x (Zz m (x ^^^ a) (q x)) = Zz m (x ^^^ a) (Zz m x (q x)):=by rw [← Y3 h1 h2,← Y3 h1 h2,Xn h1 h2 x]
  have e4 : Zz m (x ^^^ a) (h a) = Zz m x (h a) ^^^ Zz m a (h a):=JN h1 h2 _ _ _
  rw [e x,e a,eq x,Qb h1 h2,e3]
  show _ = (c ^^^ Zz m a (h a)) ^^^ Zz m (x ^^^ a) (h a ^^^ Zz m x (q x))
  rw [Qb h1 h2,e4]
  generalize Zz m a (h a) = A
  generalize Zz m x (h a) = X
  generalize Zz m (x ^^^ a) (Zz m x (q x)) = Q
  have : (c ^^^ A) ^^^ ((X ^^^ A) ^^^ Q) = (c ^^^ (X ^^^ Q)) ^^^ (A ^^^ A):=by ac_rfl
  rw [this,UInt8.xor_self,UInt8.xor_zero]
theorem ya (hf : ZV (m : Int) = true) : ∀ (l : List UInt8) {g : UInt8 → UInt8},Ts m l.length g → l.Nodup → (∀ p ∈ l,g p = 0) → ∀ x,g x = 0
 | [],_,a,_,_=>a
 | p :: l,g,a,hn,hz=>by
  obtain ⟨q,pq,eq⟩:=yU h1 h2 a p
  have hp : g p = 0:=hz p (List.mem_cons_self ..)
  rw [List.nodup_cons] at hn
  have hq:=ya hf l pq hn.2 (fun y hy=>by
   have:=eq y
   rw [hz y (List.mem_cons_of_mem _ hy),hp,UInt8.zero_xor] at this
   exact jp hf h1 h2 (kk (a:=y) (b:=p) fun e=>hn.1 (e ▸ hy)) this.symm)
  intro x
  rw [eq x,hp,hq x,Up h1 h2]; rfl
end
theorem Zp {α β : Type} {o : Option α} {f : α → Option β} {P : α → Prop} {Q : β → Prop} (h : ∃ r,o = some r ∧ P r) (k : ∀ r,P r → ∃ q,f r = some q ∧ Q q) : ∃ q,(o.bind f) = some q ∧ Q q:=by
 obtain ⟨r,e,hr⟩:=h
 rw [e,Option.bind_some]
 exact k r hr
theorem Qk {α β : Type} {x : α} {f : α → Option β} {Q : β → Prop} (k : ∃ q,f x = some q ∧ Q q) : ∃ q,((some x).bind f) = some q ∧ Q q:=k
theorem YE {β : Type} {c : Prop} [Decidable c] {a b : Option β} {Q : β → Prop} (h1 : c → ∃ q,a = some q ∧ Q q) (h2 : ¬ c → ∃ q,b = some q ∧ Q q) : ∃ q,(if c then a else b) = some q ∧ Q q:=by
 by_cases h : c
 ·rw [if_pos h]; exact h1 h
 ·rw [if_neg h]; exact h2 h
theorem VU {σ ρ : Type} {f : σ → Option (Fl σ ρ)} (I : Nat → σ → Prop) {R : ρ → Prop} (n : Nat) (h : ∀ i s,i < n → I i s → ∃ q,f s = some q ∧ ∃ s',q = .nx s' ∧ I (i + 1) s') (he : ∀ s,I n s → ∃ q,f s = some q ∧ ∃ r,q = .ex r ∧ R r) :
  ∀ (k i : Nat) (s : σ),i + k = n → I i s → ∃ r,ZH f s = some r ∧ R r
 | 0,i,s,hk,hi=>by
  have : i = n:=by omega
  subst this
  obtain ⟨q,e,r,rfl,hr⟩:=he s hi
  exact ⟨r,Yi e,hr⟩
 | k + 1,i,s,hk,hi=>by
  obtain ⟨q,e,s',rfl,hs⟩:=h i s (by omega) hi
  rw [Xr e]
  exact VU I n h he k (i + 1) s' (by omega) hs
theorem Xe {α : Type} (l : List α) {i : Int} (h : 0 ≤ i ∧ i < l.length) : ∃ x,idx l i = some x ∧ x ∈ l:=by
 obtain ⟨k,rfl⟩:=Int.eq_ofNat_of_zero_le h.1
 have hk : k < l.length:=by omega
 exact ⟨l[k],by rw [ZC,List.getElem?_eq_getElem hk],List.getElem_mem hk⟩
def YX (s : Int × Int) : Prop:=0 ≤ s.1 ∧ s.1 ≤ 4096
section
variable {p : List UInt8} (hp : p.length ≤ 4096) {s : Int × Int} (hs : YX s)
theorem AO (a : BitVec 64) : ∃ m : Nat,m ≤ 16777215 ∧ IntKind.i64.wrap (wru (a &&& BitVec.ofInt 64 16777215).toNat) = (m : Int):=by
 have h : (a &&& BitVec.ofInt 64 16777215).toNat ≤ 16777215:=by
  rw [BitVec.toNat_and]
  exact Nat.le_trans Nat.and_le_right (by decide)
 refine ⟨_,h,?_⟩
 generalize (a &&& BitVec.ofInt 64 16777215).toNat = m at *
 have e : wru (m : Int) = (m : Int):=kE m (by omega)
 rw [e]
 exact YM (by omega)
include hp hs
theorem Yu {n : Int} (hn : 1 ≤ n) : ∃ r,Zw p s n = some r ∧ (YX r.1 ∧ 0 ≤ r.2 ∧ r.2 < n):=by
 unfold Zw
 obtain ⟨m,hm,em⟩:=AO (BitVec.ofInt 64 (YD (IntKind.u64.wrap ((IntKind.u64.wrap (s.2 * 6364136223846793005)) + 1442695040888963407)) 33))
 rw [em]
 have hz : TB n = some ():=by unfold TB; rw [if_pos (by omega)]
 obtain ⟨h1,h2⟩:=hs
 rw [if_neg (by simp only [decide_eq_true_eq]; omega)]
 refine Zp (P:=fun j=>(0 ≤ j.1 ∧ j.1 ≤ 4096) ∧ 0 ≤ j.2) (Qk (YE (fun hc=>?_) (fun _=>⟨_,rfl,⟨h1,h2⟩,by omega⟩))) fun j hj=>?_
 ·have hc : s.1 < (p.length : Int):=of_decide_eq_true hc
  refine Zp (P:=fun x=>0 ≤ x) (Zp (Xe p ⟨h1,hc⟩) fun x _=>⟨_,rfl,?_⟩) fun x hx=>⟨_,rfl,?_,hx⟩
  ·have hb:=x.toNat_lt
   show 0 ≤ wr ((m : Int) + (x.toNat : Int))
   rw [YM (by omega)]; omega
  ·show 0 ≤ wr (s.1 + 1) ∧ wr (s.1 + 1) ≤ 4096
   rw [YM (by omega)]; omega
 ·rw [hz]
  refine ⟨_,rfl,hj.1,?_,?_⟩
  ·exact Int.tmod_nonneg _ hj.2
  ·exact Int.tmod_lt_of_pos _ (by omega)
theorem V3 {l : List Int} (hl : 1 ≤ l.length) : ∃ r,Ya p s l = some r ∧ (YX r.1 ∧ r.2 ∈ l):=by
 unfold Ya
 exact Zp (Yu hp hs (by omega)) fun r hr=>Zp (Xe l hr.2) fun x hx=>⟨_,rfl,hr.1,hx⟩
theorem Kt : ∃ r,YB p s = some r ∧ YX r.1:=by
 unfold YB
 exact Zp (Yu hp hs (by omega)) fun r hr=>Zp (Yu hp hr.1 (by omega)) fun r hr=>Zp (Yu hp hr.1 (by omega)) fun r hr=>Zp (V3 hp hr.1 (by simp)) fun r hr=>⟨_,rfl,hr.1⟩
end
theorem QP {p : List UInt8} (hp : p.length ≤ 4096) : ∃ r,Y1 p = some r ∧ YX r:=by
 unfold Y1
 refine Zp (P:=fun _=>True) (VU (fun i t=>t.2 = (i : Int)) p.length (fun i t hi ht=>?_) (fun t ht=>?_) p.length 0 _ (by omega) rfl) fun j _=>⟨_,rfl,by show (0 : Int) ≤ 0; omega,by show (0 : Int) ≤ 4096; omega⟩
 ·unfold TI
  rw [if_pos (by simp only [decide_eq_true_eq]; omega)]
  have h1 : decide (t.2 < 4096) = true:=by simp only [decide_eq_true_eq]; omega
  rw [h1]
  exact Qk (YE (fun _=>Zp (Xe p (by omega)) fun x _=>⟨_,rfl,_,rfl,by show wr (t.2 + 1) = _; rw [ht,YM (by omega)]; omega⟩) fun h=>absurd rfl h)
 ·unfold TI
  rw [if_neg (by simp only [decide_eq_true_eq]; omega)]
  exact ⟨_,rfl,_,rfl,trivial⟩

theorem jR : ∃ r,Uo = some r ∧ (1 ≤ r.length ∧ ∀ x ∈ r,ZV x = true):=by
 unfold Uo
 have h285 : ZV 285 = true:=by decide +kernel
 refine Zp (VU (fun i t=>t.2 = ((256 + i : Nat) : Int) ∧ t.1.length ≤ i ∧ (29 < i → 1 ≤ t.1.length) ∧ ∀ x ∈ t.1,ZV x = true) 256 (fun i t hi ht=>?_) (fun t ht=>?_) 256 0 _ rfl ⟨rfl,Nat.zero_le _,fun h=>absurd h (by omega),fun x hx=>by cases hx⟩) fun j hj=>⟨_,rfl,hj⟩
 ·obtain ⟨t1,t2,t3,t4⟩:=ht
  unfold UR
  rw [if_pos (by simp only [decide_eq_true_eq]; omega),KF,Option.bind_some]
  have e1 : wr (t.2 + 1) = ((256 + (i + 1) : Nat) : Int):=by rw [t1,YM (by omega)]; omega
  cases hf : ZV t.2
  ·refine ⟨_,rfl,_,rfl,e1,by show t.1.length ≤ i + 1; omega,fun h=>?_,t4⟩
   refine t3 ?_
   rcases Nat.lt_or_ge 29 i with h5 | h5
   ·exact h5
   ·have : i = 29:=by omega
    subst this
    rw [t1] at hf
    exact absurd h285 (by rw [show (285 : Int) = ((256 + 29 : Nat) : Int) from rfl,hf]; decide)
  ·have ha : app 8 t.1 ([t.2] : List Int) = _:=Yv (by simp only [List.length_singleton]; omega)
   rw [if_pos rfl,ha]
   refine ⟨_,rfl,_,rfl,e1,by show (t.1 ++ [t.2]).length ≤ i + 1; simp; omega,fun _=>by show 1 ≤ (t.1 ++ [t.2]).length; simp,fun x hx=>?_⟩
   rcases List.mem_append.1 hx with h | h
   ·exact t4 x h
   ·rw [List.mem_singleton.1 h]; exact hf
 ·obtain ⟨t1,t2,t3,t4⟩:=ht
  unfold UR
  rw [if_neg (by simp only [decide_eq_true_eq]; omega)]
  exact ⟨_,rfl,_,rfl,t3 (by omega),t4⟩
section
variable {p : List UInt8} (hp : p.length ≤ 4096) {s : Int × Int} (hs : YX s)
include hp hs
theorem zQ : ∃ r,XV p s = some r ∧ (YX r.1 ∧ ZV r.2 = true):=by
 unfold XV
 have h285 : ZV 285 = true:=by decide +kernel
 refine Zp jR fun l hl=>Zp (P:=fun j=>YX (j.1,j.2.1) ∧ ZV j.2.2 = true) ?_ fun j hj=>⟨_,rfl,hj⟩
 refine Zp (Yu hp hs (by omega)) fun r hr=>Zp (Xe l hr.2) fun x hx=>Zp (Yu hp hr.1 (by omega)) fun r hr=>Zp (Xe l hr.2) fun y hy=>Zp (V3 hp hr.1 (by simp)) fun r hr=>⟨_,rfl,hr.1,?_⟩
 show ZV r.2 = true
 have:=hr.2
 simp only [List.mem_cons,List.not_mem_nil,or_false] at this
 rcases this with e | e | e <;> rw [e]
 ·exact h285
 ·exact hl.2 x hx
 ·exact hl.2 y hy
end

theorem Zb8 {p : List UInt8} (hn : p.Nodup) {i j : Nat} (hi : i < p.length) (hj : j < p.length) (h : i ≠ j) : p.getD i 0 ≠ p.getD j 0:=by
 rw [List.getD_eq_getElem?_getD,List.getD_eq_getElem?_getD,List.getElem?_eq_getElem hi,List.getElem?_eq_getElem hj]
 exact fun e=>h (JR hn hi hj e)
section
variable {m : Nat} (h1 : 256 ≤ m) (h2 : m < 512)
include h1 h2
theorem jt (p : List UInt8) (i : Nat) : ∀ k,Ts m (if i < k then k else k + 1) (fun x=>KZ m p x i k)
 | 0=>jX h1 h2 1 0
 | k + 1=>by
  have ih:=jt p i k
  by_cases h : k = i
  ·subst h
   rw [if_pos (by omega)]
   rw [if_neg (by omega)] at ih
   exact Jc (fun x=>by unfold KZ; rw [if_pos rfl]; cases k <;> rfl) ih
  ·have:=jZ h1 h2 ih (p.getD k 0)
   have e : (if i < k then k else k + 1) + 1 = if i < k + 1 then k + 1 else k + 1 + 1:=by
    by_cases c : i < k
    ·rw [if_pos c,if_pos (by omega)]
    ·rw [if_neg c,if_neg (by omega)]
   rw [← e]
   exact Jc (fun x=>by rw [KZ,if_neg h]) this
theorem jJ (p v : List UInt8) : ∀ i,i ≤ p.length → Ts m p.length (fun x=>T9 m p v x i)
 | 0,_=>JO h1 h2 _
 | i + 1,h=>by
  have hn:=jt h1 h2 p i p.length
  rw [if_pos (by omega)] at hn
  exact Jc (fun x=>by rw [T9,Xn h1 h2 (KZ m p x i p.length)]) (HZ h1 h2 (jJ p v i (by omega)) (Hy h1 h2 (z1 m p v i) hn))
theorem AW {p : List UInt8} {i j : Nat} (hij : i ≠ j) : ∀ k,j < k → KZ m p (p.getD j 0) i k = 0
 | k + 1,h=>by
  unfold KZ
  by_cases c : k = i
  ·rw [if_pos c]; exact AW hij k (by omega)
  ·rw [if_neg c]
   by_cases d : k = j
   ·subst d; rw [UInt8.xor_self,Up h1 h2]
   ·rw [AW hij k (by omega),UX h1 h2]
omit h1 h2 in
theorem qg (p : List UInt8) (i : Nat) : ∀ k,KZ m p (p.getD i 0) i k = K2 m p i k
 | 0=>rfl
 | k + 1=>by
  unfold KZ K2
  rw [qg p i k]
theorem kr (hf : ZV (m : Int) = true) {p : List UInt8} (hn : p.Nodup) {i : Nat} (hi : i < p.length) : ∀ k,k ≤ p.length → K2 m p i k ≠ 0
 | 0,_=>by unfold K2; decide
 | k + 1,h=>by
  unfold K2
  by_cases c : k = i
  ·rw [if_pos c]; exact kr hf hn hi k (by omega)
  ·rw [if_neg c]
   exact fun e=>kk (Zb8 hn hi (by omega) (Ne.symm c)) (jp hf h1 h2 (kr hf hn hi k (by omega)) e)
theorem Zal (hf : ZV (m : Int) = true) {p : List UInt8} (hn : p.Nodup) (v : List UInt8) {j : Nat} (hj : j < p.length) : ∀ i,i ≤ p.length → T9 m p v (p.getD j 0) i = if j < i then v.getD j 0 else 0
 | 0,_=>by rw [if_neg (by omega)]; rfl
 | i + 1,h=>by
  unfold T9
  rw [Zal hf hn v hj i (by omega)]
  by_cases c : i = j
  ·subst c
   rw [if_neg (by omega),if_pos (by omega),qg,z1,Xn h1 h2 (v.getD i 0),← Y3 h1 h2,zR hf (kr h1 h2 hf hn (by omega) _ (Nat.le_refl _)),T8 h1 h2,UInt8.zero_xor]
  ·rw [AW h1 h2 c _ hj,UX h1 h2,UInt8.xor_zero]
   by_cases d : j < i
   ·rw [if_pos d,if_pos (by omega)]
   ·rw [if_neg d,if_neg (by omega)]
theorem Zbf (hf : ZV (m : Int) = true) {p : List UInt8} (hn : p.Nodup) {v : List UInt8} {g : UInt8 → UInt8} (hg : Ts m p.length g) (hv : ∀ j,j < p.length → v.getD j 0 = g (p.getD j 0)) (x : UInt8) : T9 m p v x p.length = g x:=by
 have h:=ya h1 h2 hf p (HZ h1 h2 (jJ h1 h2 p v _ (Nat.le_refl _)) hg) hn (fun q hq=>by
  obtain ⟨j,hj,rfl⟩:=List.getElem_of_mem hq
  have e : p[j] = p.getD j 0:=by rw [List.getD_eq_getElem?_getD,List.getElem?_eq_getElem hj]; rfl
  show T9 m p v p[j] p.length ^^^ g p[j] = 0
  rw [e,Zal h1 h2 hf hn v hj _ (Nat.le_refl _),if_pos hj,hv j hj,UInt8.xor_self]) x
 have h : T9 m p v x p.length ^^^ g x = 0:=h
 by_cases c : T9 m p v x p.length = g x
 ·exact c
 ·exact absurd h (kk c)
end

structure OnPoly (m t N : Nat) (l : List GShare) (g : Nat → UInt8 → UInt8) : Prop where
 deg : ∀ k,Ts m t (g k)
 data : ∀ s ∈ l,s.Data = tab N (fun k=>g k s.Place)
theorem qu (l : List GShare) {t : Nat} (h : 1 ≤ t) : (l.take t).headD default = l.headD default:=by
 cases l with
 | nil=>simp
 | cons x l=>cases t with
  | zero=>omega
  | succ t=>rfl
theorem jN (l : List GShare) {t : Nat} (h : 1 ≤ t) : dataN (l.take t) = dataN l:=by unfold dataN; rw [qu l h]
theorem OnPoly.dataN {m t N : Nat} {l : List GShare} {g : Nat → UInt8 → UInt8} (h : OnPoly m t N l g) (hl : 0 < l.length) : dataN l = N:=by
 cases l with
 | nil=>simp at hl
 | cons s l =>
  show s.Data.length = N
  rw [h.data s (List.mem_cons_self ..),yz]
section
variable {m : Nat} (h1 : 256 ≤ m) (h2 : m < 512)
include h1 h2
theorem OnPoly.at {t N : Nat} {l : List GShare} {g : Nat → UInt8 → UInt8} (hf : ZV (m : Int) = true) (h : OnPoly m t N l g) (gd : Good l) (ht : 1 ≤ t) (hl : t ≤ l.length) (x : UInt8) : atC m (l.take t) x = tab N fun k=>g k x:=by
 have hlen : (l.take t).length = t:=by rw [List.length_take]; omega
 have hnd : (ZU (l.take t)).Nodup:=(gd.take ht hl).diff
 unfold atC
 rw [jN l ht,h.dataN (by omega)]
 refine T4 fun k hk=>?_
 have hpl : (ZU (l.take t)).length = (l.take t).length:=Vd _
 rw [← hpl]
 refine Zbf h1 h2 hf hnd (by rw [hpl,hlen]; exact h.deg k) (fun j hj=>?_) x
 rw [hpl] at hj
 have hm : (l.take t)[j] ∈ l:=List.mem_of_mem_take (List.getElem_mem hj)
 rw [Hn _ hj,kT _ hj,h.data _ hm,List.getD_eq_getElem?_getD,Tf _ hk]
 rfl
end
theorem Te {k : Int} (h : 0 ≤ k) (h' : k ≤ 100000) : wr (k + 1) = k + 1:=YM (by omega)
theorem JJ {k : Int} (h : 0 ≤ k) (h' : k ≤ 100000) : wr (k - 1) = k - 1:=YM (by omega)
theorem BS {k : Int} (h : 0 < k) : (decide (k > 0)) = true:=by simpa using h
theorem AX {k : Int} (h : ¬ 0 < k) : ¬ (decide (k > 0)) = true:=by simpa using h
theorem Q0 {a b : Int} (h : a < b) : (decide (a < b)) = true:=by simpa using h
theorem J1 {a b : Int} (h : ¬ a < b) : ¬ (decide (a < b)) = true:=by simpa using h
section
variable {p : List UInt8} (hp : p.length ≤ 4096) {s : Int × Int} (hs : YX s)
include hp hs
theorem BT {n : Nat} (hn : n ≤ 1000) : ∃ r,Xm p s (n : Int) = some r ∧ (YX r.1 ∧ r.2.length ≤ n):=by
 unfold Xm
 have a5 : 0 ≤ (if (5 : Int) < (n : Int) then 5 else (n : Int)) ∧ (if (5 : Int) < (n : Int) then 5 else (n : Int)) ≤ n:=by split <;> omega
 have a40 : 0 ≤ (if (40 : Int) < (n : Int) then 40 else (n : Int)) ∧ (if (40 : Int) < (n : Int) then 40 else (n : Int)) ≤ n:=by split <;> omega
 rw [Te a5.1 (by omega),Te a40.1 (by omega),Te (k:=(n : Int)) (by omega) (by omega)]
 refine Zp (Yu hp hs (by omega)) fun r3 q3=>Zp (Yu hp q3.1 (by omega)) fun r5 q5=>Zp (Yu hp q5.1 (by omega)) fun r7 q7=>Zp (V3 hp q7.1 (by simp)) fun r q=>?_
 obtain ⟨k,ek,hk⟩ : ∃ k : Nat,r.2 = k ∧ k ≤ n:=by
  have h0:=q3.2; have h1:=q5.2; have h2:=q7.2
  have h3:=q.2
  simp only [List.mem_cons,List.not_mem_nil,or_false] at h3
  exact ⟨r.2.toNat,by rcases h3 with e | e | e <;> omega,by rcases h3 with e | e | e <;> omega⟩
 refine Zp (P:=fun j=>YX (j.1,j.2.1) ∧ j.2.2.length ≤ n) (VU (fun i t=>t.2.2.2 = ((k - i : Nat) : Int) ∧ t.2.2.1.length = i ∧ YX (t.1,t.2.1)) k (fun i t hi ht=>?_) (fun t ht=>?_) k 0 _ (by omega) ⟨ek,rfl,q.1⟩) fun j hj=>⟨_,rfl,hj⟩
 ·obtain ⟨t1,t2,t3⟩:=ht
  unfold VH
  rw [if_pos (BS (by omega))]
  refine Zp (Kt hp t3) fun r hr=>?_
  have ha : app 1 t.2.2.1 ([r.2] : List UInt8) = _:=Yv (by simp only [List.length_singleton]; omega)
  rw [ha]
  exact ⟨_,rfl,_,rfl,by show wr (t.2.2.2 - 1) = _; rw [t1,JJ (by omega) (by omega)]; omega,by simp; omega,hr⟩
 ·obtain ⟨t1,t2,t3⟩:=ht
  unfold VH
  rw [if_neg (AX (by omega))]
  exact ⟨_,rfl,_,rfl,t3,by show t.2.2.1.length ≤ n; omega⟩
theorem QK {n : Nat} (hn : n ≤ 1000) : ∃ r,Y9 p s (n : Int) = some r ∧ (YX r.1 ∧ r.2.length = n):=by
 unfold Y9
 refine Zp (P:=fun j=>YX (j.1,j.2.1) ∧ j.2.2.length = n) (VU (fun i t=>t.2.2.1 = ((n - i : Nat) : Int) ∧ t.2.2.2.length = i ∧ YX (t.1,t.2.1)) n (fun i t hi ht=>?_) (fun t ht=>?_) n 0 _ (by omega) ⟨rfl,rfl,hs⟩) fun j hj=>⟨_,rfl,hj⟩
 ·obtain ⟨t1,t2,t3⟩:=ht
  unfold UQ
  rw [if_pos (BS (by omega))]
  refine Zp (Kt hp t3) fun r hr=>?_
  have ha : app 1 t.2.2.2 ([r.2] : List UInt8) = _:=Yv (by simp only [List.length_singleton]; omega)
  rw [ha]
  exact ⟨_,rfl,_,rfl,by show wr (t.2.2.1 - 1) = _; rw [t1,JJ (by omega) (by omega)]; omega,by simp; omega,hr⟩
 ·obtain ⟨t1,t2,t3⟩:=ht
  unfold UQ
  rw [if_neg (AX (by omega))]
  exact ⟨_,rfl,_,rfl,t3,t2⟩
theorem jQ : ∃ r,Uv p s = some r ∧ YX r.1:=by
 unfold Uv
 exact Zp (Yu hp hs (by omega)) fun r hr=>YE (fun _=>Zp (V3 hp hr.1 (by simp)) fun r hr=>⟨_,rfl,hr.1⟩) (fun _=>Zp (zQ hp hr.1) fun r hr=>⟨_,rfl,hr.1⟩)
theorem Ax {n : Nat} (hn : n ≤ 1000) : ∃ r,XB p s (n : Int) = some r ∧ (YX r.1 ∧ r.2.length = n):=by
 unfold XB
 refine Zp (Yu hp hs (by omega)) fun r1 q1=>Zp (V3 hp q1.1 (by simp)) fun r5 q5=>?_
 refine Zp (P:=fun j=>j.length = n) (VU (fun i t=>t.2 = (i : Int) ∧ t.1.length = i) n (fun i t hi ht=>?_) (fun t ht=>?_) n 0 _ (by omega) ⟨rfl,rfl⟩) fun j hj=>?_
 ·obtain ⟨t1,t2⟩:=ht
  unfold Vm
  rw [if_pos (Q0 (by omega))]
  have ha : ∀ x,app 1 t.1 ([x] : List UInt8) = _:=fun x=>Yv (by simp only [List.length_singleton]; omega)
  rw [ha]
  exact ⟨_,rfl,_,rfl,by show wr (t.2 + 1) = _; rw [t1,Te (by omega) (by omega)]; omega,by simp; omega⟩
 ·obtain ⟨t1,t2⟩:=ht
  unfold Vm
  rw [if_neg (J1 (by omega))]
  exact ⟨_,rfl,_,rfl,t2⟩
 ·refine Zp (P:=fun k=>YX (k.1,k.2.1) ∧ k.2.2.length = n) (Zp (P:=fun k=>YX (k.1,k.2.1) ∧ (k.2.2 = true → 0 < n)) ?_ fun k hk=>YE (fun c=>?_) (fun _=>⟨_,rfl,hk.1,hj⟩)) fun k hk=>⟨_,rfl,hk⟩
  ·refine YE (fun c=>?_) (fun _=>⟨_,rfl,q5.1,fun h=>Bool.noConfusion (show false = true from h)⟩)
   have c : (n : Int) > 0:=of_decide_eq_true c
   exact Zp (Yu hp q5.1 (by omega)) fun r hr=>⟨_,rfl,hr.1,fun _=>by omega⟩
  ·have c:=hk.2 c
   rw [JJ (k:=(n : Int)) (by omega) (by omega)]
   refine Zp (Xe j (by omega)) fun x hx=>Zp (V3 hp hk.1 (by simp)) fun r hr=>Zp (Xe j (by omega)) fun y hy=>⟨_,rfl,hr.1,by show (j.set _ _).length = n; rw [List.length_set]; exact hj⟩
end
theorem kB {a b c d x : Int} {m : Nat} (h : x ∈ [a,b,c,d]) (ha : 0 ≤ a ∧ a ≤ m) (hb : 0 ≤ b ∧ b ≤ m) (hc : 0 ≤ c ∧ c ≤ m) (hd : 0 ≤ d ∧ d ≤ m) : ∃ k : Nat,x = k ∧ k ≤ m:=by
 simp only [List.mem_cons,List.not_mem_nil,or_false] at h
 exact ⟨x.toNat,by rcases h with e | e | e | e <;> omega,by rcases h with e | e | e | e <;> omega⟩
theorem BX {a b c x : Int} {m : Nat} (h : x ∈ [a,b,c]) (ha : 0 ≤ a ∧ a ≤ m) (hb : 0 ≤ b ∧ b ≤ m) (hc : 0 ≤ c ∧ c ≤ m) : ∃ k : Nat,x = k ∧ k ≤ m:=by
 simp only [List.mem_cons,List.not_mem_nil,or_false] at h
 exact ⟨x.toNat,by rcases h with e | e | e <;> omega,by rcases h with e | e | e <;> omega⟩
section
variable {p : List UInt8} (hp : p.length ≤ 4096)
include hp
variable {s : Int × Int} (hs : YX s)
include hs
theorem zq {n : Nat} (hn : 5 ≤ n ∧ n ≤ 12) : ∃ r,Um p s (n : Int) = some r ∧ (YX r.1 ∧ 1 ≤ r.2.2.1.length ∧ r.2.2.1.length ≤ 12 ∧ ∀ x ∈ r.2.2.1,x.Data.length ≤ 6):=by
 unfold Um
 refine Zp (zQ hp hs) fun r1 q1=>Zp (Yu hp q1.1 (by omega)) fun r3 q3=>Zp (BT hp q3.1 (n:=6) (by omega)) fun r5 q5=>?_
 have b3:=q3.2
 have w1 : wr (1 + r3.2) = 1 + r3.2:=YM (by omega)
 rw [w1]
 obtain ⟨k,ek⟩:=Int.eq_ofNat_of_zero_le b3.1
 have h5:=q5.2
 refine Zp (P:=fun j=>YX (j.1,j.2.1) ∧ j.2.2.length ≤ 7 ∧ ∀ c ∈ j.2.2,c.length = r5.2.length) (VU (fun i t=>t.2.2.2 = ((1 + i : Nat) : Int) ∧ t.2.2.1.length = i ∧ YX (t.1,t.2.1) ∧ ∀ c ∈ t.2.2.1,c.length = r5.2.length) k (fun i t hi ht=>?_) (fun t ht=>?_) k 0 _ (by omega) ⟨rfl,rfl,q5.1,fun c hc=>by cases hc⟩) fun j hj=>?_
 ·obtain ⟨t1,t2,t3,t4⟩:=ht
  unfold TF
  rw [w1,if_pos (Q0 (by omega))]
  refine Zp (QK hp t3 (by omega)) fun r hr=>?_
  have ha : app 24 t.2.2.1 ([r.2] : List (List UInt8)) = _:=Yv (by simp only [List.length_singleton]; omega)
  rw [ha]
  refine ⟨_,rfl,_,rfl,by show wr (t.2.2.2 + 1) = _; rw [t1,Te (by omega) (by omega)]; omega,by simp; omega,hr.1,fun c hc=>?_⟩
  rcases List.mem_append.1 hc with h | h
  ·exact t4 c h
  ·rw [List.mem_singleton.1 h,hr.2]
 ·obtain ⟨t1,t2,t3,t4⟩:=ht
  unfold TF
  rw [w1,if_neg (J1 (by omega))]
  exact ⟨_,rfl,_,rfl,t3,by show t.2.2.1.length ≤ 7; omega,t4⟩
 ·obtain ⟨j1,j2,j3⟩:=hj
  obtain ⟨m,rfm,h1,h2⟩:=XD q1.2
  refine Zp (Yu hp j1 (by omega)) fun r34 q34=>Zp (V3 hp q34.1 (by simp)) fun r38 q38=>?_
  have b34:=q34.2
  have w2 : wr (1 + r34.2) = 1 + r34.2:=YM (by omega)
  have w3 : wr (1 + r3.2 + 1) = 1 + r3.2 + 1:=YM (by omega)
  have w4 : wr (1 + r3.2 + 2) = 1 + r3.2 + 2:=YM (by omega)
  obtain ⟨q,eq,hq⟩ : ∃ q : Nat,r38.2 = q ∧ (1 ≤ q ∧ q ≤ 12):=by
   have h:=q38.2
   simp only [w2,w3,w4,List.mem_cons,List.not_mem_nil,or_false] at h
   exact ⟨r38.2.toNat,by rcases h with e | e | e | e <;> omega,by rcases h with e | e | e | e <;> omega⟩
  rw [eq]
  refine Zp (Ax hp q38.1 (by omega)) fun r40 q40=>Zp (P:=fun j=>1 ≤ j.length ∧ j.length ≤ 12) ?_ fun a ha=>Zp (P:=fun j=>1 ≤ j.length ∧ j.length ≤ 12) ?_ fun b hb=>?_
  ·rw [zw _ (by omega)]
   exact Qk (YE (fun _=>⟨_,rfl,by simp,by simp⟩) (fun _=>⟨_,rfl,by omega,by omega⟩))
  ·refine YE (fun c=>?_) (fun _=>⟨_,rfl,ha⟩)
   have c : (a.length : Int) > (n : Int):=of_decide_eq_true c
   have hc : slc a (0 : Int) (n : Int) = _:=Hc (l:=a) (i:=0) (j:=n) (by omega) (by omega)
   rw [hc]
   refine ⟨_,rfl,?_,?_⟩ <;> simp <;> omega
  ·rw [rfm]
   have hL : T6 j.2.2 r5.2.length = true:=by
    unfold T6
    simp only [Bool.and_eq_true,decide_eq_true_eq,List.all_eq_true,beq_iff_eq]
    exact ⟨j2,j3⟩
   rw [z2 h1 h2 r5.2 j.2.2 b (by omega) hL hb.2]
   refine ⟨_,rfl,q40.1,?_,?_,fun x hx=>?_⟩
   ·simp only [List.length_map]; exact hb.1
   ·simp only [List.length_map]; exact hb.2
   ·obtain ⟨y,_,rfl⟩:=List.mem_map.1 hx
    simp only [TO,yz]; exact h5
def Vn (l : List GShare) : Prop:=l.length ≤ 12 ∧ ∀ x ∈ l,x.Data.length ≤ 7
omit hp hs in
theorem Bg {l : List GShare} {n : Nat} {x : GShare} (h : l.length ≤ 12 ∧ ∀ x ∈ l,x.Data.length ≤ 6) (hx : x.Data.length ≤ 7) : Vn (l.set n x):=by
 refine ⟨by rw [List.length_set]; exact h.1,fun y hy=>?_⟩
 rcases List.mem_or_eq_of_mem_set hy with hy | rfl
 ·have:=h.2 y hy; omega
 ·exact hx
theorem QY : ∃ r,XY p s = some r ∧ (YX r.1 ∧ Vn r.2.2.1):=by
 unfold XY
 refine Zp (V3 hp hs (by simp)) fun r3 q3=>?_
 obtain ⟨n,en,hn⟩ : ∃ n : Nat,r3.2 = n ∧ (5 ≤ n ∧ n ≤ 12):=by
  have h:=q3.2
  simp only [List.mem_cons,List.not_mem_nil,or_false] at h
  exact ⟨r3.2.toNat,by rcases h with e | e | e <;> omega,by rcases h with e | e | e <;> omega⟩
 rw [en]
 refine Zp (zq hp q3.1 hn) fun r5 q5=>Zp (P:=fun j=>YX (j.1,j.2.1) ∧ Vn j.2.2.2.1) (Zp (Yu hp q5.1 (by omega)) fun r13 q13=>Zp (P:=fun j=>YX (j.1,j.2.1) ∧ Vn j.2.2.2.1) ?_ fun j hj=>⟨_,rfl,hj⟩) fun j hj=>⟨_,rfl,hj⟩
 obtain ⟨_,l1,l2,l3⟩:=q5
 have hs0 : Vn r5.2.2.1:=⟨l2,fun x hx=>by have:=l3 x hx; omega⟩
 have hw : wr ((r5.2.2.1.length : Int) - 1) = (r5.2.2.1.length : Int) - 1:=YM (by omega)
 refine YE (fun _=>⟨_,rfl,q13.1,hs0⟩) fun _=>YE (fun _=>?_) fun _=>YE (fun _=>?_) fun _=>YE (fun _=>?_) fun _=>YE (fun _=>⟨_,rfl,q13.1,by show Vn []; exact ⟨by simp,fun x hx=>by cases hx⟩⟩) fun _=>Zp (P:=fun _=>True) (YE (fun _=>⟨_,rfl,trivial⟩) fun _=>⟨_,rfl,trivial⟩) fun b _=>YE (fun _=>?_) fun _=>⟨_,rfl,q13.1,hs0⟩
 ·rw [hw]
  exact Zp (Xe r5.2.2.1 (by omega)) fun x hx=>Zp (V3 hp q13.1 (by simp)) fun r q=>Zp (Xe r5.2.2.1 (by omega)) fun y hy=>⟨_,rfl,q.1,Bg ⟨l2,l3⟩ (by have:=l3 y hy; show y.Data.length ≤ 7; omega)⟩
 ·refine Zp (Xe r5.2.2.1 (by omega)) fun x hx=>?_
  have hx:=l3 x hx
  have ha : app 1 x.Data ([1] : List UInt8) = _:=Yv (by simp only [List.length_singleton]; omega)
  rw [ha]
  exact Qk (Zp (Xe r5.2.2.1 (by omega)) fun y hy=>⟨_,rfl,q13.1,Bg ⟨l2,l3⟩ (by simp; omega)⟩)
 ·exact Zp (V3 hp q13.1 (by simp)) fun r q=>⟨_,rfl,q.1,hs0⟩
 ·refine Zp (Xe r5.2.2.1 (by omega)) fun x hx=>YE (fun c=>?_) fun _=>⟨_,rfl,q13.1,hs0⟩
  have c : (x.Data.length : Int) > 0:=of_decide_eq_true c
  have hx:=l3 x hx
  exact Zp (Xe r5.2.2.1 (by omega)) fun y hy=>Zp (Yu hp q13.1 (by omega)) fun r q=>Zp (Kt hp q.1) fun b hb=>Zp (Xe x.Data q.2) fun z hz=>⟨_,rfl,hb,Bg ⟨l2,l3⟩ (by show (x.Data.set _ _).length ≤ 7; rw [List.length_set]; omega)⟩
omit hs
end

section
variable {p : List UInt8} (hp : p.length ≤ 4096)
include hp
theorem Zau (n : Int) : ∃ r,Qj p n = some r ∧ YX r:=by
 unfold Qj
 refine Zp (P:=fun _=>True) (VU (fun i t=>t.2 = (i : Int)) p.length (fun i t hi ht=>?_) (fun t ht=>?_) p.length 0 _ (by omega) rfl) fun j _=>⟨_,rfl,by show (0 : Int) ≤ 0; omega,by show (0 : Int) ≤ 4096; omega⟩
 ·unfold Qx
  rw [if_pos (Q0 (by omega))]
  exact Zp (Xe p (by omega)) fun x _=>⟨_,rfl,_,rfl,by show wr (t.2 + 1) = _; rw [ht,Te (by omega) (by omega)]; omega⟩
 ·unfold Qx
  rw [if_neg (J1 (by omega))]
  exact ⟨_,rfl,_,rfl,trivial⟩
variable {s : Int × Int} (hs : YX s)
include hs
theorem qD {n : Int} (hn : 1 ≤ n) : ∃ r,VJ p s n = some r ∧ (YX r.1 ∧ 0 ≤ r.2 ∧ r.2 < n):=by
 unfold VJ
 obtain ⟨m,hm,em⟩:=AO (BitVec.ofInt 64 (YD (IntKind.u64.wrap ((IntKind.u64.wrap (s.2 * 6364136223846793005)) + 1442695040888963407)) 33))
 rw [em]
 have hz : TB n = some ():=by unfold TB; rw [if_pos (by omega)]
 obtain ⟨h1,h2⟩:=hs
 rw [if_neg (by simp only [decide_eq_true_eq]; omega)]
 refine Zp (P:=fun j=>(0 ≤ j.1 ∧ j.1 ≤ 4096) ∧ 0 ≤ j.2) (Qk (YE (fun hc=>?_) (fun _=>⟨_,rfl,⟨h1,h2⟩,by omega⟩))) fun j hj=>?_
 ·have hc : s.1 < (p.length : Int):=of_decide_eq_true hc
  refine Zp (P:=fun x=>0 ≤ x) (Zp (Xe p ⟨h1,hc⟩) fun x _=>⟨_,rfl,?_⟩) fun x hx=>⟨_,rfl,?_,hx⟩
  ·have hb:=x.toNat_lt
   show 0 ≤ wr ((m : Int) + (x.toNat : Int))
   rw [YM (by omega)]; omega
  ·show 0 ≤ wr (s.1 + 1) ∧ wr (s.1 + 1) ≤ 4096
   rw [YM (by omega)]; omega
 ·rw [hz]
  refine ⟨_,rfl,hj.1,?_,?_⟩
  ·exact Int.tmod_nonneg _ hj.2
  ·exact Int.tmod_lt_of_pos _ (by omega)
theorem qj {n : Nat} (hn : n ≤ 1000) : ∃ r,TZ p s (n : Int) = some r ∧ (YX r.1 ∧ r.2.length = n):=by
 unfold TZ
 refine Zp (P:=fun j=>YX (j.1,j.2.1) ∧ j.2.2.length = n) (VU (fun i t=>t.2.2.1 = ((n - i : Nat) : Int) ∧ t.2.2.2.length = i ∧ YX (t.1,t.2.1)) n (fun i t hi ht=>?_) (fun t ht=>?_) n 0 _ (by omega) ⟨rfl,rfl,hs⟩) fun j hj=>⟨_,rfl,hj⟩
 ·obtain ⟨t1,t2,t3⟩:=ht
  unfold Qe
  rw [if_pos (BS (by omega))]
  refine Zp (qD hp t3 (by omega)) fun r hr=>?_
  have ha : app 1 t.2.2.2 ([Yp r.2] : List UInt8) = _:=Yv (by simp only [List.length_singleton]; omega)
  rw [ha]
  exact ⟨_,rfl,_,rfl,by show wr (t.2.2.1 - 1) = _; rw [t1,JJ (by omega) (by omega)]; omega,by simp; omega,hr.1⟩
 ·obtain ⟨t1,t2,t3⟩:=ht
  unfold Qe
  rw [if_neg (AX (by omega))]
  exact ⟨_,rfl,_,rfl,t3,t2⟩
end
theorem YV {α β : Type} {o : Option α} {r : α} {f : α → Option β} {x : Option β} (h : o = some r) (k : f r = x) : o.bind f = x:=by rw [h]; exact k
theorem j0 {β γ : Type} {o : Option (Fl Unit β)} {f : Unit → Option γ} {g : β → Option γ} {x : Option γ} (h : o = some (.nx ())) (k : f () = x) : (o.bind fun j=>j.el f g) = x:=by rw [h]; exact k
theorem jO {β : Type} {c : Prop} [Decidable c] {A x : Option β} (h : c → A = x) : (if c then A else x) = x:=by
 by_cases c' : c
 ·rw [if_pos c']; exact h c'
 ·rw [if_neg c']
theorem KJ {β : Type} {o : Option Bool} {A B x : Option β} (h : o = some false) (k : B = x) : (o.bind fun j=>if j = true then A else B) = x:=by rw [h]; exact k
theorem Q4 (l : List UInt8) (h : l.length ≤ 1000) : WV l l = some true:=by
 unfold WV
 have:=QD (f:=UV l l) l (fun _=>false) (t:=false) (by omega) (fun i hi=>by
  unfold UV
  rw [if_pos (Q0 (by omega)),ZC,List.getElem?_eq_getElem hi]
  simp) (by unfold UV; simp)
 rw [this]; simp [Fl.el]
theorem zC (l : List Int) (h : l.length ≤ 100000) : Ux l l = some true:=by
 unfold Ux
 have:=QD (f:=V4 l l) l (fun _=>false) (t:=false) (by omega) (fun i hi=>by
  unfold V4
  rw [if_pos (Q0 (by omega)),ZC,List.getElem?_eq_getElem hi]
  simp) (by unfold V4; simp)
 rw [this]; simp [Fl.el]
theorem HP (l : List GShare) (h : l.length ≤ 1000) (hd : ∀ s ∈ l,s.Data.length ≤ 1000) : Uh l l = some true:=by
 unfold Uh
 have:=QD (f:=Uu l l) l (fun _=>false) (t:=false) (by omega) (fun i hi=>by
  unfold Uu
  rw [if_pos (Q0 (by omega)),ZC,List.getElem?_eq_getElem hi]
  simp [Q4 _ (hd _ (List.getElem_mem hi))]) (by unfold Uu; simp)
 rw [this]; simp [Fl.el]
theorem Zbz {l : List GShare} {N : Nat} (h0 : ∀ s ∈ l,s.Place ≠ 0) (hd : WM (ZU l) = true) (hl : 1 ≤ l.length ∧ l.length ≤ 12) (hN : ∀ s ∈ l,s.Data.length = N) (h100 : N ≤ 100) : Yo l = 0:=by
 have e1 : l.all Yf = true:=List.all_eq_true.2 fun s hs=>by
  unfold Yf
  have:=h0 s hs
  have:=hN s hs
  simp only [Bool.and_eq_true,bne_iff_ne,decide_eq_true_eq]
  exact ⟨h0 s hs,by omega⟩
 have e2 : J2 l = true:=List.all_eq_true.2 fun s hs=>by
  have hh : (l.headD default).Data.length = N:=by
   cases l with
   | nil=>cases hs
   | cons x l=>exact hN x (List.mem_cons_self ..)
  rw [hh,hN s hs]; simp
 unfold Yo
 have hd : WM (l.map (·.Place)) = true:=hd
 rw [e1,e2,hd,if_neg (by decide),if_neg (by decide),if_neg (by omega),if_neg (by decide)]
theorem yX {l : List GShare} (h : Yo l = 0) : (∀ s ∈ l,s.Place ≠ 0) ∧ WM (ZU l) = true ∧ dataN l ≤ 100:=by
 have hg:=QA h
 unfold Yo at h
 cases h1 : l.all Yf with
 | false=>simp [h1] at h
 | true =>
  cases h2 : WM (l.map (·.Place)) with
  | false=>simp [h1,h2] at h
  | true =>
   refine ⟨fun s hs=>?_,h2,?_⟩
   ·have:=List.all_eq_true.1 h1 s hs
    unfold Yf at this
    simp only [Bool.and_eq_true,bne_iff_ne] at this
    exact this.1
   ·have h0 : 0 < l.length:=hg.len.1
    have:=(hg.share _ (List.getElem_mem h0)).2
    rw [hg.at h0] at this
    exact this
theorem OnPoly.len {m t N : Nat} {l : List GShare} {g : Nat → UInt8 → UInt8} (h : OnPoly m t N l g) : ∀ s ∈ l,s.Data.length = N:=fun s hs=>by rw [h.data s hs,yz]
theorem za {l : List GShare} (h : Vn l) : Wt.wt l ≤ 200:=by
 rw [HY]
 have : ∀ (l : List GShare),(∀ x ∈ l,x.Data.length ≤ 7) → (l.map Wt.wt).sum ≤ 7 * l.length:=by
  intro l
  induction l with
  | nil=>intro _; simp
  | cons x l ih =>
   intro h
   have h1:=ih fun y hy=>h y (List.mem_cons_of_mem _ hy)
   have h2:=h x (List.mem_cons_self ..)
   have e : Wt.wt x = Wt.wt x.Data:=rfl
   rw [Jg] at e
   simp only [List.map_cons,List.sum_cons,List.length_cons]
   omega
 have:=this l h.2
 have:=h.1
 omega
theorem Hr (k : Nat) : Yp (k : Int) = UInt8.ofNat k:=by
 unfold Yp
 have : ((k : Int) % 256).toNat = k % 256:=by omega
 rw [this]
 apply UInt8.toNat_inj.1
 simp
theorem Aj {n : Nat} (h : n < 10) : Lib.decDigits n = [UInt8.ofNat (48 + n)]:=by
 unfold Lib.decDigits; rw [dif_pos h]
theorem zi {n : Nat} (h : ¬ n < 10) : Lib.decDigits n = Lib.decDigits (n / 10) ++ [UInt8.ofNat (48 + n % 10)]:=by
 rw [Lib.decDigits.eq_1 n]; rw [dif_neg h]
theorem Kn : ∀ (fu n q : Nat),q = 10 ^ fu → n < q → n ≤ 1000000000000000000 → 0 < fu → fu ≤ 64 → VP fu (n : Int) = some ⟨Lib.decDigits n⟩ ∧ (Lib.decDigits n).length ≤ fu
 | 0,n,q,hq,h,_,h0,_=>absurd h0 (Nat.lt_irrefl 0)
 | fu + 1,n,q,hq,h,hb,_,hf=>by
  rw [VP]
  by_cases c : n < 10
  ·have c' : (n : Int) < 10:=by omega
   have e : wr (48 + (n : Int)) = ((48 + n : Nat) : Int):=by rw [YM (by omega)]; omega
   rw [Aj c,if_pos (by simpa using c'),e,Hr]
   exact ⟨rfl,by simp⟩
  ·have c' : ¬ (n : Int) < 10:=by omega
   have e1 : Int.tdiv (n : Int) 10 = ((n / 10 : Nat) : Int):=rfl
   have e2 : Int.tmod (n : Int) 10 = ((n % 10 : Nat) : Int):=rfl
   have e3 : wr ((n / 10 : Nat) : Int) = ((n / 10 : Nat) : Int):=YM (by omega)
   have e4 : wr (48 + ((n % 10 : Nat) : Int)) = ((48 + n % 10 : Nat) : Int):=by rw [YM (by omega)]; omega
   have hq' : q = 10 ^ fu * 10:=by rw [hq,Nat.pow_succ]
   generalize hp : 10 ^ fu = p at hq'
   have h0 : 0 < fu:=Nat.pos_of_ne_zero (by rintro rfl; rw [Nat.pow_zero] at hp; omega)
   obtain ⟨h1,h2⟩:=Kn fu (n / 10) p hp.symm (by omega) (by omega) h0 (by omega)
   rw [if_neg (by simpa using c'),e1,e2,e3,e4,Hr,h1,Option.bind_some,zi c]
   unfold KP
   rw [if_pos (by simp; omega)]
   exact ⟨rfl,by simp; omega⟩
theorem qv (n : Nat) (h : n ≤ 1000000000000000000) : Wz (n : Int) = some ⟨Lib.decDigits n⟩:=by
 unfold Wz WP
 rw [if_pos ⟨rfl,by omega,by omega⟩,Option.bind_some]
 unfold Lib.itoa
 rw [if_neg (by omega)]; rfl
def B6 (x : UInt8) : UInt8:=(⟨[48,49,50,51,52,53,54,55,56,57,97,98,99,100,101,102]⟩ : Str).l.getD x.toNat 0
def Qi (l : List UInt8) : List UInt8:=(l.map fun x=>[B6 (x / 16),B6 (x % 16)]).flatten
theorem Ky (l : List UInt8) : (Qi l).length = 2 * l.length:=by
 unfold Qi
 induction l with
 | nil=>rfl
 | cons x l ih=>simp only [List.map_cons,List.flatten_cons,List.length_append,List.length_cons,List.length_nil] at *; omega
theorem Zbb : ∀ x : UInt8,BR x 4 = x / 16 ∧ (x &&& 15) = x % 16 ∧ idx (⟨[48,49,50,51,52,53,54,55,56,57,97,98,99,100,101,102]⟩ : Str).l (bI (x / 16)) = some (B6 (x / 16)) ∧ idx (⟨[48,49,50,51,52,53,54,55,56,57,97,98,99,100,101,102]⟩ : Str).l (bI (x % 16)) = some (B6 (x % 16)):=by
 have h : ∀ k : Fin 256,(fun x : UInt8=>BR x 4 = x / 16 ∧ (x &&& 15) = x % 16 ∧ idx (⟨[48,49,50,51,52,53,54,55,56,57,97,98,99,100,101,102]⟩ : Str).l (bI (x / 16)) = some (B6 (x / 16)) ∧ idx (⟨[48,49,50,51,52,53,54,55,56,57,97,98,99,100,101,102]⟩ : Str).l (bI (x % 16)) = some (B6 (x % 16))) (UInt8.ofNat k.val):=by decide +kernel
 intro x
 have:=h ⟨x.toNat,x.toNat_lt⟩
 simpa using this
theorem jo (l : List UInt8) {i : Nat} (hi : i < l.length) : Qi (l.take (i + 1)) = Qi (l.take i) ++ [B6 (l[i] / 16),B6 (l[i] % 16)]:=by
 unfold Qi
 rw [List.take_succ_eq_append_getElem hi,List.map_append,List.flatten_append]; simp
theorem ji (l : List UInt8) (h : l.length ≤ 1000000) : Tv l = some ⟨Qi l⟩:=by
 unfold Tv
 have:=Yq (f:=U3 l) (fun i : Nat=>(Qi (l.take i),(i : Int))) 0 l.length (Nat.zero_le _) (t:=Qi l) (fun i _ hi=>by
  obtain ⟨_,_,h3,h4⟩:=Zbb l[i]
  have hl:=Ky (l.take i)
  rw [List.length_take] at hl
  unfold U3
  have hx : idx l ((i : Nat) : Int) = some l[i]:=by rw [ZC,List.getElem?_eq_getElem hi]
  simp only [Int.ofNat_lt,hi,decide_true,if_true,hx,Option.bind_some,h3,h4]
  rw [Yv (by simp only [List.length_cons,List.length_nil]; omega),jo l hi,Yl (by omega)]; rfl) (by unfold U3; simp)
 rw [show (([] : List UInt8),(0 : Int)) = (Qi (l.take 0),((0 : Nat) : Int)) from rfl,this]; rfl
theorem Zbx (l : List UInt8) (h : l.length ≤ 1000000) : TQ l = some ⟨Qi l⟩:=by
 unfold TQ
 have:=Yq (f:=Tw l) (fun i : Nat=>(Qi (l.take i),(i : Int))) 0 l.length (Nat.zero_le _) (t:=Qi l) (fun i _ hi=>by
  obtain ⟨h1,h2,h3,h4⟩:=Zbb l[i]
  have hl:=Ky (l.take i)
  rw [List.length_take] at hl
  unfold Tw
  have hx : idx l ((i : Nat) : Int) = some l[i]:=by rw [ZC,List.getElem?_eq_getElem hi]
  simp only [Int.ofNat_lt,hi,decide_true,if_true,hx,Option.bind_some,h1,h2,h3,h4]
  rw [Yv (by simp only [List.length_cons,List.length_nil]; omega),jo l hi,Yl (by omega)]; rfl) (by unfold Tw; simp)
 rw [show (([] : List UInt8),(0 : Int)) = (Qi (l.take 0),((0 : Nat) : Int)) from rfl,this]; rfl
def Qo (s : GShare) : Str:=⟨(Lib.decDigits s.Place.toNat ++ [58]) ++ Qi s.Data⟩
def AF (s : GShare) : Str × Int:=if Yf s then (Qo s,0) else (⟨[]⟩,1)
theorem Be (s : GShare) (h : s.Data.length ≤ 100) {D : Option Str} {H : Option Str} (kD : D = some ⟨Lib.decDigits s.Place.toNat⟩) (kH : H = some ⟨Qi s.Data⟩) :
  ((D.bind fun (r7 : Str)=>(KP r7 (⟨[58]⟩ : Str)).bind fun (x9 : Str)=>H.bind fun (r11 : Str)=>(KP x9 r11).bind fun (x13 : Str)=>some x13 : Option (Str)).bind fun (j3 : Str)=>some j3) = some (Qo s):=by
 have h1:=(Kn 64 s.Place.toNat (10 ^ 64) rfl (by have:=s.Place.toNat_lt; omega) (by have:=s.Place.toNat_lt; omega) (by omega) (by omega)).2
 have h2:=Ky s.Data
 rw [kD,kH]
 unfold KP Qo
 simp only [Option.bind_some,List.length_singleton,if_pos (show (Lib.decDigits s.Place.toNat).length + 1 ≤ 140737488355328 by omega)]
 rw [if_pos (by simp; omega)]; rfl
theorem BE (s : GShare) : Uc s = some (AF s):=by
 unfold Uc U9 AF
 rw [z9,Option.bind_some]
 cases h : Yf s with
 | false=>rfl
 | true =>
  unfold Yf at h
  simp only [Bool.and_eq_true,decide_eq_true_eq] at h
  have hp:=s.Place.toNat_lt
  simp only [Bool.not_true,Bool.false_eq_true,if_false,if_true]
  rw [Be s h.2 (qv s.Place.toNat (by omega)) (Zbx s.Data (by omega))]; rfl
theorem Bv (s : GShare) : V9 s = some (AF s):=by
 unfold V9 V6 AF
 rw [AU,Option.bind_some]
 cases h : Yf s with
 | false=>rfl
 | true =>
  unfold Yf at h
  simp only [Bool.and_eq_true,decide_eq_true_eq] at h
  have hp:=s.Place.toNat_lt
  simp only [Bool.not_true,Bool.false_eq_true,if_false,if_true]
  rw [Be s h.2 (Kn 64 s.Place.toNat (10 ^ 64) rfl (by omega) (by omega) (by omega) (by omega)).1 (ji s.Data (by omega))]; rfl
def TW (c : UInt8) : Bool:=decide (48 ≤ c.toNat) && decide (c.toNat ≤ 57)
def T2 (acc : Nat) (l : List UInt8) : Nat:=l.foldl (fun a c=>a * 10 + (c.toNat - 48)) acc
def T7 (l : List UInt8) : Bool:=decide (0 < l.length) && decide (l.length ≤ 9) && l.all TW && (decide (l.length ≤ 1) || !(l.getD 0 0 == 48))
theorem QB {c : UInt8} (h : TW c = true) : 48 ≤ c.toNat ∧ c.toNat ≤ 57:=by
 unfold TW at h; simpa using h
theorem Av {n : Nat} (h : n < 10) : Lib.decDigits n = [UInt8.ofNat (48 + n)]:=by
 unfold Lib.decDigits; rw [dif_pos h]
theorem AQ {n : Nat} (h : ¬ n < 10) : Lib.decDigits n = Lib.decDigits (n / 10) ++ [UInt8.ofNat (48 + n % 10)]:=by
 rw [Lib.decDigits.eq_1 n]; rw [dif_neg h]
theorem jf : ∀ (l : List UInt8) (acc : Nat),1 ≤ acc → l.all TW = true → Lib.decDigits (T2 acc l) = Lib.decDigits acc ++ l
 | [],acc,_,_=>by simp [T2]
 | c :: r,acc,ha,h=>by
  simp only [List.all_cons,Bool.and_eq_true] at h
  have hc:=QB h.1
  have e : T2 acc (c :: r) = T2 (acc * 10 + (c.toNat - 48)) r:=rfl
  rw [e,jf r _ (by omega) h.2,AQ (by omega)]
  have e1 : (acc * 10 + (c.toNat - 48)) / 10 = acc:=by omega
  have e2 : 48 + (acc * 10 + (c.toNat - 48)) % 10 = c.toNat:=by omega
  rw [e1,e2]; simp
theorem qx {l : List UInt8} (h : T7 l = true) : Lib.decDigits (T2 0 l) = l:=by
 unfold T7 at h
 simp only [Bool.and_eq_true,decide_eq_true_eq] at h
 obtain ⟨⟨⟨h0,_⟩,hd⟩,h1⟩:=h
 match l,h0,hd,h1 with
 | c :: r,_,hd,h1 =>
  simp only [List.all_cons,Bool.and_eq_true] at hd
  have hc:=QB hd.1
  have e : T2 0 (c :: r) = T2 (c.toNat - 48) r:=by unfold T2; simp
  have e2 : UInt8.ofNat (48 + (c.toNat - 48)) = c:=by rw [show 48 + (c.toNat - 48) = c.toNat by omega]; simp
  rw [e]
  by_cases hz : c = 48
  ·subst hz
   have : r = []:=by
    simp at h1
    exact h1
   subst this
   exact Av (n:=0) (by omega)
  ·have : c.toNat ≠ 48:=fun h=>hz (UInt8.toNat_inj.1 h)
   rw [jf r _ (by omega) hd.2,Av (by omega),e2]; rfl
theorem AS : ∀ (n : Nat),∃ c r,Lib.decDigits n = c :: r ∧ (c :: r).all TW = true ∧ (1 ≤ n → c ≠ 48) ∧ (n < 10 → r = []):=by
 intro n
 induction n using Nat.strongRecOn with
 | ind n ih =>
  have hd : ∀ k,k < 10 → (UInt8.ofNat (48 + k)).toNat = 48 + k:=fun k hk=>by simp; omega
  by_cases h : n < 10
  ·refine ⟨_,_,Av h,?_,?_,fun _=>rfl⟩
   ·simp only [List.all_cons,List.all_nil,Bool.and_true]
    unfold TW
    rw [hd n h]; simp; omega
   ·intro h1 he
    have:=congrArg UInt8.toNat he
    rw [hd n h] at this
    simp at this; omega
  ·obtain ⟨c,r,e,a1,a2,_⟩:=ih (n / 10) (by omega)
   refine ⟨c,r ++ [UInt8.ofNat (48 + n % 10)],by rw [AQ h,e]; rfl,?_,fun _=>a2 (by omega),fun h'=>absurd h' h⟩
   rw [← List.cons_append,List.all_append,a1]
   simp only [List.all_cons,List.all_nil,Bool.and_true,Bool.true_and]
   unfold TW
   rw [hd _ (by omega)]; simp; omega
theorem yh {n : Nat} (h : (Lib.decDigits n).length ≤ 9) : T7 (Lib.decDigits n) = true:=by
 obtain ⟨c,r,e,a1,a2,a3⟩:=AS n
 rw [e] at h ⊢
 unfold T7
 rw [a1]
 simp only [Bool.and_eq_true,decide_eq_true_eq,Bool.or_eq_true,Bool.not_eq_true']
 refine ⟨⟨⟨by simp,h⟩,trivial⟩,?_⟩
 by_cases hn : n < 10
 ·left; rw [a3 hn]; simp
 ·right
  have:=a2 (by omega)
  simpa using this
theorem zY (M : Nat) (hM : 1000000000 ≤ M) : ∀ (l : List UInt8) (acc k p : Nat),p = 10 ^ k → k + l.length ≤ 9 → acc < p → l.all TW = true → Lib.parseUintM M acc l = .ok (T2 acc l) ∧ T2 acc l < 1000000000
 | [],acc,k,p,hp,hk,ha,_=>by
  have : 10 ^ k ≤ 10 ^ 9:=Nat.pow_le_pow_right (by omega) (by simp at hk; omega)
  exact ⟨rfl,by show acc < _; omega⟩
 | c :: r,acc,k,p,hp,hk,ha,h=>by
  simp only [List.all_cons,Bool.and_eq_true] at h
  simp only [List.length_cons] at hk
  have hc:=QB h.1
  have e : T2 acc (c :: r) = T2 (acc * 10 + (c.toNat - 48)) r:=rfl
  have h9 : 10 ^ (k + 1) ≤ 10 ^ 9:=Nat.pow_le_pow_right (by omega) (by omega)
  have hp1 : 10 ^ (k + 1) = p * 10:=by rw [hp,Nat.pow_succ]
  unfold Lib.parseUintM
  rw [if_pos hc,if_neg (by omega),if_neg (by omega),e]
  exact zY M hM r _ (k + 1) (p * 10) hp1.symm (by omega) (by omega) h.2
theorem Zcd (l : List UInt8) : rdec l = if T7 l then (((T2 0 l : Nat) : Int),true) else (0,false):=by
 cases hc : T7 l with
 | true =>
  have hd:=qx hc
  unfold T7 at hc
  simp only [Bool.and_eq_true,decide_eq_true_eq] at hc
  obtain ⟨⟨⟨h0,h9⟩,hd'⟩,_⟩:=hc
  obtain ⟨p1,p2⟩:=zY (2 ^ 64 - 1) (by decide) l 0 0 1 rfl (by omega) (by omega) hd'
  have hp : Lib.parseIntB 64 l = .ok ((T2 0 l : Nat) : Int):=by
   match l,h0,hd',p1,p2 with
   | c :: r,_,hd',p1,p2 =>
    simp only [List.all_cons,Bool.and_eq_true] at hd'
    have hc:=QB hd'.1
    unfold Lib.parseIntB Lib.parseUintB
    have a1 : ¬ c.toNat = 43:=by omega
    have a2 : ¬ c.toNat = 45:=by omega
    simp only [a1,a2,or_self,if_false,List.cons_ne_nil,p1,not_false_eq_true,true_and,false_and]
    rw [if_neg (by omega)]
  unfold rdec
  rw [hp]
  have hi : Lib.itoa ((T2 0 l : Nat) : Int) = l:=by unfold Lib.itoa; rw [if_neg (by omega)]; exact hd
  simp only [hi]
  rw [if_neg (show ¬ (((T2 0 l : Nat) : Int) < 0 ∨ 9 < l.length ∨ l ≠ l) by simp; omega)]; simp
 | false =>
  unfold rdec
  match hp : Lib.parseIntB 64 l with
  | Lib.NumEnd.ok n =>
   simp only
   by_cases h : n < 0 ∨ 9 < l.length ∨ Lib.itoa n ≠ l
   ·rw [if_pos h]; simp
   ·exfalso
    have h1 : ¬ n < 0:=fun q=>h (.inl q)
    have h2 : ¬ 9 < l.length:=fun q=>h (.inr (.inl q))
    have h3 : Lib.itoa n = l:=Classical.byContradiction fun q=>h (.inr (.inr q))
    unfold Lib.itoa at h3
    rw [if_neg h1] at h3
    have:=yh (n:=n.toNat) (by rw [h3]; omega)
    rw [h3,hc] at this
    cases this
  | Lib.NumEnd.syntax=>rfl
  | Lib.NumEnd.range=>rfl
theorem y4 (l : List UInt8) (hl : l.length ≤ 9) : ∀ (k i acc p : Nat),i + k = l.length → p = 10 ^ i → acc < p →
  ZH (Xo ⟨l⟩) ((acc : Int),(i : Int)) = some (if (l.drop i).all TW then .nx ((T2 acc (l.drop i) : Nat) : Int) else .ex (-1))
 | 0,i,acc,p,hi,_,_=>by
  have e : l.drop i = []:=List.drop_eq_nil_of_le (by omega)
  rw [e]
  exact Yi (by unfold Xo; simp [show ¬ (i : Int) < (l.length : Int) by omega,T2])
 | k + 1,i,acc,p,hi,hp,ha=>by
  have hlt : i < l.length:=by omega
  have hx : idx l ((i : Nat) : Int) = some l[i]:=by rw [ZC,List.getElem?_eq_getElem hlt]
  have ed : l.drop i = l[i] :: l.drop (i + 1):=List.drop_eq_getElem_cons hlt
  have h9 : 10 ^ (i + 1) ≤ 10 ^ 9:=Nat.pow_le_pow_right (by omega) (by omega)
  have hp1 : 10 ^ (i + 1) = p * 10:=by rw [hp,Nat.pow_succ]
  have c1 : decide (l[i] < (48 : UInt8)) = decide (l[i].toNat < 48):=by simp [UInt8.lt_iff_toNat_lt]
  have c2 : decide (l[i] > (57 : UInt8)) = decide (57 < l[i].toNat):=by simp [UInt8.lt_iff_toNat_lt]
  have hlt' : ((i : Int) < (l.length : Int)):=by omega
  by_cases hd : TW l[i] = true
  ·have hb:=QB hd
   have a1 : ¬ l[i].toNat < 48:=by omega
   have a2 : ¬ 57 < l[i].toNat:=by omega
   have e1 : bI (l[i] - 48) = ((l[i].toNat - 48 : Nat) : Int):=by
    unfold bI
    rw [UInt8.toNat_sub_of_le _ _ (by rw [UInt8.le_iff_toNat_le]; simpa using hb.1)]; rfl
   have e2 : wr (wr ((acc : Int) * 10) + bI (l[i] - 48)) = ((acc * 10 + (l[i].toNat - 48) : Nat) : Int):=by
    rw [e1,YM (x:=(acc : Int) * 10) (by omega),YM (by omega)]; omega
   rw [Xr (s':=(((acc * 10 + (l[i].toNat - 48) : Nat) : Int),((i + 1 : Nat) : Int))) (by
    unfold Xo
    simp only [hlt',decide_true,if_true,hx,Option.bind_some,c1,c2,a1,a2,decide_false,Bool.false_eq_true,if_false,e2,Yl (show i < 9223372036854775807 by omega)])]
   rw [y4 l hl k (i + 1) _ (p * 10) (by omega) hp1.symm (by omega),ed,List.all_cons,hd,Bool.true_and]; rfl
  ·have hd' : TW l[i] = false:=by simpa using hd
   rw [ed,List.all_cons,hd',Bool.false_and]
   refine Yi ?_
   unfold Xo
   by_cases a1 : l[i].toNat < 48
   ·simp only [hlt',decide_true,if_true,hx,Option.bind_some,c1,a1]; rfl
   ·have a2 : 57 < l[i].toNat:=by
     unfold TW at hd'
     simp at hd'
     exact hd' (by omega)
    simp only [hlt',decide_true,if_true,hx,Option.bind_some,c1,c2,a1,a2,decide_false,Bool.false_eq_true,if_false]
theorem yV (l : List UInt8) : Ue ⟨l⟩ = some (if T7 l then ((T2 0 l : Nat) : Int) else -1):=by
 unfold Ue T7
 by_cases h0 : l.length = 0
 ·have : l = []:=List.length_eq_zero_iff.1 h0
  subst this
  rfl
 ·by_cases h9 : 9 < l.length
  ·have a0 : ¬ ((l.length : Int) = 0):=by omega
   have a9 : (l.length : Int) > 9:=by omega
   have b9 : ¬ l.length ≤ 9:=by omega
   simp [h0,a9,b9]
  ·have a0 : ¬ ((l.length : Int) = 0):=by omega
   have a9 : ¬ (l.length : Int) > 9:=by omega
   have b9 : l.length ≤ 9:=by omega
   have b0 : 0 < l.length:=by omega
   have hx : idx l (0 : Int) = some (l.getD 0 0):=by rw [Tu,List.getD_eq_getElem?_getD,List.getElem?_eq_getElem b0]; rfl
   have hL:=y4 l b9 l.length 0 0 1 (by omega) rfl (by omega)
   rw [List.drop_zero] at hL
   by_cases h1 : l.length ≤ 1
   ·have a1 : ¬ (l.length : Int) > 1:=by omega
    simp only [beq_iff_eq,a0,a9,a1,decide_false,Bool.false_eq_true,if_false,Option.bind_some,b9,b0,h1,decide_true,Bool.true_and,Bool.and_true,Bool.true_or]
    have hL' : ZH (Xo ⟨l⟩) (0,0) = _:=hL
    rw [hL']
    cases l.all TW <;> rfl
   ·have a1 : (l.length : Int) > 1:=by omega
    simp only [beq_iff_eq,a0,a9,a1,decide_false,Bool.false_eq_true,if_false,if_true,hx,Option.bind_some,b9,b0,h1,decide_true,Bool.true_and,Bool.and_true,Bool.false_or]
    have hL' : ZH (Xo ⟨l⟩) (0,0) = _:=hL
    by_cases hz : l.getD 0 0 = 48
    ·have hz' : (l.getD 0 0 == 48) = true:=by simpa using hz
     rw [if_pos hz]
     simp only [hz',Bool.not_true,Bool.and_false,Bool.false_eq_true,if_false]
    ·have hz' : (l.getD 0 0 == 48) = false:=by simpa using hz
     rw [if_neg hz]
     simp only [hz',hL',Option.bind_some,Bool.not_false,Bool.and_true]
     cases l.all TW <;> rfl
def hv (c : UInt8) : Option UInt8:=if 48 ≤ c.toNat ∧ c.toNat ≤ 57 then some (c - 48) else if 97 ≤ c.toNat ∧ c.toNat ≤ 102 then some (c - 97 + 10) else none
def Qv : List UInt8 → Option (List UInt8)
 | a :: b :: r=>match hv a,hv b with
  | some x,some y=>(Qv r).map ((BI x 4 ||| y) :: ·)
  | _,_=>none
 | []=>some []
 | [_]=>none
theorem yK {p : UInt8 → Prop} (h : ∀ k : Fin 256,p (UInt8.ofNat k.val)) : ∀ x,p x:=fun x=>by
 have:=h ⟨x.toNat,x.toNat_lt⟩
 simpa using this
theorem Hz : ∀ c : UInt8,WI c = some ((hv c).getD 0,(hv c).isSome):=by
 have h : ∀ k : Fin 256,WI (UInt8.ofNat k.val) = some ((hv (UInt8.ofNat k.val)).getD 0,(hv (UInt8.ofNat k.val)).isSome):=by
  unfold WI; decide +kernel
 exact yK h
theorem Hw : ∀ c : UInt8,WJ c = some (match hv c with | some x=>bI x | none=>-1):=by
 have h : ∀ k : Fin 256,WJ (UInt8.ofNat k.val) = some (match hv (UInt8.ofNat k.val) with | some x=>bI x | none=>-1):=by
  unfold WJ; decide +kernel
 exact yK h
theorem hv_lt {c x : UInt8} (h : hv c = some x) : x.toNat < 16:=by
 have : ∀ k : Fin 256,∀ x,hv (UInt8.ofNat k.val) = some x → x.toNat < 16:=by
  intro k
  have q : ∀ k : Fin 256,(match hv (UInt8.ofNat k.val) with | some x=>decide (x.toNat < 16) | none=>true) = true:=by decide +kernel
  intro x hx
  have:=q k
  rw [hx] at this
  simpa using this
 exact yK (p:=fun c=>∀ x,hv c = some x → x.toNat < 16) this c x h
theorem Zak {x y : UInt8} (hx : x.toNat < 16) (hy : y.toNat < 16) : Yp (wr (wr (16 * bI x) + bI y)) = BI x 4 ||| y:=by
 have h : ∀ a b : Fin 16,Yp (wr (wr (16 * bI (UInt8.ofNat a.val)) + bI (UInt8.ofNat b.val))) = BI (UInt8.ofNat a.val) 4 ||| UInt8.ofNat b.val:=by decide +kernel
 have:=h ⟨x.toNat,hx⟩ ⟨y.toNat,hy⟩
 simpa using this
theorem zW (x : UInt8) : ¬ bI x < 0:=by unfold bI; omega
theorem zV (l : List UInt8) (hl : l.length ≤ 70000000000) : ∀ (k i : Nat) (acc : List UInt8),i + 2 * k = l.length → acc.length ≤ i →
  ZH (XZ ⟨l⟩) (acc,(i : Int)) = some (match Qv (l.drop i) with | some r=>.nx (acc ++ r) | none=>.ex ([],false))
 | 0,i,acc,hi,_=>by
  have e : l.drop i = []:=List.drop_eq_nil_of_le (by omega)
  rw [e]
  exact Yi (by unfold XZ; simp [show ¬ (i : Int) < (l.length : Int) by omega,Qv])
 | k + 1,i,acc,hi,ha=>by
  have h1 : i < l.length:=by omega
  have h2 : i + 1 < l.length:=by omega
  have hx : idx l ((i : Nat) : Int) = some l[i]:=by rw [ZC,List.getElem?_eq_getElem h1]
  have hy : idx l (wr ((i : Nat) + 1)) = some l[i + 1]:=by rw [Yl (by omega),ZC,List.getElem?_eq_getElem h2]
  have ed : l.drop i = l[i] :: l[i + 1] :: l.drop (i + 2):=by rw [List.drop_eq_getElem_cons h1,List.drop_eq_getElem_cons h2]
  have hlt : ((i : Int) < (l.length : Int)):=by omega
  rw [ed]
  unfold Qv
  cases c1 : hv l[i] with
  | none =>
   refine Yi ?_
   unfold XZ
   simp only [hlt,decide_true,if_true,hx,hy,Option.bind_some,Hz,c1,Option.isSome_none,Bool.not_false]
  | some x =>
   cases c2 : hv l[i + 1] with
   | none =>
    refine Yi ?_
    unfold XZ
    simp only [hlt,decide_true,if_true,hx,hy,Option.bind_some,Hz,c1,c2,Option.isSome_none,Option.isSome_some,Bool.not_false,Bool.not_true,Bool.false_eq_true,if_false]
   | some y =>
    rw [Xr (s':=(acc ++ [BI x 4 ||| y],((i + 2 : Nat) : Int))) (by
     unfold XZ
     simp only [hlt,decide_true,if_true,hx,hy,Option.bind_some,Hz,c1,c2,Option.isSome_some,Bool.not_true,Bool.false_eq_true,if_false,Option.getD_some]
     rw [Yv (by simp only [List.length_cons,List.length_nil]; omega),Option.bind_some,show wr ((i : Int) + 2) = ((i + 2 : Nat) : Int) by rw [YM (by omega)]; omega])]
    rw [zV l hl k (i + 2) _ (by omega) (by simp; omega)]
    cases Qv (l.drop (i + 2)) <;> simp
theorem yb (l : List UInt8) (hl : l.length ≤ 70000000000) : ∀ (k i : Nat) (acc : List UInt8),i + 2 * k = l.length → acc.length ≤ i →
  ZH (XE ⟨l⟩) (acc,(i : Int)) = some (match Qv (l.drop i) with | some r=>.nx (acc ++ r) | none=>.ex ([],false))
 | 0,i,acc,hi,_=>by
  have e : l.drop i = []:=List.drop_eq_nil_of_le (by omega)
  rw [e]
  exact Yi (by
   unfold XE
   have hn : ¬ ((i + 1 : Nat) : Int) < (l.length : Int):=by omega
   simp only [Yl (show i < 9223372036854775807 by omega),hn,decide_false,Bool.false_eq_true,if_false,Qv,List.append_nil])
 | k + 1,i,acc,hi,ha=>by
  have h1 : i < l.length:=by omega
  have h2 : i + 1 < l.length:=by omega
  have hx : idx l ((i : Nat) : Int) = some l[i]:=by rw [ZC,List.getElem?_eq_getElem h1]
  have hy : idx l (((i + 1 : Nat)) : Int) = some l[i + 1]:=by rw [ZC,List.getElem?_eq_getElem h2]
  have hw : wr ((i : Int) + 1) = ((i + 1 : Nat) : Int):=Yl (by omega)
  have ed : l.drop i = l[i] :: l[i + 1] :: l.drop (i + 2):=by rw [List.drop_eq_getElem_cons h1,List.drop_eq_getElem_cons h2]
  have hlt : (((i + 1 : Nat) : Int) < (l.length : Int)):=by omega
  rw [ed]
  unfold Qv
  cases c1 : hv l[i] with
  | none =>
   refine Yi ?_
   unfold XE
   simp only [hw,hlt,decide_true,if_true,hx,hy,Option.bind_some,Hw,c1]; rfl
  | some x =>
   cases c2 : hv l[i + 1] with
   | none =>
    refine Yi ?_
    unfold XE
    simp only [hw,hlt,decide_true,if_true,hx,hy,Option.bind_some,Hw,c1,c2,zW,decide_false,Bool.false_eq_true,if_false]; rfl
   | some y =>
    rw [Xr (s':=(acc ++ [BI x 4 ||| y],((i + 2 : Nat) : Int))) (by
     unfold XE
     simp only [hw,hlt,decide_true,if_true,hx,hy,Option.bind_some,Hw,c1,c2,zW,decide_false,Bool.false_eq_true,if_false,Zak (hv_lt c1) (hv_lt c2)]
     rw [Yv (by simp only [List.length_cons,List.length_nil]; omega),Option.bind_some,show wr ((i : Int) + 2) = ((i + 2 : Nat) : Int) by rw [YM (by omega)]; omega])]
    rw [yb l hl k (i + 2) _ (by omega) (by simp; omega)]
    cases Qv (l.drop (i + 2)) <;> simp
def JW (l : List UInt8) : List UInt8 × Bool:=if l.length % 2 = 1 then ([],false) else match Qv l with | some r=>(r,true) | none=>([],false)
theorem z5 (l : List UInt8) (h : l.length ≤ 70000000000) : UW ⟨l⟩ = some (JW l):=by
 unfold UW JW
 have e : Int.tmod (l.length : Int) 2 = ((l.length % 2 : Nat) : Int):=rfl
 by_cases h1 : l.length % 2 = 1
 ·simp only [e,h1,if_true]; rfl
 ·have h0 : l.length % 2 = 0:=by omega
  have hL : ZH (XZ ⟨l⟩) (([] : List UInt8),0) = _:=zV l h (l.length / 2) 0 [] (by omega) (by simp)
  simp only [e,h0,hL,List.drop_zero,List.nil_append]
  cases Qv l <;> rfl
theorem ka (l : List UInt8) (h : l.length ≤ 70000000000) : Uz ⟨l⟩ = some (JW l):=by
 unfold Uz JW
 have e : Int.tmod (l.length : Int) 2 = ((l.length % 2 : Nat) : Int):=rfl
 by_cases h1 : l.length % 2 = 1
 ·simp only [e,h1,if_true]; rfl
 ·have h0 : l.length % 2 = 0:=by omega
  have hL : ZH (XE ⟨l⟩) (([] : List UInt8),0) = _:=yb l h (l.length / 2) 0 [] (by omega) (by simp)
  simp only [e,h0,hL,List.drop_zero,List.nil_append]
  cases Qv l <;> rfl
theorem B2 : ∀ (n : Nat) (l : List UInt8),l.length ≤ n → 58 ∈ l → Qv l = none
 | _,[],_,h=>by cases h
 | _,[_],_,_=>rfl
 | 0,_ :: _ :: _,h,_=>by simp at h
 | n + 1,a :: b :: r,hn,h=>by
  have h58 : hv 58 = none:=by decide
  unfold Qv
  simp only [List.mem_cons] at h
  simp only [List.length_cons] at hn
  rcases h with rfl | rfl | h
  ·rw [h58]
  ·rw [h58]; cases hv a <;> rfl
  ·rw [B2 n r (by omega) h]
   cases hv a <;> cases hv b <;> rfl
theorem kg {l : List UInt8} (h : 58 ∈ l) : (JW l).2 = false:=by
 unfold JW
 rw [B2 _ l (Nat.le_refl _) h]
 split <;> rfl
theorem KB {s : Str} {lo hi : Nat} (h : lo ≤ hi) (h2 : hi ≤ s.l.length) : Kb s (lo : Int) (hi : Int) = some ⟨(s.l.take hi).drop lo⟩:=by
 unfold Kb; rw [if_pos (by omega)]; simp
theorem KI (l : List UInt8) (hl : l.length ≤ 70000000000) : ∀ (k i a : Nat) (out : List Str),i + k = l.length → a ≤ i → out.length ≤ i →
  ∃ out' a',ZH (Yk ⟨l⟩ 58) (out,(a : Int),(i : Int)) = some (out',((a' : Nat) : Int)) ∧ a' ≤ l.length ∧ out'.length = out.length + (l.drop i).count 58 ∧ ((l.drop i).count 58 = 0 → out' = out ∧ a' = a)
 | 0,i,a,out,hi,ha,ho=>by
  have e : l.drop i = []:=List.drop_eq_nil_of_le (by omega)
  refine ⟨out,a,Yi (by unfold Yk; simp [show ¬ (i : Int) < (l.length : Int) by omega]),by omega,by rw [e]; rfl,fun _=>⟨rfl,rfl⟩⟩
 | k + 1,i,a,out,hi,ha,ho=>by
  have h1 : i < l.length:=by omega
  have hx : idx l ((i : Nat) : Int) = some l[i]:=by rw [ZC,List.getElem?_eq_getElem h1]
  have hw : wr ((i : Int) + 1) = ((i + 1 : Nat) : Int):=Yl (by omega)
  have ed : l.drop i = l[i] :: l.drop (i + 1):=List.drop_eq_getElem_cons h1
  have hlt : ((i : Int) < (l.length : Int)):=by omega
  by_cases hc : l[i] = 58
  ·obtain ⟨o',a',e1,e2,e3,e4⟩:=KI l hl k (i + 1) (i + 1) (out ++ [⟨(l.take i).drop a⟩]) (by omega) (by omega) (by simp; omega)
   refine ⟨o',a',?_,e2,?_,fun h0=>?_⟩
   ·rw [Xr (s':=(out ++ [⟨(l.take i).drop a⟩],((i + 1 : Nat) : Int),((i + 1 : Nat) : Int))) (by
     unfold Yk
     have hs : Kb (⟨l⟩ : Str) (a : Int) (i : Int) = some ⟨(l.take i).drop a⟩:=KB ha (by show i ≤ l.length; omega)
     simp only [hlt,decide_true,if_true,hx,Option.bind_some,hc,beq_self_eq_true,hs]
     rw [Yv (by simp only [List.length_cons,List.length_nil]; omega),Option.bind_some,Option.bind_some,Option.bind_some,hw]),e1]
   ·rw [e3,ed,hc]; simp; omega
   ·rw [ed,hc] at h0; simp at h0
  ·have hb : (l[i] == (58 : UInt8)) = false:=by simpa using hc
   obtain ⟨o',a',e1,e2,e3,e4⟩:=KI l hl k (i + 1) a out (by omega) (by omega) (by omega)
   have ec : (l.drop i).count 58 = (l.drop (i + 1)).count 58:=by rw [ed,List.count_cons,hb]; simp
   refine ⟨o',a',?_,e2,by rw [e3,ec],fun h0=>e4 (by rw [← ec]; exact h0)⟩
   rw [Xr (s':=(out,((a : Nat) : Int),((i + 1 : Nat) : Int))) (by
     unfold Yk
     simp only [hlt,decide_true,if_true,hx,Option.bind_some,hb,Bool.false_eq_true,if_false,hw]),e1]
def Jj (l : List UInt8) : GShare × Int :=
 if Lib.indexByte l 58 = -1 then (⟨0,[]⟩,6) else
  let o:=(Lib.indexByte l 58).toNat
  let a:=l.take o
  let b:=l.drop (o + 1)
  if T7 a && (JW b).2 && decide (1 ≤ T2 0 a) && decide (T2 0 a ≤ 255) && decide ((JW b).1.length ≤ 100) then (⟨Yp (T2 0 a : Nat),(JW b).1⟩,0) else (⟨0,[]⟩,6)
theorem QH (l : List UInt8) : (Lib.indexByte l 58 = -1 ∧ 58 ∉ l) ∨ ∃ o : Nat,Lib.indexByte l 58 = (o : Int) ∧ o < l.length ∧ l[o]? = some 58 ∧ 58 ∉ l.take o:=by
 have hge:=Lib.indexByte_ge l 58
 by_cases h : Lib.indexByte l 58 = -1
 ·refine .inl ⟨h,fun hm=>?_⟩
  obtain ⟨k,hk,e⟩:=List.mem_iff_getElem.1 hm
  exact Lib.indexByte_none h k (by rw [List.getElem?_eq_getElem hk,e])
 ·obtain ⟨o,ho⟩ : ∃ o : Nat,Lib.indexByte l 58 = (o : Int):=⟨(Lib.indexByte l 58).toNat,by omega⟩
  obtain ⟨h1,h2⟩:=Lib.indexByte_some ho
  refine .inr ⟨o,ho,(List.getElem?_eq_some_iff.1 h1).1,h1,fun hm=>?_⟩
  obtain ⟨k,hk,e⟩:=List.mem_iff_getElem.1 hm
  rw [List.length_take] at hk
  refine h2 k (by omega) ?_
  rw [List.getElem_take] at e
  rw [List.getElem?_eq_getElem (by omega),e]
theorem v_Cut (l : List UInt8) (hl : l.length ≤ 70000000000) : To ⟨l⟩ ⟨[58]⟩ = some (if Lib.indexByte l 58 = -1 then (⟨l⟩,⟨[]⟩,false) else (⟨l.take (Lib.indexByte l 58).toNat⟩,⟨l.drop ((Lib.indexByte l 58).toNat + 1)⟩,true)):=by
 unfold To XP Xz
 have e : ((⟨[58]⟩ : Str).l.getD 0 0) = 58:=rfl
 simp only [List.length_singleton,if_true,Option.bind_some,e]
 rcases QH l with ⟨h,_⟩ | ⟨o,h,ho,_,_⟩
 ·rw [h]; rfl
 ·rw [h]
  have a1 : ((o : Int) ≥ 0):=by omega
  have a2 : ¬ ((o : Int) = -1):=by omega
  have a3 : wr ((o : Int) + ((1 : Nat) : Int)) = ((o + 1 : Nat) : Int):=Yl (by omega)
  have s1 : Kb (⟨l⟩ : Str) (0 : Int) (o : Int) = some ⟨l.take o⟩:=by
   have:=KB (s:=⟨l⟩) (lo:=0) (hi:=o) (by omega) (by show o ≤ l.length; omega)
   rw [List.drop_zero] at this; exact this
  have s2 : Kb (⟨l⟩ : Str) ((o + 1 : Nat) : Int) (l.length : Int) = some ⟨l.drop (o + 1)⟩:=by
   have:=KB (s:=⟨l⟩) (lo:=o + 1) (hi:=l.length) (by omega) (by show l.length ≤ l.length; omega)
   rw [show (⟨l⟩ : Str).l = l from rfl,List.take_length] at this; exact this
  simp only [a1,decide_true,if_true,a2,if_false,a3,s1,s2,Option.bind_some,Int.toNat_natCast]
theorem v_inR (n a b : Int) : YQ n a b = some (decide (a ≤ n) && decide (n ≤ b)):=by
 unfold YQ
 cases decide (a ≤ n) <;> rfl
theorem v_inL (n a b : Int) : WQ n a b = some (decide (a ≤ n) && decide (n ≤ b)):=by
 unfold WQ
 by_cases h : a ≤ n
 ·have h' : n ≥ a:=h
  simp [h,h']
 ·have h' : ¬ n ≥ a:=h
  simp [h,h']
theorem Q2 (l : List UInt8) (hl : l.length ≤ 60000000000) : WE ⟨l⟩ = some (Jj l):=by
 unfold WE Jj
 rw [v_Cut l (by omega),Option.bind_some]
 have hr : ∀ q : List UInt8,q.length ≤ 60000000000 → Y0 ⟨q⟩ = some (rdec q):=fun q hq=>by
  unfold Y0; rw [if_pos (by show q.length ≤ _; omega)]
 rcases QH l with ⟨h,_⟩ | ⟨o,h,ho,_,_⟩
 ·simp only [h,if_true]
  rw [hr l hl,z5 [] (by simp)]; rfl
 ·have a2 : ¬ ((o : Int) = -1):=by omega
  simp only [h,a2,if_false,Int.toNat_natCast]
  rw [hr (l.take o) (by rw [List.length_take]; omega),z5 (l.drop (o + 1)) (by rw [List.length_drop]; omega),Zcd]
  simp only [Option.bind_some,v_inR]
  cases T7 (l.take o) with
  | false=>rfl
  | true =>
   simp only [if_true,Bool.not_true,Bool.false_eq_true,if_false,Bool.true_and]
   cases (JW (l.drop (o + 1))).2 with
   | false=>rfl
   | true =>
    generalize T2 0 (l.take o) = n
    generalize (JW (l.drop (o + 1))).1 = d
    simp only [Bool.not_true,Bool.false_eq_true,if_false,Bool.true_and]
    have e1 : decide ((1 : Int) ≤ ((n : Nat) : Int)) = decide (1 ≤ n):=by simp; omega
    have e2 : decide (((n : Nat) : Int) ≤ 255) = decide (n ≤ 255):=by simp; omega
    have e3 : decide ((d.length : Int) > 100) = !decide (d.length ≤ 100):=by
     by_cases q : d.length ≤ 100 <;> simp [q] <;> omega
    rw [e1,e2,e3]
    cases decide (1 ≤ n) <;> cases decide (n ≤ 255) <;> cases decide (d.length ≤ 100) <;> rfl
theorem Zb9 (l : List UInt8) (hl : l.length ≤ 60000000000) : ∃ r,UA ⟨l⟩ 58 = some r ∧
  ((Lib.indexByte l 58 = -1 → r.length = 1) ∧ ∀ o : Nat,Lib.indexByte l 58 = (o : Int) → (58 ∈ l.drop (o + 1) → r.length ≠ 2) ∧ (58 ∉ l.drop (o + 1) → r = [⟨l.take o⟩,⟨l.drop (o + 1)⟩])):=by
 have hfin : ∀ (out : List Str) (a : Nat),a ≤ l.length → out.length ≤ l.length → ((Kb (⟨l⟩ : Str) (a : Int) ((⟨l⟩ : Str).l.length : Int)).bind fun (x41 : Str)=>(app 16 out ([x41] : List Str)).bind fun (l45 : List Str)=>some (out ++ ([x41] : List Str))) = some (out ++ [⟨l.drop a⟩]):=fun out a ha ho=>by
  have:=KB (s:=⟨l⟩) (lo:=a) (hi:=l.length) ha (Nat.le_refl _)
  rw [show (⟨l⟩ : Str).l = l from rfl,List.take_length] at this
  rw [this,Option.bind_some,Yv (by simp only [List.length_cons,List.length_nil]; omega)]; rfl
 have h0 : ∀ (i : Nat),(∀ j,j < i → l[j]? ≠ some 58) → i ≤ l.length → ZH (Yk ⟨l⟩ 58) (([] : List Str),(0 : Int),(0 : Int)) = ZH (Yk ⟨l⟩ 58) (([] : List Str),(0 : Int),(i : Int)):=fun i hn hi =>
  kX (f:=Yk ⟨l⟩ 58) (fun j : Nat=>(([] : List Str),(0 : Int),(j : Int))) 0 i (Nat.zero_le _) (fun j _ hj=>by
   have h1 : j < l.length:=by omega
   have hx : idx l ((j : Nat) : Int) = some l[j]:=by rw [ZC,List.getElem?_eq_getElem h1]
   have hw : wr ((j : Int) + 1) = ((j + 1 : Nat) : Int):=Yl (by omega)
   have hlt : ((j : Int) < (l.length : Int)):=by omega
   have hb : (l[j] == (58 : UInt8)) = false:=by
    have:=hn j hj
    rw [List.getElem?_eq_getElem h1] at this
    simpa using this
   unfold Yk
   simp only [hlt,decide_true,if_true,hx,Option.bind_some,hb,Bool.false_eq_true,if_false,hw])
 have hmem : ∀ i : Nat,58 ∉ l.take i → ∀ j,j < i → l[j]? ≠ some 58:=fun i hn j hj h=>by
  have h1:=(List.getElem?_eq_some_iff.1 h).1
  refine hn (List.mem_iff_getElem.2 ⟨j,by rw [List.length_take]; omega,?_⟩)
  rw [List.getElem_take]; exact (List.getElem?_eq_some_iff.1 h).2
 unfold UA
 rcases QH l with ⟨h,hn⟩ | ⟨o,h,ho,hat,hn⟩
 ·have hz : (l.drop 0).count 58 = 0:=by rw [List.drop_zero]; exact List.count_eq_zero.2 hn
  obtain ⟨out',a',e1,e2,e3,e4⟩:=KI l (by omega) l.length 0 0 [] (by omega) (by omega) (by simp)
  obtain ⟨rfl,rfl⟩:=e4 hz
  refine ⟨([] : List Str) ++ [⟨l.drop 0⟩],?_,fun _=>?_,fun o ho=>by omega⟩
  ·have e1' : ZH (Yk ⟨l⟩ 58) (([] : List Str),0,0) = some ([],((0 : Nat) : Int)):=e1
   rw [e1',Option.bind_some]
   exact hfin [] 0 (by omega) (by simp)
  ·rfl
 ·have h1 : l[o] = 58:=(List.getElem?_eq_some_iff.1 hat).2
  have hx : idx l ((o : Nat) : Int) = some l[o]:=by rw [ZC,List.getElem?_eq_getElem ho]
  have hw : wr ((o : Int) + 1) = ((o + 1 : Nat) : Int):=Yl (by omega)
  have hlt : ((o : Int) < (l.length : Int)):=by omega
  obtain ⟨out',a',e1,e2,e3,e4⟩:=KI l (by omega) (l.length - (o + 1)) (o + 1) (o + 1) [⟨l.take o⟩] (by omega) (by omega) (by simp)
  have hgo : ZH (Yk ⟨l⟩ 58) (([] : List Str),0,0) = some (out',((a' : Nat) : Int)):=by
   rw [h0 o (hmem o hn) (by omega),Xr (s':=([⟨l.take o⟩],((o + 1 : Nat) : Int),((o + 1 : Nat) : Int))) (by
    unfold Yk
    have hs : Kb (⟨l⟩ : Str) (0 : Int) (o : Int) = some ⟨l.take o⟩:=by
     have:=KB (s:=⟨l⟩) (lo:=0) (hi:=o) (by omega) (by show o ≤ l.length; omega)
     rw [List.drop_zero] at this; exact this
    simp only [hlt,decide_true,if_true,hx,Option.bind_some,h1,beq_self_eq_true,hs]
    rw [Yv (by simp),Option.bind_some,Option.bind_some,Option.bind_some,hw]; rfl),e1]
  have hle : out'.length ≤ l.length:=by
   have:=List.count_le_length (a:=(58 : UInt8)) (l:=l.drop (o + 1))
   rw [List.length_drop] at this
   simp only [List.length_singleton] at e3
   omega
  refine ⟨out' ++ [⟨l.drop a'⟩],by rw [hgo,Option.bind_some]; exact hfin out' a' e2 hle,fun q=>by omega,fun o' ho'=>?_⟩
  have : o' = o:=by omega
  subst this
  refine ⟨fun hm=>?_,fun hm=>?_⟩
  ·have:=List.count_pos_iff.2 hm
   simp only [List.length_append,List.length_singleton] at e3 ⊢
   omega
  ·obtain ⟨rfl,rfl⟩:=e4 (List.count_eq_zero.2 hm)
   rfl
theorem HF (l : List UInt8) (hl : l.length ≤ 60000000000) : VG ⟨l⟩ = some (Jj l):=by
 unfold VG Jj
 obtain ⟨r,hr,hr1,hr2⟩:=Zb9 l hl
 rw [hr,Option.bind_some]
 rcases QH l with ⟨h,_⟩ | ⟨o,h,ho,_,_⟩
 ·have:=hr1 h
  simp [h,this]
 ·have a2 : ¬ ((o : Int) = -1):=by omega
  obtain ⟨g1,g2⟩:=hr2 o h
  by_cases hm : 58 ∈ l.drop (o + 1)
  ·have hne:=g1 hm
   have hne' : ((r.length : Int) != 2) = true:=by simp; omega
   simp [hne',h,a2,kg hm]
  ·obtain rfl:=g2 hm
   simp only [List.length_cons,List.length_nil,h,a2,if_false,Int.toNat_natCast]
   have hb2 : (((0 + 1 + 1 : Nat) : Int) != 2) = false:=rfl
   simp only [hb2,Bool.false_eq_true,if_false]
   rw [show idx [(⟨l.take o⟩ : Str),⟨l.drop (o + 1)⟩] (0 : Int) = some ⟨l.take o⟩ from rfl,show idx [(⟨l.take o⟩ : Str),⟨l.drop (o + 1)⟩] (1 : Int) = some ⟨l.drop (o + 1)⟩ from rfl]
   simp only [Option.bind_some,v_inL]
   rw [yV,ka (l.drop (o + 1)) (by rw [List.length_drop]; omega)]
   simp only [Option.bind_some]
   cases T7 (l.take o) with
   | false =>
    cases (JW (l.drop (o + 1))).2 <;> rfl
   | true =>
    simp only [if_true,Bool.true_and]
    cases (JW (l.drop (o + 1))).2 with
    | false=>rfl
    | true =>
     generalize T2 0 (l.take o) = n
     generalize (JW (l.drop (o + 1))).1 = d
     simp only [Bool.not_true,Bool.false_eq_true,if_false,Bool.true_and]
     have e1 : decide ((1 : Int) ≤ ((n : Nat) : Int)) = decide (1 ≤ n):=by simp; omega
     have e2 : decide (((n : Nat) : Int) ≤ 255) = decide (n ≤ 255):=by simp; omega
     have e3 : decide ((d.length : Int) > 100) = !decide (d.length ≤ 100):=by
      by_cases q : d.length ≤ 100 <;> simp [q] <;> omega
     rw [e1,e2,e3]
     cases decide (1 ≤ n) <;> cases decide (n ≤ 255) <;> cases decide (d.length ≤ 100) <;> rfl
theorem ky (l : List UInt8) : (Jj l).1.Data.length ≤ 100:=by
 unfold Jj
 split
 ·simp
 ·simp only
  split
  ·rename_i h
   simp only [Bool.and_eq_true,decide_eq_true_eq] at h
   exact h.2
  ·simp
def lcg : Nat → Nat → Nat
 | 0,h=>h
 | n + 1,h=>lcg n (h * 6364136223846793005 + 1442695040888963407)
theorem TS (m : Nat) : ∀ (n h : Nat),lcg (n + m) h = lcg m (lcg n h)
 | 0,h=>by rw [Nat.zero_add]; rfl
 | n + 1,h=>by rw [Nat.succ_add]; exact TS m n _
theorem Za6 (m n h : Nat) : lcg m (lcg n h) = lcg n (lcg m h):=by rw [← TS,← TS,Nat.add_comm]
def lsq : Nat → Nat × Nat
 | 0=>(6364136223846793005 % 144115188075855872,1442695040888963407 % 144115188075855872)
 | k + 1=>((lsq k).1 * (lsq k).1 % 144115188075855872,((lsq k).1 * (lsq k).2 + (lsq k).2) % 144115188075855872)
theorem Zb4 {x y : Nat} (a c M : Nat) (h : x % M = y % M) : (a * x + c) % M = (a * y + c) % M:=by
 rw [Nat.add_mod,Nat.mul_mod,h,← Nat.mul_mod,← Nat.add_mod]
theorem yy : ∀ (k h : Nat),lcg (2 ^ k) h % 144115188075855872 = ((lsq k).1 * h + (lsq k).2) % 144115188075855872
 | 0,h=>by
  show (h * 6364136223846793005 + 1442695040888963407) % 144115188075855872 = ((6364136223846793005 % 144115188075855872) * h + 1442695040888963407 % 144115188075855872) % 144115188075855872
  omega
 | k + 1,h=>by
  rw [Nat.pow_succ,Nat.mul_two,TS,yy k,Zb4 _ _ _ (yy k h)]
  show _ = (((lsq k).1 * (lsq k).1 % 144115188075855872) * h + (((lsq k).1 * (lsq k).2 + (lsq k).2) % 144115188075855872)) % 144115188075855872
  rw [Nat.add_mod (_ % _ * h),Nat.mul_mod (_ % _),Nat.mod_mod,← Nat.mul_mod,Nat.mod_mod,← Nat.add_mod,Nat.mul_add,Nat.mul_assoc,Nat.add_assoc]
theorem Zbv : ∀ k : Fin 22,(lsq k.val).1 % 2 ^ (k.val + 1) = 1 ∧ (lsq k.val).2 % 2 ^ (k.val + 1) = 2 ^ k.val:=by decide +kernel
theorem ye {k : Nat} (h : k ≤ 57) : 2 ^ k ∣ 144115188075855872:=by
 have : 144115188075855872 = 2 ^ 57:=by decide
 rw [this]; exact Nat.pow_dvd_pow 2 h
theorem qi {k x y : Nat} (h : k ≤ 57) (e : x % 144115188075855872 = y % 144115188075855872) : x % 2 ^ k = y % 2 ^ k:=by
 rw [← Nat.mod_mod_of_dvd x (ye h),e,Nat.mod_mod_of_dvd y (ye h)]
theorem zU (r h : Nat) (h2 : h % 2 = r % 2) : ∀ k : Nat,k ≤ 21 → ∃ m,m % 2 = 0 ∧ m < 2 ^ (k + 1) ∧ lcg m h % 2 ^ (k + 1) = r % 2 ^ (k + 1)
 | 0,_=>⟨0,rfl,by decide,h2⟩
 | k + 1,hk=>by
  obtain ⟨m,m2,ml,e⟩:=zU r h h2 k (by omega)
  generalize hx : lcg m h = x at e
  have hq : 2 ^ (k + 1 + 1) = 2 ^ (k + 1) * 2:=Nat.pow_succ ..
  by_cases c : x % 2 ^ (k + 1 + 1) = r % 2 ^ (k + 1 + 1)
  ·exact ⟨m,m2,by omega,by rw [hx]; exact c⟩
  ·refine ⟨m + 2 ^ (k + 1),by rw [Nat.pow_succ]; omega,by omega,?_⟩
   rw [TS,hx]
   obtain ⟨l1,l2⟩:=Zbv ⟨k + 1,by omega⟩
   simp only at l1 l2
   rw [qi (by omega) (yy (k + 1) x),Nat.add_mod,Nat.mul_mod,l1,l2,Nat.one_mul,Nat.mod_mod,← Nat.mod_eq_of_lt (show 2 ^ (k + 1) < 2 ^ (k + 1 + 1) by rw [hq]; have:=Nat.two_pow_pos (k + 1); omega),← Nat.add_mod]
   have hp:=Nat.two_pow_pos (k + 1)
   rw [hq] at c ⊢
   generalize 2 ^ (k + 1) = q at *
   rw [Nat.mod_mul,Nat.mod_mul] at c ⊢
   rw [Nat.add_mod_right,Nat.add_div_right _ hp,e]
   rw [e] at c
   have hc : x / q % 2 ≠ r / q % 2:=fun hh=>c (by rw [hh])
   have : (x / q).succ % 2 = r / q % 2:=by omega
   rw [this]
def Qz (h : Nat) : Nat:=h / 8589934592 % 16777216
theorem lsq33 : lsq 33 = (1 + 34359738368 * 1955033,8589934592 * 5724933):=by decide +kernel
theorem yQ {r l : Nat} (hr : r < 4194304) (hl : l < 16777216) (e : (4 * 1955033 * r + 5724933) % 16777216 = l) (x : Nat) (hx : x % 4194304 = r) : ∀ i,lcg (i * 8589934592) x % 4194304 = r ∧ lcg (i * 8589934592) x % 144115188075855872 = (x + 8589934592 * (i * l)) % 144115188075855872
 | 0=>by rw [Nat.zero_mul]; exact ⟨hx,by rw [Nat.zero_mul]; rfl⟩
 | i + 1=>by
  obtain ⟨h1,h2⟩:=yQ hr hl e x hx i
  rw [Nat.succ_mul,TS]
  have hs : lcg 8589934592 (lcg (i * 8589934592) x) % 144115188075855872 = _:=yy 33 (lcg (i * 8589934592) x)
  rw [lsq33] at hs
  simp only at hs
  generalize lcg (i * 8589934592) x = y at *
  generalize lcg 8589934592 y = z at *
  rw [show (i + 1) * l = i * l + l from Nat.succ_mul ..]
  generalize i * l = il at *
  constructor <;> omega
theorem jd {x y il : Nat} (h : y % 144115188075855872 = (x + 8589934592 * il) % 144115188075855872) : Qz y = (Qz x + il) % 16777216:=by unfold Qz; omega
def jC (x m j i : Nat) : Bool:=(x + i * m + if j ≤ i then 2 else 0) % 3 != 0
theorem hits21 : ∀ x y : Fin 3,∀ j k : Fin 8,∃ i : Fin 7,jC x.val 2 j.val i.val = true ∧ jC y.val 1 k.val i.val = true:=by decide +kernel
theorem hits11 : ∀ x y : Fin 3,∀ j k : Fin 8,∃ i : Fin 7,jC x.val 1 j.val i.val = true ∧ jC y.val 1 k.val i.val = true:=by decide +kernel
theorem Za7 {x : Nat} (hx : x < 16777216) {l m : Nat} (hl : 0 < l) (h7 : 7 * l < 16777216) (hm : l % 3 = m) : ∃ j : Fin 8,∀ i : Fin 7,jC (x % 3) m j.val i.val = true → (x + i.val * l) % 16777216 % 3 ≠ 0:=by
 refine ⟨⟨min ((16777216 - x + l - 1) / l) 7,by omega⟩,fun i hi=>?_⟩
 have hi7:=i.isLt
 generalize i.val = i at *
 have hc : (min ((16777216 - x + l - 1) / l) 7 ≤ i) ↔ 16777216 ≤ x + i * l:=by
  have : (16777216 - x + l - 1) / l ≤ i ↔ 16777216 ≤ x + i * l:=by
   rw [← Nat.lt_succ_iff,Nat.div_lt_iff_lt_mul hl,Nat.succ_mul]; omega
  rw [← this]; omega
 unfold jC at hi
 have hil : i * l < 16777216:=Nat.lt_of_le_of_lt (Nat.mul_le_mul_right l (show i ≤ 7 by omega)) h7
 have h3 : i * l % 3 = i * m % 3:=by rw [Nat.mul_mod,hm,Nat.mul_mod i m,← hm,Nat.mod_mod]
 generalize i * l = il at *
 generalize i * m = im at *
 by_cases c : 16777216 ≤ x + il
 ·rw [if_pos (hc.2 c)] at hi
  simp only [bne_iff_ne,ne_eq] at hi
  have e : (x + il) % 16777216 + 16777216 = x + il:=by omega
  generalize (x + il) % 16777216 = z at *
  omega
 ·rw [if_neg (fun q=>c (hc.1 q))] at hi
  simp only [bne_iff_ne,ne_eq] at hi
  rw [Nat.mod_eq_of_lt (show x + il < 16777216 by omega)]
  omega
theorem Zaz (h : Nat) : ∃ n,n % 2 = 0 ∧ n ≤ 60000000000 ∧ Qz (lcg n h) % 3 ≠ 0 ∧ Qz (lcg (n + 2) h) % 3 ≠ 0:=by
 have key : ∀ r l l2 : Nat,r < 4194304 → (7 * l < 16777216 ∧ 0 < l) → (7 * l2 < 16777216 ∧ 0 < l2) → (4 * 1955033 * r + 5724933) % 16777216 = l → (4 * 1955033 * (lcg 2 r % 4194304) + 5724933) % 16777216 = l2 →
   (∀ x y : Fin 3,∀ j k : Fin 8,∃ i : Fin 7,jC x.val (l % 3) j.val i.val = true ∧ jC y.val (l2 % 3) k.val i.val = true) → h % 2 = r % 2 → ∃ n,n % 2 = 0 ∧ n ≤ 60000000000 ∧ Qz (lcg n h) % 3 ≠ 0 ∧ Qz (lcg (n + 2) h) % 3 ≠ 0:=by
  intro r l l2 hr hl hl2 e e2 hits hp
  obtain ⟨m,m2,ml,em⟩:=zU r h hp 21 (Nat.le_refl _)
  have em : lcg m h % 4194304 = r % 4194304:=em
  rw [Nat.mod_eq_of_lt hr] at em
  have ml : m < 4194304:=ml
  generalize hx : lcg m h = x at em
  have ey : lcg 2 x % 4194304 = lcg 2 r % 4194304:=by
   show ((x * 6364136223846793005 + 1442695040888963407) * 6364136223846793005 + 1442695040888963407) % 4194304 = ((r * 6364136223846793005 + 1442695040888963407) * 6364136223846793005 + 1442695040888963407) % 4194304
   omega
  have w1:=yQ hr (by omega) e x em
  have w2:=yQ (Nat.mod_lt _ (by decide)) (by omega) e2 (lcg 2 x) ey
  obtain ⟨j,hj⟩:=Za7 (x:=Qz x) (Nat.mod_lt _ (by decide)) hl.2 hl.1 rfl
  obtain ⟨k,hk⟩:=Za7 (x:=Qz (lcg 2 x)) (Nat.mod_lt _ (by decide)) hl2.2 hl2.1 rfl
  obtain ⟨i,i1,i2⟩:=hits ⟨Qz x % 3,Nat.mod_lt _ (by decide)⟩ ⟨Qz (lcg 2 x) % 3,Nat.mod_lt _ (by decide)⟩ j k
  have hi:=i.isLt
  refine ⟨m + i.val * 8589934592,by omega,by omega,?_,?_⟩
  ·rw [TS,hx,jd (w1 i.val).2]
   exact hj i i1
  ·rw [TS,TS,hx,Za6 2,jd (w2 i.val).2]
   exact hk i i2
 rcases Nat.mod_two_eq_zero_or_one h with c | c
 ·exact key 246 97565 1734757 (by decide) (by decide) (by decide) (by decide) (by decide +kernel) hits21 c
 ·exact key 81 1621417 1496017 (by decide) (by decide) (by decide) (by decide) (by decide +kernel) hits11 c
theorem qt (l : List UInt8) (c : UInt8) : T2 0 (l ++ [c]) = T2 0 l * 10 + (c.toNat - 48):=by unfold T2; rw [List.foldl_append]; rfl
theorem Zbh (n : Nat) : T2 0 (Lib.decDigits n) = n:=by
 have hd : ∀ k,k < 10 → (UInt8.ofNat (48 + k)).toNat = 48 + k:=fun k hk=>by simp; omega
 induction n using Nat.strongRecOn with
 | ind n ih =>
  by_cases h : n < 10
  ·rw [Av h]
   show 0 * 10 + ((UInt8.ofNat (48 + n)).toNat - 48) = n
   rw [hd n h]; omega
  ·rw [AQ h,qt,ih _ (by omega),hd _ (by omega)]; omega
theorem Za8 : ∀ x : UInt8,hv (B6 (x / 16)) = some (x / 16) ∧ hv (B6 (x % 16)) = some (x % 16) ∧ (BI (x / 16) 4 ||| (x % 16)) = x :=
 yK (by decide +kernel)
theorem ym : ∀ d : List UInt8,Qv (Qi d) = some d
 | []=>rfl
 | x :: d=>by
  obtain ⟨h1,h2,h3⟩:=Za8 x
  have e : Qi (x :: d) = B6 (x / 16) :: B6 (x % 16) :: Qi d:=rfl
  rw [e]
  unfold Qv
  rw [h1,h2,ym d]
  simp only [Option.map_some,h3]
theorem Zac (d : List UInt8) : JW (Qi d) = (d,true):=by
 unfold JW
 rw [Ky,if_neg (by omega),ym]
theorem kx {s : GShare} (h : Yf s = true) : Jj (Qo s).l = (s,0):=by
 unfold Yf at h
 simp only [Bool.and_eq_true,decide_eq_true_eq,bne_iff_ne,ne_eq] at h
 have hp:=s.Place.toNat_lt
 have hn0 : s.Place.toNat ≠ 0:=fun e=>h.1 (UInt8.toNat_inj.1 e)
 have hlen:=(Kn 3 s.Place.toNat (10 ^ 3) rfl (by omega) (by omega) (by omega) (by omega)).2
 have hdig : ∀ c ∈ Lib.decDigits s.Place.toNat,c ≠ 58:=fun c hc e=>by
  obtain ⟨c0,r,e1,a1,_⟩:=AS s.Place.toNat
  rw [e1] at hc
  have:=QB (List.all_eq_true.1 a1 c hc)
  rw [e] at this
  exact absurd this.2 (by decide)
 have e : (Qo s).l = Lib.decDigits s.Place.toNat ++ 58 :: Qi s.Data:=by unfold Qo; simp
 have hc : T7 (Lib.decDigits s.Place.toNat) = true:=yh (by omega)
 have hv:=Zbh s.Place.toNat
 rw [e]
 generalize Lib.decDigits s.Place.toNat = g at *
 rcases QH (g ++ 58 :: Qi s.Data) with ⟨_,hno⟩ | ⟨o,ho,hol,hat,hno⟩
 ·exact absurd (List.mem_append.2 (.inr (List.mem_cons_self ..))) hno
 ·have hog : o = g.length:=by
   rcases Nat.lt_trichotomy o g.length with c | c | c
   ·rw [List.getElem?_append_left c] at hat
    exact absurd rfl (hdig 58 (List.mem_of_getElem? hat))
   ·exact c
   ·exfalso
    refine hno ?_
    rw [List.mem_take_iff_getElem]
    exact ⟨g.length,by simp; omega,by simp⟩
  subst hog
  have a2 : ¬ ((g.length : Int) = -1):=by omega
  unfold Jj
  rw [ho,if_neg a2,Int.toNat_natCast]
  have e1 : (g ++ 58 :: Qi s.Data).take g.length = g:=by simp
  have e2 : (g ++ 58 :: Qi s.Data).drop (g.length + 1) = Qi s.Data:=by simp
  simp only [e1,e2,Zac,hc,hv]
  have h1 : 1 ≤ s.Place.toNat:=by omega
  have h2 : s.Place.toNat ≤ 255:=by omega
  simp only [h1,h2,h.2,decide_true,Bool.and_true,if_true,Hr]
  simp
theorem wrapU (x : Int) : IntKind.u64.wrap x = x % 18446744073709551616:=by
 simp only [IntKind.wrap,IntKind.bits,IntKind.signed]; simp
theorem qY {x : Int} {y : Nat} (h : x % 18446744073709551616 = ((y % 18446744073709551616 : Nat) : Int)) : IntKind.u64.wrap ((IntKind.u64.wrap (x * 6364136223846793005)) + 1442695040888963407) = ((lcg 1 y % 18446744073709551616 : Nat) : Int):=by
 rw [wrapU,wrapU]
 have e : lcg 1 y = y * 6364136223846793005 + 1442695040888963407:=rfl
 rw [e]
 omega
theorem Zcc (y : Nat) : IntKind.i64.wrap (wru (BitVec.ofInt 64 (YD ((y % 18446744073709551616 : Nat) : Int) 33) &&& BitVec.ofInt 64 16777215).toNat) = ((Qz y : Nat) : Int):=by
 have e1 : YD ((y % 18446744073709551616 : Nat) : Int) 33 = (((y % 18446744073709551616) >>> 33 : Nat) : Int):=A4 _ 33 (by omega)
 have e2 : (BitVec.ofInt 64 (((y % 18446744073709551616) >>> 33 : Nat) : Int) &&& BitVec.ofInt 64 16777215).toNat = Qz y:=by
  have h3 : (16777215 : Int) = ((16777215 : Nat) : Int):=rfl
  rw [BitVec.toNat_and,By _ (by rw [Nat.shiftRight_eq_div_pow]; omega),h3,By _ (by decide),show 16777215 = 2 ^ 24 - 1 from rfl,Nat.and_two_pow_sub_one_eq_mod,Nat.shiftRight_eq_div_pow]
  unfold Qz
  omega
 rw [e1,e2]
 have hx : Qz y < 16777216:=Nat.mod_lt _ (by decide)
 have e : wru ((Qz y : Nat) : Int) = ((Qz y : Nat) : Int):=kE _ (by omega)
 rw [e]
 exact YM (by omega)
section
variable {p : List UInt8} {s : Int × Int}
theorem qO {y : Nat} (hd : ¬ s.1 < (p.length : Int)) (hy : s.2 % 18446744073709551616 = ((y % 18446744073709551616 : Nat) : Int)) {n : Int} (hn : 1 ≤ n) :
  Zw p s n = some ((s.1,((lcg 1 y % 18446744073709551616 : Nat) : Int)),Int.tmod ((Qz (lcg 1 y) : Nat) : Int) n):=by
 unfold Zw
 rw [if_neg (by simp only [decide_eq_true_eq]; omega),qY hy,Zcc]
 have hz : TB n = some ():=by unfold TB; rw [if_pos (by omega)]
 have hc : ¬ decide (s.1 < (p.length : Int)) = true:=by simpa using hd
 rw [Option.bind_some,if_neg hc,Option.bind_some,hz]; rfl
theorem kV (hp : p.length ≤ 4096) (hs : YX s) {n : Int} (hn : 1 ≤ n) : ∃ r,Zw p s n = some r ∧ (YX r.1 ∧ (0 ≤ r.2 ∧ r.2 < n) ∧ r.1.1 = if s.1 < (p.length : Int) then s.1 + 1 else s.1):=by
 obtain ⟨r,e,h⟩:=Yu hp hs hn
 refine ⟨r,e,h.1,h.2,?_⟩
 unfold Zw at e
 obtain ⟨h1,h2⟩:=hs
 have hz : TB n = some ():=by unfold TB; rw [if_pos (by omega)]
 rw [if_neg (by simp only [decide_eq_true_eq]; omega),Option.bind_some] at e
 by_cases hd : s.1 < (p.length : Int)
 ·have hc : decide (s.1 < (p.length : Int)) = true:=by simpa using hd
  obtain ⟨x,ex,_⟩:=Xe p (i:=s.1) ⟨h1,hd⟩
  rw [if_pos hc,ex,Option.bind_some,Option.bind_some,Option.bind_some,hz,Option.bind_some] at e
  obtain rfl:=Option.some.inj e
  rw [if_pos hd]
  exact YM (by omega)
 ·have hc : ¬ decide (s.1 < (p.length : Int)) = true:=by simpa using hd
  rw [if_neg hc,Option.bind_some,hz,Option.bind_some] at e
  obtain rfl:=Option.some.inj e
  rw [if_neg hd]
end

theorem Zcl : ∀ k : Fin 16,((([(⟨[48]⟩ : Str),(⟨[49]⟩ : Str),(⟨[55]⟩ : Str),(⟨[57]⟩ : Str),(⟨[97]⟩ : Str),(⟨[102]⟩ : Str),(⟨[103]⟩ : Str),(⟨[65]⟩ : Str),(⟨[45]⟩ : Str),(⟨[47]⟩ : Str),(⟨[59]⟩ : Str),(⟨[58]⟩ : Str),(⟨[44]⟩ : Str),(⟨[32]⟩ : Str),(⟨[124]⟩ : Str),(⟨[10]⟩ : Str)] : List Str)[k.val]?.map (·.l.length)) = some 1):=by decide
theorem Zb5 {k : Int} (h : 0 ≤ k ∧ k < 16) : ∃ c : Str,idx ([(⟨[48]⟩ : Str),(⟨[49]⟩ : Str),(⟨[55]⟩ : Str),(⟨[57]⟩ : Str),(⟨[97]⟩ : Str),(⟨[102]⟩ : Str),(⟨[103]⟩ : Str),(⟨[65]⟩ : Str),(⟨[45]⟩ : Str),(⟨[47]⟩ : Str),(⟨[59]⟩ : Str),(⟨[58]⟩ : Str),(⟨[44]⟩ : Str),(⟨[32]⟩ : Str),(⟨[124]⟩ : Str),(⟨[10]⟩ : Str)] : List Str) k = some c ∧ c.l.length = 1:=by
 obtain ⟨n,rfl⟩:=Int.eq_ofNat_of_zero_le h.1
 have:=Zcl ⟨n,by omega⟩
 rw [ZC]
 obtain ⟨c,h1,h2⟩:=Option.map_eq_some_iff.1 this
 exact ⟨c,h1,h2⟩
theorem Kv {t : Str} {lo hi : Int} (h : 0 ≤ lo ∧ lo ≤ hi ∧ hi ≤ t.l.length) : ∃ r,Kb t lo hi = some r ∧ (r.l.length : Int) = hi - lo:=by
 obtain ⟨a,rfl⟩:=Int.eq_ofNat_of_zero_le h.1
 obtain ⟨b,rfl⟩:=Int.eq_ofNat_of_zero_le (show 0 ≤ hi by omega)
 refine ⟨_,KB (by omega) (by omega),?_⟩
 rw [List.length_drop,List.length_take]; omega
theorem JF {a b : Str} (h : (a.l.length : Int) + b.l.length ≤ 140737488355328) : ∃ r,KP a b = some r ∧ (r.l.length : Int) = a.l.length + b.l.length:=by
 refine ⟨⟨a.l ++ b.l⟩,?_,?_⟩
 ·unfold KP; rw [if_pos (by omega)]
 ·rw [List.length_append]; omega
theorem AA {p : List UInt8} {s : Int × Int} {t : Str} {J : Nat → Int × Int → Prop} (hJ : ∀ i s n,i ≤ 2 → J i s → 1 ≤ n → ∃ r,Zw p s n = some r ∧ (J (i + 1) r.1 ∧ 0 ≤ r.2 ∧ r.2 < n)) (h0 : J 0 s) (ht : t.l.length ≤ 50000000000) :
  ∃ r,Wf p s t = some r ∧ ((J 1 r.1 ∨ J 3 r.1) ∧ r.2.l.length ≤ t.l.length + 1):=by
 unfold Wf
 refine Zp (hJ 0 _ _ (by omega) h0 (by simp)) fun r3 q3=>Zp (Zb5 ⟨q3.2.1,q3.2.2⟩) fun c hc=>?_
 refine YE (fun _=>⟨_,rfl,.inl q3.1,by show c.l.length ≤ _; omega⟩) fun hne=>?_
 have hpos : 1 ≤ (t.l.length : Int):=by simp at hne; have : t.l.length ≠ 0:=fun e=>hne (List.length_eq_zero_iff.1 e); omega
 refine Zp (hJ 1 _ _ (by omega) q3.1 hpos) fun r9 q9=>Zp (hJ 2 _ _ (by omega) q9.1 (by omega)) fun r11 q11=>?_
 obtain ⟨b1,b2⟩:=q9.2
 have hw : wr (r9.2 + 1) = r9.2 + 1:=YM (by omega)
 rw [hw]
 have done : ∀ {o : Option Str},(∃ q,o = some q ∧ (q.l.length : Int) ≤ t.l.length + 1) → ∃ r,(o.bind fun j=>some ((r11.1.1,r11.1.2),j)) = some r ∧ ((J 1 r.1 ∨ J 3 r.1) ∧ r.2.l.length ≤ t.l.length + 1):=fun h =>
  Zp h fun q hq=>⟨_,rfl,.inr q11.1,by show q.l.length ≤ _; omega⟩
 refine YE (fun _=>done ?_) fun _=>YE (fun _=>done ?_) fun _=>done ?_
 ·exact Zp (Kv (by omega)) fun a ha=>Zp (JF (by omega)) fun b hb=>Zp (Kv (by omega)) fun d hd=>Zp (JF (by omega)) fun e he=>⟨_,rfl,by omega⟩
 ·exact Zp (Kv (by omega)) fun a ha=>Zp (Kv (by omega)) fun d hd=>Zp (JF (by omega)) fun e he=>⟨_,rfl,by omega⟩
 ·exact Zp (Kv (by omega)) fun a ha=>Zp (JF (by omega)) fun b hb=>Zp (Kv (by omega)) fun d hd=>Zp (JF (by omega)) fun e he=>⟨_,rfl,by omega⟩

def AtY (p : List UInt8) (y t : Nat) (s : Int × Int) : Prop:=¬ s.1 < (p.length : Int) ∧ s.2 % 18446744073709551616 = ((lcg t y % 18446744073709551616 : Nat) : Int)
theorem jm {p : List UInt8} {y t : Nat} {s : Int × Int} (h : AtY p y t s) {n : Int} (hn : 1 ≤ n) : ∃ r,Zw p s n = some r ∧ (AtY p y (t + 1) r.1 ∧ (0 ≤ r.2 ∧ r.2 < n) ∧ r.2 = Int.tmod ((Qz (lcg (t + 1) y) : Nat) : Int) n):=by
 have e : lcg 1 (lcg t y) = lcg (t + 1) y:=(TS 1 t y).symm
 refine ⟨_,qO h.1 h.2 hn,⟨h.1,?_⟩,⟨Int.tmod_nonneg _ (by omega),Int.tmod_lt_of_pos _ (by omega)⟩,by rw [e]⟩
 show (((lcg 1 (lcg t y) % 18446744073709551616 : Nat) : Int)) % 18446744073709551616 = _
 rw [e]; omega
theorem J8 {p : List UInt8} {y N : Nat} (hN : N % 2 = 0) (g1 : Qz (lcg (N + 1) y) % 3 ≠ 0) (g2 : Qz (lcg (N + 3) y) % 3 ≠ 0) :
  ∀ (k t : Nat) (q : Int × Int × Str),N + 2 - t ≤ k → t ≤ N + 2 → t % 2 = 0 → AtY p y t (q.1,q.2.1) → 2 * q.2.2.l.length + k ≤ 100000000000 → ∃ r,ZH (Z2 p) q = some r ∧ r.l.length ≤ 50000000000
 | k,t,q,hk,htN,ht2,hq,hl=>by
  obtain ⟨r,e,h1,h2,h3⟩:=jm hq (n:=3) (by omega)
  by_cases hz : r.2 = 0
  ·have h0 : Qz (lcg (t + 1) y) % 3 = 0:=by
    rw [h3] at hz
    have : Int.tmod ((Qz (lcg (t + 1) y) : Nat) : Int) 3 = ((Qz (lcg (t + 1) y) % 3 : Nat) : Int):=rfl
    rw [this] at hz; omega
   have hlt : t < N:=by
    rcases Nat.lt_or_ge t N with c | c
    ·exact c
    ·exfalso
     have : t = N ∨ t = N + 2:=by omega
     rcases this with rfl | rfl
     ·exact g1 h0
     ·exact g2 h0
   obtain ⟨d,ed,d1,d2⟩:=AA (p:=p) (s:=r.1) (t:=q.2.2) (J:=fun i s=>AtY p y (t + 1 + i) s) (fun i s n _ hs hn=>by
    obtain ⟨r,e,h1,h2,_⟩:=jm hs hn
    exact ⟨r,e,h1,h2⟩) h1 (by omega)
   have ef : Z2 p q = some (.nx (d.1.1,d.1.2,d.2)):=by
    unfold Z2
    rw [e,Option.bind_some,if_pos (by simpa using hz)]
    show ((Wf p r.1 q.2.2).bind _) = _
    rw [ed]; rfl
   rw [Xr ef]
   rcases d1 with d1 | d1
   ·exact J8 hN g1 g2 (k - 2) (t + 2) _ (by omega) (by omega) (by omega) d1 (by show 2 * d.2.l.length + _ ≤ _; omega)
   ·exact J8 hN g1 g2 (k - 4) (t + 4) _ (by omega) (by omega) (by omega) d1 (by show 2 * d.2.l.length + _ ≤ _; omega)
  ·refine ⟨q.2.2,Yi ?_,by omega⟩
   unfold Z2
   rw [e,Option.bind_some,if_neg (by simpa using hz)]
 termination_by k=>k
theorem jA {p : List UInt8} (q : Int × Int × Str) (hd : ¬ q.1 < (p.length : Int)) (hl : q.2.2.l.length ≤ 10000) : ∃ r,ZH (Z2 p) q = some r ∧ r.l.length ≤ 50000000000:=by
 obtain ⟨N,n2,nb,g1,g2⟩:=Zaz (lcg 1 (q.2.1 % 18446744073709551616).toNat)
 rw [← TS,Nat.add_comm 1] at g1 g2
 refine J8 n2 g1 g2 (N + 2) 0 q (by omega) (by omega) rfl ⟨hd,?_⟩ (by omega)
 show q.2.1 % 18446744073709551616 = (((q.2.1 % 18446744073709551616).toNat % 18446744073709551616 : Nat) : Int)
 omega
theorem A6 {p : List UInt8} (hp : p.length ≤ 4096) : ∀ (k : Nat) (q : Int × Int × Str),(p.length : Int) - q.1 ≤ k → YX (q.1,q.2.1) → q.2.2.l.length + k ≤ 10000 → ∃ r,ZH (Z2 p) q = some r ∧ r.l.length ≤ 50000000000
 | k,q,hk,hs,hl=>by
  by_cases hd : q.1 < (p.length : Int)
  ·obtain ⟨r,e,h1,h2,h3⟩:=kV hp hs (n:=3) (by omega)
   have h3 : r.1.1 = q.1 + 1:=by rw [h3,if_pos hd]
   by_cases hz : r.2 = 0
   ·obtain ⟨d,ed,d1,d2⟩:=AA (p:=p) (s:=r.1) (t:=q.2.2) (J:=fun i s=>YX s ∧ q.1 + 1 ≤ s.1) (fun i s n _ hs hn=>by
     obtain ⟨r,e,h1,h2,h3⟩:=kV hp hs.1 hn
     refine ⟨r,e,⟨h1,?_⟩,h2⟩
     have:=hs.2
     rw [h3]; split <;> omega) ⟨h1,by omega⟩ (by omega)
    have d1 : YX d.1 ∧ q.1 + 1 ≤ d.1.1:=by rcases d1 with h | h <;> exact h
    have ef : Z2 p q = some (.nx (d.1.1,d.1.2,d.2)):=by
     unfold Z2
     rw [e,Option.bind_some,if_pos (by simpa using hz)]
     show ((Wf p r.1 q.2.2).bind _) = _
     rw [ed]; rfl
    rw [Xr ef]
    exact A6 hp (k - 1) _ (by show (p.length : Int) - d.1.1 ≤ _; omega) d1.1 (by show d.2.l.length + _ ≤ _; omega)
   ·refine ⟨q.2.2,Yi ?_,by omega⟩
    unfold Z2
    rw [e,Option.bind_some,if_neg (by simpa using hz)]
  ·exact jA q hd (by omega)
 termination_by k=>k
theorem Aa {p : List UInt8} (hp : p.length ≤ 4096) : ∃ r,X3 p = some r ∧ r.l.length ≤ 50000000000:=by
 unfold X3
 refine Zp (QP hp) fun r1 q1=>Zp (Kt hp q1) fun r5 q5=>Zp (BT hp q5 (n:=20) (by omega)) fun r7 q7=>?_
 have h7:=q7.2
 have hd:=Kn 64 r5.2.toNat (10 ^ 64) rfl (by have:=r5.2.toNat_lt; omega) (by have:=r5.2.toNat_lt; omega) (by omega) (by omega)
 have hx:=ji r7.2 (by omega)
 have e : V6 (⟨r5.2,r7.2⟩ : GShare) = some (Qo ⟨r5.2,r7.2⟩):=Be ⟨r5.2,r7.2⟩ (by show r7.2.length ≤ 100; omega) hd.1 hx
 have hlen : (Qo ⟨r5.2,r7.2⟩).l.length ≤ 200:=by
  have h1:=hd.2
  have h2:=Ky r7.2
  show ((Lib.decDigits r5.2.toNat ++ [58]) ++ Qi r7.2).length ≤ 200
  simp only [List.length_append,List.length_singleton]
  omega
 rw [e]
 exact Qk (Zp (A6 hp 5000 _ (by have:=q7.1.1; show (p.length : Int) - r7.1.1 ≤ _; omega) q7.1 (by show (Qo _).l.length + _ ≤ _; omega)) fun r q=>⟨_,rfl,q⟩)
section
variable {p : List UInt8} (hp : p.length ≤ 4096)
include hp
theorem H3 : ∃ r,XF p = some r ∧ Vn r.2.1:=by
 unfold XF
 refine Zp (QP hp) fun r1 q1=>Zp (zq hp q1 (n:=8) (by omega)) fun r5 q5=>Zp (Yu hp q5.1 (by omega)) fun r8 q8=>?_
 obtain ⟨_,l1,l2,l3⟩:=q5
 obtain ⟨k,ek⟩:=Int.eq_ofNat_of_zero_le q8.2.1
 refine Zp (P:=fun j=>YX (j.1,j.2.1) ∧ Vn j.2.2) (VU (fun i t=>t.2.2.2 = ((k - i : Nat) : Int) ∧ YX (t.1,t.2.1) ∧ (1 ≤ t.2.2.1.length ∧ t.2.2.1.length ≤ 12) ∧ ∀ x ∈ t.2.2.1,x.Data.length ≤ 6) k (fun i t hi ht=>?_) (fun t ht=>?_) k 0 _ (by omega) ⟨by show r8.2 = _; rw [ek]; rfl,q8.1,⟨l1,l2⟩,l3⟩) fun j hj=>Zp (Yu hp hj.1 (by omega)) fun r q=>YE (fun _=>Zp (QY hp q.1) fun r q=>⟨_,rfl,q.2⟩) fun _=>⟨_,rfl,hj.2⟩
 ·obtain ⟨t1,t2,t3,t4⟩:=ht
  unfold Wn
  rw [if_pos (BS (by omega))]
  have hw : wr (t.2.2.2 - 1) = ((k - (i + 1) : Nat) : Int):=by rw [t1,JJ (by omega) (by have:=q8.2.2; omega)]; omega
  refine Zp (P:=fun j=>YX (j.1,j.2.1) ∧ (1 ≤ j.2.2.length ∧ j.2.2.length ≤ 12) ∧ ∀ x ∈ j.2.2,x.Data.length ≤ 6) (Zp (Yu hp t2 (by omega)) fun r27 q27=>?_) fun j hj=>⟨_,rfl,_,rfl,hw,hj⟩
  obtain ⟨n,en⟩:=Int.eq_ofNat_of_zero_le q27.2.1
  have hn : n < t.2.2.1.length:=by have:=q27.2.2; omega
  rw [en]
  have hx:=t4 _ (List.getElem_mem hn)
  refine Zp (P:=fun z=>z = t.2.2.1[n]) ⟨_,by rw [ZC,List.getElem?_eq_getElem hn],rfl⟩ fun x ex=>Zp (P:=fun j=>YX (j.1,j.2.1) ∧ (1 ≤ j.2.2.length ∧ j.2.2.length ≤ 12) ∧ ∀ x ∈ j.2.2,x.Data.length ≤ 6) (YE (fun c=>?_) fun _=>⟨_,rfl,q27.1,t3,t4⟩) fun j hj=>⟨_,rfl,hj⟩
  have c : (x.Data.length : Int) > 0:=of_decide_eq_true c
  refine Zp (P:=fun z=>z = x) ⟨_,by rw [ZC,List.getElem?_eq_getElem hn],ex.symm⟩ fun z ez=>?_
  subst ez
  rw [← ex] at hx
  refine Zp (Yu hp q27.1 (by omega)) fun r q=>Zp (Kt hp q.1) fun b hb=>Zp (Xe z.Data q.2) fun y hy=>⟨_,rfl,hb,?_,fun y hy=>?_⟩
  ·show 1 ≤ (t.2.2.1.set _ _).length ∧ (t.2.2.1.set _ _).length ≤ 12
   rw [List.length_set]; exact t3
  ·rcases List.mem_or_eq_of_mem_set hy with hy | rfl
   ·exact t4 y hy
   ·show (z.Data.set _ _).length ≤ 6
    rw [List.length_set]; exact hx
 ·obtain ⟨t1,t2,t3,t4⟩:=ht
  unfold Wn
  rw [if_neg (AX (by omega))]
  exact ⟨_,rfl,_,rfl,t2,t3.2,fun x hx=>by have:=t4 x hx; omega⟩
theorem AB : ∃ r,Ws p = some r ∧ r.2.length ≤ 13:=by
 unfold Ws
 refine Zp (QP hp) fun r1 q1=>Zp (jQ hp q1) fun r5 q5=>Zp (Yu hp q5 (by omega)) fun r7 q7=>Zp (Yu hp q7.1 (by omega)) fun r9 q9=>Zp (V3 hp q9.1 (by simp)) fun r13 q13=>?_
 have b7:=q7.2
 have b9:=q9.2
 obtain ⟨n,en,hn⟩:=kB (m:=13) q13.2 (by rw [YM (by omega)]; omega) (by rw [YM (by omega)]; omega) (by omega) (by omega)
 rw [en]
 exact Zp (Ax hp q13.1 (by omega)) fun r q=>⟨_,rfl,by show r.2.length ≤ 13; omega⟩
theorem zJ : ∃ r,WO p = some r ∧ Vn r.2.2.2.1:=by
 unfold WO
 refine Zp (QP hp) fun r1 q1=>Zp (QY hp q1) fun r5 q5=>?_
 obtain ⟨q5,q6⟩:=q5
 refine Zp (P:=fun (j : Int)=>∃ n : Nat,j = (n : Int) ∧ n ≤ 7) (YE (fun c=>?_) fun _=>⟨_,rfl,0,rfl,by omega⟩) fun j8 h8=>?_
 ·have c : (r5.2.2.1.length : Int) > 0:=of_decide_eq_true c
  exact Zp (Xe r5.2.2.1 (by omega)) fun x hx=>⟨_,rfl,x.Data.length,rfl,q6.2 x hx⟩
 obtain ⟨n,rfl,hn⟩:=h8
 refine Zp (P:=fun j=>YX (j.1,j.2.1) ∧ Vn j.2.2) (Zp (P:=fun j=>YX (j.1,j.2.1) ∧ (j.2.2 = true → 1 < r5.2.2.2 ∧ r5.2.2.2 ≤ (r5.2.2.1.length : Int))) (YE (fun c1=>YE (fun c2=>YE (fun c3=>YE (fun c4=>?_) fun _=>⟨_,rfl,q5,fun h=>Bool.noConfusion (show false = true from h)⟩) fun _=>⟨_,rfl,q5,fun h=>Bool.noConfusion (show false = true from h)⟩) fun _=>⟨_,rfl,q5,fun h=>Bool.noConfusion (show false = true from h)⟩) fun _=>⟨_,rfl,q5,fun h=>Bool.noConfusion (show false = true from h)⟩) fun j hj=>YE (fun c=>?_) fun _=>⟨_,rfl,hj.1,q6⟩) fun j hj=>?_
 ·have c2 : (r5.2.2.1.length : Int) ≥ r5.2.2.2:=of_decide_eq_true c2
  have c3 : r5.2.2.2 > 1:=of_decide_eq_true c3
  exact Zp (Yu hp q5 (by omega)) fun r q=>⟨_,rfl,q.1,fun _=>⟨c3,c2⟩⟩
 ·obtain ⟨c1,c2⟩:=hj.2 c
  have hl:=q6.1
  obtain ⟨u,eu⟩:=Int.eq_ofNat_of_zero_le (show 0 ≤ r5.2.2.2 - 1 by omega)
  have hw : wr (r5.2.2.2 - 1) = (u : Int):=by rw [YM (by omega)]; exact eu
  have hs : slc r5.2.2.1 (0 : Int) (u : Int) = _:=Hc (l:=r5.2.2.1) (i:=0) (j:=u) (by omega) (by omega)
  rw [hw,hs]
  refine ⟨_,rfl,hj.1,?_,fun x hx=>?_⟩
  ·show (List.drop 0 (List.take u r5.2.2.1)).length ≤ 12
   rw [List.drop_zero,List.length_take]; omega
  ·exact q6.2 x (List.mem_of_mem_take (by simpa using hx))
 ·refine Zp (QK hp hj.1 (by omega)) fun r45 q45=>Zp (Yu hp q45.1 (by omega)) fun r48 q48=>YE (fun _=>⟨_,rfl,hj.2⟩) fun _=>Zp (Yu hp q48.1 (by omega)) fun r52 q52=>?_
  obtain ⟨k,ek⟩:=Int.eq_ofNat_of_zero_le q52.2.1
  have b:=q52.2.2
  have e : Int.tdiv r52.2 15 = ((k / 15 : Nat) : Int):=by rw [ek]; rfl
  have e2 : wr ((n : Int) + wr (Int.tdiv r52.2 15)) = ((n + k / 15 : Nat) : Int):=by rw [e,YM (x:=((k / 15 : Nat) : Int)) (by omega),YM (by omega)]; omega
  rw [e2]
  exact Zp (QK hp q52.1 (by omega)) fun r q=>⟨_,rfl,hj.2⟩
theorem zb : ∃ r,WB p = some r ∧ r.Data.length ≤ 101:=by
 unfold WB
 refine Zp (QP hp) fun r1 q1=>Zp (Kt hp q1) fun r7 q7=>Zp (V3 hp q7 (by simp)) fun r11 q11=>?_
 obtain ⟨n,en,hn⟩:=BX (m:=101) q11.2 (by omega) (by omega) (by omega)
 rw [en]
 exact Zp (BT hp q11.1 (by omega)) fun r q=>⟨_,rfl,by have:=q.2; show r.2.length ≤ 101; omega⟩
theorem Hl : ∃ r,Xt p = some r ∧ (Vn r.2.1 ∧ r.2.2.length ≤ 8 ∧ ∀ c ∈ r.2.2,c.length ≤ 8):=by
 unfold Xt
 refine Zp (QP hp) fun r1 q1=>Zp (QY hp q1) fun r5 q5=>?_
 obtain ⟨q5,q6⟩:=q5
 refine Zp (Yu hp q5 (by omega)) fun r10 q10=>Zp (Yu hp q10.1 (by omega)) fun r12 q12=>Zp (V3 hp q12.1 (by simp)) fun r16 q16=>?_
 have b10:=q10.2
 have b12:=q12.2
 obtain ⟨k,ek,hk⟩:=BX (m:=8) q16.2 (by omega) (by omega) (by omega)
 refine Zp (P:=fun j=>YX (j.1,j.2.1) ∧ j.2.2.length ≤ 8 ∧ ∀ c ∈ j.2.2,c.length ≤ 7) ?_ fun j hj=>?_
 ·by_cases hl : (r5.2.2.1.length : Int) > 0
  ·refine VU (fun i t=>t.2.2.1 = ((k - i : Nat) : Int) ∧ t.2.2.2.length = i ∧ YX (t.1,t.2.1) ∧ ∀ c ∈ t.2.2.2,c.length ≤ 7) k (fun i t hi ht=>?_) (fun t ht=>?_) k 0 _ (by omega) ⟨ek,rfl,q16.1,fun c hc=>by cases hc⟩
   ·obtain ⟨t1,t2,t3,t4⟩:=ht
    unfold Xk
    rw [if_pos (BS (by omega)),Option.bind_some,if_pos (BS hl)]
    refine Zp (Xe r5.2.2.1 (by omega)) fun x hx=>?_
    have hx:=q6.2 x hx
    refine Zp (QK hp t3 (by omega)) fun r hr=>?_
    have ha : app 24 t.2.2.2 ([r.2] : List (List UInt8)) = _:=Yv (by simp only [List.length_singleton]; omega)
    rw [ha]
    refine ⟨_,rfl,_,rfl,by show wr (t.2.2.1 - 1) = _; rw [t1,JJ (by omega) (by omega)]; omega,by simp; omega,hr.1,fun c hc=>?_⟩
    rcases List.mem_append.1 hc with h | h
    ·exact t4 c h
    ·rw [List.mem_singleton.1 h,hr.2]; exact hx
   ·obtain ⟨t1,t2,t3,t4⟩:=ht
    unfold Xk
    rw [if_neg (AX (by omega)),Option.bind_some,if_neg (by decide)]
    exact ⟨_,rfl,_,rfl,t3,by show t.2.2.2.length ≤ 8; omega,t4⟩
  ·refine ⟨_,Yi (t:=(r16.1.1,r16.1.2,[])) ?_,q16.1,by simp,fun c hc=>by cases hc⟩
   unfold Xk
   have : ∀ c : Prop,∀ _ : Decidable c,(if c then (some (decide ((r5.2.2.1.length : Int) > 0))) else (some false) : Option Bool) = some false:=fun c _=>by
    rw [decide_eq_false hl]; split <;> rfl
   rw [this,Option.bind_some,if_neg (by decide)]
 ·obtain ⟨j1,j2,j3⟩:=hj
  have j3' : ∀ c ∈ j.2.2,c.length ≤ 8:=fun c hc=>by have:=j3 c hc; omega
  refine Zp (P:=fun k=>k.length ≤ 8 ∧ ∀ c ∈ k,c.length ≤ 8) (Zp (P:=fun k=>k = true → 0 < j.2.2.length) (YE (fun c=>?_) fun _=>⟨_,rfl,fun h=>Bool.noConfusion (show false = true from h)⟩) fun b hb=>YE (fun c=>?_) fun _=>⟨_,rfl,j2,j3'⟩) fun k hk=>⟨_,rfl,q6,hk⟩
  ·have c : (j.2.2.length : Int) > 0:=of_decide_eq_true c
   exact Zp (Yu hp j1 (by omega)) fun r q=>⟨_,rfl,fun _=>by omega⟩
  ·have c:=hb c
   refine Zp (Xe j.2.2 (by omega)) fun x hx=>?_
   have hx:=j3 x hx
   have ha : app 1 x ([1] : List UInt8) = _:=Yv (by simp only [List.length_singleton]; omega)
   rw [ha]
   refine Qk (Zp (Xe j.2.2 (by omega)) fun y hy=>⟨_,rfl,by show (j.2.2.set _ _).length ≤ 8; rw [List.length_set]; exact j2,fun c hc=>?_⟩)
   rcases List.mem_or_eq_of_mem_set hc with hc | rfl
   ·exact j3' c hc
   ·simp; omega
theorem zy : ∃ r,Wp p = some r ∧ (Vn r.2.1 ∧ Vn r.2.2):=by
 unfold Wp
 refine Zp (QP hp) fun r1 q1=>Zp (QY hp q1) fun r5 q5=>?_
 obtain ⟨q5,q6⟩:=q5
 have hl:=q6.1
 refine Zp (P:=fun j=>YX (j.1,j.2.1) ∧ Vn j.2.2) (VU (fun i t=>t.2.2.1 = (i : Int) ∧ t.2.2.2.length = i ∧ YX (t.1,t.2.1) ∧ ∀ c ∈ t.2.2.2,c.Data.length ≤ 7) r5.2.2.1.length (fun i t hi ht=>?_) (fun t ht=>?_) r5.2.2.1.length 0 _ (by omega) ⟨rfl,rfl,q5,fun c hc=>by cases hc⟩) fun j hj=>?_
 ·obtain ⟨t1,t2,t3,t4⟩:=ht
  unfold Vk
  rw [if_pos (Q0 (by omega))]
  have hi : 0 ≤ t.2.2.1 ∧ t.2.2.1 < r5.2.2.1.length:=by omega
  refine Zp (Xe r5.2.2.1 hi) fun x hx=>Zp (Xe r5.2.2.1 hi) fun _ _=>Zp (Xe r5.2.2.1 hi) fun _ _=>?_
  have hx:=q6.2 x hx
  refine Zp (QK hp t3 (by omega)) fun r hr=>?_
  have ha : app 32 t.2.2.2 ([(⟨x.Place,r.2⟩ : GShare)] : List GShare) = _:=Yv (by simp only [List.length_singleton]; omega)
  rw [ha]
  refine ⟨_,rfl,_,rfl,by show wr (t.2.2.1 + 1) = _; rw [t1,Te (by omega) (by omega)]; omega,by simp; omega,hr.1,fun c hc=>?_⟩
  rcases List.mem_append.1 hc with h | h
  ·exact t4 c h
  ·rw [List.mem_singleton.1 h]; show r.2.length ≤ 7; rw [hr.2]; exact hx
 ·obtain ⟨t1,t2,t3,t4⟩:=ht
  unfold Vk
  rw [if_neg (J1 (by omega))]
  exact ⟨_,rfl,_,rfl,t3,by show t.2.2.2.length ≤ 12; omega,t4⟩
 ·obtain ⟨j1,j2,j3⟩:=hj
  refine Zp (P:=Vn) (Zp (Yu hp j1 (by omega)) fun r q=>Zp (P:=Vn) (YE (fun _=>YE (fun c=>?_) fun _=>⟨_,rfl,j2,j3⟩) fun _=>YE (fun _=>YE (fun c=>?_) fun _=>⟨_,rfl,j2,j3⟩) fun _=>⟨_,rfl,j2,j3⟩) fun k hk=>⟨_,rfl,hk⟩) fun k hk=>⟨_,rfl,q6,hk⟩
  ·have c : (j.2.2.length : Int) > 0:=of_decide_eq_true c
   refine Zp (Xe j.2.2 (by omega)) fun x hx=>Zp (Xe j.2.2 (by omega)) fun y hy=>⟨_,rfl,by show (j.2.2.set _ _).length ≤ 12; rw [List.length_set]; exact j2,fun z hz=>?_⟩
   rcases List.mem_or_eq_of_mem_set hz with hz | rfl
   ·exact j3 z hz
   ·exact j3 y hy
  ·have c : (j.2.2.length : Int) > 1:=of_decide_eq_true c
   have hs : slc j.2.2 (1 : Int) (j.2.2.length : Int) = _:=Hc (l:=j.2.2) (i:=1) (j:=j.2.2.length) (by omega) (by omega)
   rw [hs]
   refine ⟨_,rfl,?_,fun x hx=>?_⟩
   ·show (List.drop 1 (List.take _ j.2.2)).length ≤ 12
    rw [List.length_drop,List.length_take]; omega
   ·exact j3 x (List.mem_of_mem_take (List.mem_of_mem_drop hx))
end
theorem jz (m : Nat) (l : List GShare) (t : Nat) : ∀ s,Yh 12 (VR m l t s) ≤ t ∨ Ti m (Tk l (VR m l t s)) t = true
 | 0=>.inl (by show Yh 12 0 ≤ t; rw [Hm]; omega)
 | s + 1=>by
  unfold VR
  by_cases c : Js m l t s (VR m l t s) = true
  ·rw [if_pos c]
   unfold Js at c
   by_cases c1 : Yh 12 s < Yh 12 (VR m l t s)
   ·rw [if_pos c1] at c; cases c
   ·rw [if_neg c1] at c
    by_cases c2 : Yh 12 s = Yh 12 (VR m l t s) ∧ ¬ Kh (Yn s 12) (Yn (VR m l t s) 12) < 0
    ·rw [if_pos c2] at c; cases c
    ·rw [if_neg c2,Bool.or_eq_true,decide_eq_true_eq] at c
     exact c
  ·rw [if_neg c]; exact jz m l t s
theorem Zam {l l' : List GShare} (h : Yo l = 0) (hs : l'.Sublist l) (h0 : 0 < l'.length) : Yo l' = 0:=by
 have hc:=yX h
 have hg:=QA h
 refine Zbz (N:=dataN l) (fun s q=>hc.1 s (hs.subset q)) ?_ ⟨by omega,Nat.le_trans hs.length_le (Ay h)⟩ (fun s q=>hg.even s (hs.subset q)) hc.2.2
 have:=hc.2.1
 unfold WM at this ⊢
 rw [decide_eq_true_eq] at this ⊢
 exact (hs.map _).nodup this
theorem ql {m : Int} {l : List GShare} {t : Int} (h : YJ m l t = 0) : Yo l = 0:=by
 obtain ⟨hf,_⟩:=UH h
 unfold YJ at h
 rw [hf] at h
 by_cases hc : Yo l = 0
 ·exact hc
 ·have : (Yo l == 0) = false:=by simpa using hc
  rw [this] at h
  exact absurd h hc
theorem Zbs {m : Int} {l : List GShare} {t : Int} (hf : ZV m = true) (hc : Yo l = 0) (ht : 1 ≤ t ∧ t ≤ 8) : YJ m l t = 0:=by
 unfold YJ
 rw [hf,hc]; simp; omega
theorem qM {m : Int} {l : List GShare} {t : Int} (h : (TG m l t).2 = 0) : ∃ B : Nat,B < 2 ^ l.length ∧ l.length ≤ 12 ∧ (TG m l t).1 = XG B l.length ∧ KN m (Tk l B) t = (true,0) ∧ t + 2 * ((XG B l.length).length : Int) ≤ (l.length : Int):=by
 by_cases hb : YJ m l t = 0
 ·obtain ⟨hf,g,t1,t8⟩:=UH hb
  have hl:=J9 hb
  obtain ⟨u,rfl⟩:=Int.eq_ofNat_of_zero_le (show 0 ≤ t by omega)
  unfold TG at h ⊢
  rw [hb] at h ⊢
  rw [if_neg (by decide)] at h ⊢
  have hB:=AI m.toNat l (u : Int).toNat (2 ^ l.length) (Nat.two_pow_pos _)
  have hfit:=jz m.toNat l (u : Int).toNat (2 ^ l.length)
  generalize VR m.toNat l (u : Int).toNat (2 ^ l.length) = B at *
  rw [Int.toNat_natCast] at *
  by_cases c : Yh 12 B ≤ u ∨ l.length < u + 2 * (XG B l.length).length
  ·rw [if_pos c] at h; cases h
  ·rw [if_neg c]
   have hn : u < Yh 12 B:=by omega
   refine ⟨B,hB,hl,rfl,?_,by omega⟩
   have hsel : (Tk l B).length = Yh 12 B:=by rw [yE,Vv,Vv,H1 hB hl]
   have hc:=Zam (ql hb) (Q3 l B) (by omega)
   unfold KN
   rw [Zbs hf hc ⟨t1,t8⟩,if_neg (by decide),Int.toNat_natCast]
   rcases hfit with q | q
   ·omega
   ·rw [q]
 ·unfold TG at h
  have : (YJ m l t != 0) = true:=by simpa using hb
  rw [this,if_pos rfl] at h
  exact absurd h hb
theorem Zce (l : List Int) (x : Int) (h : l.length ≤ 100000) : Tq l x = some (l.contains x):=by
 unfold Tq
 have:=QD (f:=UZ l x) l (fun y=>y == x) (t:=true) (by omega) (fun i hi=>by
  unfold UZ
  rw [if_pos (Q0 (by omega)),ZC,List.getElem?_eq_getElem hi,Option.bind_some]
  cases (l[i] == x) <;> rfl) (by unfold UZ; simp)
 rw [this]
 have e : (l.any fun y=>y == x) = l.contains x:=by
  rw [Bool.eq_iff_iff,List.any_eq_true,List.contains_iff_mem]
  exact ⟨fun ⟨y,h1,h2⟩=>by rw [← eq_of_beq h2]; exact h1,fun h=>⟨x,h,BEq.rfl⟩⟩
 rw [e]
 cases l.contains x <;> rfl
theorem qX {B n i : Nat} (hi : i < n) : (XG B n).contains (i : Int) = !B.testBit i:=by
 rw [Bool.eq_iff_iff,List.contains_iff_mem]
 unfold XG
 rw [List.mem_map]
 constructor
 ·rintro ⟨j,hj,e⟩
  have : j = i:=by omega
  subst this
  exact (List.mem_filter.1 hj).2
 ·intro h; exact ⟨i,List.mem_filter.2 ⟨List.mem_range.2 hi,h⟩,rfl⟩
theorem qr (d : Int × List GShare × Int) (l : List GShare) (hd : d.2.1 = l) (B : Nat) (r : List Int × Int) (hr : r.1 = XG B l.length) (hl : l.length ≤ 12) : ZH (Xg d r) (([] : List GShare),0) = some (Tk l B):=by
 have hrl : (XG B l.length).length ≤ 100000:=by have:=QU B l.length; omega
 have:=Yq (f:=Xg d r) (fun i : Nat=>((YU B i).filterMap (fun i=>l[i]?),(i : Int))) 0 l.length (Nat.zero_le _) (t:=Tk l B) (fun i _ hi=>by
  unfold Xg
  have b1:=TK B i
  have b3:=List.length_filterMap_le (fun i=>l[i]?) (YU B i)
  have e2 : app 32 ((YU B i).filterMap (fun i=>l[i]?)) [l[i]] = _:=Yv (by simp; omega)
  rw [hd,hr]
  simp only [Int.ofNat_lt,hi,decide_true,if_true,Zce _ _ hrl,qX hi,Option.bind_some,ZC,List.getElem?_eq_getElem hi,e2,Yl (show i < 9223372036854775807 by omega)]
  rw [Kx]
  cases B.testBit i <;> simp [List.getElem?_eq_getElem hi]) (by unfold Xg; rw [hd]; simp [HM])
 exact this

def A0 (m : Nat) (l v : List UInt8) : Nat → UInt8
 | 0=>0
 | i + 1=>A0 m l v i ^^^ Zz m (wtC m l (l.getD i 0)) (v.getD i 0)
section
variable {m : Nat} (h1 : 256 ≤ m) (h2 : m < 512)
include h1 h2
omit h1 in
theorem qo {part : List UInt8} (hpl : 1 ≤ part.length ∧ part.length ≤ 100) (s27 : List UInt8 × Int) (hs : s27.1 = part) (q b : UInt8) :
  ∃ r,ZH (Xi (m : Int) s27 q b) (List.replicate (part.length + 1) 0,0) = some r ∧ (r.length = part.length + 1 ∧ r.getD 0 0 = Zz m (Zz m (part.getD 0 0) q) b):=by
 refine VU (fun i t=>t.2 = (i : Int) ∧ t.1.length = part.length + 1 ∧ t.1.getD 0 0 = if i = 0 then 0 else Zz m (Zz m (part.getD 0 0) q) b) part.length (fun i t hi ht=>?_) (fun t ht=>?_) part.length 0 _ (by omega) ⟨rfl,by simp,by simp [List.getD_eq_getElem?_getD]⟩
 ·obtain ⟨t1,t2,t3⟩:=ht
  unfold Xi
  rw [hs,t1,if_pos (Q0 (by omega)),Te (by omega) (by omega)]
  have e0 : idx part ((i : Nat) : Int) = some part[i]:=by rw [ZC,List.getElem?_eq_getElem hi]
  have e1 : idx t.1 ((i : Nat) : Int) = some (t.1.getD i 0):=by rw [ZC,List.getD_eq_getElem?_getD,List.getElem?_eq_getElem (by omega)]; rfl
  simp only [e0,e1,Option.bind_some,WW m h2,Int.toNat_natCast]
  generalize hj : t.1.set i _ = j
  have jl : j.length = part.length + 1:=by rw [← hj,List.length_set]; exact t2
  have hc : (i : Int) + 1 = ((i + 1 : Nat) : Int):=by omega
  rw [hc]
  have e3 : idx j ((i + 1 : Nat) : Int) = some (j.getD (i + 1) 0):=by rw [ZC,List.getD_eq_getElem?_getD,List.getElem?_eq_getElem (by omega)]; rfl
  simp only [e3,Option.bind_some,Int.toNat_natCast]
  refine ⟨_,rfl,_,rfl,rfl,by show (j.set _ _).length = _; rw [List.length_set]; exact jl,?_⟩
  show (j.set (i + 1) _).getD 0 0 = _
  rw [if_neg (by omega),List.getD_eq_getElem?_getD,List.getElem?_set_ne (by omega),← hj]
  by_cases c : i = 0
  ·subst c
   rw [if_pos rfl] at t3
   rw [List.getElem?_set_self (by omega),t3,UInt8.zero_xor,List.getD_eq_getElem?_getD,List.getElem?_eq_getElem hi]; rfl
  ·rw [if_neg c] at t3
   rw [List.getElem?_set_ne (by omega),← List.getD_eq_getElem?_getD,t3]
 ·obtain ⟨t1,t2,t3⟩:=ht
  unfold Xi
  rw [hs,if_neg (J1 (by omega))]
  rw [if_neg (by omega)] at t3
  exact ⟨_,rfl,_,rfl,t2,t3⟩
theorem Zae {l : List UInt8} (hl : l.length ≤ 40) (hd : l.Nodup) {i : Nat} (hi : i < l.length) (s10 : Int × List UInt8) (hs : s10.1 = (i : Int)) :
  ∃ r,ZH (Xh (m : Int) l s10 l[i]) (([1] : List UInt8),0) = some r ∧ (r.length = l.length ∧ r.getD 0 0 = wtC m l l[i]):=by
 refine VU (fun k t=>t.2 = (k : Int) ∧ t.1.length = (if i < k then k else k + 1) ∧ t.1.getD 0 0 = wtC m (l.take k) l[i]) l.length (fun k t hk ht=>?_) (fun t ht=>?_) l.length 0 _ (by omega) ⟨rfl,rfl,rfl⟩
 ·obtain ⟨t1,t2,t3⟩:=ht
  unfold Xh
  rw [t1,if_pos (Q0 (by omega)),ZC,List.getElem?_eq_getElem hk,Option.bind_some,Te (k:=(k : Int)) (by omega) (by omega),hs]
  have ht' : wtC m (l.take (k + 1)) l[i] = if l[k] != l[i] then Zz m (wtC m (l.take k) l[i]) (Zz m l[k] (Qy m (l[i] ^^^ l[k]))) else wtC m (l.take k) l[i]:=by
   unfold wtC
   rw [List.take_succ_eq_append_getElem hk,List.foldl_append]; rfl
  by_cases c : k = i
  ·subst c
   rw [if_pos (by simp),Option.bind_some]
   refine ⟨_,rfl,_,rfl,by show (k : Int) + 1 = _; omega,by rw [t2]; split <;> split <;> omega,?_⟩
   rw [ht',if_neg (by simp)]; exact t3
  ·have hne : l[k] ≠ l[i]:=fun e=>c (JR hd hk hi e)
   rw [if_neg (by simp; omega),Qn m h2,Option.bind_some]
   have hlen : 1 ≤ t.1.length ∧ t.1.length ≤ 100:=by rw [t2]; split <;> omega
   rw [Te (k:=(t.1.length : Int)) (by omega) (by omega),show (t.1.length : Int) + 1 = ((t.1.length + 1 : Nat) : Int) by omega,Hx (by omega),Option.bind_some]
   obtain ⟨r,e,r1,r2⟩:=qo h2 hlen t rfl l[k] (Qy m (l[i] ^^^ l[k]))
   rw [e]
   refine ⟨_,rfl,_,rfl,by show (k : Int) + 1 = _; omega,by show r.length = _; rw [r1,t2]; split <;> split <;> omega,?_⟩
   show r.getD 0 0 = _
   rw [ht',if_pos (by simpa using hne),r2,t3,Y3 h1 h2]
 ·obtain ⟨t1,t2,t3⟩:=ht
  unfold Xh
  rw [if_neg (J1 (by omega))]
  rw [List.take_length] at t3
  rw [if_pos hi] at t2
  exact ⟨_,rfl,_,rfl,t2,t3⟩
theorem Al {l v : List UInt8} (hl : l.length ≤ 40) (hd : l.Nodup) (hv : v.length = l.length) : ∃ r,Xu (m : Int) l v = some r ∧ (r.length = l.length ∧ r.getD 0 0 = A0 m l v l.length):=by
 unfold Xu
 rw [Hx (by omega)]
 refine Qk (Zp (VU (fun i t=>t.1 = (i : Int) ∧ t.2.length = l.length ∧ t.2.getD 0 0 = A0 m l v i) l.length (fun i t hi ht=>?_) (fun t ht=>?_) l.length 0 _ (by omega) ⟨rfl,by simp,by cases l.length <;> rfl⟩) fun r hr=>⟨_,rfl,hr⟩)
 ·obtain ⟨t1,t2,t3⟩:=ht
  unfold X1
  rw [if_pos (Q0 (by omega)),t1,ZC,List.getElem?_eq_getElem hi,Option.bind_some]
  refine Zp (Zae h1 h2 hl hd hi t t1) fun part hp=>?_
  have hvi : i < v.length:=by omega
  refine Zp (P:=fun r=>r.length = l.length ∧ r.getD 0 0 = A0 m l v (i + 1)) (VU (fun n q=>q.2 = (n : Int) ∧ q.1.length = l.length ∧ q.1.getD 0 0 = A0 m l v (if n = 0 then i else i + 1)) l.length (fun n q hn hq=>?_) (fun q hq=>?_) l.length 0 _ (by omega) ⟨rfl,t2,by rw [if_pos rfl]; exact t3⟩) fun r hr=>⟨_,rfl,_,rfl,by show wr ((i : Int) + 1) = _; rw [Te (by omega) (by omega)]; omega,hr⟩
  ·obtain ⟨q1,q2,q3⟩:=hq
   unfold X0
   have e0 : idx part ((n : Nat) : Int) = some (part.getD n 0):=by rw [ZC,List.getD_eq_getElem?_getD,List.getElem?_eq_getElem (by omega)]; rfl
   have e1 : idx q.1 ((n : Nat) : Int) = some (q.1.getD n 0):=by rw [ZC,List.getD_eq_getElem?_getD,List.getElem?_eq_getElem (by omega)]; rfl
   have e2 : idx v t.1 = some (v.getD i 0):=by rw [t1,ZC,List.getD_eq_getElem?_getD,List.getElem?_eq_getElem hvi]; rfl
   rw [q1,if_pos (Q0 (by omega))]
   simp only [e0,e1,e2,Option.bind_some,WW m h2,Int.toNat_natCast]
   refine ⟨_,rfl,_,rfl,by show wr ((n : Int) + 1) = _; rw [Te (by omega) (by omega)]; omega,by show (q.1.set _ _).length = _; rw [List.length_set]; exact q2,?_⟩
   show (q.1.set n _).getD 0 0 = _
   rw [if_neg (by omega),List.getD_eq_getElem?_getD]
   by_cases c : n = 0
   ·subst c
    rw [if_pos rfl] at q3
    rw [List.getElem?_set_self (by omega),q3,hp.2]
    show A0 m l v i ^^^ Zz m (wtC m l l[i]) (v.getD i 0) = A0 m l v i ^^^ Zz m (wtC m l (l.getD i 0)) (v.getD i 0)
    rw [List.getD_eq_getElem?_getD (l:=l),List.getElem?_eq_getElem hi]; rfl
   ·rw [if_neg c] at q3
    rw [List.getElem?_set_ne (by omega),← List.getD_eq_getElem?_getD,q3]
  ·obtain ⟨q1,q2,q3⟩:=hq
   unfold X0
   rw [if_neg (J1 (by omega))]
   rw [if_neg (by omega)] at q3
   exact ⟨_,rfl,_,rfl,q2,q3⟩
 ·obtain ⟨t1,t2,t3⟩:=ht
  unfold X1
  rw [if_neg (J1 (by omega))]
  exact ⟨_,rfl,_,rfl,t2,t3⟩
omit h1 in
theorem Zat (hf : ZV (m : Int) = true) {l v : List UInt8} (hl : l.length ≤ 40) (hv : v.length = l.length) (d : Int × List UInt8) (hd : d = ((m : Int),l)) (w : List UInt8 × Int) (hw : w.1 = l.map (wtC m l)) (g : (Int × Int) × List UInt8) (hg : g.2 = v) :
  ZH (Xf d w g) (0,0) = some (.nx (A0 m l v l.length)):=by
 subst hd
 refine Yq (f:=Xf ((m : Int),l) w g) (fun i : Nat=>(A0 m l v i,(i : Int))) 0 l.length (Nat.zero_le _) (fun i _ hi=>?_) ?_
 ·unfold Xf TP
  have e1 : idx (l.map (wtC m l)) ((i : Nat) : Int) = some (wtC m l (l.getD i 0)):=by rw [ZC,List.getElem?_map,List.getD_eq_getElem?_getD,List.getElem?_eq_getElem hi]; rfl
  have e2 : idx v ((i : Nat) : Int) = some (v.getD i 0):=by rw [ZC,List.getD_eq_getElem?_getD,List.getElem?_eq_getElem (by omega)]; rfl
  rw [hw,hg,if_pos (Q0 (by show (i : Int) < (l.length : Int); omega))]
  simp only [e1,e2,Option.bind_some,JI,hf,WW m h2]
  rw [Te (by omega) (by omega)]; rfl
 ·unfold Xf
  rw [if_neg (J1 (by show ¬ (l.length : Int) < (l.length : Int); omega))]
end
end Go.Proofs.YtfhhlkkhcoaapaaGreatDoor
