/- Plain laws, no program in sight. -/
import Derived.Test.YtfhhlkkhcoaapaaGreatC4
set_option linter.unusedVariables false
set_option linter.unusedSimpArgs false
set_option maxRecDepth 20000
set_option maxHeartbeats 400000
namespace Go.Proofs.YtfhhlkkhcoaapaaGreat
open Go
open Flat (enc)
theorem Zcs {v : GVault} (h : YW v = true) (n : Int) (hn : n ∈ v.Records.map (·.Number) ∨ n ∈ (Uo v.Events).map (·.1)) : kl (Uo v.Events) (Hx v.Records) n = AY v n:=by
 obtain ⟨a1,a2⟩:=Zkv v.Events n
 obtain ⟨b1,b2⟩:=Zik h n
 unfold kl AY
 rw [← a1,b1]
 cases hb : (byC v.Events n).2 with
 | false =>
  cases hk : decide (Y6 v n ≥ 0) with
  | true=>rfl
  | false =>
   exfalso
   rcases hn with hn | hn
   ·obtain ⟨r,hr,rfl⟩:=List.mem_map.1 hn
    have hnd : (v.Records.map (·.Number)).Nodup:=(Zfm h).imp λh=>Int.ne_of_lt h
    have:=Zfz v.Records [] r hnd hr
    rw [show X7 (Hx v.Records) r.Number = some r.Tag from this,hk] at b1
    cases b1
   ·have:=(y5 n _).2 hn
    rw [← a1,hb] at this
    cases this
 | true =>
  cases hk : decide (Y6 v n ≥ 0) with
  | false=>rfl
  | true =>
   rw [a2 hb,b2 (by simpa using hk)]
   simp only [Option.getD_some,Bool.not_true,Bool.false_or,bne_self_eq_false,Bool.true_and]
   congr 1
   rw [decide_eq_decide]
   exact ⟨λh=>h.symm,λh=>h.symm⟩
theorem Zio {v : GVault} (h : YW v = true) : (yM v).filter (AY v) = (Lib.compact (Ur (v.Records.map (·.Number) ++ (Uo v.Events).map (·.1)))).filter (kl (Uo v.Events) (Hx v.Records)):=by
 obtain ⟨n1,n2⟩:=Zjj h
 obtain ⟨s1,s2⟩:=Zhw (v.Records.map (·.Number) ++ (Uo v.Events).map (·.1))
 obtain ⟨c1,c2⟩:=Zde _ s1
 have hm : ∀ x,x ∈ Lib.compact (Ur (v.Records.map (·.Number) ++ (Uo v.Events).map (·.1))) ↔ x ∈ v.Records.map (·.Number) ∨ x ∈ (Uo v.Events).map (·.1):=λx=>by
  rw [c2,s2,List.mem_append]
 refine Zqb (n1.sublist List.filter_sublist) (c1.sublist List.filter_sublist) λx=>?_
 rw [List.mem_filter,List.mem_filter,n2,hm]
 constructor
 ·rintro ⟨hx,hf⟩
  have hx' : x ∈ v.Records.map (·.Number) ∨ x ∈ (Uo v.Events).map (·.1):=by
   rcases hx with hx | _
   ·exact .inl hx
   ·obtain ⟨a1,_⟩:=Zkv v.Events x
    unfold AY at hf
    cases hb : (byC v.Events x).2 with
    | true=>exact .inr ((y5 x _).1 (by rw [← a1,hb]))
    | false =>
     rw [hb] at hf
     have hp : Y6 v x ≥ 0:=by simpa using hf
     have hp' : ¬ Y6 v x < 0:=by omega
     obtain ⟨i,_,hi,e2⟩:=BM hp'
     exact .inl (List.mem_map.2 ⟨_,List.getElem_mem hi,e2⟩)
  exact ⟨hx',by rw [Zcs h x hx']; exact hf⟩
 rintro ⟨hx,hf⟩
 refine ⟨?_,by rw [← Zcs h x hx]; exact hf⟩
 rcases hx with hx | hx
 ·exact .inl hx
 exact .inr (Zl1 _ x hx)
def Zfv (k : Int) (p : Int → Bool) (l : List Int) : List (List Int):=(l.filter p).map λn=>[k,n]
theorem Znc (k : Int) (p : Int → Bool) (l : List Int) (acc : List (List Int)) : l.foldl (λa n=>if p n then a ++ [[k,n]] else a) acc = acc ++ Zfv k p l:=by
 induction l generalizing acc with
 | nil=>simp [Zfv]
 | cons n l ih =>
  rw [List.foldl_cons,ih]
  unfold Zfv
  by_cases h : p n = true
  ·simp [h]
  ·simp [h]
theorem Zqc (k : Int) (p : Int → Bool) (l : List Int) : (Zfv k p l).length ≤ l.length:=by
 unfold Zfv; rw [List.length_map]; exact List.length_filter_le _ _
def Zbk (v : GVault) : List (List Int):=(v.Records.filter λr=>!decide (Ui v r = r.Tag)).map λr=>[3,r.Number]
theorem Zj8 (v : GVault) (l : List GRecord) (acc : List (List Int)) : l.foldl (λa r=>if !decide (Ui v r = r.Tag) then a ++ [[3,r.Number]] else a) acc = acc ++ (l.filter λr=>!decide (Ui v r = r.Tag)).map λr=>[3,r.Number]:=by
 induction l generalizing acc with
 | nil=>simp
 | cons r l ih =>
  rw [List.foldl_cons,ih]
  by_cases h : Ui v r = r.Tag
  ·simp [h]
  ·simp [h]
def zW (v : GVault) : List (List Int):=if z9 (YP 4) v.Events = v.Head then [] else [[1]]
def yY (v : GVault) : List (List Int) × Int:=if YW v then ((zW v ++ Zfv 2 (AY v) (yM v)) ++ Zbk v,0) else ([],1)
theorem Zpy (v : GVault) : (((some (z9 (YP 4) v.Events)).bind λ(r18 : V32)=>some (!decide (r18 = v.Head)) : Option Bool).bind λ(j14 : Bool)=>if j14 = true then ((app 24 ([] : List (List Int)) ([([1] : List Int)] : List (List Int))).bind λ(_ : List (List Int))=>some (([] : List (List Int)) ++ ([([1] : List Int)] : List (List Int)))) else (some ([] : List (List Int))) : Option (List (List Int))) = some (zW v):=by
 unfold zW
 by_cases h : z9 (YP 4) v.Events = v.Head
 ·simp [h]
 simp only [ob_,h,decide_false,Bool.not_false,if_true,if_false]
 rw [Xm (by simp)]; rfl
theorem Zie {α : Type} (p : α → Bool) (g : α → List Int) (l : List α) (acc : List (List Int)) : (l.foldl (λa x=>if p x then a ++ [g x] else a) acc).length ≤ acc.length + l.length:=by
 induction l generalizing acc with
 | nil=>simp
 | cons x l ih =>
  rw [List.foldl_cons]
  have h1 : (if p x then acc ++ [g x] else acc).length ≤ acc.length + 1:=by split <;> simp
  have h2:=ih (if p x then acc ++ [g x] else acc)
  rw [List.length_cons]; omega
theorem Zj2 (v : GVault) (hv : YW v = true) (acc : List (List Int)) (ha : acc.length ≤ 1000) : ZK (UG v ⟨Z9 (YP 4)⟩) (0,acc) = some (acc ++ Zbk v):=by
 have hs:=Kn hv
 have:=T7 (f:=UG v ⟨Z9 (YP 4)⟩) v.Records (λb i=>(i,b)) (λa r=>if !decide (Ui v r = r.Tag) then a ++ [[3,r.Number]] else a) acc (t:=acc ++ Zbk v) om_ (λi hi=>by
  have hlt : ((i : Int) < (v.Records.length : Int)):=by omega
  have hx : idx v.Records ((i : Nat) : Int) = some v.Records[i]:=by rw [Yx,ge_ hi]
  have hl:=Zie (λr : GRecord=>!decide (Ui v r = r.Tag)) (λr=>[3,r.Number]) (v.Records.take i) acc
  rw [List.length_take] at hl
  generalize (v.Records.take i).foldl _ acc = s at hl
  obtain ⟨a1,a2,a3,a4⟩:=BN hv (List.getElem_mem hi)
  unfold UG
  simp only [hlt,decide_true,if_true,hx,ob_,qR v _ ⟨a1,a2⟩ om_ om_]
  by_cases h : Ui v v.Records[i] = v.Records[i].Tag
  ·simp [h]
  ·simp only [h,decide_false,Bool.not_false,if_true]
   rw [Xm (by simp only [List.length_cons,List.length_nil]; omega)]; rfl) (by
  rw [Zj8]
  unfold UG Zbk
  simp)
 exact this
theorem Zl6 (v : GVault) : (zW v).length ≤ 1:=by unfold zW; split <;> simp
theorem qM (v : GVault) (hb : Wt.ln v) : QM v = some (yY v):=by
 unfold QM yY
 rw [JA v hb,ob_]
 cases hv : YW v with
 | false=>rfl
 | true =>
  have hs:=Kn hv
  have hh:=Zl6 v
  have ht:=Zpd v.Events
  simp only [Bool.not_true,bf_,if_false,if_true]
  rw [QV,ob_,BF (YP 4) Zbj v.Events om_,Zpy,ob_,Zi2 v.Events om_,ob_]
  have h0:=T7 (f:=UD v) v.Records (λb i=>(b.1,i,b.2)) (λs r=>(KR s.1 r.Number r.Tag,s.2 ++ [r.Number])) (([],[]) : List (Int × Dig) × List Int) (t:=(Hx v.Records,v.Records.map (·.Number))) om_ (λi hi=>by
   have hlt : ((i : Int) < (v.Records.length : Int)):=by omega
   have hx : idx v.Records ((i : Nat) : Int) = some v.Records[i]:=by rw [Yx,ge_ hi]
   have hl : ((v.Records.take i).foldl (λs r=>(KR s.1 r.Number r.Tag,s.2 ++ [r.Number])) (([],[]) : List (Int × Dig) × List Int)).2.length ≤ 12:=by
    have H : ∀ (l : List GRecord) (s : List (Int × Dig) × List Int),(l.foldl (λs r=>(KR s.1 r.Number r.Tag,s.2 ++ [r.Number])) s).2.length = s.2.length + l.length:=by
     intro l
     induction l with
     | nil=>intro s; simp
     | cons r l ih=>intro s; rw [List.foldl_cons,ih]; simp; omega
    rw [H,List.length_take]; simp; omega
   generalize (v.Records.take i).foldl _ (([],[]) : List (Int × Dig) × List Int) = s at hl
   unfold UD
   simp only [hlt,decide_true,if_true,hx,ob_]
   rw [Xm (by simp only [List.length_cons,List.length_nil]; omega)]; rfl) (by
   have H : ∀ (l : List GRecord) (s : List (Int × Dig) × List Int),l.foldl (λs r=>(KR s.1 r.Number r.Tag,s.2 ++ [r.Number])) s = (l.foldl (λm r=>KR m r.Number r.Tag) s.1,s.2 ++ l.map (·.Number)):=by
    intro l
    induction l with
    | nil=>intro s; simp
    | cons r l ih=>intro s; rw [List.foldl_cons,ih]; simp
   rw [H]
   unfold UD Hx
   simp)
  have h0' : ZK (UD v) (([] : List (Int × Dig)),0,([] : List Int)) = some (Hx v.Records,v.Records.map (·.Number)):=h0
  rw [h0',ob_]
  simp only
  rw [Xm os_,ob_]
  have hcl : (Lib.compact (Ur (v.Records.map (·.Number) ++ (Uo v.Events).map (·.1)))).length ≤ 72:=by
   have h1:=Zc5 (Ur (v.Records.map (·.Number) ++ (Uo v.Events).map (·.1)))
   rw [zC,List.length_append,List.length_map,List.length_map] at h1; omega
  have h2:=T7 (f:=TY (Uo v.Events) (Hx v.Records,v.Records.map (·.Number))) (Lib.compact (Ur (v.Records.map (·.Number) ++ (Uo v.Events).map (·.1)))) (λb i=>(b,i)) (λa n=>if kl (Uo v.Events) (Hx v.Records) n then a ++ [[2,n]] else a) (zW v) (t:=zW v ++ Zfv 2 (AY v) (yM v)) om_ (λi hi=>by
   have hlt : ((i : Int) < ((Lib.compact (Ur (v.Records.map (·.Number) ++ (Uo v.Events).map (·.1)))).length : Int)):=by omega
   have hx : idx (Lib.compact (Ur (v.Records.map (·.Number) ++ (Uo v.Events).map (·.1)))) ((i : Nat) : Int) = some (Lib.compact (Ur (v.Records.map (·.Number) ++ (Uo v.Events).map (·.1))))[i]:=by rw [Yx,ge_ hi]
   have hl:=Zie (kl (Uo v.Events) (Hx v.Records)) (λn=>[2,n]) ((Lib.compact (Ur (v.Records.map (·.Number) ++ (Uo v.Events).map (·.1)))).take i) (zW v)
   rw [List.length_take] at hl
   generalize ((Lib.compact (Ur (v.Records.map (·.Number) ++ (Uo v.Events).map (·.1)))).take i).foldl _ (zW v) = s at hl
   unfold TY
   simp only [hlt,decide_true,if_true,hx,ob_]
   generalize (Lib.compact (Ur (v.Records.map (·.Number) ++ (Uo v.Events).map (·.1))))[i] = n
   have hput : ((app 24 s ([([2,n] : List Int)] : List (List Int))).bind λ(_ : List (List Int))=>some (s ++ ([([2,n] : List Int)] : List (List Int)))) = some (s ++ [[2,n]]):=by rw [Xm (by simp only [List.length_cons,List.length_nil]; omega)]; rfl
   unfold kl
   cases (X7 (Uo v.Events) n).isSome with
   | false=>simp [hput]
   | true =>
    cases (X7 (Hx v.Records) n).isSome with
    | false=>simp [hput]
    | true =>
     by_cases hq : (X7 (Uo v.Events) n).getD (Vector.replicate 32 0) = (X7 (Hx v.Records) n).getD (Vector.replicate 32 0)
     ·simp [hq]
     ·simp [hq,hput]) (by
   rw [Znc]
   unfold Zfv
   rw [Zio hv]
   unfold TY
   simp)
  rw [h2,ob_,Zj2 v hv _ (by
   have:=Zqc 2 (AY v) (yM v)
   have hn:=Zqa (v:=v) om_ om_
   rw [List.length_append]; omega)]; rfl
structure SV (n : Nat) (v : GVault) : Prop where
 k : v.Keys.length ≤ 9
 r : v.Records.length ≤ 13
 e : v.Events.length ≤ n
 x : ∀ r ∈ v.Records,r.Label.length ≤ 32 ∧ r.Body.length ≤ 200
theorem SV.ln {n : Nat} {v : GVault} (h : SV n v) (hn : n ≤ 100:=by decide) : Wt.ln v:=by
 have h1:=h.k
 have h2:=h.r
 have h3:=h.e
 exact ⟨⟨by omega,λ_ _=>trivial⟩,⟨by omega,λx hx=>by have:=h.x x hx; exact ⟨⟨by omega,λ_ _=>trivial⟩,⟨by omega,λ_ _=>trivial⟩⟩⟩,⟨by omega,λ_ _=>trivial⟩⟩
theorem Zpv (key : Blk) : SV 61 (Yb key):=⟨by simp [Yb],by simp [Yb],by simp [Yb],λr hr=>by cases hr⟩
structure VOk (v : GVault) : Prop where
 h : 1 ≤ v.Keys.length ∧ v.Keys.length ≤ 8 ∧ 1 ≤ v.Next ∧ v.Next ≤ 1000000 ∧ v.Records.length ≤ 12 ∧ v.Events.length ≤ 60
 n : (v.Records.map (·.Number)).Pairwise (· < ·)
 b : ∀ r ∈ v.Records,0 < r.Number ∧ r.Number < v.Next ∧ 0 ≤ r.Version ∧ r.Version ≤ (v.Keys.length : Int) - 1 ∧ r.Label.length ≤ 32 ∧ r.Body.length ≤ 200
 e : ∀ e ∈ v.Events,Kr e = true
theorem VOk.is {v : GVault} (h : VOk v) : YW v = true:=by
 obtain ⟨h1,h2,h3,h4⟩:=h
 unfold YW Zag
 simp only [Bool.and_eq_true,Bool.not_eq_true',List.any_eq_false,List.mem_range'_1,List.all_eq_true,decide_eq_true_eq]
 refine ⟨⟨h1,λi hi=>?_⟩,h4⟩
 have hi : i < v.Records.length:=by omega
 unfold Zcj j0
 rw [ge_ hi]
 obtain ⟨b1,b2,b3,b4,b5,b6⟩:=h3 _ (List.getElem_mem hi)
 have hp : HZ v.Records i < v.Records[i].Number:=by
  cases i with
  | zero=>exact b1
  | succ i =>
   simp only [HZ,ge_ (show i < v.Records.length by omega),Option.map_some,Option.getD_some]
   have:=List.pairwise_iff_getElem.1 h2 i (i + 1) (by rw [List.length_map]; omega) (by rw [List.length_map]; omega) om_
   rwa [List.getElem_map,List.getElem_map] at this
 simp only [Bool.or_eq_true,Bool.not_eq_true',decide_eq_true_eq,decide_eq_false_iff_not,not_or,Classical.not_not]
 omega
theorem rot_ok {v : GVault} (h : VOk v) (hf : kR v = false) (key : Blk) : VOk (TC ⟨v.Keys ++ [key],v.Next,v.Records,v.Events,v.Head⟩ ⟨3,(v.Keys.length : Int),Vector.replicate 32 0⟩):=by
 obtain ⟨h1,h2,h3,h4⟩:=h
 unfold kR at hf
 simp only [Bool.or_eq_false_iff,beq_eq_false_iff_ne,ne_eq] at hf
 refine ⟨?_,h2,λr hr=>?_,λe he=>?_⟩
 ·show 1 ≤ (v.Keys ++ [key]).length ∧ (v.Keys ++ [key]).length ≤ 8 ∧ 1 ≤ v.Next ∧ v.Next ≤ 1000000 ∧ v.Records.length ≤ 12 ∧ (v.Events ++ [_]).length ≤ 60
  simp only [List.length_append,List.length_singleton]; omega
 ·have:=h3 r hr
  show 0 < r.Number ∧ r.Number < v.Next ∧ 0 ≤ r.Version ∧ r.Version ≤ ((v.Keys ++ [key]).length : Int) - 1 ∧ r.Label.length ≤ 32 ∧ r.Body.length ≤ 200
  simp only [List.length_append,List.length_singleton]; omega
 rcases List.mem_append.1 he with he | he
 ·exact h4 e he
 obtain rfl:=List.mem_singleton.1 he
 unfold Kr
 simp only [decide_eq_true_eq]; omega
theorem Zgf {u v : GVault} {r : GRecord} (h : Q6 u r.Version = Q6 v r.Version) : Ui u r = Ui v r:=by unfold Ui; rw [h]
theorem Zqg {a b : List UInt8} (h : b.length = a.length) : KM (KM a b) b = a:=by
 apply List.ext_getElem
 ·rw [HL (by rw [HL h]; exact h),HL h]
 intro i h1 h2
 simp [KM,UInt8.xor_assoc]
theorem Zj7 {v : GVault} (hv : VOk v) {r : GRecord} (hr : r ∈ v.Records) : ¬ Y6 v r.Number < 0 ∧ WQ v r.Number = r:=by
 have hp : ¬ Y6 v r.Number < 0:=by
  intro hp
  unfold Y6 at hp
  cases hf : v.Records.findIdx? (λq=>q.Number == r.Number) with
  | none=>have:=List.findIdx?_eq_none_iff.1 hf r hr; simp at this
  | some i=>rw [hf] at hp; simp at hp; omega
 obtain ⟨i,e1,hi,e2⟩:=BM hp
 obtain ⟨j,hj,e3⟩:=List.mem_iff_getElem.1 hr
 have pw:=hv.n
 have ij : i = j:=by
  rcases Nat.lt_trichotomy i j with h | h | h
  ·have:=List.pairwise_iff_getElem.1 pw i j (by simpa using hi) (by simpa using hj) h
   rw [List.getElem_map,List.getElem_map,e2,e3] at this; omega
  ·exact h
  ·have:=List.pairwise_iff_getElem.1 pw j i (by simpa using hj) (by simpa using hi) h
   rw [List.getElem_map,List.getElem_map,e2,e3] at this; omega
 subst ij
 refine ⟨hp,?_⟩
 unfold WQ
 rw [e1,tn_,gd_,ge_ hi,← e3]; rfl
theorem Zn8 {v : GVault} {n : Int} (h : ∀ r ∈ v.Records,r.Number ≠ n) : Y6 v n < 0:=by
 refine Classical.byContradiction λhp=>?_
 obtain ⟨i,_,hi,e⟩:=BM hp
 exact h _ (List.getElem_mem hi) e
theorem Zr1 {v : GVault} (hv : VOk v) {r : GRecord} (hr : r ∈ v.Records) : BV v r.Number = if Ui v r = r.Tag then (BB v r,0) else ([],5):=by
 obtain ⟨h1,h2⟩:=Zj7 hv hr
 unfold BV
 rw [hv.is,if_pos rfl,if_neg h1,h2]
theorem yG {u v : GVault} {n ver : Int} {nonce : Blk} {label data : List UInt8} (h : Q6 u ver = Q6 v ver) : Ui v (TL u n ver nonce label data) = (TL u n ver nonce label data).Tag:=by
 rw [← Zgf (u:=u) (r:=TL u n ver nonce label data) h]
 exact Zju u (TL u n ver nonce label data) (Vector.replicate 32 0) ▸ rfl
theorem y6 {u v : GVault} {n ver : Int} {nonce : Blk} {label data : List UInt8} (h : Q6 u ver = Q6 v ver) : BB v (TL u n ver nonce label data) = data:=by
 have hb:=Ap u ver nonce data
 show KM (H1 u ver nonce data) (HD (YP 4) (Q6 v ver) nonce (H1 u ver nonce data).length) = data
 rw [hb,← h]
 exact Zqg (Hf _ _ _ _)
theorem Zgn {u v : GVault} (hv : VOk v) {n ver : Int} {nonce : Blk} {label data : List UInt8} (hr : TL u n ver nonce label data ∈ v.Records) (h : Q6 u ver = Q6 v ver) : BV v n = (data,0):=by
 have:=Zr1 hv hr
 rw [if_pos (yG h),y6 h] at this
 exact this
abbrev newRec (v : GVault) (label data : List UInt8) (nonce : Blk) : GRecord:=TL v v.Next ((v.Keys.length : Int) - 1) nonce label data
abbrev sealedV (v : GVault) (label data : List UInt8) (nonce : Blk) : GVault:=TC (jt v (newRec v label data nonce)) ⟨1,v.Next,(newRec v label data nonce).Tag⟩
theorem Zk1 {v : GVault} {label data : List UInt8} {nonce : Blk} (h1 : YW v = true) (h2 : AX label data = false) (h3 : zg v nonce = false) (h4 : Zdn v = false) : Zd7 v label data nonce = (sealedV v label data nonce,v.Next,0):=by
 unfold Zd7
 simp only [h1,h2,h3,h4,if_true,bf_,if_false]
theorem ev_ok {l : List GEvent} {e : GEvent} (h : ∀ e ∈ l,Kr e = true) (h1 : 1 ≤ e.Kind ∧ e.Kind ≤ 4) (h2 : 0 ≤ e.Number ∧ e.Number ≤ 1000000) : ∀ x ∈ l ++ [e],Kr x = true:=by
 intro x hx
 rcases List.mem_append.1 hx with hx | hx
 ·exact h x hx
 obtain rfl:=List.mem_singleton.1 hx
 unfold Kr
 simp only [decide_eq_true_eq]; exact ⟨h1,h2⟩
theorem Zsh {v : GVault} (hv : VOk v) {label data : List UInt8} (nonce : Blk) (hl : AX label data = false) (hm : Zdn v = false) : VOk (sealedV v label data nonce):=by
 obtain ⟨h1,h2,h3,h4⟩:=hv
 obtain ⟨k1,k2⟩:=Zb8 hl
 unfold Zdn at hm
 simp only [Bool.or_eq_false_iff,beq_eq_false_iff_ne,ne_eq] at hm
 refine ⟨?_,?_,λr hr=>?_,ev_ok h4 ⟨by simp,by simp⟩ (by show 0 ≤ v.Next ∧ v.Next ≤ 1000000; omega)⟩
 ·show 1 ≤ v.Keys.length ∧ v.Keys.length ≤ 8 ∧ 1 ≤ v.Next + 1 ∧ v.Next + 1 ≤ 1000000 ∧ (v.Records ++ [_]).length ≤ 12 ∧ (v.Events ++ [_]).length ≤ 60
  simp only [List.length_append,List.length_singleton]; omega
 ·show ((v.Records ++ [newRec v label data nonce]).map (·.Number)).Pairwise (· < ·)
  rw [List.map_append,List.pairwise_append]
  refine ⟨h2,by simp,λa ha b hb=>?_⟩
  obtain ⟨r,hr,rfl⟩:=List.mem_map.1 ha
  simp only [List.map_cons,List.map_nil,List.mem_singleton] at hb
  subst hb
  exact (h3 r hr).2.1
 show 0 < r.Number ∧ r.Number < v.Next + 1 ∧ 0 ≤ r.Version ∧ r.Version ≤ (v.Keys.length : Int) - 1 ∧ r.Label.length ≤ 32 ∧ r.Body.length ≤ 200
 rcases List.mem_append.1 hr with hr | hr
 ·have:=h3 r hr; omega
 obtain rfl:=List.mem_singleton.1 hr
 have hb:=Ap v ((v.Keys.length : Int) - 1) nonce data
 show 0 < v.Next ∧ v.Next < v.Next + 1 ∧ 0 ≤ (v.Keys.length : Int) - 1 ∧ (v.Keys.length : Int) - 1 ≤ (v.Keys.length : Int) - 1 ∧ label.length ≤ 32 ∧ (H1 v ((v.Keys.length : Int) - 1) nonce data).length ≤ 200
 omega
theorem Zq1 {v : GVault} (hv : VOk v) {n : Int} {nonce : Blk} (hp : ¬ Y6 v n < 0) (he : v.Events.length ≠ 60) :
  VOk (TC (Jl v (Y6 v n).toNat (YD v n nonce)) ⟨4,n,(YD v n nonce).Tag⟩) ∧ YD v n nonce ∈ (Jl v (Y6 v n).toNat (YD v n nonce)).Records:=by
 obtain ⟨i,p1,p2,p3,p4⟩:=jC hp
 have hal:=Zhc nonce hv.is hp
 have hin:=List.mem_of_getElem? p3
 obtain ⟨h1,h2,h3,h4⟩:=hv
 have hn:=h3 _ hin
 rw [p4] at hn
 rw [p1,tn_]
 have hel : v.Records[i] = WQ v n:=by rw [ge_ p2] at p3; exact Option.some.inj p3
 refine ⟨⟨?_,?_,λr hr=>?_,ev_ok h4 ⟨by simp,by simp⟩ (by show 0 ≤ n ∧ n ≤ 1000000; omega)⟩,List.mem_set p2 _⟩
 ·show 1 ≤ v.Keys.length ∧ v.Keys.length ≤ 8 ∧ 1 ≤ v.Next ∧ v.Next ≤ 1000000 ∧ (v.Records.set i _).length ≤ 12 ∧ (v.Events ++ [_]).length ≤ 60
  simp only [List.length_append,List.length_singleton,List.length_set]; omega
 ·show ((v.Records.set i (YD v n nonce)).map (·.Number)).Pairwise (· < ·)
  rw [List.map_set]
  have : (YD v n nonce).Number = (v.Records.map (·.Number))[i]'(by simpa using p2):=by rw [List.getElem_map,hel,p4]; rfl
  rw [this,List.set_getElem_self]; exact h2
 show 0 < r.Number ∧ r.Number < v.Next ∧ 0 ≤ r.Version ∧ r.Version ≤ (v.Keys.length : Int) - 1 ∧ r.Label.length ≤ 32 ∧ r.Body.length ≤ 200
 rcases List.mem_or_eq_of_mem_set hr with hr | rfl
 ·exact h3 r hr
 show 0 < n ∧ n < v.Next ∧ 0 ≤ (v.Keys.length : Int) - 1 ∧ (v.Keys.length : Int) - 1 ≤ (v.Keys.length : Int) - 1 ∧ (YD v n nonce).Label.length ≤ 32 ∧ (YD v n nonce).Body.length ≤ 200
 omega
theorem Zm1 {v w : GVault} {ks : List Blk} (h : w.Keys = v.Keys ++ ks) {n : Int} (h0 : 0 ≤ n) (h1 : n ≤ (v.Keys.length : Int) - 1) : Q6 v n = Q6 w n:=by
 unfold Q6
 rw [h,gd_,gd_,List.getElem?_append_left om_]
theorem Zhl {v : GVault} (hv : VOk v) (hh : z9 (YP 4) v.Events = v.Head) (told : ∀ r ∈ v.Records,byC v.Events r.Number = (r.Tag,true)) (gone : ∀ n,(∀ r ∈ v.Records,r.Number ≠ n) → (byC v.Events n).2 = false) : yY v = (Zbk v,0):=by
 unfold yY zW Zfv
 rw [hv.is,if_pos rfl,if_pos hh,List.filter_eq_nil_iff.2,List.map_nil]
 ·rfl
 intro n _
 unfold AY
 by_cases hx : ∃ r ∈ v.Records,r.Number = n
 ·obtain ⟨r,hr,rfl⟩:=hx
  obtain ⟨h1,h2⟩:=Zj7 hv hr
  have hp : Y6 v r.Number ≥ 0:=by omega
  rw [told r hr,h2]
  simp [hp]
 have hx' : ∀ r ∈ v.Records,r.Number ≠ n:=λr hr e=>hx ⟨r,hr,e⟩
 have hp:=Zn8 hx'
 have hp' : ¬ Y6 v n ≥ 0:=by omega
 rw [gone n hx']
 simp [hp']
theorem Zmk {v : GVault} (h : ∀ r ∈ v.Records,Ui v r = r.Tag) : Zbk v = []:=by
 unfold Zbk
 rw [List.filter_eq_nil_iff.2,List.map_nil]
 intro r hr
 simp [h r hr]
theorem Zkn {v : GVault} (h : VOk v) : Wt.ln v:=by
 have h':=h.h
 exact SV.ln (n:=60) ⟨by omega,by omega,by omega,λr hr=>(h.b r hr).2.2.2.2⟩
def kh : List UInt8 → Nat
 | []=>0
 | b :: r=>b.toNat + 256 * kh r
theorem Zkl : ∀ l : List UInt8,kh l < 256 ^ l.length
 | []=>by simp [kh]
 | b :: r=>by
  have h1:=b.toNat_lt
  have h2:=Zkl r
  rw [kh,List.length_cons,Nat.pow_succ]; omega
theorem Zgy : ∀ {l m : List UInt8},l.length = m.length → kh l = kh m → l = m
 | [],[],_,_=>rfl
 | b :: r,c :: s,hl,h=>by
  simp only [kh] at h
  have h1:=b.toNat_lt
  have h2:=c.toNat_lt
  have e1 : b.toNat = c.toNat:=by omega
  have e2 : kh r = kh s:=by omega
  rw [UInt8.toNat_inj.1 e1,Zgy (by simpa using hl) e2]
 | [],_ :: _,hl,_=>by simp at hl
 | _ :: _,[],hl,_=>by simp at hl
theorem Zg6 : ∀ (k n : Nat),n < 256 ^ k → ∃ l : List UInt8,l.length = k ∧ kh l = n
 | 0,n,h=>⟨[],rfl,by simp at h; simp [kh,h]⟩
 | k + 1,n,h=>by
  obtain ⟨l,h1,h2⟩:=Zg6 k (n / 256) (by rw [Nat.pow_succ] at h; omega)
  refine ⟨UInt8.ofNat (n % 256) :: l,by simp [h1],?_⟩
  have e : (UInt8.ofNat (n % 256)).toNat = n % 256:=by rw [UInt8.toNat_ofNat']; omega
  rw [kh,h2,e]; omega
theorem Zsb (N : Nat) (f : Nat → Nat) (hb : ∀ i,i < N → f i < N) (hi : ∀ i j,i < N → j < N → f i = f j → i = j) (y : Nat) (hy : y < N) : ∃ x,x < N ∧ f x = y:=by
 have hn : ((List.range N).map f).Nodup:=by
  refine List.pairwise_iff_getElem.2 λi j h1 h2 hij=>?_
  rw [List.length_map,List.length_range] at h1 h2
  simp only [List.getElem_map,List.getElem_range]
  intro e
  have:=hi i j h1 h2 e
  omega
 obtain ⟨x,hx,e⟩:=List.mem_map.1 ((Zam _ N (by simp) (λx hx=>by
  obtain ⟨i,h,rfl⟩:=List.mem_map.1 hx
  exact hb i (List.mem_range.1 h))).1 hn y hy)
 exact ⟨x,List.mem_range.1 hx,e⟩
def Zae (b : Blk) : Nat:=kh b.toList
theorem Zrd (b : Blk) : Zae b < 256 ^ 16:=by
 have:=Zkl b.toList
 rwa [Vector.length_toList] at this
theorem Zgk {a b : Blk} (h : Zae a = Zae b) : a = b:=Vector.toList_inj.1 (Zgy (by simp) h)
theorem Zqe (n : Nat) (h : n < 256 ^ 16) : ∃ b : Blk,Zae b = n:=by
 obtain ⟨l,h1,h2⟩:=Zg6 16 n h
 exact ⟨⟨l.toArray,by simpa using h1⟩,by unfold Zae; simpa using h2⟩
theorem Zpb (D E : Blk → Blk) (h : ∀ b,E (D b) = b) (b : Blk) : D (E b) = b:=by
 generalize hN : 256 ^ 16 = N at *
 have hs : ∀ n,n < N → ∃ b : Blk,Zae b = n:=λn hn=>Zqe n (by rw [hN]; exact hn)
 have hl : ∀ b,Zae b < N:=λb=>by rw [← hN]; exact Zrd b
 let dec : Nat → Blk:=λn=>if h : n < N then Classical.choose (hs n h) else b
 have hd : ∀ n,n < N → Zae (dec n) = n:=λn hn=>by
  show Zae (if h : n < N then Classical.choose (hs n h) else b) = n
  rw [dif_pos hn]; exact Classical.choose_spec (hs n hn)
 obtain ⟨x,hx,e⟩:=Zsb N (λn=>Zae (D (dec n))) (λi _=>hl _) (λi j h1 h2 e=>by
  have e1:=congrArg E (Zgk e)
  rw [h,h] at e1
  rw [← hd i h1,e1,hd j h2]) (Zae b) (hl b)
 have e1 : D (dec x) = b:=Zgk e
 rw [← e1,h]
def AN (c : GCipher) (k : Blk) (n : Nat) (b : Blk) : Blk:=vf 16 (Zau c (bf k) (bf b) n)
def Zcr (c : GCipher) (k : Blk) (n : Nat) (b : Blk) : Blk:=vf 16 (Zhu c (bf k) (bf b) n)
theorem Zou (c : GCipher) (h : Z6 c = true) (k b : Blk) (n : Nat) (hn : n ≤ 1000) : Y9 ⟨Z9 c⟩ (WR c.Box (bf k) n) b = some (AN c k n b):=by
 have:=Bc c h (bf k) (bf b) n hn
 rwa [← Bp] at this
theorem v_decB (c : GCipher) (k b : Blk) (n : Nat) (hn : n ≤ 1000) : XB ⟨Z9 c⟩ (WR c.Box (bf k) n) b = some (Zcr c k n b):=by
 have:=Zbx c (bf k) (bf b) n hn
 rwa [← Bp] at this
theorem Zp2 {c : GCipher} (h : Z6 c = true) (k : Blk) (n : Nat) (hn : n ≤ 1000) (b : Blk) : Zcr c k n (AN c k n b) = b:=by
 refine Zpb (Zcr c k n) (AN c k n) (λb=>?_) b
 have h1:=Zou c h k (Zcr c k n b) n hn
 have h2:=Bc c h (bf k) (Zhu c (bf k) (bf b) n) n hn
 have h3 : some (AN c k n (Zcr c k n b)) = some (vf 16 (Zau c (bf k) (Zhu c (bf k) (bf b) n) n)):=h1.symm.trans h2
 rw [Option.some.inj h3]
 exact Zhd h (bf k) b n
theorem Zjf (a b : Blk) : Zb0 (Zb0 a b) b = a:=by
 conv=>rhs; rw [Bp a]
 unfold Zb0
 refine W2 λi hi=>?_
 unfold Bl
 rw [bf_vf _ hi]
 exact BX _ _
def Jm (E : Blk → Blk) : Blk → List Blk → List Blk
 | _,[]=>[]
 | p,b :: r=>E (Zb0 b p) :: Jm E (E (Zb0 b p)) r
def K5 (D : Blk → Blk) : Blk → List Blk → List Blk
 | _,[]=>[]
 | p,b :: r=>Zb0 (D b) p :: K5 D b r
theorem Bh (E : Blk → Blk) : ∀ (p : Blk) (l : List Blk),(Jm E p l).length = l.length
 | _,[]=>rfl
 | p,b :: r=>by rw [Jm,List.length_cons,Bh,List.length_cons]
theorem zT {D E : Blk → Blk} (h : ∀ b,D (E b) = b) : ∀ (p : Blk) (l : List Blk),K5 D p (Jm E p l) = l
 | _,[]=>rfl
 | p,b :: r=>by rw [Jm,K5,h,Zjf,zT h]
def qe (E : Blk → Blk) (s : Blk × List Blk) (b : Blk) : Blk × List Blk:=(E (Zb0 b s.1),s.2 ++ [E (Zb0 b s.1)])
def Zes (D : Blk → Blk) (s : Blk × List Blk) (b : Blk) : Blk × List Blk:=(b,s.2 ++ [Zb0 (D b) s.1])
theorem yx (E : Blk → Blk) : ∀ (l : List Blk) (s : Blk × List Blk),(l.foldl (qe E) s).2 = s.2 ++ Jm E s.1 l
 | [],s=>by simp [Jm]
 | b :: r,s=>by rw [List.foldl_cons,yx E r]; simp [qe,Jm]
theorem jF (D : Blk → Blk) : ∀ (l : List Blk) (s : Blk × List Blk),(l.foldl (Zes D) s).2 = s.2 ++ K5 D s.1 l
 | [],s=>by simp [K5]
 | b :: r,s=>by rw [List.foldl_cons,jF D r]; simp [Zes,K5]
theorem kI (E : Blk → Blk) : ∀ (l : List Blk) (s : Blk × List Blk),(l.foldl (qe E) s).2.length = s.2.length + l.length
 | [],s=>by simp
 | b :: r,s=>by rw [List.foldl_cons,kI E r]; simp [qe]; omega
theorem Zd8 (D : Blk → Blk) : ∀ (l : List Blk) (s : Blk × List Blk),(l.foldl (Zes D) s).2.length = s.2.length + l.length
 | [],s=>by simp
 | b :: r,s=>by rw [List.foldl_cons,Zd8 D r]; simp [Zes]; omega
theorem kb (l : List Blk) : (Jc l).length = 16 * l.length:=by
 induction l with
 | nil=>rfl
 | cons b r ih =>
  have e : Jc (b :: r) = b.toList ++ Jc r:=by simp [Jc]
  rw [e,List.length_append,ih,Vector.length_toList,List.length_cons]; omega
theorem Zd6 (f : List UInt8 × Int → Option (Fl (List UInt8 × Int) (List UInt8))) (l : List Blk) (h : l.length ≤ 1000000) (hf : ∀ s : List UInt8 × Int,f s = if (decide (s.2 < (l.length : Int))) = true then ((idx l s.2).bind λx=>(slc x.toList (0 : Int) (16 : Int)).bind λq=>(app 1 s.1 q).bind λ_=>some (Fl.nx ((s.1 ++ q),wr (s.2 + 1)))) else (some (Fl.ex s.1))) : ZK f ([],0) = some (Jc l):=by
 have hfold : ∀ (m : List Blk) (o : List UInt8),m.foldl (λo b=>o ++ b.toList) o = o ++ Jc m:=by
  intro m
  induction m with
  | nil=>intro o; simp [Jc]
  | cons b r ih=>intro o; rw [List.foldl_cons,ih]; simp [Jc]
 exact T7 (f:=f) l (λb i=>(b,i)) (λo b=>o ++ b.toList) [] (t:=Jc l) om_ (λi hi=>by
  have hl:=kb (l.take i)
  rw [List.length_take] at hl
  rw [hfold,List.nil_append,hf]
  simp only [Int.ofNat_lt,hi,decide_true,if_true,Yx,ge_ hi,ob_,Zf1]
  rw [Xm os_]; rfl) (by rw [hfold,List.nil_append,hf]; simp)
theorem Zgt (l : List Blk) (h : l.length ≤ 1000000) : QU l = some (Jc l):=by
 unfold QU
 rw [Zd6 (H5 l) l h (λs=>rfl)]; rfl
theorem Zl3 (l : List Blk) (h : l.length ≤ 1000000) : Kv l = some (Jc l):=by
 unfold Kv
 rw [Zd6 (Hn l) l h (λs=>rfl)]; rfl
theorem Zk8 (l : List Blk) : ∀ (i : Nat) (hi : i < l.length) (j : Nat),j < 16 → (Jc l).getD (16 * i + j) 0 = bf l[i] j:=by
 induction l with
 | nil=>intro i hi; simp at hi
 | cons b r ih =>
  intro i hi j hj
  have e : Jc (b :: r) = b.toList ++ Jc r:=by simp [Jc]
  rw [e,gd_]
  cases i with
  | zero =>
   rw [List.getElem?_append_left (by rw [Vector.length_toList]; omega)]
   show (b.toList[16 * 0 + j]?).getD 0 = (b[j]?).getD default
   rw [show 16 * 0 + j = j by omega,ge_ (by rw [Vector.length_toList]; omega),Vector.getElem?_eq_getElem hj]
   simp
  | succ i =>
   rw [List.getElem?_append_right (by rw [Vector.length_toList]; omega),Vector.length_toList]
   have:=ih i (by simpa using hi) j hj
   rw [gd_] at this
   rw [show 16 * (i + 1) + j - 16 = 16 * i + j by omega,this]; rfl
theorem Zf6 (l : List Blk) : XQ (Jc l) l.length = l:=by
 apply List.ext_getElem
 ·rw [Vg]
 intro i h1 h2
 simp only [XQ,List.getElem_map,List.getElem_range]
 conv=>rhs; rw [Bp l[i]]
 unfold Zd9
 exact W2 λj hj=>Zk8 l i h2 j hj
theorem Zhx (l : List UInt8) (n : Nat) (h : l.length = 16 * n) : Jc (XQ l n) = l:=by
 have hl : (Jc (XQ l n)).length = l.length:=by rw [kb,Vg,h]
 apply List.ext_getElem hl
 intro k h1 h2
 have hb : k / 16 < (XQ l n).length:=by rw [Vg]; omega
 have:=Zk8 (XQ l n) (k / 16) hb (k % 16) om_
 rw [show 16 * (k / 16) + k % 16 = k by omega,gd_,ge_ h1,Option.getD_some] at this
 rw [this]
 simp only [XQ,List.getElem_map,List.getElem_range]
 unfold Zd9
 rw [bf_vf _ om_,show 16 * (k / 16) + k % 16 = k by omega,gd_,ge_ h2]; rfl
def JG (d : List UInt8) : List UInt8:=(d ++ [1]) ++ List.replicate (15 - d.length % 16) 0
theorem AO (d : List UInt8) : (JG d).length = 16 * (d.length / 16 + 1):=by
 unfold JG
 simp only [List.length_append,List.length_singleton,List.length_replicate]; omega
theorem Zo5 (f : List UInt8 → Option (Fl (List UInt8) (List UInt8))) (d : List UInt8) (h : d.length ≤ 1000000) (hf : ∀ s : List UInt8,f s = if ((Int.tmod (s.length : Int) 16) != 0) = true then ((app 1 s ([0] : List UInt8)).bind λ_=>some (Fl.nx (s ++ ([0] : List UInt8)))) else (some (Fl.ex s))) : ZK f (d ++ [1]) = some (JG d):=by
 have:=Yr (f:=f) (λi : Nat=>(d ++ [1]) ++ List.replicate i (0 : UInt8)) 0 (15 - d.length % 16) (Nat.zero_le _) (t:=JG d) (λi _ hi=>by
  have hl : ((d ++ [1]) ++ List.replicate i (0 : UInt8)).length = d.length + 1 + i:=by simp; omega
  rw [hf,hl]
  have hm : ((Int.tmod ((d.length + 1 + i : Nat) : Int) 16) != 0) = true:=by
   rw [bne_iff_ne,Int.tmod_eq_emod_of_nonneg om_]; omega
  rw [if_pos hm,Xm (by rw [hl]; simp; omega),ob_,List.append_assoc,← List.replicate_succ']) (by
  rw [hf]
  have hl : ((d ++ [1]) ++ List.replicate (15 - d.length % 16) (0 : UInt8)).length = d.length + 1 + (15 - d.length % 16):=by simp; omega
  rw [hl]
  have hm : ¬ ((Int.tmod ((d.length + 1 + (15 - d.length % 16) : Nat) : Int) 16) != 0) = true:=by
   rw [bne_iff_ne,Int.tmod_eq_emod_of_nonneg om_]; omega
  rw [if_neg hm]; rfl)
 simpa using this
theorem Zg3 (d : List UInt8) (h : d.length ≤ 1000000) : QZ d = some (JG d):=by
 unfold QZ
 rw [Qb d om_,ob_,Xm os_,ob_,Zo5 H2 d h (λs=>rfl)]; rfl
theorem Znv (d : List UInt8) (h : d.length ≤ 1000000) : K9 d = some (JG d):=by
 unfold K9
 rw [Zmr d om_,ob_,Xm os_,ob_,Zo5 Be d h (λs=>rfl)]; rfl
theorem Zoe (d : List UInt8) (h : d.length ≤ 1000000) : Vl (JG d) 1 = some (d.length : Int):=by
 unfold Vl XW
 have hl:=AO d
 have hz : 15 - d.length % 16 + d.length + 1 = (JG d).length:=by rw [hl]; omega
 have:=Yr (f:=Xh (JG d) 1) (λi : Nat=>(((JG d).length - 1 - i : Nat) : Int)) 0 (15 - d.length % 16) (Nat.zero_le _) (t:=(Fl.ex (d.length : Int) : Fl Unit Int)) (λi _ hi=>by
  have hk : (JG d).length - 1 - i < (JG d).length:=by omega
  have hx : (JG d)[(JG d).length - 1 - i]? = some 0:=by
   unfold JG
   rw [List.getElem?_append_right (by simp; unfold JG at hz; simp at hz; omega),List.getElem?_replicate_of_lt os_]
  unfold Xh
  rw [if_pos od_,Yx,hx,ob_,if_neg (by decide),YY om_]
  congr 3; omega) (by
  have e : (JG d).length - 1 - (15 - d.length % 16) = d.length:=by omega
  have hx : (JG d)[d.length]? = some 1:=by
   unfold JG
   rw [List.getElem?_append_left (by simp)]
   simp
  rw [e]
  unfold Xh
  rw [if_pos od_,Yx,hx,ob_,if_pos (by decide)])
 have e0 : wr (((JG d).length : Int) - 1) = (((JG d).length - 1 - 0 : Nat) : Int):=by rw [YY om_]; omega
 rw [e0,this]; rfl
theorem Zjw (d : List UInt8) (h : d.length ≤ 2000) : QN (JG d) = some (d,true):=by
 have hs : slc (JG d) (0 : Int) (d.length : Int) = some d:=by
  rw [Zkw (by rw [AO]; omega)]
  unfold JG
  rw [List.append_assoc,List.take_left' rfl]
 unfold QN
 rw [Zoe d om_,ob_,if_neg od_,hs,ob_,Zg3 d om_,ob_,js,ob_,beq_self_eq_true,if_neg (by decide),ob_,if_neg od_,ob_,Qb d om_]; rfl
theorem Zb4 {n : Int} {m Q : Nat} (hm : m ≤ 17) (hQ : Q = 2 ^ m) (hn : n ≤ (Q : Int)) : ∀ (f j q : Nat),q = 2 ^ j → j + f = m → (2 ≤ n → (q : Int) < n) →
  ∃ t p : Nat,p = 2 ^ t ∧ ZK (KI n) (q : Int) = some (p : Int) ∧ n ≤ 2 * (p : Int) ∧ (2 ≤ n → (p : Int) < n) ∧ (n < 2 → p = q)
 | f,j,q,hq,hj,h2=>by
  have hp : 2 ^ j ≤ 2 ^ 17:=Nat.pow_le_pow_right om_ om_
  have hp : q ≤ 131072:=by rw [hq]; exact hp
  have hw : wr (2 * (q : Int)) = 2 * (q : Int):=YY om_
  have hq1 : 1 ≤ q:=by rw [hq]; exact Nat.pow_pos om_
  by_cases c : 2 * (q : Int) < n
  ·cases f with
   | zero =>
    have e : j = m:=by omega
    have : q = Q:=by rw [hq,hQ,e]
    omega
   | succ f =>
    have e : 2 * q = 2 ^ (j + 1):=by rw [Nat.pow_succ,hq,Nat.mul_comm]
    obtain ⟨t,p,ht⟩:=Zb4 hm hQ hn f (j + 1) (2 * q) e om_ (λ_=>by omega)
    refine ⟨t,p,ht.1,?_,ht.2.2.1,ht.2.2.2.1,λh=>by omega⟩
    rw [WM (s':=((2 * q : Nat) : Int))]
    ·exact ht.2.1
    ·unfold KI
     have h3 : wr ((q : Int) * 2) = ((2 * q : Nat) : Int):=by rw [Int.mul_comm,hw]; rfl
     rw [hw,if_pos (kS c),h3]
  ·refine ⟨j,q,hq,We ?_,by omega,h2,λ_=>rfl⟩
   unfold KI
   rw [hw,if_neg (kV c)]
theorem Zmz {n : Int} {m Q : Nat} (hm : m ≤ 17) (hQ : Q = 2 ^ m) (hn : n ≤ (Q : Int)) : ∃ t p : Nat,p = 2 ^ t ∧ To n = some (p : Int) ∧ n ≤ 2 * (p : Int) ∧ (2 ≤ n → (p : Int) < n) ∧ (n < 2 → p = 1):=by
 obtain ⟨t,p,h0,h1,h2⟩:=Zb4 hm hQ hn m 0 1 rfl om_ (λh=>by omega)
 refine ⟨t,p,h0,?_,h2⟩
 unfold To
 have h1 : ZK (KI n) 1 = _:=h1
 rw [h1]; rfl
theorem Zcu {n D : Nat} (h2 : 2 ≤ n) (h : n ≤ 2 ^ (D + 1)) (hD : D ≤ 10) : ∃ k : Nat,To (n : Int) = some (k : Int) ∧ 1 ≤ k ∧ k < n ∧ k ≤ 2 ^ D ∧ n - k ≤ 2 ^ D:=by
 obtain ⟨t,p,h0,h1,h3,h4,_⟩:=Zmz (n:=(n : Int)) (m:=D + 1) (Q:=2 ^ (D + 1)) om_ rfl om_
 have h4:=h4 om_
 have hlt : p < 2 ^ (D + 1):=by omega
 have ht : t < D + 1:=(Nat.pow_lt_pow_iff_right om_).1 (h0 ▸ hlt)
 have hle : p ≤ 2 ^ D:=by rw [h0]; exact Nat.pow_le_pow_right om_ om_
 have h0' : 0 < p:=by rw [h0]; exact Nat.pow_pos om_
 exact ⟨p,h1,by omega,by omega,hle,by omega⟩
noncomputable def kr (n : Nat) : Nat:=((To (n : Int)).getD 0).toNat
noncomputable def Qq : Nat → List Dig → Dig
 | 0,l=>l.headD (jT [])
 | D + 1,l=>if l.length ≤ 1 then l.headD (jT []) else Zks (Qq D (l.take (kr l.length))) (Qq D (l.drop (kr l.length)))
theorem kU (fu : Nat) {l : List Dig} (h : l.length ≤ 1) : YS (fu + 1) hH l = some (l.headD (jT [])):=by
 unfold YS
 match l,h with
 | [],_=>rw [if_pos (by simp),Zq0]; simp only [ob_,List.headD_nil]
 | [x],_=>rw [if_neg (by simp),if_pos (by simp),Zar]; rfl
theorem zk : ∀ (D fu : Nat) (l : List Dig),D ≤ 10 → D < fu → l.length ≤ 2 ^ D → YS fu hH l = some (Qq D l)
 | 0,fu + 1,l,_,_,h=>kU fu h
 | D + 1,fu + 1,l,hD,hf,h=>by
  by_cases c : l.length ≤ 1
  ·rw [kU fu c,Qq,if_pos c]
  ·obtain ⟨k,e,k1,k2,k3,k4⟩:=Zcu (n:=l.length) (D:=D) om_ h om_
   have ek : kr l.length = k:=by unfold kr; rw [e]; rfl
   rw [Qq,if_neg c,ek]
   unfold YS
   rw [if_neg (by rw [beq_iff_eq]; omega),if_neg (by rw [beq_iff_eq]; omega),e,ob_,jh om_,ob_,zk D fu _ om_ om_ (by rw [List.length_take]; omega),ob_,Zat om_,ob_,zk D fu _ om_ om_ (by rw [List.length_drop]; omega),ob_,za]
   rfl
theorem Zjh (fu : Nat) {l : List Dig} (h : l.length = 1) (i : Int) : YH (fu + 1) hH l i = some []:=by
 unfold YH
 rw [if_pos os_]
theorem Zjy (fu : Nat) (d : Dig) (i : Int) : YG (fu + 1) hH d i 1 [] = some (d,true):=by
 unfold YG
 rfl
theorem Zm7 : ∀ (D : Nat) (l : List Dig) (i : Nat) (hi : i < l.length),D ≤ 10 → l.length ≤ 2 ^ D → ∃ pr : List Dig,(∀ fu,D < fu → YH fu hH l (i : Int) = some pr) ∧ pr.length ≤ D ∧ ∀ fu,D < fu → YG fu hH l[i] (i : Int) (l.length : Int) pr = some (Qq D l,true):=by
 intro D
 have one : ∀ (D : Nat) (l : List Dig) (i : Nat) (hi : i < l.length),l.length = 1 → ∃ pr : List Dig,(∀ fu,D < fu → YH fu hH l (i : Int) = some pr) ∧ pr.length ≤ D ∧ ∀ fu,D < fu → YG fu hH l[i] (i : Int) (l.length : Int) pr = some (Qq D l,true):=λD l i hi h1=>by
  refine ⟨[],λfu hf=>?_,Nat.zero_le _,λfu hf=>?_⟩
  ·obtain ⟨f,rfl⟩ : ∃ f,fu = f + 1:=⟨fu - 1,by omega⟩
   exact Zjh f h1 _
  ·obtain ⟨f,rfl⟩ : ∃ f,fu = f + 1:=⟨fu - 1,by omega⟩
   match l,h1 with
   | [x],_ =>
    have : i = 0:=by simp at hi; omega
    subst this
    have e : Qq D [x] = x:=by cases D <;> simp [Qq]
    rw [e]
    exact Zjy f x _
 induction D with
 | zero=>intro l i hi _ h; exact one 0 l i hi (by simp at h; omega)
 | succ D ih =>
  intro l i hi hD h
  by_cases c : l.length = 1
  ·exact one (D + 1) l i hi c
  obtain ⟨k,e,k1,k2,k3,k4⟩:=Zcu (n:=l.length) (D:=D) om_ h om_
  have ek : kr l.length = k:=by unfold kr; rw [e]; rfl
  have hlt : (l.take k).length = k:=by rw [List.length_take]; omega
  have hld : (l.drop k).length = l.length - k:=by rw [List.length_drop]
  have er : Qq (D + 1) l = Zks (Qq D (l.take k)) (Qq D (l.drop k)):=by rw [Qq,if_neg om_,ek]
  have hn1 : ¬ ((l.length : Int) == 1) = true:=by simp; omega
  have hl1 : ∀ (pr : List Dig) (x : Dig),idx (pr ++ [x]) ((pr.length : Int)) = some x:=λpr x=>by rw [Yx]; simp
  have hl2 : ∀ (pr : List Dig) (x : Dig),slc (pr ++ [x]) (0 : Int) (pr.length : Int) = some pr:=λpr x=>by rw [jh (by simp),List.take_left' rfl]
  have hl3 : ∀ (pr : List Dig) (x : Dig),pr.length ≤ 100 → wr (((pr ++ [x]).length : Int) - 1) = (pr.length : Int):=λpr x hp=>by rw [List.length_append,List.length_singleton,YY om_]; omega
  have hl4 : ∀ (pr : List Dig) (x : Dig),¬ (((pr ++ [x]).length : Int) == 0) = true:=λpr x=>by simp; omega
  by_cases ci : i < k
  ·obtain ⟨pr,p1,p2,p3⟩:=ih (l.take k) i om_ om_ om_
   refine ⟨pr ++ [Qq D (l.drop k)],λfu hf=>?_,by simp; omega,λfu hf=>?_⟩
   ·obtain ⟨f,rfl⟩ : ∃ f,fu = f + 1:=⟨fu - 1,by omega⟩
    have ha : app 32 pr ([Qq D (l.drop k)] : List Dig) = _:=Xm (by simp only [List.length_singleton]; omega)
    unfold YH
    rw [if_neg hn1,e,ob_,if_pos (kS om_),jh om_,ob_,p1 f om_,ob_,Zat om_,ob_,zk D 64 _ om_ om_ om_,ob_,ha]
    rfl
   ·obtain ⟨f,rfl⟩ : ∃ f,fu = f + 1:=⟨fu - 1,by omega⟩
    unfold YG
    have p4:=p3 f om_
    simp only [hlt,List.getElem_take] at p4
    rw [if_neg hn1,if_neg (hl4 _ _),hl3 _ _ om_,e,ob_,hl1,ob_,hl2,ob_,if_pos (kS om_),p4,ob_,za,er]
    rfl
  ·have hi2 : i - k < (l.drop k).length:=by omega
   obtain ⟨pr,p1,p2,p3⟩:=ih (l.drop k) (i - k) hi2 om_ om_
   have hpw : 2 ^ (D + 1) ≤ 2 ^ 11:=Nat.pow_le_pow_right om_ om_
   have hpw : 2 ^ (D + 1) ≤ 2048:=hpw
   have w1 : wr ((i : Int) - (k : Int)) = ((i - k : Nat) : Int):=by rw [YY om_]; omega
   have w2 : wr ((l.length : Int) - (k : Int)) = ((l.length - k : Nat) : Int):=by rw [YY om_]; omega
   refine ⟨pr ++ [Qq D (l.take k)],λfu hf=>?_,by simp; omega,λfu hf=>?_⟩
   ·obtain ⟨f,rfl⟩ : ∃ f,fu = f + 1:=⟨fu - 1,by omega⟩
    have ha : app 32 pr ([Qq D (l.take k)] : List Dig) = _:=Xm (by simp only [List.length_singleton]; omega)
    unfold YH
    rw [if_neg hn1,e,ob_,if_neg (kV om_),Zat om_,ob_,w1,p1 f om_,ob_,jh om_,ob_,zk D 64 _ om_ om_ om_,ob_,ha]
    rfl
   ·obtain ⟨f,rfl⟩ : ∃ f,fu = f + 1:=⟨fu - 1,by omega⟩
    unfold YG
    have p4:=p3 f om_
    have e5 : (l.drop k)[i - k] = l[i]:=by rw [List.getElem_drop]; congr 1; omega
    rw [e5] at p4
    simp only [hld] at p4
    rw [if_neg hn1,if_neg (hl4 _ _),hl3 _ _ om_,e,ob_,hl1,ob_,hl2,ob_,if_neg (kV om_),w1,w2,p4,ob_,za,er]
    rfl
theorem qb (c : GCipher) (h : Z6 c = true) (d : List UInt8) (n : Nat) (hn : d.length ≤ n) : UH c d 0 (n : Int) = some 0:=by
 unfold UH
 rw [Ziu,h,ob_,if_neg (by decide),if_neg od_,ob_,if_neg od_]
theorem Zlt (c : GCipher) (h : Z6 c = true) (k n : Nat) (hn : k ≤ n) : Kp c (k : Int) 0 (n : Int) = some 0:=by
 unfold Kp
 rw [Zq9,h,ob_,if_neg (by decide),if_neg od_,ob_,if_neg od_]
theorem Zok (c : GCipher) (h : Z6 c = true) (k : Blk) (n : Nat) (hr : c.Rounds = (n : Int)) (hn : n ≤ 1000) : Tf c k = some ⟨⟨Z9 c⟩,WR c.Box (bf k) n⟩:=by
 unfold Tf
 have:=Zny c (bf k) n hn
 rw [← Bp] at this
 rw [qg c h,ob_,hr,this]; rfl
theorem Zry (c : GCipher) (h : Z6 c = true) (k p : Blk) (n : Nat) (hn : n ≤ 1000) (l : List UInt8) (m : Nat) (hl : l.length = 16 * m) (hm : m ≤ 1000) : UQ ⟨⟨Z9 c⟩,WR c.Box (bf k) n⟩ p l = some (Jc (Jm (AN c k n) p (XQ l m))):=by
 unfold UQ
 rw [yg l m hl om_,ob_]
 have hbl:=Vg l m
 generalize XQ l m = bl at hbl
 have:=T7 (f:=W9 ⟨⟨Z9 c⟩,WR c.Box (bf k) n⟩ bl) bl (λb i=>(b.1,i,b.2)) (qe (AN c k n)) (p,[]) (t:=Jm (AN c k n) p bl) om_ (λi hi=>by
  have hle:=kI (AN c k n) (bl.take i) (p,[])
  rw [List.length_take] at hle
  generalize (bl.take i).foldl (qe (AN c k n)) (p,[]) = s at hle
  have hle : s.2.length ≤ 1000:=by simp at hle; omega
  have hi' : ((i : Int) < (bl.length : Int)):=by omega
  unfold W9 UX
  simp only [hi',decide_true,if_true,Yx,ge_ hi,ob_,Znm,Zou c h k _ n hn]
  rw [Xm os_]; rfl) (by
  rw [yx]
  unfold W9
  simp)
 have h2 : ZK (W9 ⟨⟨Z9 c⟩,WR c.Box (bf k) n⟩ bl) (p,0,([] : List Blk)) = _:=this
 rw [h2,ob_,Zgt _ (by rw [Bh]; omega)]; rfl
theorem Zmd (c : GCipher) (k p : Blk) (n : Nat) (hn : n ≤ 1000) (l : List UInt8) (m : Nat) (hl : l.length = 16 * m) (hm : m ≤ 1000) : VQ ⟨⟨Z9 c⟩,WR c.Box (bf k) n⟩ p l = some (Jc (K5 (Zcr c k n) p (XQ l m))):=by
 unfold VQ
 rw [yg l m hl om_,ob_]
 have hbl:=Vg l m
 generalize XQ l m = bl at hbl
 have:=T7 (f:=Wn ⟨⟨Z9 c⟩,WR c.Box (bf k) n⟩ bl) bl (λb i=>(b.1,i,b.2)) (Zes (Zcr c k n)) (p,[]) (t:=K5 (Zcr c k n) p bl) om_ (λi hi=>by
  have hle:=Zd8 (Zcr c k n) (bl.take i) (p,[])
  rw [List.length_take] at hle
  generalize (bl.take i).foldl (Zes (Zcr c k n)) (p,[]) = s at hle
  have hle : s.2.length ≤ 1000:=by simp at hle; omega
  have hi' : ((i : Int) < (bl.length : Int)):=by omega
  unfold Wn UY
  simp only [hi',decide_true,if_true,Yx,ge_ hi,ob_,Znm,v_decB c k _ n hn]
  rw [Xm os_]; rfl) (by
  rw [jF]
  unfold Wn
  simp)
 have h2 : ZK (Wn ⟨⟨Z9 c⟩,WR c.Box (bf k) n⟩ bl) (p,0,([] : List Blk)) = _:=this
 have hul : ∀ (p : Blk) (l : List Blk),(K5 (Zcr c k n) p l).length = l.length:=λp l=>by
  induction l generalizing p with
  | nil=>rfl
  | cons b r ih=>rw [K5,List.length_cons,ih,List.length_cons]
 rw [h2,ob_,Zgt _ (by rw [hul]; omega)]; rfl
theorem Zps (l : List UInt8) (i : Nat) (hi : i < 16) (h : i < l.length) : (vf 16 (λj=>if j < i then l.getD j 0 else 0)).setIfInBounds i l[i] = vf 16 (λj=>if j < i + 1 then l.getD j 0 else 0):=by
 apply Bm
 intro j hj
 rw [Vector.getElem_setIfInBounds,Hr _ hj,Hr _ hj]
 by_cases e : i = j
 ·subst e
  rw [if_pos rfl,if_pos om_,gd_,ge_ h]; rfl
 rw [if_neg e]
 by_cases c : j < i
 ·rw [if_pos c,if_pos om_]
 rw [if_neg c,if_neg om_]
theorem Zmf (l : List UInt8) (h : l.length = 16) : Kf l = some (vf 16 λj=>l.getD j 0):=by
 unfold Kf
 have:=Yr (f:=Ta l) (λi : Nat=>(vf 16 (λj=>if j < i then l.getD j 0 else 0),(i : Int))) 0 16 om_ (t:=vf 16 λj=>l.getD j 0) (λi _ hi=>by
  unfold Ta
  have hl : ((i : Int) < (l.length : Int)):=by omega
  have hx : idx l (i : Int) = some (l[i]'om_):=by rw [Yx,ge_ om_]
  dsimp only
  rw [if_pos (decide_eq_true hl),hx,ob_,Yh _ hi,ob_,tn_,Zps l i hi om_,WN om_]) (by
  unfold Ta
  dsimp only
  rw [if_neg od_,show vf 16 (λj=>if j < 16 then l.getD j 0 else 0) = vf 16 λj=>l.getD j 0 from W2 λj hj=>if_pos hj])
 have e0 : vf 16 (λj=>if j < 0 then l.getD j 0 else 0) = Vector.replicate 16 (0 : UInt8):=by
  apply Bm
  intro j hj
  rw [Hr _ hj]
  simp
 simp only [e0] at this
 have h2 : ZK (Ta l) (Vector.replicate 16 (0 : UInt8),0) = _:=this
 rw [h2]; rfl
theorem Zi9 (l : List UInt8) (m : Nat) (hl : l.length = 16 * m) (hm : m ≤ 1000) : Qz l = some (XQ l m):=by
 unfold Qz
 have:=Yr (f:=UC l) (λi : Nat=>(XQ l i,((16 * i : Nat) : Int))) 0 m (Nat.zero_le _) (t:=XQ l m) (λi _ hi=>by
  have hlt : (((16 * i : Nat) : Int) < (l.length : Int)):=by omega
  have hw : wr (((16 * i : Nat) : Int) + 16) = ((16 * (i + 1) : Nat) : Int):=by rw [YY om_]; omega
  unfold UC
  simp only [hlt,decide_true,if_true,hw]
  rw [if_neg (show ¬ ((l.length : Int) < ((16 * (i + 1) : Nat) : Int)) by omega),KW om_ om_,ob_,Zmf _ os_,ob_,Xm (by simp [Vg]; omega),ob_,jv]
  congr 4
  unfold Zd9
  refine congrArg (λx=>[x]) (W2 λj hj=>?_)
  rw [gd_,gd_,List.getElem?_drop,List.getElem?_take_of_lt om_]) (by
  unfold UC
  rw [if_neg od_])
 have h2 : ZK (UC l) (([] : List Blk),0) = _:=this
 rw [h2]; rfl
theorem Zim (c : GCipher) (h : Z6 c = true) (k p : Blk) (n : Nat) (hr : c.Rounds = (n : Int)) (hn : n ≤ 1000) (bl : List Blk) (hbl : bl.length ≤ 1000) : Qt c k p bl = some (Jm (AN c k n) p bl):=by
 unfold Qt
 have he : ∀ b : Blk,Vy c k b c.Rounds = some (AN c k n b):=λb=>by
  have:=Zdh c h (bf k) (bf b) n hn
  rw [← Bp,← Bp] at this
  rw [hr]; exact this
 have:=T7 (f:=UA c k bl) bl (λb i=>(b.1,i,b.2)) (qe (AN c k n)) (p,[]) (t:=Jm (AN c k n) p bl) om_ (λi hi=>by
  have hle:=kI (AN c k n) (bl.take i) (p,[])
  rw [List.length_take] at hle
  generalize (bl.take i).foldl (qe (AN c k n)) (p,[]) = s at hle
  have hle : s.2.length ≤ 1000:=by simp at hle; omega
  have hi' : ((i : Int) < (bl.length : Int)):=by omega
  unfold UA
  simp only [hi',decide_true,if_true,Yx,ge_ hi,ob_,Zlq,he]
  rw [Xm os_]; rfl) (by
  rw [yx]
  unfold UA
  simp)
 have h2 : ZK (UA c k bl) (p,0,([] : List Blk)) = _:=this
 rw [h2]; rfl
def zU (c : GCipher) (k p : Blk) (n : Nat) (d : List UInt8) : List UInt8:=Jc (Jm (AN c k n) p (XQ (JG d) (d.length / 16 + 1)))
theorem Zdr (c : GCipher) (k p : Blk) (n : Nat) (d : List UInt8) : (zU c k p n d).length = 16 * (d.length / 16 + 1):=by
 unfold zU
 rw [kb,Bh,Vg]
theorem A3 (c : GCipher) (h : Z6 c = true) (k p : Blk) (n : Nat) (hr : c.Rounds = (n : Int)) (hn : n ≤ 1000) (d : List UInt8) (hd : d.length ≤ 100) : VN c k p d = some (zU c k p n d,0):=by
 unfold VN
 have hm:=qb c h d 2000 om_
 rw [show ((2000 : Nat) : Int) = 2000 from rfl] at hm
 rw [hm,ob_,if_neg (by decide),Zok c h k n hr hn,ob_,Zg3 d om_,ob_,Zry c h k p n hn (JG d) _ (AO d) om_]; rfl
theorem A7 (c : GCipher) (h : Z6 c = true) (k p : Blk) (n : Nat) (hr : c.Rounds = (n : Int)) (hn : n ≤ 1000) (d : List UInt8) (hd : d.length ≤ 100) : VZ c k p d = some (zU c k p n d,0):=by
 unfold VZ
 have hm:=Zlt c h d.length 2000 om_
 rw [show ((2000 : Nat) : Int) = 2000 from rfl] at hm
 rw [hm,ob_,if_neg (by decide),Znv d om_,ob_,Zi9 (JG d) _ (AO d) om_,ob_,Zim c h k p n hr hn _ (by rw [Vg]; omega),ob_,Zl3 _ (by rw [Bh,Vg]; omega)]; rfl
theorem zp (c : GCipher) (h : Z6 c = true) (k p : Blk) (n : Nat) (hr : c.Rounds = (n : Int)) (hn : n ≤ 1000) (d : List UInt8) (hd : d.length ≤ 100) : VW c k p (zU c k p n d) = some (d,0):=by
 unfold VW
 have hl:=Zdr c k p n d
 have hm:=qb c h (zU c k p n d) 2016 om_
 rw [show ((2016 : Nat) : Int) = 2016 from rfl] at hm
 have hmod : ¬ ((Int.tmod ((zU c k p n d).length : Int) 16) != 0) = true:=by
  rw [bne_iff_ne,hl,Int.tmod_eq_emod_of_nonneg om_]; omega
 have hb : XQ (zU c k p n d) (d.length / 16 + 1) = Jm (AN c k n) p (XQ (JG d) (d.length / 16 + 1)):=by
  unfold zU
  have:=Zf6 (Jm (AN c k n) p (XQ (JG d) (d.length / 16 + 1)))
  rw [Bh,Vg] at this
  exact this
 rw [hm,ob_,if_neg (by decide),if_neg hmod,Zok c h k n hr hn,ob_,Zmd c k p n hn _ _ hl om_,ob_,hb,zT (Zp2 h k n hn),Zhx _ _ (AO d),Zjw d om_]
 rfl
theorem Bz (l : List UInt8) : Us l l = some true:=by unfold Us; simp
section
variable {p : List UInt8} (hp : p.length ≤ 4096)
include hp
omit hp in
theorem Zpa (q : List UInt8) (h : q.length ≤ 120) : ∃ r,ZK Qu q = some r ∧ True:=by
 refine Q8 (λi t=>t.length = q.length + i) (2017 - q.length) (λi t hi ht=>?_) (λt ht=>?_) (2017 - q.length) 0 q om_ rfl
 ·unfold Qu
  rw [if_pos od_,Xm os_]
  exact ⟨_,rfl,_,rfl,by simp; omega⟩
 unfold Qu
 rw [if_neg od_]
 exact ⟨_,rfl,_,rfl,trivial⟩
theorem Zcg : ∃ r,VP p = some r ∧ True:=by
 unfold VP JJ
 refine Zv (P:=λ_=>True) (Zv (Zgx hp) λr7 q7=>Zv (Zm3 hp) λr11 q11=>Zv (P:=λj=>Wy (j.1,j.2.1)) (Zv (Y2 hp q7 om_) λr q=>Tz (λ_=>Zv (Y2 hp q.1 om_) λr' q'=>⟨_,rfl,q'.1⟩) λ_=>⟨_,rfl,q.1⟩) λj hj=>Zv (Zm9 hp hj (n:=120) om_) λr29 q29=>Zv (P:=λj=>Wy (j.1,j.2.1) ∧ j.2.2.length ≤ 120) ?_ λj32 h32=>Zv (P:=λ_=>True) (Zv (Y2 hp h32.1 om_) λr q=>Tz (λ_=>Zv (Zpa _ h32.2) λr _=>⟨_,rfl,trivial⟩) λ_=>⟨_,rfl,trivial⟩) λj60 _=>yU ⟨_,rfl,trivial⟩) λr _=>⟨_,rfl,trivial⟩
 refine ⟨(r29.1.1,r29.1.2,r29.2),We ?_,q29.1,q29.2⟩
 unfold Hs
 rw [if_neg od_]
 rfl
theorem Zq3 {s : Int × Int} (hs : Wy s) (d : List UInt8) (hd : d.length ≤ 100) : ∃ r,ZK (Ja p d) (s.1,s.2,([] : List UInt8),0) = some r ∧ (Wy (r.1,r.2.1) ∧ r.2.2.length = d.length):=by
 refine Q8 (λi t=>t.2.2.2 = (i : Int) ∧ t.2.2.1.length = i ∧ Wy (t.1,t.2.1)) d.length (λi t hi ht=>?_) (λt ht=>?_) d.length 0 _ om_ ⟨rfl,rfl,hs⟩
 ·obtain ⟨t1,t2,t3⟩:=ht
  unfold Ja
  rw [if_pos (kS om_)]
  refine Zv (BO hp t3 om_) λr q=>?_
  rw [Xm os_]
  exact ⟨_,rfl,_,rfl,by show wr (t.2.2.2 + 1) = _; rw [t1,Ag om_ om_]; omega,by simp; omega,q.1⟩
 obtain ⟨t1,t2,t3⟩:=ht
 unfold Ja
 rw [if_neg (kV om_)]
 exact ⟨_,rfl,_,rfl,t3,t2⟩
theorem Zn2 {s : Int × Int} (hs : Wy s) (d : List UInt8) (hd : d.length ≤ 100) : ∃ r,ZK (Je p d) (s.1,s.2,([] : List (List UInt8)),0) = some r ∧ (r.length = 2 ∧ ∀ c ∈ r,c.length = d.length):=by
 refine Q8 (λi t=>t.2.2.2 = (i : Int) ∧ (t.2.2.1.length = i ∧ ∀ c ∈ t.2.2.1,c.length = d.length) ∧ Wy (t.1,t.2.1)) 2 (λi t hi ht=>?_) (λt ht=>?_) 2 0 _ om_ ⟨rfl,⟨rfl,λc hc=>by cases hc⟩,hs⟩
 ·obtain ⟨t1,⟨t2,t4⟩,t3⟩:=ht
  unfold Je
  rw [if_pos (kS om_)]
  refine Zv (Zq3 hp t3 d hd) λr q=>?_
  rw [Xm os_]
  refine ⟨_,rfl,_,rfl,by show wr (t.2.2.2 + 1) = _; rw [t1,Ag om_ om_]; omega,⟨by simp; omega,λc hc=>?_⟩,q.1⟩
  rcases List.mem_append.1 hc with hc | hc
  ·exact t4 c hc
  obtain rfl:=List.mem_singleton.1 hc; exact q.2
 obtain ⟨t1,t2,t3⟩:=ht
 unfold Je
 rw [if_neg (kV om_)]
 exact ⟨_,rfl,_,rfl,t2⟩
end
theorem Zdm (d : List UInt8) (h : d.length ≤ 1999) : K6 d = some (jT ([0] ++ d),0):=by
 unfold K6
 have:=HR (YP 8) Zi1 [[0],d] os_ (by simp)
 rw [if_neg od_,Zfy 8 om_,ob_,this]
 simp [jT]
theorem Zh7 (r36 : List UInt8 × Int) (r69 : (Int × Int) × Int) (n : Nat) (hn : n ≤ 9) (hw : wr (1 + r69.2) = (n : Int)) (hl : r36.1.length ≤ 200) : ZK (QP r36 r69) (([] : List Dig),0) = some (.nx ((List.range n).map λ(i : Nat)=>jT ([0] ++ ([Zz (i : Int)] ++ r36.1)))):=by
 have:=Yr (f:=QP r36 r69) (λi : Nat=>((List.range i).map λ(i : Nat)=>jT ([0] ++ ([Zz (i : Int)] ++ r36.1)),(i : Int))) 0 n (Nat.zero_le _) (t:=(Fl.nx ((List.range n).map λ(i : Nat)=>jT ([0] ++ ([Zz (i : Int)] ++ r36.1))) : Fl (List Dig) Bool)) (λi _ hi=>by
  unfold QP
  rw [hw,if_pos (kS om_),Xm os_,ob_,Zdm _ os_,ob_,if_neg (by simp),Xm os_,ob_,WN om_,List.range_succ,List.map_append]
  rfl) (by
  unfold QP
  rw [hw,if_neg (kV om_)])
 exact this
theorem Zma (key start : Blk) (hks : key ≠ start) (label d : List UInt8) (hlg : AX label d = false) : ∃ s w x : GVault,Zd7 (Yb key) label d start = (s,1,0) ∧ rotC s start = (w,0) ∧ Zht w 1 key = (x,0) ∧ BV x 1 = (d,0) ∧ yY x = ([],0) ∧ VOk s ∧ VOk w ∧ VOk x:=by
 have nk : VOk (Yb key):=⟨by simp [Yb],by simp [Yb],λr hr=>(by cases hr),λe he=>(by cases he)⟩
 have hlm : Zdn (Yb key) = false:=by unfold Zdn Yb; simp
 have hus : zg (Yb key) start = false:=by unfold zg Yb; simp
 have e1:=Zk1 nk.is hlg hus hlm
 have wk:=Zsh nk start hlg hlm
 have hfu : kR (sealedV (Yb key) label d start) = false:=by
  unfold kR
  show (([key].length == 8) || (([] ++ [_] : List GEvent).length == 60)) = false
  simp
 have nk2:=rot_ok wk hfu start
 have e2 : rotC (sealedV (Yb key) label d start) start = (TC ⟨(sealedV (Yb key) label d start).Keys ++ [start],(sealedV (Yb key) label d start).Next,(sealedV (Yb key) label d start).Records,(sealedV (Yb key) label d start).Events,(sealedV (Yb key) label d start).Head⟩ ⟨3,((sealedV (Yb key) label d start).Keys.length : Int),Vector.replicate 32 0⟩,0):=by
  unfold rotC
  have hany : (sealedV (Yb key) label d start).Keys.any (λx=>decide (start = x)) = false:=by
   show [key].any (λx=>decide (start = x)) = false
   simp [Ne.symm hks]
  rw [wk.is,if_pos rfl,hany,hfu]
  rfl
 generalize hw : TC ⟨(sealedV (Yb key) label d start).Keys ++ [start],(sealedV (Yb key) label d start).Next,(sealedV (Yb key) label d start).Records,(sealedV (Yb key) label d start).Events,(sealedV (Yb key) label d start).Head⟩ ⟨3,((sealedV (Yb key) label d start).Keys.length : Int),Vector.replicate 32 0⟩ = w at nk2 e2
 obtain ⟨r0,hr0⟩ : ∃ r0,r0 = newRec (Yb key) label d start:=⟨_,rfl⟩
 have wK : w.Keys = (Yb key).Keys ++ [start]:=by rw [← hw]; rfl
 have wK2 : w.Keys.length = 2:=by rw [wK]; rfl
 have wR : w.Records = [r0]:=by rw [← hw,hr0]; rfl
 have wE : w.Events = [⟨1,1,r0.Tag⟩,⟨3,1,Vector.replicate 32 0⟩]:=by rw [← hw,hr0]; rfl
 have n0 : r0.Number = 1:=by rw [hr0]; rfl
 have v0 : r0.Version = 0:=by rw [hr0]; rfl
 have hin : r0 ∈ w.Records:=by rw [wR]; exact List.mem_singleton.2 rfl
 obtain ⟨hp,hat⟩:=Zj7 nk2 hin
 rw [n0] at hp hat
 have hkk : Q6 (Yb key) (((Yb key).Keys.length : Int) - 1) = Q6 w (((Yb key).Keys.length : Int) - 1):=Zm1 wK (by simp [Yb]) (Int.le_refl _)
 have htag : Ui w r0 = r0.Tag:=by rw [hr0]; exact yG hkk
 have hpl : BB w r0 = d:=by rw [hr0]; exact y6 hkk
 have hu : zg w key = false:=by
  unfold zg
  rw [wR,wK2]
  simp [v0]
 have he : w.Events.length ≠ 60:=by rw [wE]; simp
 have he' : (w.Events.length == 60) = false:=by simpa using he
 obtain ⟨xk,hx⟩:=Zq1 nk2 hp he (nonce:=key)
 have e3 : Zht w 1 key = (TC (Jl w (Y6 w 1).toNat (YD w 1 key)) ⟨4,1,(YD w 1 key).Tag⟩,0):=by
  unfold Zht
  rw [nk2.is,if_pos rfl,if_neg hp,hat,if_pos htag,hu,if_neg (by decide),he',if_neg (by decide)]
 obtain ⟨i,p1,p2,_,_⟩:=jC hp
 have hi : (Y6 w 1).toNat = 0:=by rw [wR,List.length_singleton] at p2; omega
 have xR : (TC (Jl w (Y6 w 1).toNat (YD w 1 key)) ⟨4,1,(YD w 1 key).Tag⟩).Records = [YD w 1 key]:=by
  show w.Records.set _ _ = _
  rw [hi,wR]; rfl
 have xE : (TC (Jl w (Y6 w 1).toNat (YD w 1 key)) ⟨4,1,(YD w 1 key).Tag⟩).Events = [⟨1,1,r0.Tag⟩,⟨3,1,Vector.replicate 32 0⟩,⟨4,1,(YD w 1 key).Tag⟩]:=by
  show w.Events ++ [_] = _
  rw [wE]; rfl
 have hkx : Q6 w ((w.Keys.length : Int) - 1) = Q6 (TC (Jl w (Y6 w 1).toNat (YD w 1 key)) ⟨4,1,(YD w 1 key).Tag⟩) ((w.Keys.length : Int) - 1):=rfl
 have ea : YD w 1 key = TL w 1 ((w.Keys.length : Int) - 1) key r0.Label d:=by
  unfold YD
  rw [hat,hpl]
 have hxt : Ui (TC (Jl w (Y6 w 1).toNat (YD w 1 key)) ⟨4,1,(YD w 1 key).Tag⟩) (YD w 1 key) = (YD w 1 key).Tag:=yG hkx
 have hh : z9 (YP 4) (TC (Jl w (Y6 w 1).toNat (YD w 1 key)) ⟨4,1,(YD w 1 key).Tag⟩).Events = (TC (Jl w (Y6 w 1).toNat (YD w 1 key)) ⟨4,1,(YD w 1 key).Tag⟩).Head:=rfl
 have na : (YD w 1 key).Number = 1:=rfl
 have hxm : YD w 1 key ∈ (TC (Jl w (Y6 w 1).toNat (YD w 1 key)) ⟨4,1,(YD w 1 key).Tag⟩).Records:=by rw [xR]; exact List.mem_singleton.2 rfl
 generalize TC (Jl w (Y6 w 1).toNat (YD w 1 key)) ⟨4,1,(YD w 1 key).Tag⟩ = x at *
 generalize YD w 1 key = ra at *
 subst ea
 have ho:=Zgn xk hxm hkx
 have hf:=Zhl xk hh (λr hr=>by
  rw [xR] at hr
  obtain rfl:=List.mem_singleton.1 hr
  rw [xE,na]
  simp [byC,byN]) (λn hn=>by
  have h1 : ¬ (1 : Int) = n:=λe=>hn _ hxm (na.trans e)
  rw [xE]
  simp [byC,byN,h1])
 rw [Zmk (λr hr=>by
  rw [xR] at hr
  obtain rfl:=List.mem_singleton.1 hr
  exact hxt)] at hf
 exact ⟨_,w,x,e1,e2,e3,ho,hf,wk,nk2,xk⟩
theorem Zmj (p : List UInt8) (_ : Dat.bd p) : HA p = some true:=by
 unfold HA
 refine X2 (r:=decide ((p.length : Int) > 4096)) rfl ?_
 by_cases hbig : (p.length : Int) > 4096
 ·rw [if_pos (by simpa using hbig)]
 rw [if_neg (by simpa using hbig)]
 have hp : p.length ≤ 4096:=by omega
 obtain ⟨d0,e0,_⟩:=Zcg hp
 refine X2 e0 ?_
 obtain ⟨d,e1,hd⟩ : ∃ d,(if (decide ((d0.length : Int) > 100)) = true then ((slc d0 (0 : Int) (100 : Int)).bind λl=>some l) else (some d0) : Option (List UInt8)) = some d ∧ d.length ≤ 100:=by
  by_cases h : (d0.length : Int) > 100
  ·have hs : slc d0 (0 : Int) (100 : Int) = some (d0.take 100):=Zkw (i:=100) om_
   rw [if_pos (by simpa using h),hs]
   exact ⟨_,rfl,by simp; omega⟩
  ·rw [if_neg (by simpa using h)]
   exact ⟨_,rfl,by omega⟩
 refine X2 e1 ?_
 obtain ⟨s0,e2,h0⟩:=Znz hp 6911
 obtain ⟨⟨s1,key⟩,e3,h1⟩:=Zbt hp h0
 obtain ⟨⟨s2,start⟩,e4,h2⟩:=Zbt hp h1
 obtain ⟨⟨s3,k0⟩,e5,h3,hk1,hk2⟩:=BO hp h2 (n:=8) om_
 obtain ⟨n,en,hn1,hn2⟩ : ∃ n : Nat,wr (1 + k0) = n ∧ 1 ≤ n ∧ n ≤ 8:=by
  have hk1 : 0 ≤ k0:=hk1
  have hk2 : k0 < 8:=hk2
  exact ⟨(1 + k0).toNat,by rw [YY om_]; omega,by omega,by omega⟩
 have hc:=jE (n : Int) om_
 have eh : UM (n : Int) = some (YP n,0):=by
  unfold UM
  rw [TZ,ob_,if_neg os_,zV]; rfl
 have hrn : (YP (n : Int)).Rounds = (n : Int):=rfl
 refine X2 e2 (X2 e3 (X2 e4 (X2 e5 ?_)))
 dsimp only
 rw [en]
 have ce:=A3 (YP n) hc key start n hrn om_ d hd
 have cs:=A7 (YP n) hc key start n hrn om_ d hd
 have cd:=zp (YP n) hc key start n hrn om_ d hd
 have hl:=Zdr (YP n) key start n d
 generalize zU (YP n) key start n d = hid at *
 refine X2 eh (X2 ce (X2 cs (ju ?_ (X2 cd (ju ?_ ?_)))))
 ·rw [if_neg (by simp),if_neg (by simp),if_neg (by simp),Bz]; rfl
 ·rw [if_neg (by simp),Bz]; rfl
 obtain ⟨⟨s4,z0⟩,e6,h4,hz1,hz2⟩:=BO hp h3 (n:=9) om_
 have hz1 : 0 ≤ z0:=hz1
 have hz2 : z0 < 9:=hz2
 obtain ⟨z,ez,hz⟩ : ∃ z : Nat,wr (1 + z0) = z ∧ (1 ≤ z ∧ z ≤ 9):=⟨(1 + z0).toNat,by rw [YY om_]; omega,by omega,by omega⟩
 refine X2 e6 (X2 (Zh7 (hid,0) (s4,z0) z hz.2 ez (by show hid.length ≤ 200; omega)) ?_)
 have hL : ((List.range z).map λ(i : Nat)=>jT ([0] ++ ([Zz (i : Int)] ++ hid))).length = z:=by simp
 dsimp only
 show ((XC p (s4.1,s4.2) (wr (1 + z0))).bind _) = some true
 generalize ((List.range z).map λ(i : Nat)=>jT ([0] ++ ([Zz (i : Int)] ++ hid))) = L at hL
 rw [ez]
 obtain ⟨⟨s5,a0⟩,e7,h5,ha1,ha2⟩:=BO hp h4 (n:=(z : Int)) om_
 have ha1 : 0 ≤ a0:=ha1
 have ha2 : a0 < (z : Int):=ha2
 obtain ⟨a,rfl⟩:=Int.eq_ofNat_of_zero_le ha1
 have hal : a < L.length:=by omega
 obtain ⟨pr,p1,p2,p3⟩:=Zm7 6 L a hal om_ om_
 have er : Jb L = some (Qq 6 L,0):=by
  unfold Jb
  rw [if_neg od_,AU,ob_,zk 6 64 L om_ om_ om_]; rfl
 have ep : Kx L (a : Int) = some (pr,0):=by
  unfold Kx
  have hlen : Vi L = some (L.length : Int):=rfl
  rw [if_neg od_,hlen,ob_,TZ,YY om_,ob_,ob_,if_neg os_,AU,ob_,p1 64 om_]; rfl
 have ei : Ks (Qq 6 L) L[a] (a : Int) (z : Int) pr = some true:=by
  unfold Ks
  have hsh:=p3 64 om_
  rw [hL] at hsh
  rw [TZ,ob_,if_neg os_,TZ,YY om_,ob_,ob_,if_neg os_,AU,ob_,hsh]
  simp
 refine X2 e7 (X2 er (X2 ep (ju ?_ ?_)))
 ·rw [if_neg (by simp),if_neg (by simp),Yx,ge_ hal,ob_,ei]; rfl
 obtain ⟨cs2,e8,hc1,hc2⟩:=Zn2 hp h5 d hd
 have hLb : BG cs2 d.length = true:=by
  unfold BG
  simp only [Bool.and_eq_true,decide_eq_true_eq,List.all_eq_true,beq_iff_eq]
  exact ⟨by omega,hc2⟩
 have hf : Yl ((285 : Nat) : Int) = true:=by decide +kernel
 have hg : HF [3,1,4,5] = true:=by decide
 have hg2 : HF [1,4,5] = true:=by decide
 have es : zK 285 d cs2 [3,1,4,5] = (([3,1,4,5] : List UInt8).map (Q1 285 d cs2),0):=by
  unfold zK
  have hf' : Yl 285 = true:=hf
  rw [hf',hg,if_neg (by decide),if_neg (by simp [hLb]; omega),if_neg (by decide)]; rfl
 have ev:=qD 285 d cs2 [3,1,4,5] om_ (by simp)
 rw [es] at ev
 refine X2 e8 (X2 ev (ju (by simp) ?_))
 have hsl : slc (([3,1,4,5] : List UInt8).map (Q1 285 d cs2)) (1 : Int) ((([3,1,4,5] : List UInt8).map (Q1 285 d cs2)).length : Int) = some (([1,4,5] : List UInt8).map (Q1 285 d cs2)):=by
  have:=Zsf (l:=([3,1,4,5] : List UInt8).map (Q1 285 d cs2)) (i:=1) (by simp)
  exact this
 have hrec:=Zh0 (m:=285) om_ om_ hf hd hLb (ps:=[1,4,5]) (by simp) hg2
 rw [if_neg os_,hc1] at hrec
 have ev2:=yH 285 (([1,4,5] : List UInt8).map (Q1 285 d cs2)) 3 (by simp)
 have hrec' : Qf 285 (([1,4,5] : List UInt8).map (Q1 285 d cs2)) 3 = (d,0):=hrec
 rw [hrec'] at ev2
 refine X2 hsl (X2 ev2 (ju ?_ ?_))
 ·rw [if_neg (by simp),Bz]; rfl
 have hlg : AX [108,97,98,101,108] d = false:=by
  unfold AX
  simp only [Bool.or_eq_false_iff,decide_eq_false_iff_not]
  exact ⟨by simp,by omega⟩
 by_cases hks : key = start
 ·have es0 : ∃ v c,Zd7 (Yb key) [108,97,98,101,108] d start = (v,c,0):=by
   have nk : VOk (Yb key):=⟨by simp [Yb],by simp [Yb],λr hr=>(by cases hr),λe he=>(by cases he)⟩
   exact ⟨_,_,Zk1 nk.is hlg (by unfold zg Yb; simp) (by unfold Zdn Yb; simp)⟩
  obtain ⟨v,c,es0⟩:=es0
  have eseal:=AC (Yb key) (Zpv key).ln [108,97,98,101,108] d start
  rw [es0] at eseal
  refine X2 (Ax key) (X2 eseal ?_)
  rw [if_neg (by simp),if_pos (by simpa using hks)]
 obtain ⟨s,w,x,q1,q2,q3,q4,q5,q6,q7,q8⟩:=Zma key start hks [108,97,98,101,108] d hlg
 have eseal:=AC (Yb key) (Zpv key).ln [108,97,98,101,108] d start
 rw [q1] at eseal
 have erot:=kw s (Zkn q6) start
 rw [q2] at erot
 have ean:=qv w (Zkn q7) 1 key
 rw [q3] at ean
 have eop:=yO x (Zkn q8) 1
 rw [q4] at eop
 have efa:=qM x (Zkn q8)
 rw [q5] at efa
 refine X2 (Ax key) (X2 eseal ?_)
 rw [if_neg (by simp),if_neg (by simpa using hks)]
 refine X2 erot (X2 ean (X2 eop (X2 efa ?_)))
 simp [Bz]
end Go.Proofs.YtfhhlkkhcoaapaaGreat
