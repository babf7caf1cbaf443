/- The walk library: what this claim needs of it. -/
import Derived.Test.YtkajmkegelcfjaaK1
set_option linter.unusedVariables false
set_option linter.unusedSimpArgs false
set_option linter.unusedSectionVars false
namespace Go.Proofs.Ytkajmkegelcfjaa
open Go
section
variable {n : Nat} {a : Act} {e : List (Nat × Value)} {w w' : World} {P : Program} {ops : Array Oper} {rest : List Oper} {Q : Exit → Act → World → Prop}
variable {d : Nat} {ty t : TypeId} {pos : String} {af : Array Edge} {g : Option (Nat × Bool)} {p q : Operand}
end
section
variable {St : Nat → Prop} {w0 w : World} {its m r : List Item} {mk mk1 mk2 : Mk} {D : Nat → Bool} {u : Nat → Value} {s : Nat} {v : Value} {A B : Item}
theorem tg1 {b : Bool} (h : b = true) : tog b A B = B:=by subst h; rfl
theorem tg0 {b : Bool} (h : b = false) : tog b A B = A:=by subst h; rfl
theorem updK {i j : Nat} (h : D j = true) : VR D i j = true:=by unfold VR; by_cases e : j = i <;> simp [e,h]
theorem updS {i : Nat} : VR D i i = true:=by simp [VR]
theorem updN {i j : Nat} (h : D j = false) (hne : j ≠ i) : VR D i j = false:=by unfold VR; rw [if_neg hne]; exact h
theorem M.tailP (h : M St w0 w (m ++ r)) : M St w0 w (m ++ [allI St r]):=by
 obtain ⟨h1,h2,fp,h3,h4,h5⟩:=h
 obtain ⟨f,g,rfl,k1,k2⟩:=Xi.split h3
 exact ⟨h1,h2,_,Xi.append k1 (Xi.one zm k2),h4,h5⟩
theorem M.tailU (h : M St w0 w (m ++ [allI St r])) : M St w0 w (m ++ r):=by
 obtain ⟨h1,h2,fp,h3,h4,h5⟩:=h
 obtain ⟨f,g,rfl,k1,g1,g2,rfl,_,k2,e⟩:=Xi.split h3
 cases e
 rw [List.append_nil] at h4 h5
 exact ⟨h1,h2,_,Xi.append k1 k2,h4,h5⟩
theorem M.qS {p : List Nat × (List Bool → List Value → Item)} (h : M St w0 w ((A :: its) ++ qL mk (fun _=>false) u)) (e : ∀ us,p.2 (p.1.map fun _=>false) us = A) : M St w0 w (its ++ qL (p :: mk) (fun _=>false) u):=by
 have h' : M St w0 w (A :: (its ++ qL mk (fun _=>false) u)):=h
 rw [← e (p.1.map u)] at h'
 exact M.push h'
theorem M.qTogS {p : List Nat × (List Bool → List Value → Item)} (h : M St w0 w (B :: (its ++ (qL mk1 D u ++ qL mk2 D u)))) (hi : ((mk1 ++ mk2).all fun p=>p.1.all fun k=>k != s) = true)
  (e : p.2 (p.1.map (VR D s)) (p.1.map (UY u s v)) = B) : M St w0 w (its ++ qL (mk1 ++ p :: mk2) (VR D s) (UY u s v)):=by
 have hne':=noti hi
 rw [zx,JD (fun p hp=>hne' p (List.mem_append_left _ hp)),JD (fun p hp=>hne' p (List.mem_append_right _ hp)),e]
 have h5 : M St w0 w (B :: ((its ++ qL mk1 D u) ++ qL mk2 D u)):=by simpa using h
 simpa using M.push h5
end
section
variable {n : Nat} {a : Act} {e : List (Nat × Value)} {w : World} {P : Program}
theorem A7 {fn : Func} {R : Ending → World → Prop} {r1 r2 r3 r4 : ResultVar} {v1 v2 v3 v4 : Value} (hE : Env n a e) (hres : fn.results = #[r1,r2,r3,r4]) (h1 : VS P w a r1 v1) (h2 : VS P w a r2 v2) (h3 : VS P w a r3 v3) (h4 : VS P w a r4 v4)
  (hR : R (.returned (.tuple [v1,v2,v3,v4].toArray)) w) : bodyPost P fn R .ret a w:=by
 refine bodyPost_ret ?_ hE.df hR
 rw [Tv,hres]
 simp [Vd h1,Vd h2,Vd h3,Vd h4]
end
class CL (l : List (List Value)) (n : outParam Nat) : Prop where
 h : Tf l = n
instance cl_nil : CL [] 0:=⟨rfl⟩
instance cl_one {v : Value} {r : List (List Value)} {m : Nat} [h : CL r m] : CL ([v] :: r) (1 + m):=⟨by rw [Tf,h.h]; rfl⟩
instance cl_enc {α : Type} [Flat α] {x : α} {r : List (List Value)} {m : Nat} [h : CL r m] : CL (Flat.enc x :: r) (Flat.n α + m):=⟨by rw [Tf,h.h,Flat.len]⟩
instance cl_cat {l r : List (List Value)} {n m : Nat} [k : CL l n] [h : CL r m] : CL (cat l :: r) (n + m):=⟨by rw [Tf,h.h,Aq k.h]⟩
theorem Bm : ∀ a b : List (List Value),Tf (a ++ b) = Tf a + Tf b
 | [],b=>by simp [Tf]
 | c :: a,b=>by rw [List.cons_append,Tf,Tf,Bm a b,Nat.add_assoc]
instance cl_app {a b : List (List Value)} {n m : Nat} [h : CL a n] [k : CL b m] : CL (a ++ b) (n + m):=⟨by rw [Bm,h.h,k.h]⟩
theorem ck {l : List (List Value)} {n : Nat} [h : CL l n] : Tf l = n:=h.h
theorem cq {l : List (List Value)} {n : Nat} [h : CL l n] : (cat l).length = n:=Aq h.h
theorem M.rawAt0 {St : Nat → Prop} {w0 w : World} {b : Nat} {cs : List Value} {r : List Item} (h : M St w0 w (raw b cs :: r)) : At w b 0 cs:=M.rawAt (pre:=[]) h
theorem M.pull1 {St : Nat → Prop} {w0 w : World} {it : Item} {r : List Item} {a0 : Item} (h : M St w0 w (a0 :: it :: r)) : M St w0 w (it :: a0 :: r):=M.pull (pre:=[a0]) h
theorem M.rawAt1 {St : Nat → Prop} {w0 w : World} {b : Nat} {cs : List Value} {r : List Item} {a0 : Item} (h : M St w0 w (a0 :: raw b cs :: r)) : At w b 0 cs:=M.rawAt (pre:=[a0]) h
theorem M.pull2 {St : Nat → Prop} {w0 w : World} {it : Item} {r : List Item} {a0 a1 : Item} (h : M St w0 w (a0 :: a1 :: it :: r)) : M St w0 w (it :: a0 :: a1 :: r):=M.pull (pre:=[a0,a1]) h
theorem M.rawAt2 {St : Nat → Prop} {w0 w : World} {b : Nat} {cs : List Value} {r : List Item} {a0 a1 : Item} (h : M St w0 w (a0 :: a1 :: raw b cs :: r)) : At w b 0 cs:=M.rawAt (pre:=[a0,a1]) h
theorem M.pull3 {St : Nat → Prop} {w0 w : World} {it : Item} {r : List Item} {a0 a1 a2 : Item} (h : M St w0 w (a0 :: a1 :: a2 :: it :: r)) : M St w0 w (it :: a0 :: a1 :: a2 :: r):=M.pull (pre:=[a0,a1,a2]) h
theorem M.pull4 {St : Nat → Prop} {w0 w : World} {it : Item} {r : List Item} {a0 a1 a2 a3 : Item} (h : M St w0 w (a0 :: a1 :: a2 :: a3 :: it :: r)) : M St w0 w (it :: a0 :: a1 :: a2 :: a3 :: r):=M.pull (pre:=[a0,a1,a2,a3]) h
theorem M.pull5 {St : Nat → Prop} {w0 w : World} {it : Item} {r : List Item} {a0 a1 a2 a3 a4 : Item} (h : M St w0 w (a0 :: a1 :: a2 :: a3 :: a4 :: it :: r)) : M St w0 w (it :: a0 :: a1 :: a2 :: a3 :: a4 :: r):=M.pull (pre:=[a0,a1,a2,a3,a4]) h
theorem M.pull6 {St : Nat → Prop} {w0 w : World} {it : Item} {r : List Item} {a0 a1 a2 a3 a4 a5 : Item} (h : M St w0 w (a0 :: a1 :: a2 :: a3 :: a4 :: a5 :: it :: r)) : M St w0 w (it :: a0 :: a1 :: a2 :: a3 :: a4 :: a5 :: r):=M.pull (pre:=[a0,a1,a2,a3,a4,a5]) h
abbrev Rt (w0 : World) (x : Value) : Ending → World → Prop:=fun en w'=>∃ v,en = .returned v ∧ (v = x ∧ Kept (Old w0) w0 w')
theorem kr1 {n : Nat} {a : Act} {e : List (Nat × Value)} {w w0 : World} {P : Program} {fn : Func} {t : Nat} {v : Value} (hE : Env n a e) (hres : fn.results = #[.tmp t]) (h : e.lookup t = some v) (hk : Kept (Old w0) w0 w) : bodyPost P fn (Rt w0 v) .ret a w :=
 Y7 hE hres (Zq hE h) ⟨_,rfl,rfl,hk⟩
theorem cbm {P : Program} {f : Nat} {fn : Func} {c : Code} (h : P.funcs[f]? = some fn) (h2 : (fn.name == "runtime.NumGoroutine") = false := by decide) (h3 : fn.body = some c := by rfl) : Callable P f := ⟨_, _, h, h2, h3⟩
theorem ce {n : Nat} {e : List (Nat × Value)} {P : Program} {w : World} {f : Nat} {fn : Func} {c : Code} {vs : List Value} {R : Ending → World → Prop} (hf : P.funcs[f]? = some fn) (k : ∀ a,Env n a e → c.wp P (bodyPost P fn R) a w)
  (hb : fn.body = some c:=by rfl) (hn : fn.ntmps = n:=by rfl) (hl : vs.length ≤ n:=by exact nbl rfl) (he : Kd 0 vs = e:=by rfl) : Calls P f vs.toArray w R:=z4 hf hb hn hl he k
section
variable {n : Nat} {a : Act} {e : List (Nat × Value)} {w w' : World} {P : Program} {ops : Array Oper} {rest : List Oper} {Q : Exit → Act → World → Prop} {d : Nat} {ty ty' : TypeId} {pos : String} {af : Array Edge} {g : Option (Nat × Bool)} {x y z : Operand} {v : Value}
theorem Zd  (h : Env n a e) (hx : opv e x = some v) (k : ∀ a,Env n a ((d,v) :: e) → wpList P ops Q rest a w) (hd : d < n:=by decide) : wpList P ops Q (⟨some d,.move x,ty,pos,af,none⟩ :: rest) a w :=
 Zh h Za hd hx k
theorem Zb  (h : Env n a e) (hx : opv e x = some v) (k : ∀ a,Env n a ((d,v) :: e) → wpList P ops Q rest a w) (hd : d < n:=by decide) : wpList P ops Q (⟨some d,.assign x,ty,pos,af,none⟩ :: rest) a w :=
 QI h Za hd hx k
theorem ZC  (h : Env n a e) (hx : opv e x = some (vT true)) (hy : opv e y = some v) (k : ∀ a,Env n a ((d,v) :: e) → wpList P ops Q rest a w) (hd : d < n:=by decide) : wpList P ops Q (⟨some d,.pick x y z,ty,pos,af,none⟩ :: rest) a w :=
 Qb h Za hd hx hy k
theorem ZL  (h : Env n a e) (hx : opv e x = some (vT false)) (hz : opv e z = some v) (k : ∀ a,Env n a ((d,v) :: e) → wpList P ops Q rest a w) (hd : d < n:=by decide) : wpList P ops Q (⟨some d,.pick x y z,ty,pos,af,none⟩ :: rest) a w :=
 UR h Za hd hx hz k
theorem Zk {op : BinOp} {t2 : TypeId} {K : IntKind} {p q : Int} (h : Env n a e) (hx : opv e x = some (.int K p)) (hy : opv e y = some (.int K q)) (hv : Qe op K p q = some v) (k : ∀ a,Env n a ((d,v) :: e) → wpList P ops Q rest a w) (hd : d < n:=by decide) : wpList P ops Q (⟨some d,.binOp op ty' x y t2,ty,pos,af,none⟩ :: rest) a w :=
 Z2 h Za hd hx hy hv k
theorem VW {p : Bool} (h : Env n a e) (hx : opv e x = some (vT p)) (k : ∀ a,Env n a ((d,vT (!p)) :: e) → wpList P ops Q rest a w) (hd : d < n:=by decide) : wpList P ops Q (⟨some d,.unOp .not ty' x,ty,pos,af,none⟩ :: rest) a w :=
 V7 h Za hd hx k
end
section
variable {n : Nat} {a : Act} {e : List (Nat × Value)} {w w' : World} {P : Program} {ops : Array Oper} {rest : List Oper} {Q : Exit → Act → World → Prop} {d : Nat} {ty t : TypeId} {pos : String} {af : Array Edge} {g : Option (Nat × Bool)} {x y : Operand} {v : Value} {St : Nat → Prop} {w0 : World} {its : List Item}
theorem Ug {D : TypeDesc} {sz by_ : Nat} {z : List Value} (h : Env n a e) (hM : M St w0 w its) (ht : Ty P t D sz by_ z) (k : ∀ b w a,M St w0 w (raw b z :: its) → Env n a ((d,ptr b 0) :: e) → wpList P ops Q rest a w) (hd : d < n:=by decide) : wpList P ops Q (⟨some d,.alloc t,ty,pos,af,none⟩ :: rest) a w :=
 zQ h hM Za hd ht k
theorem ZM {D : TypeDesc} {sz by_ : Nat} {z : List Value} {b o : Nat} (h : Env n a e) (hx : opv e x = some (ptr b o)) (ht : Ty P t D sz by_ z) (hD : Kv D = false) (hA : At w b o [v]) (k : ∀ a,Env n a ((d,v) :: e) → wpList P ops Q rest a w) (hd : d < n:=by decide) : wpList P ops Q (⟨some d,.load t x,ty,pos,af,none⟩ :: rest) a w :=
 ZK h Za hd hx ht hD hA k
theorem Ue {D : TypeDesc} {sz by_ : Nat} {z : List Value} {b o : Nat} {cs : List Value} (h : Env n a e) (hx : opv e x = some (ptr b o)) (ht : Ty P t D sz by_ z) (hD : Kv D = true) (hA : At w b o cs) (hl : cs.length = sz) (k : ∀ a,Env n a ((d,.agg cs.toArray) :: e) → wpList P ops Q rest a w) (hd : d < n:=by decide) : wpList P ops Q (⟨some d,.load t x,ty,pos,af,none⟩ :: rest) a w :=
 zK h Za hd hx ht hD hA hl k
theorem ZA {f off b o : Nat} (h : Env n a e) (hx : opv e x = some (ptr b o)) (hf : Fd P t f off) (k : ∀ a,Env n a ((d,ptr b (o + off)) :: e) → wpList P ops Q rest a w) (hd : d < n:=by decide) : wpList P ops Q (⟨some d,.fieldAddr t x f,ty,pos,af,none⟩ :: rest) a w :=
 Zv h Za hd hx hf k
theorem ZD {α : Type} [Rep α] {S : Nat → Prop} {l : List α} {fp : List Nat} {el sz by_ : Nat} {z : List Value} {D : TypeDesc} {K : IntKind} {i : Int} (h : Env n a e) (hx : opv e x = some v) (hy : opv e y = some (.int K i)) (ht : P.underlying t = some (.slice el)) (he : Ty P el D sz by_ z) (hs : Rep.sat S w l [v] fp) (hi : 0 ≤ i ∧ i < l.length) (k : ∀ a,Env n a ((d,ptr (sb v) (so v + i.toNat * sz)) :: e) → wpList P ops Q rest a w) (hd : d < n:=by decide) : wpList P ops Q (⟨some d,.indexAddr t x y,ty,pos,af,none⟩ :: rest) a w :=
 ZG h Za hd hx hy ht he hs hi k
theorem ZQ {α : Type} [Rep α] {S : Nat → Prop} {l : List α} {fp : List Nat} {el : TypeId} (h : Env n a e) (hx : opv e x = some v) (ht : P.underlying t = some (.slice el)) (hs : Rep.sat S w l [v] fp) (k : ∀ a,Env n a ((d,vI l.length) :: e) → wpList P ops Q rest a w) (hd : d < n:=by decide) : wpList P ops Q (⟨some d,.call ⟨.builtin .len,[x].toArray,[t].toArray⟩,ty,pos,af,none⟩ :: rest) a w :=
 VU h Za hd hx ht hs k
theorem Zl {f : Nat} {xs : List Operand} {ats : Array TypeId} {vs : List Value} {R : Value → World → Prop} (h : Env n a e) (hxs : TP e xs = some vs) (hf : Callable P f) (hc : Calls P f vs.toArray w fun en w'=>∃ v,en = .returned v ∧ R v w') (k : ∀ v w' a,R v w' → Env n a ((d,v) :: e) → wpList P ops Q rest a w') (hd : d < n:=by decide) : wpList P ops Q (⟨some d,.call ⟨.value (.func f),xs.toArray,ats⟩,ty,pos,af,none⟩ :: rest) a w :=
 Z1 h Za hd hxs hf hc k
end
end Go.Proofs.Ytkajmkegelcfjaa
namespace Go.Proofs.Ytkajmkegelcfjaa
open Go
section
variable {n : Nat} {a : Act} {e : List (Nat × Value)} {w w' : World} {P : Program} {ops : Array Oper} {rest : List Oper} {Q : Exit → Act → World → Prop}
variable {d : Nat} {ty t : TypeId} {pos : String} {af : Array Edge} {g : Option (Nat × Bool)} {p q : Operand}
theorem s_min {t' : TypeId} {x y : Int} (h : Env n a e) (hw : Goes ops ⟨some d,.call ⟨.builtin .min,[p,q].toArray,[t,t'].toArray⟩,ty,pos,af,g⟩ a) (hd : d < n) (hp : opv e p = some (vI x)) (hq : opv e q = some (vI y))
  (k : ∀ a,Env n a ((d,vI (if y < x then y else x)) :: e) → wpList P ops Q rest a w) : wpList P ops Q (⟨some d,.call ⟨.builtin .min,[p,q].toArray,[t,t'].toArray⟩,ty,pos,af,g⟩ :: rest) a w:=by
 exact XP h hw rfl hd (by
  simp only [execOp,resolve]
  simp [invoke,builtin,Builtin.min_,Builtin.min2,h.ev hp,h.ev hq]) k
end
def mkU (i : Nat) (A : Item) (f : Value → Item) : List Nat × (List Bool → List Value → Item):=([i],fun bs us=>tog (bs.headD false) A (f (us.headD undef)))
def mkW (s k b : Nat) (z : List Value) (f : Value → List Value) : List Nat × (List Bool → List Value → Item):=([s,k],fun bs us=>tog (bs.headD false) (raw b z) (raw b (f (us.getD 1 undef))))
def chn : List (Bool × Item) → Item
 | []=>Go.Proofs.Ytkajmkegelcfjaa.emp
 | (b,x) :: r=>if b = true then x else chn r
def chz : List (Nat × (Value → Item)) → List Bool → List Value → List (Bool × Item)
 | p :: l,b :: bs,v :: us=>(b,p.2 v) :: chz l bs us
 | _,_,_=>[]
def mkN (l : List (Nat × (Value → Item))) : List Nat × (List Bool → List Value → Item):=(l.map (·.1),fun bs us=>chn (chz l bs us))
section
variable {St : Nat → Prop} {w0 w : World} {its pre post : List Item} {mk1 mk2 : Mk} {D : Nat → Bool} {u : Nat → Value} {b : Bool} {A B X : Item} {p : List Nat × (List Bool → List Value → Item)} {r : List (Bool × Item)}
abbrev Off (D : Nat → Bool) (l : List (Nat × (Value → Item))) : Prop:=∀ p ∈ l,D p.1 = false
end
end Go.Proofs.Ytkajmkegelcfjaa
namespace Go.Proofs.Ytkajmkegelcfjaa
open Go
inductive Ent where
 | p0 (v : Value)
 | pl (ds : List Nat) (f : List Value → Value)
 | mk (pr : Value → Prop)
def Ent.g : Ent → List Nat × (List Value → Value → Prop)
 | .p0 x=>([],fun _ v=>v = x)
 | .pl ds f=>(ds,fun us v=>v = f us)
 | .mk pr=>([],fun _ v=>pr v)
def Ent.v (u : Nat → Value) (j : Nat) : Ent → Value
 | .p0 x=>x
 | .pl ds f=>f (ds.map u)
 | .mk _=>u j
def Ent.p (u : Nat → Value) (j t : Nat) : Ent → Nat × Value
 | .p0 x=>(t,x)
 | .pl ds f=>(t,f (ds.map u))
 | .mk _=>(t,u j)
theorem Ent.p_eq {u : Nat → Value} {j t : Nat} : ∀ {x : Ent},x.p u j t = (t,x.v u j)
 | .p0 _=>rfl
 | .pl _ _=>rfl
 | .mk _=>rfl
def K3 (ts : List Nat) (i : Nat) (acc : List Ent) (u : Nat → Value) : List Edge → List (Nat × Value)
 | []=>[]
 | e :: r=>cond (Region.binds .any e && decide (e.on < i)) (match ts[e.on]?,acc[i - 1 - e.on]? with
   | some t,some x=>x.p u e.on t :: K3 ts i acc u r
   | _,_=>K3 ts i acc u r) (K3 ts i acc u r)
def Jz (ts : List Nat) (u : Nat → Value) : List Ent → Nat → List (Nat × Value)
 | x :: F,i + 1=>(match ts[i]? with | some t=>x.p u i t | none=>(0,undef)) :: Jz ts u F i
 | _,_=>[]
theorem Bz {ts : List Nat} {i : Nat} {acc : List Ent} {u : Nat → Value} : ∀ {es : List Edge} {p : Nat × Value},p ∈ K3 ts i acc u es → ∃ e ∈ es,Region.binds .any e = true ∧ e.on < i ∧ ∃ x,ts[e.on]? = some p.1 ∧ acc[i - 1 - e.on]? = some x ∧ p.2 = x.v u e.on
 | [],p,h=>by cases h
 | e :: r,p,h=>by
  have tl : p ∈ K3 ts i acc u r → ∃ e' ∈ e :: r,Region.binds .any e' = true ∧ e'.on < i ∧ ∃ x,ts[e'.on]? = some p.1 ∧ acc[i - 1 - e'.on]? = some x ∧ p.2 = x.v u e'.on:=fun h=>by
   obtain ⟨e',h1,h2⟩:=Bz h
   exact ⟨e',by simp [h1],h2⟩
  unfold K3 at h
  cases hb : (Region.binds .any e && decide (e.on < i))
  ·rw [hb] at h; exact tl h
  ·rw [hb] at h
   simp only [cond_true] at h
   simp only [Bool.and_eq_true,decide_eq_true_eq] at hb
   split at h
   ·rename_i t x h1 h2
    rcases List.mem_cons.1 h with rfl | h
    ·rw [Ent.p_eq]
     exact ⟨e,by simp,hb.1,hb.2,x,h1,h2,rfl⟩
    ·exact tl h
   ·exact tl h
theorem JL {l : List (Nat × Value)} {s : Nat} {x : Value} (h : l.lookup s = some x) : (s,x) ∈ l:=by
 induction l with
 | nil=>cases h
 | cons p l ih =>
  obtain ⟨t,v⟩:=p
  rw [List.lookup_cons] at h
  by_cases hst : s = t
  ·subst hst; simp at h; subst h; simp
  ·rw [show (s == t) = false by simpa using hst] at h
   exact List.mem_cons_of_mem _ (ih h)
theorem Ql {X Y : List (Nat × Value)} {s : Nat} : (X ++ Y).lookup s = match X.lookup s with | some x=>some x | none=>Y.lookup s:=by
 induction X with
 | nil=>rfl
 | cons p X ih =>
  obtain ⟨t,v⟩:=p
  rw [List.cons_append,List.lookup_cons,List.lookup_cons]
  cases (s == t)
  ·exact ih
  ·rfl
theorem Env.pre {n : Nat} {a : Act} {X Y : List (Nat × Value)} (h : Env n a Y) (hX : ∀ p ∈ X,Y.lookup p.1 = some p.2) : Env n a (X ++ Y):=by
 refine ⟨h.sz,h.df,fun s v hs=>?_⟩
 rw [Ql] at hs
 cases hx : X.lookup s with
 | none=>rw [hx] at hs; exact h.get s v hs
 | some x =>
  rw [hx] at hs
  cases hs
  exact h.get s v (hX _ (JL hx))
theorem Env.unpre {n : Nat} {a : Act} {X Y : List (Nat × Value)} {t : Nat} {v : Value} (h : Env n a ((t,v) :: (X ++ Y))) (hX : ∀ p ∈ X,Y.lookup p.1 = some p.2) : Env n a ((t,v) :: Y):=by
 refine ⟨h.sz,h.df,fun s x hs=>h.get s x ?_⟩
 rw [List.lookup_cons] at hs ⊢
 cases hst : (s == t)
 ·rw [hst] at hs
  simp only at hs ⊢
  rw [Ql]
  cases hx : X.lookup s with
  | none=>exact hs
  | some y =>
   have:=hX _ (JL hx)
   simp only at this
   rw [this] at hs
   exact hs
 ·rw [hst] at hs; exact hs
theorem Q4 {P : Program} {ops : Array Oper} {o : Oper} {X Y : Act → World → Prop} {a : Act} {w : World} (h : wpList P ops (nrm X) [o] a w) (hXY : ∀ a w,X a w → Y a w) : wpList P ops (nrm Y) [o] a w:=by
 unfold wpList at h ⊢
 split
 ·rename_i hw
  rw [if_pos hw] at h
  rcases h with h | ⟨_,a',w',h⟩
  ·exact .inl (Oper.wp_mono2 (fun _ _ h=>hXY _ _ h) (fun _ _ _ h=>h.elim) (fun ⟨_,_,h⟩=>h.elim) h)
  ·exact h.elim
 ·rename_i hw
  rw [if_neg hw] at h
  exact hXY _ _ h
structure QC (n : Nat) (ts : List Nat) (e0 : List (Nat × Value)) (St : Nat → Prop) (w0 : World) (its : List Item) (mk : Mk) (hd : List Oper) (i : Nat) (acc : List Ent) (o : Oper) (a : Act) (w : World) (u : Nat → Value) (D : Nat → Bool) : Prop where
 E : Env n a (K3 ts i acc u o.after.toList ++ Uw ts 0 u e0)
 M : M St w0 w (its ++ qL mk D u)
 G : GOk (acc.reverse.map Ent.g) D u
 F : D i = false
 c : ∀ (j : Nat) (p : Oper) (e : Edge),hd[j]? = some p → e ∈ p.after.toList → Region.binds .any e = true → D j = true → D e.on = true
 p : ∀ (k : Nat) (e : Edge),o.after.toList[k]? = some e → Region.binds .any e = true → D e.on = true
section
variable (P : Program) (ops : Array Oper) (n : Nat) (ts : List Nat) (e0 : List (Nat × Value)) (St : Nat → Prop) (w0 : World) (its : List Item) (mk : Mk) (hd : List Oper)
def QOk (i : Nat) (acc : List Ent) (o : Oper) (x : Ent) : Prop :=
 ∀ a w (u : Nat → Value) (D : Nat → Bool),QC n ts e0 St w0 its mk hd i acc o a w u D → wpList P ops (nrm fun a' w'=>∃ v t,ts[i]? = some t ∧ Env n a' ((t,v) :: (K3 ts i acc u o.after.toList ++ Uw ts 0 u e0)) ∧
  ((∀ k ∈ x.g.1,D k = true) ∧ x.g.2 (x.g.1.map u) v) ∧ M St w0 w' (its ++ qL mk (VR D i) (UY u i v))) [o] a w
def QS : Nat → List Oper → List Ent → List Ent → Prop
 | _,[],acc,F=>F = acc
 | i,o :: r,acc,F=>∃ x,QOk P ops n ts e0 St w0 its mk hd i acc o x ∧ QS (i + 1) r (x :: acc) F
end
section
variable {P : Program} {ops : Array Oper} {n : Nat} {ts : List Nat} {e0 : List (Nat × Value)} {St : Nat → Prop} {w0 : World} {its : List Item} {mk : Mk} {hd : List Oper} {i : Nat} {acc F : List Ent} {o : Oper} {r : List Oper}
theorem QS.pre : ∀ {r : List Oper} {i : Nat} {acc F : List Ent},acc.length = i → QS P ops n ts e0 St w0 its mk hd i r acc F → F.length = i + r.length ∧ F.drop r.length = acc ∧ ∀ k o,r[k]? = some o → ∃ x,F.reverse[i + k]? = some x ∧ ∃ A,A.reverse = F.reverse.take (i + k) ∧ A.length = i + k ∧ QOk P ops n ts e0 St w0 its mk hd (i + k) A o x
 | [],i,acc,F,hi,h=>by
  obtain rfl : F = acc:=h
  exact ⟨by simpa using hi,by simp,fun i o h=>by simp at h⟩
 | p :: r,i,acc,F,hi,⟨x,h1,h2⟩=>by
  obtain ⟨k1,k2,k3⟩:=QS.pre (by simp [hi]) h2
  have hrev : F.reverse.take (i + 1) = acc.reverse ++ [x]:=by
   have : F.reverse = (F.drop r.length).reverse ++ (F.take r.length).reverse:=by rw [← List.reverse_append,List.take_append_drop]
   rw [this,k2,List.reverse_cons,List.take_append_of_le_length (by simp [hi])]
   rw [List.take_of_length_le (by simp [hi])]
  refine ⟨by simp only [List.length_cons]; omega,?_,fun k o hk=>?_⟩
  ·have:=congrArg (List.drop 1) k2
   rw [List.drop_drop] at this
   simpa [Nat.add_comm] using this
  ·cases k with
   | zero =>
    simp at hk; subst hk
    refine ⟨x,?_,acc,?_,by simpa using hi,h1⟩
    ·have h5 : (F.reverse.take (i + 1))[i]? = some x:=by rw [hrev,List.getElem?_append_right (by simp [hi])]; simp [hi]
     rw [List.getElem?_take_of_lt (by omega)] at h5
     simpa using h5
    ·have h6:=congrArg (List.take i) hrev
     rw [List.take_take,Nat.min_eq_left (by omega)] at h6
     rw [Nat.add_zero,h6,List.take_append_of_le_length (by simp [hi])]
     exact (List.take_of_length_le (by simp [hi])).symm
   | succ k =>
    obtain ⟨y,h3,h4⟩:=k3 k o (by simpa using hk)
    have e : i + (k + 1) = i + 1 + k:=by omega
    rw [e]
    exact ⟨y,h3,h4⟩
theorem qs0 : QS P ops n ts e0 St w0 its mk hd i [] acc acc:=rfl
theorem qsP {v : Value} (h : ∀ {a w} {u : Nat → Value} {D : Nat → Bool},QC n ts e0 St w0 its mk hd i acc o a w u D → wpList P ops (nrm fun a' w'=>Kept (Old w) w w' ∧ ∃ t,ts[i]? = some t ∧ Env n a' ((t,v) :: (K3 ts i acc u o.after.toList ++ Uw ts 0 u e0))) [o] a w)
  (k : QS P ops n ts e0 St w0 its mk hd (i + 1) r (.p0 v :: acc) F) (hi : (mk.all fun p=>p.1.all fun k=>k != i) = true:=by rfl) : QS P ops n ts e0 St w0 its mk hd i (o :: r) acc F:=by
 refine ⟨.p0 v,fun a w u D x=>Q4 (h x) ?_,k⟩
 rintro a' w' ⟨hK,t,ht,hE⟩
 exact ⟨v,t,ht,hE,⟨(fun k h=>by cases h),rfl⟩,M.qKeep (x.M.keep hK) hi⟩
theorem qsM {pr : Value → Prop} (h : ∀ {a w} {u : Nat → Value} {D : Nat → Bool},QC n ts e0 St w0 its mk hd i acc o a w u D → wpList P ops (nrm fun a' w'=>∃ v t,ts[i]? = some t ∧ Env n a' ((t,v) :: (K3 ts i acc u o.after.toList ++ Uw ts 0 u e0)) ∧ M St w0 w' (its ++ qL mk (VR D i) (UY u i v)) ∧ pr v) [o] a w)
  (k : QS P ops n ts e0 St w0 its mk hd (i + 1) r (.mk pr :: acc) F) : QS P ops n ts e0 St w0 its mk hd i (o :: r) acc F:=by
 refine ⟨.mk pr,fun a w u D x=>Q4 (h x) ?_,k⟩
 rintro a' w' ⟨v,t,ht,hE,hM,hp⟩
 exact ⟨v,t,ht,hE,⟨(fun k h=>by cases h),hp⟩,hM⟩
theorem qsV {v : Value} (h : ∀ {a w} {u : Nat → Value} {D : Nat → Bool},QC n ts e0 St w0 its mk hd i acc o a w u D → wpList P ops (nrm fun a' w'=>∃ t,ts[i]? = some t ∧ Env n a' ((t,v) :: (K3 ts i acc u o.after.toList ++ Uw ts 0 u e0)) ∧ M St w0 w' (its ++ qL mk (VR D i) (UY u i v))) [o] a w)
  (k : QS P ops n ts e0 St w0 its mk hd (i + 1) r (.p0 v :: acc) F) : QS P ops n ts e0 St w0 its mk hd i (o :: r) acc F:=by
 refine ⟨.p0 v,fun a w u D x=>Q4 (h x) ?_,k⟩
 rintro a' w' ⟨t,ht,hE,hM⟩
 exact ⟨v,t,ht,hE,⟨(fun k h=>by cases h),rfl⟩,hM⟩
theorem Ent.eq {x : Ent} {u : Nat → Value} {j : Nat} (h : x.g.2 (x.g.1.map u) (u j)) : u j = x.v u j:=by
 cases x with
 | p0 v=>exact h
 | pl ds f=>exact h
 | mk pr=>rfl
theorem H7 {u : Nat → Value} {s : Nat} {y : Value} : ∀ {F : List Ent} {m : Nat},m ≤ ts.length → F.length = m → (s,y) ∈ Jz ts u F m → ∃ (i : Nat) (x : Ent),ts[i]? = some s ∧ F.reverse[i]? = some x ∧ y = x.v u i
 | [],m,_,hl,h=>by simp [Jz] at h
 | x :: F,0,_,hl,h=>by simp at hl
 | x :: F,m + 1,hm,hl,h=>by
  rw [Jz] at h
  have ht : ts[m]? = some ts[m]:=List.getElem?_eq_getElem (by omega)
  rw [ht] at h
  have hFl : F.length = m:=by simpa using hl
  rcases List.mem_cons.1 h with h | h
  ·simp only at h
   rw [Ent.p_eq] at h
   cases h
   refine ⟨m,x,ht,?_,rfl⟩
   rw [List.reverse_cons,List.getElem?_append_right (by simp [hFl])]
   simp [hFl]
  ·obtain ⟨i,z,h1,h2,h3⟩:=H7 (by omega) hFl h
   refine ⟨i,z,h1,?_,h3⟩
   have:=(List.getElem?_eq_some_iff.1 h2).1
   rw [List.reverse_cons,List.getElem?_append_left this]
   exact h2
theorem Hr {u : Nat → Value} {s : Nat} : ∀ {F : List Ent} {m : Nat},m ≤ ts.length → F.length = m → (Jz ts u F m).lookup s = none → ∀ i,i < m → ts[i]? ≠ some s
 | [],m,_,hl,_=>fun i hi=>by simp at hl; omega
 | x :: F,0,_,hl,_=>by simp at hl
 | x :: F,m + 1,hm,hl,hn=>fun i hi hs=>by
  rw [Jz] at hn
  have ht : ts[m]? = some ts[m]:=List.getElem?_eq_getElem (by omega)
  rw [ht] at hn
  simp only at hn
  rw [Ent.p_eq,List.lookup_cons] at hn
  by_cases hst : s = ts[m]
  ·rw [show (s == ts[m]) = true by simpa using hst] at hn; cases hn
  ·rw [show (s == ts[m]) = false by simpa using hst] at hn
   by_cases him : i = m
   ·subst him; rw [ht] at hs; exact hst (by simpa using hs.symm)
   ·exact Hr (by omega) (by simpa using hl) hn i (by omega) hs
theorem Env.fin {a : Act} {u : Nat → Value} (h : Env n a (Jz ts u F ts.length ++ Uw ts 0 u e0)) (hl : F.length = ts.length) : Env n a (Jz ts u F ts.length ++ e0):=by
 refine ⟨h.sz,h.df,fun s v hs=>h.get s v ?_⟩
 rw [Ql] at hs ⊢
 cases hx : (Jz ts u F ts.length).lookup s with
 | some x=>rw [hx] at hs; exact hs
 | none =>
  rw [hx] at hs
  simp only at hs ⊢
  rw [JV ts 0 s u e0 (fun hm=>by
   obtain ⟨i,hi⟩:=List.mem_iff_getElem?.1 hm
   exact Hr (Nat.le_refl _) hl hx i (List.getElem?_eq_some_iff.1 hi).1 hi)]
  exact hs
theorem VL {id : Nat} {Q : Exit → Act → World → Prop} {a : Act} {w : World} (ts : List Nat)
  (hm : P.follows .mixedOrders = true) (hE : TZ ops.toList 0 = true) (hT : Al ops.toList ts.length = true) (hn : ts.Nodup) (hlen : Nat.ble ts.length ops.toList.length = true)
  (h0 : Env n a e0) (hM0 : ∀ u,M St w0 w.drew (its ++ qL mk (fun _=>false) u))
  (hS : QS P ops n ts e0 St w0 its mk (ops.toList.take ts.length) 0 (ops.toList.take ts.length) [] F)
  (htail : ∀ a w u D,Env n a (Jz ts u F ts.length ++ e0) → M St w0 w (its ++ qL mk D u) → GOk (F.reverse.map Ent.g) D u → (∀ j,j < ts.length → D j = true) → wpList P ops Q (ops.toList.drop ts.length) a w) :
  (Code.region id ops true).wp P Q a w:=by
 have hops : (ops.toList.take ts.length ++ ops.toList.drop ts.length).toArray = ops:=by rw [List.take_append_drop,Array.toArray_toList]
 have hl : ops.toList.take ts.length ++ ops.toList.drop ts.length = ops.toList:=List.take_append_drop _ _
 obtain ⟨k1,_,k3⟩:=QS.pre (acc:=[]) (i:=0) rfl hS
 simp only [Nat.zero_add] at k1 k3
 have hlen:=Nat.le_of_ble_eq_true hlen
 have hhl : (ops.toList.take ts.length).length = ts.length:=by rw [List.length_take,Nat.min_eq_left hlen]
 have key:=zZ (P:=P) (id:=id) (hd:=ops.toList.take ts.length) (tl:=ops.toList.drop ts.length) (Q:=Q) (a:=a) (w:=w) (n:=n) (e0:=e0) hm (by rw [hl]; exact hE) (by rw [hl,hhl]; exact hT) ts hn
  (fun D u w=>M St w0 w (its ++ qL mk D u) ∧ GOk (F.reverse.map Ent.g) D u) h0 (fun u=>⟨hM0 u,gok0⟩) ?_ ?_
 ·rw [hops] at key; exact key
 ·intro i o hi a w u D hEnv hI hD hdc hp
  rw [hops]
  obtain ⟨x,hx,A,hA,hAl,hok⟩:=k3 i o hi
  have hat : ∀ j,j < i → ∀ y,A[i - 1 - j]? = some y → F.reverse[j]? = some y:=fun j hj y hy=>by
   have h5 : A.reverse[j]? = some y:=by
    rw [List.getElem?_reverse (by omega),hAl]
    rw [← hy]
   rw [hA,List.getElem?_take_of_lt (by omega)] at h5
   exact h5
  have hX : ∀ p ∈ K3 ts i A u o.after.toList,(Uw ts 0 u e0).lookup p.1 = some p.2:=by
   intro p hp'
   obtain ⟨e,he,hb,hei,y,h1,h2,h3⟩:=Bz hp'
   obtain ⟨k,hk⟩:=List.mem_iff_getElem?.1 he
   have hDe:=hp k e hk hb
   have h6:=(hI.2 e.on hDe y.g (by rw [List.getElem?_map,hat e.on hei y h2]; rfl)).2
   rw [Q2 ts 0 e.on p.1 u e0 hn h1,h3,Nat.zero_add,Ent.eq h6]
  refine Q4 (hok a w u D ⟨hEnv.pre hX,hI.1,?_,hD,hdc,hp⟩) ?_
  ·intro j hj g hg
   refine hI.2 j hj g ?_
   rw [List.getElem?_map] at hg ⊢
   rw [hA] at hg
   cases hz : (F.reverse.take i)[j]? with
   | none=>rw [hz] at hg; cases hg
   | some z =>
    have h5:=(List.getElem?_eq_some_iff.1 hz).1
    have h6 : j < i:=by simp at h5; omega
    rw [hz] at hg
    rw [List.getElem?_take_of_lt h6] at hz
    rw [hz]
    exact hg
  ·rintro a' w' ⟨v,t,ht,hE',hg,hM'⟩
   exact ⟨v,t,ht,hE'.unpre hX,hM',hI.2.upd hD fun g hgi=>by
    rw [List.getElem?_map,hx] at hgi
    cases hgi
    exact hg⟩
 ·intro a w u D hEnv hI hall
  rw [hops]
  rw [hhl] at hall
  have hFl : F.length = ts.length:=by rw [k1,hhl]
  refine htail a w u D ((hEnv.pre ?_).fin hFl) hI.1 hI.2 hall
  rintro ⟨s,y⟩ hs
  obtain ⟨i,x,h1,h2,h3⟩:=H7 (Nat.le_refl _) hFl hs
  have hil:=(List.getElem?_eq_some_iff.1 h1).1
  have h6:=(hI.2 i (hall i hil) x.g (by rw [List.getElem?_map,h2]; rfl)).2
  rw [Q2 ts 0 i s u e0 hn h1,h3,Nat.zero_add]
  simp only
  rw [Ent.eq h6]
theorem Y4 {id : Nat} {Q : Exit → Act → World → Prop} {a : Act} {w : World} (ts : List Nat)
  (hm : P.follows .mixedOrders = true) (hE : TZ ops.toList 0 = true) (hT : Al ops.toList ts.length = true) (hn : ts.Nodup) (hlen : Nat.ble ts.length ops.toList.length = true)
  (h0 : Env n a e0) (hM : M St w0 w its)
  (hS : QS P ops n ts e0 St w0 its [] (ops.toList.take ts.length) 0 (ops.toList.take ts.length) [] F)
  (htail : ∀ a w u,Env n a (Jz ts u F ts.length ++ e0) → M St w0 w its → wpList P ops Q (ops.toList.drop ts.length) a w) :
  (Code.region id ops true).wp P Q a w :=
 VL ts hm hE hT hn hlen h0 (fun u=>M.q0 hM.drew u) hS fun a w u D hE hM _ _=>htail a w u hE (by simpa [qL] using hM)
end
theorem offD {hd : List Oper} {D : Nat → Bool} {j k : Nat} {p : Oper} {e : Edge} (c : ∀ (j : Nat) (p : Oper) (e : Edge),hd[j]? = some p → e ∈ p.after.toList → Region.binds .any e = true → D j = true → D e.on = true) (hj : hd[j]? = some p) (he : p.after.toList[k]? = some e) (hb : Region.binds .any e = true) (h : D e.on = false) : D j = false :=
 Bool.eq_false_iff.2 fun hx=>Bool.noConfusion (h.symm.trans (c j p e hj (List.mem_of_getElem? he) hb hx))
section
variable {St : Nat → Prop} {w0 w : World} {its pre post : List Item}
def SatI {α : Type} [Rep α] (it : Item) (l : List α) (u : Value) : Prop:=∀ w fp,it w fp → Rep.sat NoB w l [u] fp
theorem sio {α : Type} [Rep α] {l : List α} {u : Value} : SatI (osl NoB l u) l u:=fun _ _ h=>X2.sat h
theorem siw {α : Type} [Rep α] {l : List α} {u : Value} : SatI (own NoB l [u]) l u:=fun _ _ h=>h
end
theorem kr0 {P : Program} {l : Array Oper} {w : World} {n t : Nat} {e : List (Nat × Value)} {v : Value} {ti : Option Nat} (h1 : ti = some t) :
  ∀ a,Env n a ((t,v) :: e) → wpList P l (nrm fun a' w'=>Kept (Old w) w w' ∧ ∃ t,ti = some t ∧ Env n a' ((t,v) :: e)) [] a w:=fun _ hE=>⟨Kept.refl _ _,_,h1,hE⟩
theorem kc {P : Program} {l : Array Oper} {w : World} {n t : Nat} {e : List (Nat × Value)} {x : Value} {ti : Option Nat} (h1 : ti = some t) :
  ∀ v w' a,(v = x ∧ Kept (Old w) w w') → Env n a ((t,v) :: e) → wpList P l (nrm fun a' w'=>Kept (Old w) w w' ∧ ∃ t,ti = some t ∧ Env n a' ((t,x) :: e)) [] a w':=fun _ _ _ ⟨hv,hK⟩ hE=>⟨hK,_,h1,hv ▸ hE⟩
section
variable {n : Nat} {a : Act} {e : List (Nat × Value)} {w : World} {P : Program} {ops : Array Oper} {rest : List Oper} {Q : Exit → Act → World → Prop} {d : Nat} {ty t : TypeId} {pos : String} {af : Array Edge} {g : Option (Nat × Bool)} {x : Operand}
theorem Tl {src dst : TypeId} {p : UInt8} {D : TypeDesc} (h : Env n a e) (hw : Goes ops ⟨some d,.convert src dst x,ty,pos,af,g⟩ a) (hd : d < n) (hx : opv e x = some (vB p))
  (hs : P.underlying src = some D) (ht : P.underlying dst = some (.int .i64)) (k : ∀ a,Env n a ((d,vI (bI p)) :: e) → wpList P ops Q rest a w) : wpList P ops Q (⟨some d,.convert src dst x,ty,pos,af,g⟩ :: rest) a w :=
 TV h hw hd hx hs ht fun a hE=>by rw [AS] at hE; exact k a hE
theorem AC {src dst : TypeId} {p : UInt8} {D : TypeDesc} (h : Env n a e) (hw : Goes ops ⟨some d,.convert src dst x,ty,pos,af,g⟩ a) (hd : d < n) (hx : opv e x = some (vB p))
  (hs : P.underlying src = some D) (ht : P.underlying dst = some (.int .u64)) (k : ∀ a,Env n a ((d,.int .u64 (bI p)) :: e) → wpList P ops Q rest a w) : wpList P ops Q (⟨some d,.convert src dst x,ty,pos,af,g⟩ :: rest) a w :=
 TV h hw hd hx hs ht fun a hE=>by rw [B5] at hE; exact k a hE
theorem Tj {src dst : TypeId} {J : IntKind} {p : Int} {D : TypeDesc} (h : Env n a e) (hw : Goes ops ⟨some d,.convert src dst x,ty,pos,af,g⟩ a) (hd : d < n) (hx : opv e x = some (.int J p))
  (hs : P.underlying src = some D) (ht : P.underlying dst = some (.int .u8)) (k : ∀ a,Env n a ((d,vB (X1 p)) :: e) → wpList P ops Q rest a w) : wpList P ops Q (⟨some d,.convert src dst x,ty,pos,af,g⟩ :: rest) a w :=
 TV h hw hd hx hs ht fun a hE=>by rw [Hv] at hE; exact k a hE
end
end Go.Proofs.Ytkajmkegelcfjaa
namespace Go.Proofs.Ytkajmkegelcfjaa
open Go
section
variable {α : Type} [Rep α] {S St : Nat → Prop} {w w' w0 : World} {l : List α} {v : Value} {i : Nat} {x : α} {cs : List Value} {its pre post : List Item}
theorem M.holeAt (h : M St w0 w (pre ++ Kp S l i v cs :: post)) : At w (sb v) (so v + i * Rep.n α) cs:=by
 obtain ⟨fp,⟨b,o,cap,c1,c2,f1,f2,rfl,_,_,q1,_,_,_,q2,_,_⟩,_⟩:=h.get
 have:=(At.append.1 (At.append.1 q2).2).1
 rw [q1] at this
 exact this
theorem M.close0 (hM : M St w0 w (own S x cs :: Kp S l i v cs :: its)) (hS : ∀ b,S b → St b) (hi : l[i]? = some x) : M St w0 w (osl S l v :: its):=by
 have h:=hM.close1 hS
 have e : l.set i x = l:=by
  obtain ⟨h1,h2⟩:=List.getElem?_eq_some_iff.1 hi
  subst h2; exact List.set_getElem_self h1
 rwa [e] at h
end
section
variable {n : Nat} {a : Act} {e : List (Nat × Value)} {w w' : World} {P : Program} {ops : Array Oper} {rest : List Oper} {Q : Exit → Act → World → Prop}
variable {d : Nat} {ty t : TypeId} {pos : String} {af : Array Edge} {g : Option (Nat × Bool)} {x y : Operand} {v u : Value}
variable {St : Nat → Prop} {w0 : World} {its pre post : List Item}
theorem QQ {α : Type} [Rep α] {S : Nat → Prop} {l : List α} {el sz by_ j : Nat} {cs z : List Value} {D : TypeDesc} {K : IntKind} {i : Int} (h : Env n a e) (hM : M St w0 w (pre ++ Kp S l j v cs :: post)) (hw : Goes ops ⟨some d,.indexAddr t x y,ty,pos,af,g⟩ a) (hd : d < n)
  (hx : opv e x = some v) (hy : opv e y = some (.int K i)) (ht : P.underlying t = some (.slice el)) (he : Ty P el D sz by_ z) (hi : 0 ≤ i ∧ i < l.length)
  (k : ∀ a,Env n a ((d,ptr (sb v) (so v + i.toNat * sz)) :: e) → wpList P ops Q rest a w) : wpList P ops Q (⟨some d,.indexAddr t x y,ty,pos,af,g⟩ :: rest) a w:=by
 obtain ⟨fp,⟨b,o,cap,c1,c2,f1,f2,hv,_⟩,_⟩:=hM.get
 refine XP h hw rfl hd (v:=ptr (sb v) (so v + i.toNat * sz)) (w':=w) ?_ k
 simp only [execOp,h.ev hx,h.ev hy,hv,sb,so]
 simp [Instr.indexAt,asIntOf,run_underlying ht,hi,WU he,Addr.add_lit]
theorem JW {α : Type} [Rep α] {S : Nat → Prop} {l : List α} {D : TypeDesc} {sz by_ : Nat} {z seg cs cs' : List Value} {i k0 : Nat} (h : Env n a e) (hM : M St w0 w (Kp S l i v cs :: its)) (hS : ∀ b,S b → St b) (hw : Goes ops ⟨none,.store t x y,ty,pos,af,g⟩ a)
  (hx : opv e x = some (ptr (sb v) (so v + i * Rep.n α + k0))) (hy : opv e y = some u) (hu : u.cells.toList = seg) (ht : Ty P t D sz by_ z) (hl : seg.length = sz) (hc : ∀ v ∈ seg,v.oneCell' = true)
  (hfit : k0 + seg.length ≤ cs.length) (hs : Z8 cs k0 seg = cs')
  (k : ∀ w a,M St w0 w (Kp S l i v cs' :: its) → Env n a e → wpList P ops Q rest a w) : wpList P ops Q (⟨none,.store t x y,ty,pos,af,g⟩ :: rest) a w:=by
 subst hs
 have hst:=hM.st'
 have key : ∀ fp,Kp S l i v cs w fp → fp.Nodup → (∀ b ∈ fp,¬ St b ∧ b < w.heap.size) → (storeCells ⟨sb v,so v + i * Rep.n α + k0,none⟩ seg).run P w = .ok () (w.setCells (sb v) (so v + i * Rep.n α + k0) seg) ∧ sb v ∈ fp ∧
   Kp S l i v (Z8 cs k0 seg) (w.setCells (sb v) (so v + i * Rep.n α + k0) seg) fp:=by
  rintro fp ⟨b,o,cap,c1,c2,e1,e2,rfl,hcap,hil,q1,hccl,q2,q4,k2,k3,rfl⟩ hnd hlt
  have hrm:=k3
  obtain ⟨c,T,fz,hheap,hsize,hfz⟩:=k3
  have hsb : sb (.slice (some ⟨b,o,none⟩) l.length cap) = b:=rfl
  have hso : so (.slice (some ⟨b,o,none⟩) l.length cap) = o:=rfl
  rw [hsb,hso]
  have h1 : (i + 1) * Rep.n α ≤ l.length * Rep.n α:=Nat.mul_le_mul_right _ (by omega)
  rw [Nat.add_mul] at h1
  have h2 : l.length * Rep.n α ≤ cap * Rep.n α:=Nat.mul_le_mul_right _ hcap
  have hfit2 : o + i * Rep.n α + k0 + seg.length ≤ c.size:=by omega
  have hst':=Tt (P:=P) (o:=o + i * Rep.n α + k0) (vs:=seg) hheap hfit2 hfz hc
  obtain ⟨n4,n5⟩:=List.nodup_cons.1 hnd
  have hkeep : ∀ k,(k ∈ e1 ∨ k ∈ e2 ∨ S k) → (w.setCells b (o + i * Rep.n α + k0) seg).heap[k]? = w.heap[k]?:=by
   intro k hk
   refine WB _ _ ?_ _ _ _
   rintro rfl
   rcases hk with h | h | h
   ·exact n4 (by simp [h])
   ·exact n4 (by simp [h])
   ·exact (hlt _ (List.mem_cons_self ..)).1 (hS _ h)
  have hlen2 : (Z8 cs k0 seg).length = cs.length:=WV hfit
  have hd2 : (l.drop (i + 1)).length * Rep.n α = c2.length:=q4.len.symm
  rw [List.length_drop] at hd2
  have hc2 : i * Rep.n α + Rep.n α + c2.length = l.length * Rep.n α:=by
   rw [← hd2,← Nat.add_one_mul,← Nat.add_mul]; congr 1; omega
  have hsp : Z8 (c1 ++ (cs ++ c2)) (i * Rep.n α + k0) seg = c1 ++ (Z8 cs k0 seg ++ c2):=Hd (by rw [q1]) (by omega)
  refine ⟨hst',List.mem_cons_self ..,b,o,cap,c1,c2,e1,e2,rfl,hcap,hil,q1,by rw [hlen2]; exact hccl,q2.loc fun k hk=>hkeep k (by rcases hk with h | h; exact .inl h; exact .inr (.inr h)),q4.loc fun k hk=>hkeep k (by rcases hk with h | h; exact .inr (.inl h); exact .inr (.inr h)),?_,hrm.set hheap rfl hfit2,rfl⟩
  rw [← hsp,show o + i * Rep.n α + k0 = o + (i * Rep.n α + k0) by omega]
  refine k2.set hheap ?_ ?_
  ·simp only [List.length_append]; omega
  ·simp only [List.length_append]; omega
 obtain ⟨hk0,hs0,fp,⟨f1,f',rfl,hl1,h1,hr⟩,hnd,hlt⟩:=hM
 obtain ⟨hrun,_,_⟩:=key f1 h1 (List.nodup_append.1 hnd).1 (fun b hb=>hlt b (by simp [hb]))
 have hM : M St w0 w (Kp S l i v cs :: its):=⟨hk0,hs0,f1 ++ f',⟨f1,f',rfl,hl1,h1,hr⟩,hnd,hlt⟩
 refine BX h hw rfl (w':=w.setCells (sb v) (so v + i * Rep.n α + k0) seg) ?_ fun a ha=>k _ _ ?_ ha
 ·simp only [execOp,h.ev hx,h.ev hy]
  have hsz : u.cells.size = sz:=by rw [← hl,← hu]; simp
  simp [Instr.storeAt,Instr.sureAddr,storeVar,WU ht,hsz,hu,hrun]
 ·refine M.turn (new:=[Kp S l i v (Z8 cs k0 seg)]) hM (ZV _ _ _ _).1 (ZV _ _ _ _).2.1 (ZV _ _ _ _).2.2 (by rw [VF]; exact Nat.le_refl _) ?_
  rintro fp j1 hlt hnd
  obtain ⟨_,hin,hO⟩:=key fp j1 hnd hlt
  refine ⟨fun b hb _=>WB _ _ (fun h=>hb (by rw [h]; exact hin)) _ _ _,fp,⟨fp,[],by simp,H2 hS,hO,rfl⟩,hnd,fun b hb=>.inl hb⟩
end
end Go.Proofs.Ytkajmkegelcfjaa
